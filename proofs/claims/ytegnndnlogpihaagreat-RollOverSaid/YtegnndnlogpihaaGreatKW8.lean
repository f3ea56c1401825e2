/-
  Facts that the proof is made of (W8).
-/
import Derived.Test.YtegnndnlogpihaaGreatKW6
/-
  The law RollOver, walked.
-/
namespace Go.Sl
open Go.Proofs
set_option linter.unusedVariables false
set_option linter.unusedSimpArgs false
set_option maxRecDepth 10000
set_option synthInstance.maxSize 2000
set_option synthInstance.maxHeartbeats 200000
set_option maxHeartbeats 1000000
theorem FirstB.eq {S : List Int} {i j : Nat} (a : FirstB S i) (b : FirstB S j) : i = j := by
  rcases Nat.lt_trichotomy i j with h | h | h
  · exact absurd (b.2.2 i h) a.2.1
  · exact h
  · exact absurd (a.2.2 j h) b.2.1
section
variable {h : PHeap} {dv mv : Value} {le sc : Int} {ds : List Dm} {ms : List ByteArray}
theorem walk_RollOver {L : List HP} {aa : Option Addr} {ac : Nat} {acts : List Ac} [hd : IsDims h dv ds] [hm : FSl h mv encS 1 ms] [hac : FSl h (.slice aa acts.length ac) encAc 2 acts] (hdl : ds.length ≤ 9223372036854775807) (hal : acts.length ≤ 9223372036854775807) (ha64 : OkAcs acts) :
    Spec Tryz.prog 4 [.agg [dv, mv, vI le, vI sc].toArray, .slice aa acts.length ac] h L (fun K => ∀ h', Hle h h' → K (.bool true) h' L) := by
  obtain ⟨C, hC⟩ : ∃ C : Cat, C = ⟨ds.map Dm.pure, ms, le, sc⟩ := ⟨_, rfl⟩
  refine spec_enter Tryz.func4 rfl Tryz.ntmps4 Tryz.results4 (by simp) fun K R hT => ?_
  repeat (first | refine Step.imp ?_ | refine Side.mk (by first | exact True.intro | omega | exact ⟨trivial, rfl⟩ | exact ⟨by omega, trivial, rfl⟩ | exact ⟨by omega, rfl⟩ | exact ⟨by omega, by omega, rfl⟩ | (simp only [List.length_cons, List.length_nil, List.length_append]; done) | (simp only [List.length_cons, List.length_nil, List.length_append]; omega) | decide +kernel) ?_ | refine GDraw_one (by decide +kernel) ?_ | refine New.mk fun _ => ?_ | refine NewS.mk fun _ _ => ?_)
  rw [← hC]
  refine ⟨fun hno h1 le1 => ?_, fun ok h1 sb b rb qb le1 => ?_⟩
  · repeat (first | refine Step.imp ?_ | refine Side.mk (by first | exact True.intro | omega | exact ⟨trivial, rfl⟩ | exact ⟨by omega, trivial, rfl⟩ | exact ⟨by omega, rfl⟩ | exact ⟨by omega, by omega, rfl⟩ | (simp only [List.length_cons, List.length_nil, List.length_append]; done) | (simp only [List.length_cons, List.length_nil, List.length_append]; omega) | decide +kernel) ?_ | refine GDraw_one (by decide +kernel) ?_ | refine New.mk fun _ => ?_ | refine NewS.mk fun _ _ => ?_)
    intro h2 le2
    have hle := le1.le.trans le2.le
    repeat (first | refine Step.imp ?_ | refine Side.mk (by first | exact True.intro | omega | exact ⟨trivial, rfl⟩ | exact ⟨by omega, trivial, rfl⟩ | exact ⟨by omega, rfl⟩ | exact ⟨by omega, by omega, rfl⟩ | (simp only [List.length_cons, List.length_nil, List.length_append]; done) | (simp only [List.length_cons, List.length_nil, List.length_append]; omega) | decide +kernel) ?_ | refine GDraw_one (by decide +kernel) ?_ | refine New.mk fun _ => ?_ | refine NewS.mk fun _ _ => ?_)
    exact Fin.val (hT h2 hle) rfl hle
  have hds : ds.length = C.dims.length := by rw [hC]; exact (List.length_map ..).symm
  rw [hds]
  obtain ⟨V0, hV0⟩ : ∃ V, V = List.replicate (leavesF C C.dims.length).toNat (0 : Int) := ⟨_, rfl⟩
  rw [← hV0]
  have hlb := leaves_bound ok.1 C.dims.length (Nat.le_refl _)
  have hlv := ok.1.leaves
  have hV0l : V0.length = (leavesF C C.dims.length).toNat := by rw [hV0]; exact List.length_replicate
  have hV64 : Ok64 V0 := by rw [hV0]; exact ok64_zero _
  haveI hst := stopB Tryz.prog 0
  haveI : LeT h1 h1 := ⟨Hle.refl h1⟩
  repeat (first | refine Step.imp ?_ | refine Side.mk (by first | exact True.intro | omega | exact ⟨trivial, rfl⟩ | exact ⟨by omega, trivial, rfl⟩ | exact ⟨by omega, rfl⟩ | exact ⟨by omega, by omega, rfl⟩ | (simp only [List.length_cons, List.length_nil, List.length_append]; done) | (simp only [List.length_cons, List.length_nil, List.length_append]; omega) | decide +kernel) ?_ | refine GDraw_one (by decide +kernel) ?_ | refine New.mk fun _ => ?_ | refine NewS.mk fun _ _ => ?_)
  refine GO1_rr qb fun ea ec => ?_
  repeat (first | refine Step.imp ?_ | refine Side.mk (by first | exact True.intro | omega | exact ⟨trivial, rfl⟩ | exact ⟨by omega, trivial, rfl⟩ | exact ⟨by omega, rfl⟩ | exact ⟨by omega, by omega, rfl⟩ | (simp only [List.length_cons, List.length_nil, List.length_append]; done) | (simp only [List.length_cons, List.length_nil, List.length_append]; omega) | decide +kernel) ?_ | refine GDraw_one (by decide +kernel) ?_ | refine New.mk fun _ => ?_ | refine NewS.mk fun _ _ => ?_)
  refine Ways.mk (fun hbig => ?_) (fun hsm => ?_)
  · repeat (first | refine Step.imp ?_ | refine Side.mk (by first | exact True.intro | omega | exact ⟨trivial, rfl⟩ | exact ⟨by omega, trivial, rfl⟩ | exact ⟨by omega, rfl⟩ | exact ⟨by omega, by omega, rfl⟩ | (simp only [List.length_cons, List.length_nil, List.length_append]; done) | (simp only [List.length_cons, List.length_nil, List.length_append]; omega) | decide +kernel) ?_ | refine GDraw_one (by decide +kernel) ?_ | refine New.mk fun _ => ?_ | refine NewS.mk fun _ _ => ?_)
    intro h2 le2
    have hle := le1.le.trans le2.le
    repeat (first | refine Step.imp ?_ | refine Side.mk (by first | exact True.intro | omega | exact ⟨trivial, rfl⟩ | exact ⟨by omega, trivial, rfl⟩ | exact ⟨by omega, rfl⟩ | exact ⟨by omega, by omega, rfl⟩ | (simp only [List.length_cons, List.length_nil, List.length_append]; done) | (simp only [List.length_cons, List.length_nil, List.length_append]; omega) | decide +kernel) ?_ | refine GDraw_one (by decide +kernel) ?_ | refine New.mk fun _ => ?_ | refine NewS.mk fun _ _ => ?_)
    exact Fin.val (hT h2 hle) rfl hle
  repeat (first | refine Step.imp ?_ | refine Side.mk (by first | exact True.intro | omega | exact ⟨trivial, rfl⟩ | exact ⟨by omega, trivial, rfl⟩ | exact ⟨by omega, rfl⟩ | exact ⟨by omega, by omega, rfl⟩ | (simp only [List.length_cons, List.length_nil, List.length_append]; done) | (simp only [List.length_cons, List.length_nil, List.length_append]; omega) | decide +kernel) ?_ | refine GDraw_one (by decide +kernel) ?_ | refine New.mk fun _ => ?_ | refine NewS.mk fun _ _ => ?_)
  refine StopB.go ?_
  clear hst
  refine G_rrIn qb ?_
  refine G_mid (σ := Nat × PHeap) (fun s => s.1 ≤ acts.length ∧ Hle h1 s.2) (fun s => [(6, .pointer (some ⟨qb, 0, none⟩)), (5, .pointer (some ⟨b, 0, none⟩))]) (fun s => s.2) (fun s => rsp h1 rb C false :: rrH qb rb (playTo V0 acts s.1) :: rollH s.2 b sb C (playTo V0 acts s.1) :: (L ++ R)) ?_ ?_
  · repeat (first | refine Step.imp ?_ | refine Side.mk (by first | exact True.intro | omega | exact ⟨trivial, rfl⟩ | exact ⟨by omega, trivial, rfl⟩ | exact ⟨by omega, rfl⟩ | exact ⟨by omega, by omega, rfl⟩ | (simp only [List.length_cons, List.length_nil, List.length_append]; done) | (simp only [List.length_cons, List.length_nil, List.length_append]; omega) | decide +kernel) ?_ | refine GDraw_one (by decide +kernel) ?_ | refine New.mk fun _ => ?_ | refine NewS.mk fun _ _ => ?_)
    refine G_loop (σ := Nat × PHeap) (fun s => s.1 ≤ acts.length ∧ s.1 ≤ 60 ∧ Hle h1 s.2) (fun s => acts.length - s.1) (fun s => [(8, vI s.1), (6, .pointer (some ⟨qb, 0, none⟩)), (5, .pointer (some ⟨b, 0, none⟩)), (0 + 1, .slice aa acts.length ac)]) (fun s => s.2)
      (fun s => rsp h1 rb C false :: rrH qb rb (playTo V0 acts s.1) :: rollH s.2 b sb C (playTo V0 acts s.1) :: (L ++ R)) (0, h1) ⟨by omega, by omega, Hle.refl h1⟩ ⟨rfl, rfl, rfl, rfl, trivial⟩ rfl (by show Sub _ (rsp h1 rb C false :: rrH qb rb V0 :: rollH h1 b sb C V0 :: (L ++ R)); infer_instance) ?_
    rintro ⟨k, h2⟩ ⟨hk, hk60, hl1⟩
    simp only at hk hk60 hl1 ⊢
    haveI : LeT h2 h2 := ⟨Hle.refl h2⟩
    haveI : LeT h1 h2 := ⟨hl1⟩
    haveI : FSl h2 (.slice aa acts.length ac) encAc 2 acts := FSl.mono (le1.le.trans hl1) hac
    by_cases hlt : k < acts.length ∧ k < 60
    · have h64 := ha64 k hlt.1
      have hq := playTo_len V0 acts k
      haveI : Known ((k : Int) < acts.length) := ⟨by omega⟩
      haveI : Known ((k : Int) < 60) := ⟨by omega⟩
      repeat (first | refine Step.imp ?_ | refine Side.mk (by first | exact True.intro | omega | exact ⟨trivial, rfl⟩ | exact ⟨by omega, trivial, rfl⟩ | exact ⟨by omega, rfl⟩ | exact ⟨by omega, by omega, rfl⟩ | (simp only [List.length_cons, List.length_nil, List.length_append]; done) | (simp only [List.length_cons, List.length_nil, List.length_append]; omega) | decide +kernel) ?_ | refine GDraw_0 (by decide +kernel) ?_ | refine New.mk fun _ => ?_ | refine NewS.mk fun _ _ => ?_)
      intro h3 le3
      have hl3 := hl1.trans le3.le
      haveI : LeT h1 h3 := ⟨hl3⟩
      refine ⟨fun hno => ?_, fun hin => ?_⟩
      · have hp : playTo V0 acts (k + 1) = playTo V0 acts k := if_neg hno
        repeat (first | refine Step.imp ?_ | refine Side.mk (by first | exact True.intro | omega | exact ⟨trivial, rfl⟩ | exact ⟨by omega, trivial, rfl⟩ | exact ⟨by omega, rfl⟩ | exact ⟨by omega, by omega, rfl⟩ | (simp only [List.length_cons, List.length_nil, List.length_append]; done) | (simp only [List.length_cons, List.length_nil, List.length_append]; omega) | decide +kernel) ?_ | refine GDraw_0 (by decide +kernel) ?_ | refine New.mk fun _ => ?_ | refine NewS.mk fun _ _ => ?_)
        refine ⟨fun _ => ?_, fun hin => absurd hin hno⟩
        repeat (first | refine Step.imp ?_ | refine Side.mk (by first | exact True.intro | omega | exact ⟨trivial, rfl⟩ | exact ⟨by omega, trivial, rfl⟩ | exact ⟨by omega, rfl⟩ | exact ⟨by omega, by omega, rfl⟩ | (simp only [List.length_cons, List.length_nil, List.length_append]; done) | (simp only [List.length_cons, List.length_nil, List.length_append]; omega) | decide +kernel) ?_ | refine GDraw_0 (by decide +kernel) ?_ | refine New.mk fun _ => ?_ | refine NewS.mk fun _ _ => ?_)
        refine X_round (k + 1, h3) ⟨by show k + 1 ≤ _; omega, by show k + 1 ≤ _; omega, hl3⟩ (by show acts.length - (k + 1) < acts.length - k; omega) ⟨rfl, rfl, rfl, rfl, trivial⟩ rfl (by show Sub _ (rsp h1 rb C false :: rrH qb rb (playTo V0 acts (k + 1)) :: rollH h3 b sb C (playTo V0 acts (k + 1)) :: (L ++ R)); rw [hp]; infer_instance)
      · have hp : playTo V0 acts (k + 1) = (playTo V0 acts k).set (acts[k]!).code.toNat (acts[k]!).n := if_pos hin
        have hq2 := playTo_len V0 acts (k + 1)
        rw [← hp]
        repeat (first | refine Step.imp ?_ | refine Side.mk (by first | exact True.intro | omega | exact ⟨trivial, rfl⟩ | exact ⟨by omega, trivial, rfl⟩ | exact ⟨by omega, rfl⟩ | exact ⟨by omega, by omega, rfl⟩ | (simp only [List.length_cons, List.length_nil, List.length_append]; done) | (simp only [List.length_cons, List.length_nil, List.length_append]; omega) | decide +kernel) ?_ | refine GDraw_0 (by decide +kernel) ?_ | refine New.mk fun _ => ?_ | refine NewS.mk fun _ _ => ?_)
        refine ⟨fun hno => absurd hin hno, fun _ => ?_⟩
        rw [← hp]
        repeat (first | refine Step.imp ?_ | refine Side.mk (by first | exact True.intro | omega | exact ⟨trivial, rfl⟩ | exact ⟨by omega, trivial, rfl⟩ | exact ⟨by omega, rfl⟩ | exact ⟨by omega, by omega, rfl⟩ | (simp only [List.length_cons, List.length_nil, List.length_append]; done) | (simp only [List.length_cons, List.length_nil, List.length_append]; omega) | decide +kernel) ?_ | refine GDraw_0 (by decide +kernel) ?_ | refine New.mk fun _ => ?_ | refine NewS.mk fun _ _ => ?_)
        refine X_round (k + 1, h3) ⟨by show k + 1 ≤ _; omega, by show k + 1 ≤ _; omega, hl3⟩ (by show acts.length - (k + 1) < acts.length - k; omega) ⟨rfl, rfl, rfl, rfl, trivial⟩ rfl (by show Sub _ (rsp h1 rb C false :: rrH qb rb (playTo V0 acts (k + 1)) :: rollH h3 b sb C (playTo V0 acts (k + 1)) :: (L ++ R)); infer_instance)
    · repeat' (first | refine Step.imp ?_ | refine Side.mk (by first | exact True.intro | omega | exact ⟨trivial, rfl⟩ | exact ⟨by omega, trivial, rfl⟩ | exact ⟨by omega, rfl⟩ | exact ⟨by omega, by omega, rfl⟩ | (simp only [List.length_cons, List.length_nil, List.length_append]; done) | (simp only [List.length_cons, List.length_nil, List.length_append]; omega) | decide +kernel) ?_ | refine GDraw_0 (by decide +kernel) ?_ | refine New.mk fun _ => ?_ | refine NewS.mk fun _ _ => ?_ | refine Ways.mk (fun _ => ?_) (fun _ => ?_))
      all_goals first | (exfalso; omega) | skip
      all_goals exact X_mid (k, h2) ⟨hk, hl1⟩ ⟨rfl, rfl, trivial⟩ rfl inferInstance
  rintro ⟨k, h2⟩ ⟨hk, hl1⟩
  simp only at hk hl1 ⊢
  haveI : LeT h2 h2 := ⟨Hle.refl h2⟩
  haveI : LeT h1 h2 := ⟨hl1⟩
  obtain ⟨V, hV⟩ : ∃ V, V = playTo V0 acts k := ⟨_, rfl⟩
  have hVl : V.length = (leavesF C C.dims.length).toNat := by rw [hV, playTo_len, hV0l]
  have hVq : Ok64 V := by rw [hV]; exact playTo_64 hV64 ha64 k hk
  rw [← hV]
  have hle2 := le1.le.trans hl1
  clear hV hd hm hac
  refine X_rr qb fun ea ec => ?_
  repeat (first | refine Step.imp ?_ | refine Side.mk (by first | exact True.intro | omega | exact ⟨trivial, rfl⟩ | exact ⟨by omega, trivial, rfl⟩ | exact ⟨by omega, rfl⟩ | exact ⟨by omega, by omega, rfl⟩ | (simp only [List.length_cons, List.length_nil, List.length_append]; done) | (simp only [List.length_cons, List.length_nil, List.length_append]; omega) | decide +kernel) ?_ | refine New.mk fun _ => ?_ | refine NewS.mk fun _ _ => ?_)
  refine ⟨fun j hj => ?_, fun hall => ?_⟩
  · repeat (first | refine Step.imp ?_ | refine Side.mk (by first | exact True.intro | omega | exact ⟨trivial, rfl⟩ | exact ⟨by omega, trivial, rfl⟩ | exact ⟨by omega, rfl⟩ | exact ⟨by omega, by omega, rfl⟩ | (simp only [List.length_cons, List.length_nil, List.length_append]; done) | (simp only [List.length_cons, List.length_nil, List.length_append]; omega) | decide +kernel) ?_ | refine New.mk fun _ => ?_ | refine NewS.mk fun _ _ => ?_)
    refine GDraw_schC (b := qb) (.s 0 (.s 1 (.s 2 (.s 3 (.s 4 (.s 5 (.s 6 (.s 7 (.h 8 (.s 9 (.s 10 (.s 11 (.h 12 (.h 13 (.s 14 .e) .n) .n)))) (.h 12 (.h 8 (.s 9 (.s 10 (.s 11 (.h 13 (.s 14 .e) .n)))) .n) .n)))))))))) (by decide +kernel) ?_
    repeat' (first | refine Step.imp ?_ | refine Side.mk (by first | exact True.intro | omega | exact ⟨trivial, rfl⟩ | exact ⟨by omega, trivial, rfl⟩ | exact ⟨by omega, rfl⟩ | (simp only [List.length_cons, List.length_nil, List.length_append]; omega) | decide +kernel) ?_ | refine Both.mk ?_ ?_ | exact True.intro | refine GTo_do ?_ | (intros; refine GT_app inferInstance ?_) | refine hard_box fun _ => And.intro inferInstance ?_ | refine hard_alloc fun _ => And.intro inferInstance ?_ | refine hard_store (by first | exact ⟨trivial, rfl⟩ | exact ⟨by omega, rfl⟩) (And.intro inferInstance ?_) | refine hard_buildO (by omega) fun _ => And.intro inferInstance ?_ | refine hard_buildSlice (by omega) fun _ => And.intro inferInstance ?_ | refine hard_callP (by first | exact True.intro | omega | (simp only [List.length_cons, List.length_nil, List.length_append]; omega)) ?_ | refine hard_callV' (by first | exact True.intro | omega | (simp only [List.length_cons, List.length_nil, List.length_append]; omega)) ?_ | refine hard_callT' (by first | exact True.intro | omega) ?_ | refine hard_makeMap fun _ => And.intro inferInstance ?_ | refine hard_makeSlice (by omega) fun _ => And.intro inferInstance ?_)
    all_goals
      refine hard_callT' ⟨hVl, hVq⟩ ?_
      intro h3 le3
      have hle3 := hle2.trans le3.le
      refine ⟨fun j' hj' => ?_, fun hall => absurd (hall j hj.1) hj.2.1⟩
      obtain rfl := FirstB.eq hj hj'
    all_goals repeat' (first | refine Step.imp ?_ | refine Side.mk (by first | exact True.intro | omega | exact ⟨trivial, rfl⟩ | exact ⟨by omega, trivial, rfl⟩ | exact ⟨by omega, rfl⟩ | (simp only [List.length_cons, List.length_nil, List.length_append]; omega) | decide +kernel) ?_ | refine Both.mk ?_ ?_ | exact True.intro | refine GTo_do ?_ | (intros; refine GT_app inferInstance ?_) | refine hard_box fun _ => And.intro inferInstance ?_ | refine hard_alloc fun _ => And.intro inferInstance ?_ | refine hard_store (by first | exact ⟨trivial, rfl⟩ | exact ⟨by omega, rfl⟩) (And.intro inferInstance ?_) | refine hard_buildO (by omega) fun _ => And.intro inferInstance ?_ | refine hard_buildSlice (by omega) fun _ => And.intro inferInstance ?_ | refine hard_callP (by first | exact True.intro | omega | (simp only [List.length_cons, List.length_nil, List.length_append]; omega)) ?_ | refine hard_callV' (by first | exact True.intro | omega | (simp only [List.length_cons, List.length_nil, List.length_append]; omega)) ?_ | refine hard_callT' (by first | exact True.intro | omega) ?_ | refine hard_makeMap fun _ => And.intro inferInstance ?_ | refine hard_makeSlice (by omega) fun _ => And.intro inferInstance ?_)
    all_goals
      intro h4 le4
      have hle4 := hle3.trans le4.le
    all_goals repeat (first | refine Step.imp ?_ | refine Side.mk (by first | exact True.intro | omega | exact ⟨trivial, rfl⟩ | exact ⟨by omega, trivial, rfl⟩ | exact ⟨by omega, rfl⟩ | exact ⟨by omega, by omega, rfl⟩ | (simp only [List.length_cons, List.length_nil, List.length_append]; done) | (simp only [List.length_cons, List.length_nil, List.length_append]; omega) | decide +kernel) ?_ | refine GDraw_one (by decide +kernel) ?_ | refine New.mk fun _ => ?_ | refine NewS.mk fun _ _ => ?_)
    all_goals exact Fin.val (hT h4 hle4) rfl hle4
  · repeat (first | refine Step.imp ?_ | refine Side.mk (by first | exact True.intro | omega | exact ⟨trivial, rfl⟩ | exact ⟨by omega, trivial, rfl⟩ | exact ⟨by omega, rfl⟩ | exact ⟨by omega, by omega, rfl⟩ | (simp only [List.length_cons, List.length_nil, List.length_append]; done) | (simp only [List.length_cons, List.length_nil, List.length_append]; omega) | decide +kernel) ?_ | refine New.mk fun _ => ?_ | refine NewS.mk fun _ _ => ?_)
    refine GDraw_schC (b := qb) (.s 0 (.s 1 (.s 2 (.s 3 (.s 4 (.s 5 (.s 6 (.s 7 (.h 8 (.s 9 (.s 10 (.s 11 (.h 12 (.h 13 (.s 14 .e) .n) .n)))) (.h 12 (.h 8 (.s 9 (.s 10 (.s 11 (.h 13 (.s 14 .e) .n)))) .n) .n)))))))))) (by decide +kernel) ?_
    repeat' (first | refine Step.imp ?_ | refine Side.mk (by first | exact True.intro | omega | exact ⟨trivial, rfl⟩ | exact ⟨by omega, trivial, rfl⟩ | exact ⟨by omega, rfl⟩ | (simp only [List.length_cons, List.length_nil, List.length_append]; omega) | decide +kernel) ?_ | refine Both.mk ?_ ?_ | exact True.intro | refine GTo_do ?_ | (intros; refine GT_app inferInstance ?_) | refine hard_box fun _ => And.intro inferInstance ?_ | refine hard_alloc fun _ => And.intro inferInstance ?_ | refine hard_store (by first | exact ⟨trivial, rfl⟩ | exact ⟨by omega, rfl⟩) (And.intro inferInstance ?_) | refine hard_buildO (by omega) fun _ => And.intro inferInstance ?_ | refine hard_buildSlice (by omega) fun _ => And.intro inferInstance ?_ | refine hard_callP (by first | exact True.intro | omega | (simp only [List.length_cons, List.length_nil, List.length_append]; omega)) ?_ | refine hard_callV' (by first | exact True.intro | omega | (simp only [List.length_cons, List.length_nil, List.length_append]; omega)) ?_ | refine hard_callT' (by first | exact True.intro | omega) ?_ | refine hard_makeMap fun _ => And.intro inferInstance ?_ | refine hard_makeSlice (by omega) fun _ => And.intro inferInstance ?_)
    all_goals
      refine hard_callT' ⟨hVl, hVq⟩ ?_
      intro h3 le3
      have hle3 := hle2.trans le3.le
      refine ⟨fun j' hj' => absurd (hall j' hj'.1) hj'.2.1, fun _ => ?_⟩
    all_goals repeat' (first | refine Step.imp ?_ | refine Side.mk (by first | exact True.intro | omega | exact ⟨trivial, rfl⟩ | exact ⟨by omega, trivial, rfl⟩ | exact ⟨by omega, rfl⟩ | (simp only [List.length_cons, List.length_nil, List.length_append]; omega) | decide +kernel) ?_ | refine Both.mk ?_ ?_ | exact True.intro | refine GTo_do ?_ | (intros; refine GT_app inferInstance ?_) | refine hard_box fun _ => And.intro inferInstance ?_ | refine hard_alloc fun _ => And.intro inferInstance ?_ | refine hard_store (by first | exact ⟨trivial, rfl⟩ | exact ⟨by omega, rfl⟩) (And.intro inferInstance ?_) | refine hard_buildO (by omega) fun _ => And.intro inferInstance ?_ | refine hard_buildSlice (by omega) fun _ => And.intro inferInstance ?_ | refine hard_callP (by first | exact True.intro | omega | (simp only [List.length_cons, List.length_nil, List.length_append]; omega)) ?_ | refine hard_callV' (by first | exact True.intro | omega | (simp only [List.length_cons, List.length_nil, List.length_append]; omega)) ?_ | refine hard_callT' (by first | exact True.intro | omega) ?_ | refine hard_makeMap fun _ => And.intro inferInstance ?_ | refine hard_makeSlice (by omega) fun _ => And.intro inferInstance ?_)
    all_goals
      intro h4 le4
      have hle4 := hle3.trans le4.le
    all_goals repeat (first | refine Step.imp ?_ | refine Side.mk (by first | exact True.intro | omega | exact ⟨trivial, rfl⟩ | exact ⟨by omega, trivial, rfl⟩ | exact ⟨by omega, rfl⟩ | exact ⟨by omega, by omega, rfl⟩ | (simp only [List.length_cons, List.length_nil, List.length_append]; done) | (simp only [List.length_cons, List.length_nil, List.length_append]; omega) | decide +kernel) ?_ | refine GDraw_one (by decide +kernel) ?_ | refine New.mk fun _ => ?_ | refine NewS.mk fun _ _ => ?_)
    all_goals exact Fin.val (hT h4 hle4) rfl hle4
end
end Go.Sl
