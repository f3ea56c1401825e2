/-
  Facts that the proof is made of (WA).
-/
import Derived.Test.YtegnndnlogpihaaGreatKW6
/-
  The law RollCopies, walked.
-/
namespace Go.Sl
open Go.Proofs
set_option linter.unusedVariables false
set_option linter.unusedSimpArgs false
set_option maxRecDepth 10000
set_option synthInstance.maxSize 2000
set_option synthInstance.maxHeartbeats 200000
set_option maxHeartbeats 1000000
section
variable {h : PHeap} {dv mv : Value} {le sc : Int} {ds : List Dm} {ms : List ByteArray}
theorem walk_RollCopies {L : List HP} {aa am : Option Addr} {ac cm : Nat} {acts more : List Ac} {m a0 a1 a2 a3 : Int} [hd : IsDims h dv ds] [hm : FSl h mv encS 1 ms] [hac : FSl h (.slice aa acts.length ac) encAc 2 acts] [hmc : FSl h (.slice am more.length cm) encAc 2 more] (hdl : ds.length ≤ 9223372036854775807) (hal : acts.length ≤ 9223372036854775807) (ha64 : OkAcs acts) (hml : more.length ≤ 9223372036854775807) (hm64 : OkAcs more) :
    Spec Tryz.prog 5 [.agg [dv, mv, vI le, vI sc].toArray, .slice aa acts.length ac, .slice am more.length cm, .agg [vI m, vI a0, vI a1, vI a2, vI a3].toArray] h L (fun K => ∀ h', Hle h h' → K (.bool true) h' L) := by
  obtain ⟨C, hC⟩ : ∃ C : Cat, C = ⟨ds.map Dm.pure, ms, le, sc⟩ := ⟨_, rfl⟩
  refine spec_enter Tryz.func5 rfl Tryz.ntmps5 Tryz.results5 (by simp) fun K R hT => ?_
  repeat (first | refine Step.imp ?_ | refine Side.mk (by first | exact True.intro | omega | exact ⟨trivial, rfl⟩ | exact ⟨by omega, trivial, rfl⟩ | exact ⟨by omega, rfl⟩ | exact ⟨by omega, by omega, rfl⟩ | (simp only [List.length_cons, List.length_nil, List.length_append]; done) | (simp only [List.length_cons, List.length_nil, List.length_append]; omega) | decide +kernel) ?_ | refine GDraw_one (by decide +kernel) ?_ | refine New.mk fun _ => ?_ | refine NewS.mk fun _ _ => ?_)
  rw [← hC]
  rename_i xb
  refine ⟨fun hno h1 le1 => ?_, fun ok h1 sb b rb qb le1 => ?_⟩
  · repeat (first | refine Step.imp ?_ | refine Side.mk (by first | exact True.intro | omega | exact ⟨trivial, rfl⟩ | exact ⟨by omega, trivial, rfl⟩ | exact ⟨by omega, rfl⟩ | exact ⟨by omega, by omega, rfl⟩ | (simp only [List.length_cons, List.length_nil, List.length_append]; done) | (simp only [List.length_cons, List.length_nil, List.length_append]; omega) | decide +kernel) ?_ | refine GDraw_one (by decide +kernel) ?_ | refine New.mk fun _ => ?_ | refine NewS.mk fun _ _ => ?_)
    intro h2 le2
    have hle := le1.le.trans le2.le
    repeat (first | refine Step.imp ?_ | refine Side.mk (by first | exact True.intro | omega | exact ⟨trivial, rfl⟩ | exact ⟨by omega, trivial, rfl⟩ | exact ⟨by omega, rfl⟩ | exact ⟨by omega, by omega, rfl⟩ | (simp only [List.length_cons, List.length_nil, List.length_append]; done) | (simp only [List.length_cons, List.length_nil, List.length_append]; omega) | decide +kernel) ?_ | refine GDraw_one (by decide +kernel) ?_ | refine New.mk fun _ => ?_ | refine NewS.mk fun _ _ => ?_)
    exact Fin.val (hT h2 hle) rfl hle
  have hds : ds.length = C.dims.length := by rw [hC]; exact (List.length_map ..).symm
  obtain ⟨V0, hV0⟩ : ∃ V, V = List.replicate (leavesF C C.dims.length).toNat (0 : Int) := ⟨_, rfl⟩
  rw [hds, ← hV0]
  have hlb := leaves_bound ok.1 C.dims.length (Nat.le_refl _)
  have hlv := ok.1.leaves
  have hV0l : V0.length = (leavesF C C.dims.length).toNat := by rw [hV0]; exact List.length_replicate
  have hV64 : Ok64 V0 := by rw [hV0]; exact ok64_zero _
  haveI hst := stopB Tryz.prog 0
  haveI : LeT h1 h1 := ⟨Hle.refl h1⟩
  repeat (first | refine Step.imp ?_ | refine Side.mk (by first | exact True.intro | omega | exact ⟨trivial, rfl⟩ | exact ⟨by omega, trivial, rfl⟩ | exact ⟨by omega, rfl⟩ | exact ⟨by omega, by omega, rfl⟩ | (simp only [List.length_cons, List.length_nil, List.length_append]; done) | (simp only [List.length_cons, List.length_nil, List.length_append]; omega) | decide +kernel) ?_ | refine GDraw_one (by decide +kernel) ?_ | refine New.mk fun _ => ?_ | refine NewS.mk fun _ _ => ?_)
  refine StopB.go ?_
  clear hst
  refine G_mid (σ := Nat × PHeap) (fun s => s.1 ≤ acts.length ∧ Hle h1 s.2) (fun s => [(10, .pointer (some ⟨qb, 0, none⟩)), (9, .pointer (some ⟨b, 0, none⟩)), (7, .pointer (some ⟨xb, 0, none⟩)), (0 + 1 + 1, .slice am more.length cm)]) (fun s => s.2) (fun s => rsp h1 rb C false :: rrH qb rb (playTo V0 acts s.1) :: rollH s.2 b sb C (playTo V0 acts s.1) :: blk xb (.cells [vI m, vI a0, vI a1, vI a2, vI a3].toArray 49 (0, 0)) :: (L ++ R)) ?_ ?_
  · repeat (first | refine Step.imp ?_ | refine Side.mk (by first | exact True.intro | omega | exact ⟨trivial, rfl⟩ | exact ⟨by omega, trivial, rfl⟩ | exact ⟨by omega, rfl⟩ | exact ⟨by omega, by omega, rfl⟩ | (simp only [List.length_cons, List.length_nil, List.length_append]; done) | (simp only [List.length_cons, List.length_nil, List.length_append]; omega) | decide +kernel) ?_ | refine GDraw_one (by decide +kernel) ?_ | refine New.mk fun _ => ?_ | refine NewS.mk fun _ _ => ?_)
    refine G_loop (σ := Nat × PHeap) (fun s => s.1 ≤ acts.length ∧ s.1 ≤ 60 ∧ Hle h1 s.2) (fun s => acts.length - s.1) (fun s => [(12, vI s.1), (10, .pointer (some ⟨qb, 0, none⟩)), (9, .pointer (some ⟨b, 0, none⟩)), (7, .pointer (some ⟨xb, 0, none⟩)), (0 + 1, .slice aa acts.length ac), (0 + 1 + 1, .slice am more.length cm)]) (fun s => s.2)
      (fun s => rsp h1 rb C false :: rrH qb rb (playTo V0 acts s.1) :: rollH s.2 b sb C (playTo V0 acts s.1) :: blk xb (.cells [vI m, vI a0, vI a1, vI a2, vI a3].toArray 49 (0, 0)) :: (L ++ R)) (0, h1) ⟨by omega, by omega, Hle.refl h1⟩ ⟨rfl, rfl, rfl, rfl, rfl, rfl, trivial⟩ rfl (by show Sub _ (rsp h1 rb C false :: rrH qb rb V0 :: rollH h1 b sb C V0 :: blk xb (.cells [vI m, vI a0, vI a1, vI a2, vI a3].toArray 49 (0, 0)) :: (L ++ R)); infer_instance) ?_
    rintro ⟨k, h2⟩ ⟨hk, hk60, hl1⟩
    simp only at hk hk60 hl1 ⊢
    haveI : LeT h2 h2 := ⟨Hle.refl h2⟩
    haveI : LeT h1 h2 := ⟨hl1⟩
    haveI : FSl h2 (.slice aa acts.length ac) encAc 2 acts := FSl.mono (le1.le.trans hl1) hac
    by_cases hlt : k < acts.length ∧ k < 60
    · have h64 := ha64 k hlt.1
      have hq := playTo_len V0 acts k
      haveI : Known ((k : Int) < acts.length) := ⟨by omega⟩
      haveI : Known ((k : Int) < 60) := ⟨by omega⟩
      repeat (first | refine Step.imp ?_ | refine Side.mk (by first | exact True.intro | omega | exact ⟨trivial, rfl⟩ | exact ⟨by omega, trivial, rfl⟩ | exact ⟨by omega, rfl⟩ | exact ⟨by omega, by omega, rfl⟩ | (simp only [List.length_cons, List.length_nil, List.length_append]; done) | (simp only [List.length_cons, List.length_nil, List.length_append]; omega) | decide +kernel) ?_ | refine GDraw_0 (by decide +kernel) ?_ | refine New.mk fun _ => ?_ | refine NewS.mk fun _ _ => ?_)
      intro h3 le3
      have hl3 := hl1.trans le3.le
      haveI : LeT h1 h3 := ⟨hl3⟩
      refine ⟨fun hno => ?_, fun hin => ?_⟩
      · have hp : playTo V0 acts (k + 1) = playTo V0 acts k := if_neg hno
        repeat (first | refine Step.imp ?_ | refine Side.mk (by first | exact True.intro | omega | exact ⟨trivial, rfl⟩ | exact ⟨by omega, trivial, rfl⟩ | exact ⟨by omega, rfl⟩ | exact ⟨by omega, by omega, rfl⟩ | (simp only [List.length_cons, List.length_nil, List.length_append]; done) | (simp only [List.length_cons, List.length_nil, List.length_append]; omega) | decide +kernel) ?_ | refine GDraw_0 (by decide +kernel) ?_ | refine New.mk fun _ => ?_ | refine NewS.mk fun _ _ => ?_)
        refine ⟨fun _ => ?_, fun hin => absurd hin hno⟩
        repeat (first | refine Step.imp ?_ | refine Side.mk (by first | exact True.intro | omega | exact ⟨trivial, rfl⟩ | exact ⟨by omega, trivial, rfl⟩ | exact ⟨by omega, rfl⟩ | exact ⟨by omega, by omega, rfl⟩ | (simp only [List.length_cons, List.length_nil, List.length_append]; done) | (simp only [List.length_cons, List.length_nil, List.length_append]; omega) | decide +kernel) ?_ | refine GDraw_0 (by decide +kernel) ?_ | refine New.mk fun _ => ?_ | refine NewS.mk fun _ _ => ?_)
        refine X_round (k + 1, h3) ⟨by show k + 1 ≤ _; omega, by show k + 1 ≤ _; omega, hl3⟩ (by show acts.length - (k + 1) < acts.length - k; omega) ⟨rfl, rfl, rfl, rfl, rfl, rfl, trivial⟩ rfl (by show Sub _ (rsp h1 rb C false :: rrH qb rb (playTo V0 acts (k + 1)) :: rollH h3 b sb C (playTo V0 acts (k + 1)) :: blk xb (.cells [vI m, vI a0, vI a1, vI a2, vI a3].toArray 49 (0, 0)) :: (L ++ R)); rw [hp]; infer_instance)
      · have hp : playTo V0 acts (k + 1) = (playTo V0 acts k).set (acts[k]!).code.toNat (acts[k]!).n := if_pos hin
        have hq2 := playTo_len V0 acts (k + 1)
        rw [← hp]
        repeat (first | refine Step.imp ?_ | refine Side.mk (by first | exact True.intro | omega | exact ⟨trivial, rfl⟩ | exact ⟨by omega, trivial, rfl⟩ | exact ⟨by omega, rfl⟩ | exact ⟨by omega, by omega, rfl⟩ | (simp only [List.length_cons, List.length_nil, List.length_append]; done) | (simp only [List.length_cons, List.length_nil, List.length_append]; omega) | decide +kernel) ?_ | refine GDraw_0 (by decide +kernel) ?_ | refine New.mk fun _ => ?_ | refine NewS.mk fun _ _ => ?_)
        refine ⟨fun hno => absurd hin hno, fun _ => ?_⟩
        rw [← hp]
        repeat (first | refine Step.imp ?_ | refine Side.mk (by first | exact True.intro | omega | exact ⟨trivial, rfl⟩ | exact ⟨by omega, trivial, rfl⟩ | exact ⟨by omega, rfl⟩ | exact ⟨by omega, by omega, rfl⟩ | (simp only [List.length_cons, List.length_nil, List.length_append]; done) | (simp only [List.length_cons, List.length_nil, List.length_append]; omega) | decide +kernel) ?_ | refine GDraw_0 (by decide +kernel) ?_ | refine New.mk fun _ => ?_ | refine NewS.mk fun _ _ => ?_)
        refine X_round (k + 1, h3) ⟨by show k + 1 ≤ _; omega, by show k + 1 ≤ _; omega, hl3⟩ (by show acts.length - (k + 1) < acts.length - k; omega) ⟨rfl, rfl, rfl, rfl, rfl, rfl, trivial⟩ rfl (by show Sub _ (rsp h1 rb C false :: rrH qb rb (playTo V0 acts (k + 1)) :: rollH h3 b sb C (playTo V0 acts (k + 1)) :: blk xb (.cells [vI m, vI a0, vI a1, vI a2, vI a3].toArray 49 (0, 0)) :: (L ++ R)); infer_instance)
    · repeat' (first | refine Step.imp ?_ | refine Side.mk (by first | exact True.intro | omega | exact ⟨trivial, rfl⟩ | exact ⟨by omega, trivial, rfl⟩ | exact ⟨by omega, rfl⟩ | exact ⟨by omega, by omega, rfl⟩ | (simp only [List.length_cons, List.length_nil, List.length_append]; done) | (simp only [List.length_cons, List.length_nil, List.length_append]; omega) | decide +kernel) ?_ | refine GDraw_0 (by decide +kernel) ?_ | refine New.mk fun _ => ?_ | refine NewS.mk fun _ _ => ?_ | refine Ways.mk (fun _ => ?_) (fun _ => ?_))
      all_goals first | (exfalso; omega) | skip
      all_goals exact X_mid (k, h2) ⟨hk, hl1⟩ ⟨rfl, rfl, rfl, rfl, trivial⟩ rfl inferInstance
  rintro ⟨k, h2⟩ ⟨hk, hl1⟩
  simp only at hk hl1 ⊢
  haveI : LeT h2 h2 := ⟨Hle.refl h2⟩
  haveI : LeT h1 h2 := ⟨hl1⟩
  obtain ⟨V, hV⟩ : ∃ V, V = playTo V0 acts k := ⟨_, rfl⟩
  have hVl : V.length = (leavesF C C.dims.length).toNat := by rw [hV, playTo_len, hV0l]
  have hVq : Ok64 V := by rw [hV]; exact playTo_64 hV64 ha64 k hk
  rw [← hV]
  have hle2 := le1.le.trans hl1
  clear hV hd hm hac
  haveI hst := stopB Tryz.prog 2
  repeat (first | refine Step.imp ?_ | refine Side.mk (by first | exact True.intro | omega | exact ⟨trivial, rfl⟩ | exact ⟨by omega, trivial, rfl⟩ | exact ⟨by omega, rfl⟩ | exact ⟨by omega, by omega, rfl⟩ | (simp only [List.length_cons, List.length_nil, List.length_append]; done) | (simp only [List.length_cons, List.length_nil, List.length_append]; omega) | decide +kernel) ?_ | refine GDraw_one (by decide +kernel) ?_ | refine New.mk fun _ => ?_ | refine NewS.mk fun _ _ => ?_)
  intro b2
  repeat (first | refine Step.imp ?_ | refine Side.mk (by first | exact True.intro | omega | exact ⟨trivial, rfl⟩ | exact ⟨by omega, trivial, rfl⟩ | exact ⟨by omega, rfl⟩ | exact ⟨by omega, by omega, rfl⟩ | (simp only [List.length_cons, List.length_nil, List.length_append]; done) | (simp only [List.length_cons, List.length_nil, List.length_append]; omega) | decide +kernel) ?_ | refine GDraw_one (by decide +kernel) ?_ | refine New.mk fun _ => ?_ | refine NewS.mk fun _ _ => ?_)
  intro qb2
  repeat (first | refine Step.imp ?_ | refine Side.mk (by first | exact True.intro | omega | exact ⟨trivial, rfl⟩ | exact ⟨by omega, trivial, rfl⟩ | exact ⟨by omega, rfl⟩ | exact ⟨by omega, by omega, rfl⟩ | (simp only [List.length_cons, List.length_nil, List.length_append]; done) | (simp only [List.length_cons, List.length_nil, List.length_append]; omega) | decide +kernel) ?_ | refine GDraw_one (by decide +kernel) ?_ | refine New.mk fun _ => ?_ | refine NewS.mk fun _ _ => ?_)
  refine StopB.go ?_
  clear hst
  refine G_mid (σ := Nat × PHeap) (fun s => s.1 ≤ more.length ∧ Hle h2 s.2) (fun s => [(13, .pointer (some ⟨b2, 0, none⟩)), (14, .pointer (some ⟨qb2, 0, none⟩)), (10, .pointer (some ⟨qb, 0, none⟩)), (9, .pointer (some ⟨b, 0, none⟩)), (7, .pointer (some ⟨xb, 0, none⟩))]) (fun s => s.2) (fun s => rsp h1 rb C false :: rrH qb2 rb (playTo V more s.1) :: rollH s.2 b2 sb C (playTo V more s.1) :: rrH qb rb V :: rollH h2 b sb C V :: blk xb (.cells [vI m, vI a0, vI a1, vI a2, vI a3].toArray 49 (0, 0)) :: (L ++ R)) ?_ ?_
  · repeat (first | refine Step.imp ?_ | refine Side.mk (by first | exact True.intro | omega | exact ⟨trivial, rfl⟩ | exact ⟨by omega, trivial, rfl⟩ | exact ⟨by omega, rfl⟩ | exact ⟨by omega, by omega, rfl⟩ | (simp only [List.length_cons, List.length_nil, List.length_append]; done) | (simp only [List.length_cons, List.length_nil, List.length_append]; omega) | decide +kernel) ?_ | refine GDraw_one (by decide +kernel) ?_ | refine New.mk fun _ => ?_ | refine NewS.mk fun _ _ => ?_)
    refine G_loop (σ := Nat × PHeap) (fun s => s.1 ≤ more.length ∧ s.1 ≤ 60 ∧ Hle h2 s.2) (fun s => more.length - s.1) (fun s => [(15, vI s.1), (13, .pointer (some ⟨b2, 0, none⟩)), (14, .pointer (some ⟨qb2, 0, none⟩)), (10, .pointer (some ⟨qb, 0, none⟩)), (9, .pointer (some ⟨b, 0, none⟩)), (7, .pointer (some ⟨xb, 0, none⟩)), (0 + 1 + 1, .slice am more.length cm)]) (fun s => s.2)
      (fun s => rsp h1 rb C false :: rrH qb2 rb (playTo V more s.1) :: rollH s.2 b2 sb C (playTo V more s.1) :: rrH qb rb V :: rollH h2 b sb C V :: blk xb (.cells [vI m, vI a0, vI a1, vI a2, vI a3].toArray 49 (0, 0)) :: (L ++ R)) (0, h2) ⟨by omega, by omega, Hle.refl h2⟩ ⟨rfl, rfl, rfl, rfl, rfl, rfl, rfl, trivial⟩ rfl (by show Sub _ (rsp h1 rb C false :: rrH qb2 rb V :: rollH h2 b2 sb C V :: rrH qb rb V :: rollH h2 b sb C V :: blk xb (.cells [vI m, vI a0, vI a1, vI a2, vI a3].toArray 49 (0, 0)) :: (L ++ R)); infer_instance) ?_
    rintro ⟨k, h3⟩ ⟨hk, hk60, hl1⟩
    simp only at hk hk60 hl1 ⊢
    haveI : LeT h3 h3 := ⟨Hle.refl h3⟩
    haveI : LeT h2 h3 := ⟨hl1⟩
    haveI : FSl h3 (.slice am more.length cm) encAc 2 more := FSl.mono (hle2.trans hl1) hmc
    by_cases hlt : k < more.length ∧ k < 60
    · have h64 := hm64 k hlt.1
      have hq := playTo_len V more k
      haveI : Known ((k : Int) < more.length) := ⟨by omega⟩
      haveI : Known ((k : Int) < 60) := ⟨by omega⟩
      repeat (first | refine Step.imp ?_ | refine Side.mk (by first | exact True.intro | omega | exact ⟨trivial, rfl⟩ | exact ⟨by omega, trivial, rfl⟩ | exact ⟨by omega, rfl⟩ | exact ⟨by omega, by omega, rfl⟩ | (simp only [List.length_cons, List.length_nil, List.length_append]; done) | (simp only [List.length_cons, List.length_nil, List.length_append]; omega) | decide +kernel) ?_ | refine GDraw_0 (by decide +kernel) ?_ | refine New.mk fun _ => ?_ | refine NewS.mk fun _ _ => ?_)
      intro h4 le3
      have hl3 := hl1.trans le3.le
      haveI : LeT h2 h4 := ⟨hl3⟩
      refine ⟨fun hno => ?_, fun hin => ?_⟩
      · have hp : playTo V more (k + 1) = playTo V more k := if_neg hno
        repeat (first | refine Step.imp ?_ | refine Side.mk (by first | exact True.intro | omega | exact ⟨trivial, rfl⟩ | exact ⟨by omega, trivial, rfl⟩ | exact ⟨by omega, rfl⟩ | exact ⟨by omega, by omega, rfl⟩ | (simp only [List.length_cons, List.length_nil, List.length_append]; done) | (simp only [List.length_cons, List.length_nil, List.length_append]; omega) | decide +kernel) ?_ | refine GDraw_0 (by decide +kernel) ?_ | refine New.mk fun _ => ?_ | refine NewS.mk fun _ _ => ?_)
        refine ⟨fun _ => ?_, fun hin => absurd hin hno⟩
        repeat (first | refine Step.imp ?_ | refine Side.mk (by first | exact True.intro | omega | exact ⟨trivial, rfl⟩ | exact ⟨by omega, trivial, rfl⟩ | exact ⟨by omega, rfl⟩ | exact ⟨by omega, by omega, rfl⟩ | (simp only [List.length_cons, List.length_nil, List.length_append]; done) | (simp only [List.length_cons, List.length_nil, List.length_append]; omega) | decide +kernel) ?_ | refine GDraw_0 (by decide +kernel) ?_ | refine New.mk fun _ => ?_ | refine NewS.mk fun _ _ => ?_)
        refine X_round (k + 1, h4) ⟨by show k + 1 ≤ _; omega, by show k + 1 ≤ _; omega, hl3⟩ (by show more.length - (k + 1) < more.length - k; omega) ⟨rfl, rfl, rfl, rfl, rfl, rfl, rfl, trivial⟩ rfl (by show Sub _ (rsp h1 rb C false :: rrH qb2 rb (playTo V more (k + 1)) :: rollH h4 b2 sb C (playTo V more (k + 1)) :: rrH qb rb V :: rollH h2 b sb C V :: blk xb (.cells [vI m, vI a0, vI a1, vI a2, vI a3].toArray 49 (0, 0)) :: (L ++ R)); rw [hp]; infer_instance)
      · have hp : playTo V more (k + 1) = (playTo V more k).set (more[k]!).code.toNat (more[k]!).n := if_pos hin
        have hq2 := playTo_len V more (k + 1)
        rw [← hp]
        repeat (first | refine Step.imp ?_ | refine Side.mk (by first | exact True.intro | omega | exact ⟨trivial, rfl⟩ | exact ⟨by omega, trivial, rfl⟩ | exact ⟨by omega, rfl⟩ | exact ⟨by omega, by omega, rfl⟩ | (simp only [List.length_cons, List.length_nil, List.length_append]; done) | (simp only [List.length_cons, List.length_nil, List.length_append]; omega) | decide +kernel) ?_ | refine GDraw_0 (by decide +kernel) ?_ | refine New.mk fun _ => ?_ | refine NewS.mk fun _ _ => ?_)
        refine ⟨fun hno => absurd hin hno, fun _ => ?_⟩
        rw [← hp]
        repeat (first | refine Step.imp ?_ | refine Side.mk (by first | exact True.intro | omega | exact ⟨trivial, rfl⟩ | exact ⟨by omega, trivial, rfl⟩ | exact ⟨by omega, rfl⟩ | exact ⟨by omega, by omega, rfl⟩ | (simp only [List.length_cons, List.length_nil, List.length_append]; done) | (simp only [List.length_cons, List.length_nil, List.length_append]; omega) | decide +kernel) ?_ | refine GDraw_0 (by decide +kernel) ?_ | refine New.mk fun _ => ?_ | refine NewS.mk fun _ _ => ?_)
        refine X_round (k + 1, h4) ⟨by show k + 1 ≤ _; omega, by show k + 1 ≤ _; omega, hl3⟩ (by show more.length - (k + 1) < more.length - k; omega) ⟨rfl, rfl, rfl, rfl, rfl, rfl, rfl, trivial⟩ rfl (by show Sub _ (rsp h1 rb C false :: rrH qb2 rb (playTo V more (k + 1)) :: rollH h4 b2 sb C (playTo V more (k + 1)) :: rrH qb rb V :: rollH h2 b sb C V :: blk xb (.cells [vI m, vI a0, vI a1, vI a2, vI a3].toArray 49 (0, 0)) :: (L ++ R)); infer_instance)
    · repeat' (first | refine Step.imp ?_ | refine Side.mk (by first | exact True.intro | omega | exact ⟨trivial, rfl⟩ | exact ⟨by omega, trivial, rfl⟩ | exact ⟨by omega, rfl⟩ | exact ⟨by omega, by omega, rfl⟩ | (simp only [List.length_cons, List.length_nil, List.length_append]; done) | (simp only [List.length_cons, List.length_nil, List.length_append]; omega) | decide +kernel) ?_ | refine GDraw_0 (by decide +kernel) ?_ | refine New.mk fun _ => ?_ | refine NewS.mk fun _ _ => ?_ | refine Ways.mk (fun _ => ?_) (fun _ => ?_))
      all_goals first | (exfalso; omega) | skip
      all_goals exact X_mid (k, h3) ⟨hk, hl1⟩ ⟨rfl, rfl, rfl, rfl, rfl, trivial⟩ rfl inferInstance
  rintro ⟨k, h3⟩ ⟨hk, hl2⟩
  simp only at hk hl2 ⊢
  haveI : LeT h3 h3 := ⟨Hle.refl h3⟩
  haveI : LeT h2 h3 := ⟨hl2⟩
  haveI : LeT h1 h3 := ⟨hl1.trans hl2⟩
  obtain ⟨W, hW⟩ : ∃ W, W = playTo V more k := ⟨_, rfl⟩
  have hWl : W.length = V.length := by rw [hW, playTo_len]
  have hWq : Ok64 W := by rw [hW]; exact playTo_64 hVq hm64 k hk
  rw [← hW]
  have hle3 := hle2.trans hl2
  clear hW hmc
  refine X_rr qb fun ea ec => ?_
  refine X_rr qb2 fun fa fc => ?_
  haveI hst := stopB Tryz.prog 4
  repeat (first | refine Step.imp ?_ | refine Side.mk (by first | exact True.intro | omega | exact ⟨trivial, rfl⟩ | exact ⟨by omega, trivial, rfl⟩ | exact ⟨by omega, rfl⟩ | exact ⟨by omega, by omega, rfl⟩ | (simp only [List.length_cons, List.length_nil, List.length_append]; done) | (simp only [List.length_cons, List.length_nil, List.length_append]; omega) | decide +kernel) ?_ | refine GDraw_one (by decide +kernel) ?_ | refine New.mk fun _ => ?_ | refine NewS.mk fun _ _ => ?_)
  refine StopB.go ?_
  clear hst
  refine G_mid (σ := Bool) (fun s => s = true ↔ W = V) (fun s => [(16, .bool s), (13, .pointer (some ⟨b2, 0, none⟩)), (14, .pointer (some ⟨qb2, 0, none⟩)), (10, .pointer (some ⟨qb, 0, none⟩)), (9, .pointer (some ⟨b, 0, none⟩)), (7, .pointer (some ⟨xb, 0, none⟩))]) (fun s => h3) (fun s => rsp h1 rb C false :: rrB qb2 rb (.slice fa W.length fc) :: slo encE 2 (.slice fa W.length fc) W :: rollH h3 b2 sb C W :: rrB qb rb (.slice ea V.length ec) :: slo encE 2 (.slice ea V.length ec) V :: rollH h2 b sb C V :: blk xb (.cells [vI m, vI a0, vI a1, vI a2, vI a3].toArray 49 (0, 0)) :: (L ++ R)) ?_ ?_
  · repeat (first | refine Step.imp ?_ | refine Side.mk (by first | exact True.intro | omega | exact ⟨trivial, rfl⟩ | exact ⟨by omega, trivial, rfl⟩ | exact ⟨by omega, rfl⟩ | exact ⟨by omega, by omega, rfl⟩ | (simp only [List.length_cons, List.length_nil, List.length_append]; done) | (simp only [List.length_cons, List.length_nil, List.length_append]; omega) | decide +kernel) ?_ | refine GDraw_one (by decide +kernel) ?_ | refine New.mk fun _ => ?_ | refine NewS.mk fun _ _ => ?_)
    refine G_loopE (σ := Nat × Bool) (fun s => s.1 ≤ V.length ∧ (s.2 = true ↔ ∀ j < s.1, V[j]! = W[j]!)) (fun s => V.length - s.1) (fun s => [(17, vI s.1), (16, .bool s.2), (13, .pointer (some ⟨b2, 0, none⟩)), (14, .pointer (some ⟨qb2, 0, none⟩)), (10, .pointer (some ⟨qb, 0, none⟩)), (9, .pointer (some ⟨b, 0, none⟩)), (7, .pointer (some ⟨xb, 0, none⟩))]) (0, true) ⟨by omega, ⟨fun _ j hj => by simp only at hj; omega, fun _ => rfl⟩⟩ ⟨rfl, rfl, rfl, rfl, rfl, rfl, rfl, trivial⟩ ?_
    rintro ⟨i, sm⟩ ⟨hi, hsm⟩
    simp only at hi hsm ⊢
    repeat (first | refine Step.imp ?_ | refine Side.mk (by first | exact True.intro | omega | exact ⟨trivial, rfl⟩ | exact ⟨by omega, trivial, rfl⟩ | exact ⟨by omega, rfl⟩ | exact ⟨by omega, by omega, rfl⟩ | (simp only [List.length_cons, List.length_nil, List.length_append]; done) | (simp only [List.length_cons, List.length_nil, List.length_append]; omega) | decide +kernel) ?_ | refine GDraw_one (by decide +kernel) ?_ | refine New.mk fun _ => ?_ | refine NewS.mk fun _ _ => ?_)
    refine ⟨fun hlt => ?_, fun hge => ?_⟩
    · cases sm with
      | true =>
        repeat (first | refine Step.imp ?_ | refine Side.mk (by first | exact True.intro | omega | exact ⟨trivial, rfl⟩ | exact ⟨by omega, trivial, rfl⟩ | exact ⟨by omega, rfl⟩ | exact ⟨by omega, by omega, rfl⟩ | (simp only [List.length_cons, List.length_nil, List.length_append]; done) | (simp only [List.length_cons, List.length_nil, List.length_append]; omega) | decide +kernel) ?_ | refine GDraw_one (by decide +kernel) ?_ | refine New.mk fun _ => ?_ | refine NewS.mk fun _ _ => ?_)
        refine X_roundE (i + 1, decide (V[i]! = W[i]! ∧ false = false ∧ True)) ⟨by show i + 1 ≤ V.length; omega, ?_⟩ (by show V.length - (i + 1) < V.length - i; omega) ⟨rfl, rfl, rfl, rfl, rfl, rfl, rfl, trivial⟩ inferInstance
        show decide (V[i]! = W[i]! ∧ false = false ∧ True) = true ↔ ∀ j < i + 1, V[j]! = W[j]!
        rw [decide_eq_true_iff]
        constructor
        · rintro ⟨e, _⟩ j hj
          rcases Nat.lt_or_ge j i with h1 | h1
          · exact hsm.1 rfl j h1
          · have : j = i := by omega
            subst this; exact e
        · exact fun hall => ⟨hall i (by omega), rfl, trivial⟩
      | false =>
        repeat (first | refine Step.imp ?_ | refine Side.mk (by first | exact True.intro | omega | exact ⟨trivial, rfl⟩ | exact ⟨by omega, trivial, rfl⟩ | exact ⟨by omega, rfl⟩ | exact ⟨by omega, by omega, rfl⟩ | (simp only [List.length_cons, List.length_nil, List.length_append]; done) | (simp only [List.length_cons, List.length_nil, List.length_append]; omega) | decide +kernel) ?_ | refine GDraw_one (by decide +kernel) ?_ | refine New.mk fun _ => ?_ | refine NewS.mk fun _ _ => ?_)
        refine X_roundE (i + 1, false) ⟨by show i + 1 ≤ V.length; omega, ?_⟩ (by show V.length - (i + 1) < V.length - i; omega) ⟨rfl, rfl, rfl, rfl, rfl, rfl, rfl, trivial⟩ inferInstance
        show false = true ↔ ∀ j < i + 1, V[j]! = W[j]!
        exact ⟨fun hf => (by cases hf), fun hall => hsm.2 fun j hj => hall j (by omega)⟩
    · repeat (first | refine Step.imp ?_ | refine Side.mk (by first | exact True.intro | omega | exact ⟨trivial, rfl⟩ | exact ⟨by omega, trivial, rfl⟩ | exact ⟨by omega, rfl⟩ | exact ⟨by omega, by omega, rfl⟩ | (simp only [List.length_cons, List.length_nil, List.length_append]; done) | (simp only [List.length_cons, List.length_nil, List.length_append]; omega) | decide +kernel) ?_ | refine GDraw_one (by decide +kernel) ?_ | refine New.mk fun _ => ?_ | refine NewS.mk fun _ _ => ?_)
      refine X_mid sm ⟨fun hs => ?_, fun he => ?_⟩ ⟨rfl, rfl, rfl, rfl, rfl, rfl, trivial⟩ rfl inferInstance
      · exact list_eq hWl fun j hj => (hsm.1 hs j (by omega)).symm
      · exact hsm.2 fun j hj => by rw [he]
  intro sm hsm
  refine X_rrIn qb ?_
  refine X_rrIn qb2 ?_
  have hWl2 : W.length = (leavesF C C.dims.length).toNat := by rw [hWl, hVl]
  by_cases hWV : W = V
  · have e1 := hsm.2 hWV
    subst e1
    subst hWV
    haveI : Known (decide (W = W) = true) := ⟨decide_eq_true rfl⟩
    repeat (first | refine Step.imp ?_ | refine Side.mk (by first | exact True.intro | omega | exact ⟨trivial, rfl⟩ | exact ⟨by omega, trivial, rfl⟩ | exact ⟨by omega, rfl⟩ | exact ⟨by omega, by omega, rfl⟩ | (simp only [List.length_cons, List.length_nil, List.length_append]; done) | (simp only [List.length_cons, List.length_nil, List.length_append]; omega) | decide +kernel) ?_ | refine GDraw_one (by decide +kernel) ?_ | refine New.mk fun _ => ?_ | refine NewS.mk fun _ _ => ?_)
    refine ⟨fun hno => ?_, fun hin => ?_⟩
    · repeat (first | refine Step.imp ?_ | refine Side.mk (by first | exact True.intro | omega | exact ⟨trivial, rfl⟩ | exact ⟨by omega, trivial, rfl⟩ | exact ⟨by omega, rfl⟩ | exact ⟨by omega, by omega, rfl⟩ | (simp only [List.length_cons, List.length_nil, List.length_append]; done) | (simp only [List.length_cons, List.length_nil, List.length_append]; omega) | decide +kernel) ?_ | refine GDraw_one (by decide +kernel) ?_ | refine New.mk fun _ => ?_ | refine NewS.mk fun _ _ => ?_)
      refine Side.mk ⟨hVl, hVq⟩ ?_
      intro h4 le4
      refine ⟨fun _ => ?_, fun hin => absurd hin hno⟩
      haveI : LeT h3 h4 := ⟨le4.le⟩
      haveI : LeT h4 h4 := ⟨Hle.refl h4⟩
      repeat (first | refine Step.imp ?_ | refine Side.mk (by first | exact True.intro | omega | exact ⟨trivial, rfl⟩ | exact ⟨by omega, trivial, rfl⟩ | exact ⟨by omega, rfl⟩ | exact ⟨by omega, by omega, rfl⟩ | (simp only [List.length_cons, List.length_nil, List.length_append]; done) | (simp only [List.length_cons, List.length_nil, List.length_append]; omega) | decide +kernel) ?_ | refine GDraw_one (by decide +kernel) ?_ | refine New.mk fun _ => ?_ | refine NewS.mk fun _ _ => ?_)
      refine ⟨fun _ => ?_, fun hin => absurd hin hno⟩
      repeat (first | refine Step.imp ?_ | refine Side.mk (by first | exact True.intro | omega | exact ⟨trivial, rfl⟩ | exact ⟨by omega, trivial, rfl⟩ | exact ⟨by omega, rfl⟩ | exact ⟨by omega, by omega, rfl⟩ | (simp only [List.length_cons, List.length_nil, List.length_append]; done) | (simp only [List.length_cons, List.length_nil, List.length_append]; omega) | decide +kernel) ?_ | refine GDraw_one (by decide +kernel) ?_ | refine New.mk fun _ => ?_ | refine NewS.mk fun _ _ => ?_)
      refine Side.mk ⟨hWl2, hWq⟩ ?_
      intro h5 le5
      refine ⟨fun _ => ?_, fun hin => absurd hin hno⟩
      haveI : LeT h4 h5 := ⟨le5.le⟩
      haveI : LeT h5 h5 := ⟨Hle.refl h5⟩
      repeat (first | refine Step.imp ?_ | refine Side.mk (by first | exact True.intro | omega | exact ⟨trivial, rfl⟩ | exact ⟨by omega, trivial, rfl⟩ | exact ⟨by omega, rfl⟩ | exact ⟨by omega, by omega, rfl⟩ | (simp only [List.length_cons, List.length_nil, List.length_append]; done) | (simp only [List.length_cons, List.length_nil, List.length_append]; omega) | decide +kernel) ?_ | refine GDraw_one (by decide +kernel) ?_ | refine New.mk fun _ => ?_ | refine NewS.mk fun _ _ => ?_)
      intro h6 le6
      have hle6 := hle3.trans (le4.le.trans (le5.le.trans le6.le))
      repeat (first | refine Step.imp ?_ | refine Side.mk (by first | exact True.intro | omega | exact ⟨trivial, rfl⟩ | exact ⟨by omega, trivial, rfl⟩ | exact ⟨by omega, rfl⟩ | exact ⟨by omega, by omega, rfl⟩ | (simp only [List.length_cons, List.length_nil, List.length_append]; done) | (simp only [List.length_cons, List.length_nil, List.length_append]; omega) | decide +kernel) ?_ | refine GDraw_one (by decide +kernel) ?_ | refine New.mk fun _ => ?_ | refine NewS.mk fun _ _ => ?_)
      exact Fin.val (hT h6 hle6) rfl hle6
    · repeat (first | refine Step.imp ?_ | refine Side.mk (by first | exact True.intro | omega | exact ⟨trivial, rfl⟩ | exact ⟨by omega, trivial, rfl⟩ | exact ⟨by omega, rfl⟩ | exact ⟨by omega, by omega, rfl⟩ | (simp only [List.length_cons, List.length_nil, List.length_append]; done) | (simp only [List.length_cons, List.length_nil, List.length_append]; omega) | decide +kernel) ?_ | refine GDraw_one (by decide +kernel) ?_ | refine New.mk fun _ => ?_ | refine NewS.mk fun _ _ => ?_)
      refine Side.mk ⟨hVl, hVq⟩ ?_
      intro h4 le4
      refine ⟨fun hno => absurd hin hno, fun _ => ?_⟩
      haveI : LeT h3 h4 := ⟨le4.le⟩
      haveI : LeT h4 h4 := ⟨Hle.refl h4⟩
      repeat (first | refine Step.imp ?_ | refine Side.mk (by first | exact True.intro | omega | exact ⟨trivial, rfl⟩ | exact ⟨by omega, trivial, rfl⟩ | exact ⟨by omega, rfl⟩ | exact ⟨by omega, by omega, rfl⟩ | (simp only [List.length_cons, List.length_nil, List.length_append]; done) | (simp only [List.length_cons, List.length_nil, List.length_append]; omega) | decide +kernel) ?_ | refine GDraw_one (by decide +kernel) ?_ | refine New.mk fun _ => ?_ | refine NewS.mk fun _ _ => ?_)
      refine ⟨fun hno => absurd hin hno, fun _ => ?_⟩
      repeat (first | refine Step.imp ?_ | refine Side.mk (by first | exact True.intro | omega | exact ⟨trivial, rfl⟩ | exact ⟨by omega, trivial, rfl⟩ | exact ⟨by omega, rfl⟩ | exact ⟨by omega, by omega, rfl⟩ | (simp only [List.length_cons, List.length_nil, List.length_append]; done) | (simp only [List.length_cons, List.length_nil, List.length_append]; omega) | decide +kernel) ?_ | refine GDraw_one (by decide +kernel) ?_ | refine New.mk fun _ => ?_ | refine NewS.mk fun _ _ => ?_)
      refine Side.mk ⟨hWl2, hWq⟩ ?_
      intro h5 le5
      refine ⟨fun hno => absurd hin hno, fun _ => ?_⟩
      haveI : LeT h4 h5 := ⟨le5.le⟩
      haveI : LeT h5 h5 := ⟨Hle.refl h5⟩
      repeat (first | refine Step.imp ?_ | refine Side.mk (by first | exact True.intro | omega | exact ⟨trivial, rfl⟩ | exact ⟨by omega, trivial, rfl⟩ | exact ⟨by omega, rfl⟩ | exact ⟨by omega, by omega, rfl⟩ | (simp only [List.length_cons, List.length_nil, List.length_append]; done) | (simp only [List.length_cons, List.length_nil, List.length_append]; omega) | decide +kernel) ?_ | refine GDraw_one (by decide +kernel) ?_ | refine New.mk fun _ => ?_ | refine NewS.mk fun _ _ => ?_)
      intro h6 le6
      have hle6 := hle3.trans (le4.le.trans (le5.le.trans le6.le))
      repeat (first | refine Step.imp ?_ | refine Side.mk (by first | exact True.intro | omega | exact ⟨trivial, rfl⟩ | exact ⟨by omega, trivial, rfl⟩ | exact ⟨by omega, rfl⟩ | exact ⟨by omega, by omega, rfl⟩ | (simp only [List.length_cons, List.length_nil, List.length_append]; done) | (simp only [List.length_cons, List.length_nil, List.length_append]; omega) | decide +kernel) ?_ | refine GDraw_one (by decide +kernel) ?_ | refine New.mk fun _ => ?_ | refine NewS.mk fun _ _ => ?_)
      exact Fin.val (hT h6 hle6) rfl hle6
  · have e1 : sm = false := by
      cases sm with
      | false => rfl
      | true => exact absurd (hsm.1 rfl) hWV
    subst e1
    haveI : Known (decide (W = V) = false) := ⟨decide_eq_false hWV⟩
    haveI : Known (decide (V = W) = false) := ⟨decide_eq_false fun e => hWV e.symm⟩
    repeat (first | refine Step.imp ?_ | refine Side.mk (by first | exact True.intro | omega | exact ⟨trivial, rfl⟩ | exact ⟨by omega, trivial, rfl⟩ | exact ⟨by omega, rfl⟩ | exact ⟨by omega, by omega, rfl⟩ | (simp only [List.length_cons, List.length_nil, List.length_append]; done) | (simp only [List.length_cons, List.length_nil, List.length_append]; omega) | decide +kernel) ?_ | refine GDraw_one (by decide +kernel) ?_ | refine New.mk fun _ => ?_ | refine NewS.mk fun _ _ => ?_)
    refine ⟨fun hno => ?_, fun hin => ?_⟩
    · repeat (first | refine Step.imp ?_ | refine Side.mk (by first | exact True.intro | omega | exact ⟨trivial, rfl⟩ | exact ⟨by omega, trivial, rfl⟩ | exact ⟨by omega, rfl⟩ | exact ⟨by omega, by omega, rfl⟩ | (simp only [List.length_cons, List.length_nil, List.length_append]; done) | (simp only [List.length_cons, List.length_nil, List.length_append]; omega) | decide +kernel) ?_ | refine GDraw_one (by decide +kernel) ?_ | refine New.mk fun _ => ?_ | refine NewS.mk fun _ _ => ?_)
      refine Side.mk ⟨hVl, hVq⟩ ?_
      intro h4 le4
      refine ⟨fun _ => ?_, fun hin => absurd hin hno⟩
      haveI : LeT h3 h4 := ⟨le4.le⟩
      haveI : LeT h4 h4 := ⟨Hle.refl h4⟩
      repeat (first | refine Step.imp ?_ | refine Side.mk (by first | exact True.intro | omega | exact ⟨trivial, rfl⟩ | exact ⟨by omega, trivial, rfl⟩ | exact ⟨by omega, rfl⟩ | exact ⟨by omega, by omega, rfl⟩ | (simp only [List.length_cons, List.length_nil, List.length_append]; done) | (simp only [List.length_cons, List.length_nil, List.length_append]; omega) | decide +kernel) ?_ | refine GDraw_one (by decide +kernel) ?_ | refine New.mk fun _ => ?_ | refine NewS.mk fun _ _ => ?_)
      refine ⟨fun _ => ?_, fun hin => absurd hin hno⟩
      repeat (first | refine Step.imp ?_ | refine Side.mk (by first | exact True.intro | omega | exact ⟨trivial, rfl⟩ | exact ⟨by omega, trivial, rfl⟩ | exact ⟨by omega, rfl⟩ | exact ⟨by omega, by omega, rfl⟩ | (simp only [List.length_cons, List.length_nil, List.length_append]; done) | (simp only [List.length_cons, List.length_nil, List.length_append]; omega) | decide +kernel) ?_ | refine GDraw_one (by decide +kernel) ?_ | refine New.mk fun _ => ?_ | refine NewS.mk fun _ _ => ?_)
      refine Side.mk ⟨hWl2, hWq⟩ ?_
      intro h5 le5
      refine ⟨fun _ => ?_, fun hin => absurd hin hno⟩
      haveI : LeT h4 h5 := ⟨le5.le⟩
      haveI : LeT h5 h5 := ⟨Hle.refl h5⟩
      repeat (first | refine Step.imp ?_ | refine Side.mk (by first | exact True.intro | omega | exact ⟨trivial, rfl⟩ | exact ⟨by omega, trivial, rfl⟩ | exact ⟨by omega, rfl⟩ | exact ⟨by omega, by omega, rfl⟩ | (simp only [List.length_cons, List.length_nil, List.length_append]; done) | (simp only [List.length_cons, List.length_nil, List.length_append]; omega) | decide +kernel) ?_ | refine GDraw_one (by decide +kernel) ?_ | refine New.mk fun _ => ?_ | refine NewS.mk fun _ _ => ?_)
      intro h6 le6
      have hle6 := hle3.trans (le4.le.trans (le5.le.trans le6.le))
      repeat (first | refine Step.imp ?_ | refine Side.mk (by first | exact True.intro | omega | exact ⟨trivial, rfl⟩ | exact ⟨by omega, trivial, rfl⟩ | exact ⟨by omega, rfl⟩ | exact ⟨by omega, by omega, rfl⟩ | (simp only [List.length_cons, List.length_nil, List.length_append]; done) | (simp only [List.length_cons, List.length_nil, List.length_append]; omega) | decide +kernel) ?_ | refine GDraw_one (by decide +kernel) ?_ | refine New.mk fun _ => ?_ | refine NewS.mk fun _ _ => ?_)
      exact Fin.val (hT h6 hle6) rfl hle6
    · repeat (first | refine Step.imp ?_ | refine Side.mk (by first | exact True.intro | omega | exact ⟨trivial, rfl⟩ | exact ⟨by omega, trivial, rfl⟩ | exact ⟨by omega, rfl⟩ | exact ⟨by omega, by omega, rfl⟩ | (simp only [List.length_cons, List.length_nil, List.length_append]; done) | (simp only [List.length_cons, List.length_nil, List.length_append]; omega) | decide +kernel) ?_ | refine GDraw_one (by decide +kernel) ?_ | refine New.mk fun _ => ?_ | refine NewS.mk fun _ _ => ?_)
      refine Side.mk ⟨hVl, hVq⟩ ?_
      intro h4 le4
      refine ⟨fun hno => absurd hin hno, fun _ => ?_⟩
      haveI : LeT h3 h4 := ⟨le4.le⟩
      haveI : LeT h4 h4 := ⟨Hle.refl h4⟩
      repeat (first | refine Step.imp ?_ | refine Side.mk (by first | exact True.intro | omega | exact ⟨trivial, rfl⟩ | exact ⟨by omega, trivial, rfl⟩ | exact ⟨by omega, rfl⟩ | exact ⟨by omega, by omega, rfl⟩ | (simp only [List.length_cons, List.length_nil, List.length_append]; done) | (simp only [List.length_cons, List.length_nil, List.length_append]; omega) | decide +kernel) ?_ | refine GDraw_one (by decide +kernel) ?_ | refine New.mk fun _ => ?_ | refine NewS.mk fun _ _ => ?_)
      refine ⟨fun hno => absurd hin hno, fun _ => ?_⟩
      repeat (first | refine Step.imp ?_ | refine Side.mk (by first | exact True.intro | omega | exact ⟨trivial, rfl⟩ | exact ⟨by omega, trivial, rfl⟩ | exact ⟨by omega, rfl⟩ | exact ⟨by omega, by omega, rfl⟩ | (simp only [List.length_cons, List.length_nil, List.length_append]; done) | (simp only [List.length_cons, List.length_nil, List.length_append]; omega) | decide +kernel) ?_ | refine GDraw_one (by decide +kernel) ?_ | refine New.mk fun _ => ?_ | refine NewS.mk fun _ _ => ?_)
      refine Side.mk ⟨hWl2, hWq⟩ ?_
      intro h5 le5
      refine ⟨fun hno => absurd hin hno, fun _ => ?_⟩
      haveI : LeT h4 h5 := ⟨le5.le⟩
      haveI : LeT h5 h5 := ⟨Hle.refl h5⟩
      repeat (first | refine Step.imp ?_ | refine Side.mk (by first | exact True.intro | omega | exact ⟨trivial, rfl⟩ | exact ⟨by omega, trivial, rfl⟩ | exact ⟨by omega, rfl⟩ | exact ⟨by omega, by omega, rfl⟩ | (simp only [List.length_cons, List.length_nil, List.length_append]; done) | (simp only [List.length_cons, List.length_nil, List.length_append]; omega) | decide +kernel) ?_ | refine GDraw_one (by decide +kernel) ?_ | refine New.mk fun _ => ?_ | refine NewS.mk fun _ _ => ?_)
      intro h6 le6
      have hle6 := hle3.trans (le4.le.trans (le5.le.trans le6.le))
      repeat (first | refine Step.imp ?_ | refine Side.mk (by first | exact True.intro | omega | exact ⟨trivial, rfl⟩ | exact ⟨by omega, trivial, rfl⟩ | exact ⟨by omega, rfl⟩ | exact ⟨by omega, by omega, rfl⟩ | (simp only [List.length_cons, List.length_nil, List.length_append]; done) | (simp only [List.length_cons, List.length_nil, List.length_append]; omega) | decide +kernel) ?_ | refine GDraw_one (by decide +kernel) ?_ | refine New.mk fun _ => ?_ | refine NewS.mk fun _ _ => ?_)
      exact Fin.val (hT h6 hle6) rfl hle6
end
end Go.Sl
