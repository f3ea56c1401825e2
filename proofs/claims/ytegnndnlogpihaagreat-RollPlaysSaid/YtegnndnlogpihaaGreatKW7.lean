/-
  Facts that the proof is made of (W7).
-/
import Derived.Test.YtegnndnlogpihaaGreatKW6
/-
  The law RollPlays, walked.
-/
namespace Go.Sl
open Go.Proofs
set_option linter.unusedVariables false
set_option linter.unusedSimpArgs false
set_option maxRecDepth 10000
set_option synthInstance.maxSize 2000
set_option synthInstance.maxHeartbeats 200000
set_option maxHeartbeats 1000000
section
variable {h : PHeap} {dv mv : Value} {le sc : Int} {ds : List Dm} {ms : List ByteArray}
theorem walk_RollPlays {L : List HP} {aa ca : Option Addr} {ac cc : Nat} {acts : List Ac} {cells : List Cl} [hd : IsDims h dv ds] [hm : FSl h mv encS 1 ms] [hac : FSl h (.slice aa acts.length ac) encAc 2 acts] [hcl : FSl h (.slice ca cells.length cc) encCl 5 cells] (hdl : ds.length ≤ 9223372036854775807) (hal : acts.length ≤ 9223372036854775807) (ha64 : OkAcs acts) (hcll : cells.length ≤ 9223372036854775807) :
    Spec Tryz.prog 3 [.agg [dv, mv, vI le, vI sc].toArray, .slice aa acts.length ac, .slice ca cells.length cc] h L (fun K => ∀ h', Hle h h' → K (.bool true) h' L) := by
  obtain ⟨C, hC⟩ : ∃ C : Cat, C = ⟨ds.map Dm.pure, ms, le, sc⟩ := ⟨_, rfl⟩
  refine spec_enter Tryz.func3 rfl Tryz.ntmps3 Tryz.results3 (by simp) fun K R hT => ?_
  repeat (first | refine Step.imp ?_ | refine Side.mk (by first | exact True.intro | omega | exact ⟨trivial, rfl⟩ | exact ⟨by omega, trivial, rfl⟩ | exact ⟨by omega, rfl⟩ | exact ⟨by omega, by omega, rfl⟩ | (simp only [List.length_cons, List.length_nil, List.length_append]; done) | (simp only [List.length_cons, List.length_nil, List.length_append]; omega) | decide +kernel) ?_ | refine GDraw_one (by decide +kernel) ?_ | refine New.mk fun _ => ?_ | refine NewS.mk fun _ _ => ?_)
  rw [← hC]
  refine ⟨fun hno h1 le1 => ?_, fun ok h1 sb b rb qb le1 => ?_⟩
  · repeat (first | refine Step.imp ?_ | refine Side.mk (by first | exact True.intro | omega | exact ⟨trivial, rfl⟩ | exact ⟨by omega, trivial, rfl⟩ | exact ⟨by omega, rfl⟩ | exact ⟨by omega, by omega, rfl⟩ | (simp only [List.length_cons, List.length_nil, List.length_append]; done) | (simp only [List.length_cons, List.length_nil, List.length_append]; omega) | decide +kernel) ?_ | refine GDraw_one (by decide +kernel) ?_ | refine New.mk fun _ => ?_ | refine NewS.mk fun _ _ => ?_)
    intro h2 le2
    have hle := le1.le.trans le2.le
    repeat (first | refine Step.imp ?_ | refine Side.mk (by first | exact True.intro | omega | exact ⟨trivial, rfl⟩ | exact ⟨by omega, trivial, rfl⟩ | exact ⟨by omega, rfl⟩ | exact ⟨by omega, by omega, rfl⟩ | (simp only [List.length_cons, List.length_nil, List.length_append]; done) | (simp only [List.length_cons, List.length_nil, List.length_append]; omega) | decide +kernel) ?_ | refine GDraw_one (by decide +kernel) ?_ | refine New.mk fun _ => ?_ | refine NewS.mk fun _ _ => ?_)
    exact Fin.val (hT h2 hle) rfl hle
  have hds : ds.length = C.dims.length := by rw [hC]; exact (List.length_map ..).symm
  rw [hds]
  obtain ⟨V0, hV0⟩ : ∃ V, V = List.replicate (leavesF C C.dims.length).toNat (0 : Int) := ⟨_, rfl⟩
  rw [← hV0]
  have hlb := leaves_bound ok.1 C.dims.length (Nat.le_refl _)
  have hlv := ok.1.leaves
  have hV0l : V0.length = (leavesF C C.dims.length).toNat := by rw [hV0]; exact List.length_replicate
  have hV64 : Ok64 V0 := by rw [hV0]; exact ok64_zero _
  haveI hst := stopB Tryz.prog 0
  repeat (first | refine Step.imp ?_ | refine Side.mk (by first | exact True.intro | omega | exact ⟨trivial, rfl⟩ | exact ⟨by omega, trivial, rfl⟩ | exact ⟨by omega, rfl⟩ | exact ⟨by omega, by omega, rfl⟩ | (simp only [List.length_cons, List.length_nil, List.length_append]; done) | (simp only [List.length_cons, List.length_nil, List.length_append]; omega) | decide +kernel) ?_ | refine GDraw_one (by decide +kernel) ?_ | refine New.mk fun _ => ?_ | refine NewS.mk fun _ _ => ?_)
  refine StopB.go ?_
  clear hst
  refine G_mid (σ := Nat × PHeap) (fun s => s.1 ≤ acts.length ∧ Hle h1 s.2) (fun s => [(8, .pointer (some ⟨qb, 0, none⟩)), (7, .pointer (some ⟨b, 0, none⟩)), (0 + 1 + 1, .slice ca cells.length cc)]) (fun s => s.2) (fun s => rsp h1 rb C false :: rrH qb rb (playTo V0 acts s.1) :: rollH s.2 b sb C (playTo V0 acts s.1) :: (L ++ R)) ?_ ?_
  · repeat (first | refine Step.imp ?_ | refine Side.mk (by first | exact True.intro | omega | exact ⟨trivial, rfl⟩ | exact ⟨by omega, trivial, rfl⟩ | exact ⟨by omega, rfl⟩ | exact ⟨by omega, by omega, rfl⟩ | (simp only [List.length_cons, List.length_nil, List.length_append]; done) | (simp only [List.length_cons, List.length_nil, List.length_append]; omega) | decide +kernel) ?_ | refine GDraw_one (by decide +kernel) ?_ | refine New.mk fun _ => ?_ | refine NewS.mk fun _ _ => ?_)
    refine G_loop (σ := Nat × PHeap) (fun s => s.1 ≤ acts.length ∧ s.1 ≤ 60 ∧ Hle h1 s.2) (fun s => acts.length - s.1) (fun s => [(10, vI s.1), (8, .pointer (some ⟨qb, 0, none⟩)), (7, .pointer (some ⟨b, 0, none⟩)), (0 + 1, .slice aa acts.length ac), (0 + 1 + 1, .slice ca cells.length cc)]) (fun s => s.2)
      (fun s => rsp h1 rb C false :: rrH qb rb (playTo V0 acts s.1) :: rollH s.2 b sb C (playTo V0 acts s.1) :: (L ++ R)) (0, h1) ⟨by omega, by omega, Hle.refl h1⟩ ⟨rfl, rfl, rfl, rfl, rfl, trivial⟩ rfl (by show Sub _ (rsp h1 rb C false :: rrH qb rb V0 :: rollH h1 b sb C V0 :: (L ++ R)); infer_instance) ?_
    rintro ⟨k, h2⟩ ⟨hk, hk60, hl1⟩
    simp only at hk hk60 hl1 ⊢
    haveI : LeT h2 h2 := ⟨Hle.refl h2⟩
    haveI : LeT h1 h2 := ⟨hl1⟩
    haveI : FSl h2 (.slice aa acts.length ac) encAc 2 acts := FSl.mono (le1.le.trans hl1) hac
    by_cases hlt : k < acts.length ∧ k < 60
    · have h64 := ha64 k hlt.1
      have hq := playTo_len V0 acts k
      haveI : Known ((k : Int) < acts.length) := ⟨by omega⟩
      haveI : Known ((k : Int) < 60) := ⟨by omega⟩
      repeat (first | refine Step.imp ?_ | refine Side.mk (by first | exact True.intro | omega | exact ⟨trivial, rfl⟩ | exact ⟨by omega, trivial, rfl⟩ | exact ⟨by omega, rfl⟩ | exact ⟨by omega, by omega, rfl⟩ | (simp only [List.length_cons, List.length_nil, List.length_append]; done) | (simp only [List.length_cons, List.length_nil, List.length_append]; omega) | decide +kernel) ?_ | refine GDraw_0 (by decide +kernel) ?_ | refine New.mk fun _ => ?_ | refine NewS.mk fun _ _ => ?_)
      intro h3 le3
      have hl3 := hl1.trans le3.le
      haveI : LeT h1 h3 := ⟨hl3⟩
      refine ⟨fun hno => ?_, fun hin => ?_⟩
      · have hp : playTo V0 acts (k + 1) = playTo V0 acts k := if_neg hno
        repeat (first | refine Step.imp ?_ | refine Side.mk (by first | exact True.intro | omega | exact ⟨trivial, rfl⟩ | exact ⟨by omega, trivial, rfl⟩ | exact ⟨by omega, rfl⟩ | exact ⟨by omega, by omega, rfl⟩ | (simp only [List.length_cons, List.length_nil, List.length_append]; done) | (simp only [List.length_cons, List.length_nil, List.length_append]; omega) | decide +kernel) ?_ | refine GDraw_0 (by decide +kernel) ?_ | refine New.mk fun _ => ?_ | refine NewS.mk fun _ _ => ?_)
        refine ⟨fun _ => ?_, fun hin => absurd hin hno⟩
        repeat' (first | refine Step.imp ?_ | refine Side.mk (by first | exact True.intro | omega | exact ⟨trivial, rfl⟩ | exact ⟨by omega, trivial, rfl⟩ | exact ⟨by omega, rfl⟩ | exact ⟨by omega, by omega, rfl⟩ | (simp only [List.length_cons, List.length_nil, List.length_append]; done) | (simp only [List.length_cons, List.length_nil, List.length_append]; omega) | decide +kernel) ?_ | refine GDraw_0 (by decide +kernel) ?_ | refine New.mk fun _ => ?_ | refine NewS.mk fun _ _ => ?_ | refine Ways.mk (fun _ => ?_) (fun _ => ?_))
        all_goals first | (exfalso; contradiction) | skip
        refine X_round (k + 1, h3) ⟨by show k + 1 ≤ _; omega, by show k + 1 ≤ _; omega, hl3⟩ (by show acts.length - (k + 1) < acts.length - k; omega) ⟨rfl, rfl, rfl, rfl, rfl, trivial⟩ rfl (by show Sub _ (rsp h1 rb C false :: rrH qb rb (playTo V0 acts (k + 1)) :: rollH h3 b sb C (playTo V0 acts (k + 1)) :: (L ++ R)); rw [hp]; infer_instance)
      · have hp : playTo V0 acts (k + 1) = (playTo V0 acts k).set (acts[k]!).code.toNat (acts[k]!).n := if_pos hin
        have hq2 := playTo_len V0 acts (k + 1)
        rw [← hp]
        repeat (first | refine Step.imp ?_ | refine Side.mk (by first | exact True.intro | omega | exact ⟨trivial, rfl⟩ | exact ⟨by omega, trivial, rfl⟩ | exact ⟨by omega, rfl⟩ | exact ⟨by omega, by omega, rfl⟩ | (simp only [List.length_cons, List.length_nil, List.length_append]; done) | (simp only [List.length_cons, List.length_nil, List.length_append]; omega) | decide +kernel) ?_ | refine GDraw_0 (by decide +kernel) ?_ | refine New.mk fun _ => ?_ | refine NewS.mk fun _ _ => ?_)
        refine ⟨fun hno => absurd hin hno, fun _ => ?_⟩
        rw [← hp]
        repeat' (first | refine Step.imp ?_ | refine Side.mk (by first | exact True.intro | omega | exact ⟨trivial, rfl⟩ | exact ⟨by omega, trivial, rfl⟩ | exact ⟨by omega, rfl⟩ | exact ⟨by omega, by omega, rfl⟩ | (simp only [List.length_cons, List.length_nil, List.length_append]; done) | (simp only [List.length_cons, List.length_nil, List.length_append]; omega) | decide +kernel) ?_ | refine GDraw_0 (by decide +kernel) ?_ | refine New.mk fun _ => ?_ | refine NewS.mk fun _ _ => ?_ | refine Ways.mk (fun _ => ?_) (fun _ => ?_))
        all_goals first | (exfalso; contradiction) | skip
        refine X_round (k + 1, h3) ⟨by show k + 1 ≤ _; omega, by show k + 1 ≤ _; omega, hl3⟩ (by show acts.length - (k + 1) < acts.length - k; omega) ⟨rfl, rfl, rfl, rfl, rfl, trivial⟩ rfl (by show Sub _ (rsp h1 rb C false :: rrH qb rb (playTo V0 acts (k + 1)) :: rollH h3 b sb C (playTo V0 acts (k + 1)) :: (L ++ R)); infer_instance)
    · repeat' (first | refine Step.imp ?_ | refine Side.mk (by first | exact True.intro | omega | exact ⟨trivial, rfl⟩ | exact ⟨by omega, trivial, rfl⟩ | exact ⟨by omega, rfl⟩ | exact ⟨by omega, by omega, rfl⟩ | (simp only [List.length_cons, List.length_nil, List.length_append]; done) | (simp only [List.length_cons, List.length_nil, List.length_append]; omega) | decide +kernel) ?_ | refine GDraw_0 (by decide +kernel) ?_ | refine New.mk fun _ => ?_ | refine NewS.mk fun _ _ => ?_ | refine Ways.mk (fun _ => ?_) (fun _ => ?_))
      all_goals first | (exfalso; omega) | skip
      all_goals exact X_mid (k, h2) ⟨hk, hl1⟩ ⟨rfl, rfl, rfl, trivial⟩ rfl inferInstance
  rintro ⟨k, h2⟩ ⟨hk, hl1⟩
  simp only at hk hl1 ⊢
  haveI : LeT h2 h2 := ⟨Hle.refl h2⟩
  haveI : LeT h1 h2 := ⟨hl1⟩
  haveI : FSl h2 (.slice ca cells.length cc) encCl 5 cells := FSl.mono (le1.le.trans hl1) hcl
  obtain ⟨V, hV⟩ : ∃ V, V = playTo V0 acts k := ⟨_, rfl⟩
  have hVl : V.length = (leavesF C C.dims.length).toNat := by rw [hV, playTo_len, hV0l]
  have hVq : Ok64 V := by rw [hV]; exact playTo_64 hV64 ha64 k hk
  rw [← hV]
  have hle2 := le1.le.trans hl1
  clear hV hd hm hac
  refine X_rr qb fun ea ec => ?_
  repeat (first | refine Step.imp ?_ | refine Side.mk (by first | exact True.intro | omega | exact ⟨trivial, rfl⟩ | exact ⟨by omega, trivial, rfl⟩ | exact ⟨by omega, rfl⟩ | exact ⟨by omega, by omega, rfl⟩ | (simp only [List.length_cons, List.length_nil, List.length_append]; done) | (simp only [List.length_cons, List.length_nil, List.length_append]; omega) | decide +kernel) ?_ | refine GDraw_one (by decide +kernel) ?_ | refine New.mk fun _ => ?_ | refine NewS.mk fun _ _ => ?_)
  refine G_loopE (σ := Int) (fun i => -1 ≤ i ∧ i ≤ V.length + 1) (fun i => ((V.length : Int) + 1 - i).toNat) (fun i => [(11, vI i), (8, .pointer (some ⟨qb, 0, none⟩)), (7, .pointer (some ⟨b, 0, none⟩)), (0 + 1 + 1, .slice ca cells.length cc)]) (-1) ⟨by omega, by omega⟩ ⟨rfl, rfl, rfl, rfl, trivial⟩ ?_
  rintro i ⟨hi1, hi2⟩
  repeat (first | refine Step.imp ?_ | refine Side.mk (by first | exact True.intro | omega | exact ⟨trivial, rfl⟩ | exact ⟨by omega, trivial, rfl⟩ | exact ⟨by omega, rfl⟩ | exact ⟨by omega, by omega, rfl⟩ | (simp only [List.length_cons, List.length_nil, List.length_append]; done) | (simp only [List.length_cons, List.length_nil, List.length_append]; omega) | decide +kernel) ?_ | refine GDraw_one (by decide +kernel) ?_ | refine New.mk fun _ => ?_ | refine NewS.mk fun _ _ => ?_)
  refine ⟨fun hle => ?_, fun hgt => ?_⟩
  · repeat (first | refine Step.imp ?_ | refine Side.mk (by first | exact True.intro | omega | exact ⟨trivial, rfl⟩ | exact ⟨by omega, trivial, rfl⟩ | exact ⟨by omega, rfl⟩ | exact ⟨by omega, by omega, rfl⟩ | (simp only [List.length_cons, List.length_nil, List.length_append]; done) | (simp only [List.length_cons, List.length_nil, List.length_append]; omega) | decide +kernel) ?_ | refine GDraw_one (by decide +kernel) ?_ | refine New.mk fun _ => ?_ | refine NewS.mk fun _ _ => ?_)
    refine ⟨fun hno => ?_, fun hin => ?_⟩
    · repeat' (first | refine Step.imp ?_ | refine Side.mk (by first | exact True.intro | omega | exact ⟨trivial, rfl⟩ | exact ⟨by omega, trivial, rfl⟩ | exact ⟨by omega, rfl⟩ | exact ⟨by omega, by omega, rfl⟩ | (simp only [List.length_cons, List.length_nil, List.length_append]; done) | (simp only [List.length_cons, List.length_nil, List.length_append]; omega) | decide +kernel) ?_ | refine GDraw_one (by decide +kernel) ?_ | refine New.mk fun _ => ?_ | refine NewS.mk fun _ _ => ?_ | refine Ways.mk (fun _ => ?_) (fun _ => ?_))
      all_goals first | (exfalso; contradiction) | (exfalso; omega) | exact X_roundE (i + 1) ⟨by omega, by omega⟩ (by omega) ⟨rfl, rfl, rfl, rfl, trivial⟩ inferInstance
    · repeat' (first | refine Step.imp ?_ | refine Side.mk (by first | exact True.intro | omega | exact ⟨trivial, rfl⟩ | exact ⟨by omega, trivial, rfl⟩ | exact ⟨by omega, rfl⟩ | exact ⟨by omega, by omega, rfl⟩ | (simp only [List.length_cons, List.length_nil, List.length_append]; done) | (simp only [List.length_cons, List.length_nil, List.length_append]; omega) | decide +kernel) ?_ | refine GDraw_one (by decide +kernel) ?_ | refine New.mk fun _ => ?_ | refine NewS.mk fun _ _ => ?_ | refine Ways.mk (fun _ => ?_) (fun _ => ?_))
      all_goals first | (exfalso; contradiction) | (exfalso; omega) | exact X_roundE (i + 1) ⟨by omega, by omega⟩ (by omega) ⟨rfl, rfl, rfl, rfl, trivial⟩ inferInstance
  haveI hst := stopB Tryz.prog 4
  repeat (first | refine Step.imp ?_ | refine Side.mk (by first | exact True.intro | omega | exact ⟨trivial, rfl⟩ | exact ⟨by omega, trivial, rfl⟩ | exact ⟨by omega, rfl⟩ | exact ⟨by omega, by omega, rfl⟩ | (simp only [List.length_cons, List.length_nil, List.length_append]; done) | (simp only [List.length_cons, List.length_nil, List.length_append]; omega) | decide +kernel) ?_ | refine GDraw_one (by decide +kernel) ?_ | refine New.mk fun _ => ?_ | refine NewS.mk fun _ _ => ?_)
  refine StopB.go ?_
  clear hst
  refine G_rrIn qb ?_
  refine G_conv (x := rsp h1 rb C false) (y := rsp h2 rb C false) (rsp_mono hl1) ?_
  repeat (first | refine Step.imp ?_ | refine Side.mk (by first | exact True.intro | omega | exact ⟨trivial, rfl⟩ | exact ⟨by omega, trivial, rfl⟩ | exact ⟨by omega, rfl⟩ | exact ⟨by omega, by omega, rfl⟩ | (simp only [List.length_cons, List.length_nil, List.length_append]; done) | (simp only [List.length_cons, List.length_nil, List.length_append]; omega) | decide +kernel) ?_ | refine GDraw_one (by decide +kernel) ?_ | refine New.mk fun _ => ?_ | refine NewS.mk fun _ _ => ?_)
  refine G_loop (σ := Nat × PHeap) (fun s => s.1 ≤ cells.length ∧ Hle h2 s.2) (fun s => cells.length - s.1) (fun s => [(14, vI s.1), (8, .pointer (some ⟨qb, 0, none⟩)), (7, .pointer (some ⟨b, 0, none⟩)), (0 + 1 + 1, .slice ca cells.length cc)]) (fun s => s.2)
    (fun s => rsp s.2 rb C false :: rrH qb rb V :: rollH s.2 b sb C V :: (L ++ R)) (0, h2) ⟨by omega, Hle.refl h2⟩ ⟨rfl, rfl, rfl, rfl, trivial⟩ rfl inferInstance ?_
  rintro ⟨j, h3⟩ ⟨hj, hl2⟩
  simp only at hj hl2 ⊢
  haveI : LeT h3 h3 := ⟨Hle.refl h3⟩
  haveI : LeT h2 h3 := ⟨hl2⟩
  haveI : FSl h3 (.slice ca cells.length cc) encCl 5 cells := FSl.mono hl2 ‹_›
  by_cases hlt : j < cells.length ∧ j < 20
  · haveI : Known ((j : Int) < cells.length) := ⟨by omega⟩
    haveI : Known ((j : Int) < 20) := ⟨by omega⟩
    repeat (first | refine Step.imp ?_ | refine Side.mk (by first | exact True.intro | omega | exact ⟨trivial, rfl⟩ | exact ⟨by omega, trivial, rfl⟩ | exact ⟨by omega, rfl⟩ | exact ⟨by omega, by omega, rfl⟩ | (simp only [List.length_cons, List.length_nil, List.length_append]; done) | (simp only [List.length_cons, List.length_nil, List.length_append]; omega) | decide +kernel) ?_ | refine GDraw_one (by decide +kernel) ?_ | refine New.mk fun _ => ?_ | refine NewS.mk fun _ _ => ?_)
    refine ⟨fun hno => ?_, fun hin => ?_⟩
    · repeat (first | refine Step.imp ?_ | refine Side.mk (by first | exact True.intro | omega | exact ⟨trivial, rfl⟩ | exact ⟨by omega, trivial, rfl⟩ | exact ⟨by omega, rfl⟩ | exact ⟨by omega, by omega, rfl⟩ | (simp only [List.length_cons, List.length_nil, List.length_append]; done) | (simp only [List.length_cons, List.length_nil, List.length_append]; omega) | decide +kernel) ?_ | refine GDraw_one (by decide +kernel) ?_ | refine New.mk fun _ => ?_ | refine NewS.mk fun _ _ => ?_)
      refine Side.mk ⟨hVl, hVq⟩ ?_
      intro h4 le4
      refine ⟨fun _ => ?_, fun hin => absurd hin hno⟩
      repeat' (first | refine Step.imp ?_ | refine Side.mk (by first | exact True.intro | omega | exact ⟨trivial, rfl⟩ | exact ⟨by omega, trivial, rfl⟩ | exact ⟨by omega, rfl⟩ | exact ⟨by omega, by omega, rfl⟩ | (simp only [List.length_cons, List.length_nil, List.length_append]; done) | (simp only [List.length_cons, List.length_nil, List.length_append]; omega) | decide +kernel) ?_ | refine GDraw_one (by decide +kernel) ?_ | refine New.mk fun _ => ?_ | refine NewS.mk fun _ _ => ?_ | refine Ways.mk (fun _ => ?_) (fun _ => ?_))
      all_goals first | (exfalso; contradiction) | skip
      refine X_conv (x := rollH h3 b sb C V) (y := rollH h4 b sb C V) (rollH_mono le4.le) ?_
      exact X_round (j + 1, h4) ⟨by show j + 1 ≤ _; omega, hl2.trans le4.le⟩ (by show cells.length - (j + 1) < cells.length - j; omega) ⟨rfl, rfl, rfl, rfl, trivial⟩ rfl inferInstance
    · repeat (first | refine Step.imp ?_ | refine Side.mk (by first | exact True.intro | omega | exact ⟨trivial, rfl⟩ | exact ⟨by omega, trivial, rfl⟩ | exact ⟨by omega, rfl⟩ | exact ⟨by omega, by omega, rfl⟩ | (simp only [List.length_cons, List.length_nil, List.length_append]; done) | (simp only [List.length_cons, List.length_nil, List.length_append]; omega) | decide +kernel) ?_ | refine GDraw_one (by decide +kernel) ?_ | refine New.mk fun _ => ?_ | refine NewS.mk fun _ _ => ?_)
      refine Side.mk ⟨hVl, hVq⟩ ?_
      intro h4 le4
      refine ⟨fun hno => absurd hin hno, fun _ => ?_⟩
      repeat' (first | refine Step.imp ?_ | refine Side.mk (by first | exact True.intro | omega | exact ⟨trivial, rfl⟩ | exact ⟨by omega, trivial, rfl⟩ | exact ⟨by omega, rfl⟩ | exact ⟨by omega, by omega, rfl⟩ | (simp only [List.length_cons, List.length_nil, List.length_append]; done) | (simp only [List.length_cons, List.length_nil, List.length_append]; omega) | decide +kernel) ?_ | refine GDraw_one (by decide +kernel) ?_ | refine New.mk fun _ => ?_ | refine NewS.mk fun _ _ => ?_ | refine Ways.mk (fun _ => ?_) (fun _ => ?_))
      all_goals first | (exfalso; contradiction) | skip
      refine X_conv (x := rollH h3 b sb C V) (y := rollH h4 b sb C V) (rollH_mono le4.le) ?_
      exact X_round (j + 1, h4) ⟨by show j + 1 ≤ _; omega, hl2.trans le4.le⟩ (by show cells.length - (j + 1) < cells.length - j; omega) ⟨rfl, rfl, rfl, rfl, trivial⟩ rfl inferInstance
  · repeat' (first | refine Step.imp ?_ | refine Side.mk (by first | exact True.intro | omega | exact ⟨trivial, rfl⟩ | exact ⟨by omega, trivial, rfl⟩ | exact ⟨by omega, rfl⟩ | exact ⟨by omega, by omega, rfl⟩ | (simp only [List.length_cons, List.length_nil, List.length_append]; done) | (simp only [List.length_cons, List.length_nil, List.length_append]; omega) | decide +kernel) ?_ | refine GDraw_one (by decide +kernel) ?_ | refine New.mk fun _ => ?_ | refine NewS.mk fun _ _ => ?_ | refine Ways.mk (fun _ => ?_) (fun _ => ?_))
    all_goals first | (exfalso; omega) | skip
    all_goals
      intro h4 le4
      have hle4 := hle2.trans (hl2.trans le4.le)
    all_goals repeat (first | refine Step.imp ?_ | refine Side.mk (by first | exact True.intro | omega | exact ⟨trivial, rfl⟩ | exact ⟨by omega, trivial, rfl⟩ | exact ⟨by omega, rfl⟩ | exact ⟨by omega, by omega, rfl⟩ | (simp only [List.length_cons, List.length_nil, List.length_append]; done) | (simp only [List.length_cons, List.length_nil, List.length_append]; omega) | decide +kernel) ?_ | refine GDraw_one (by decide +kernel) ?_ | refine New.mk fun _ => ?_ | refine NewS.mk fun _ _ => ?_)
    all_goals exact Fin.val (hT h4 hle4) rfl hle4
end
end Go.Sl
