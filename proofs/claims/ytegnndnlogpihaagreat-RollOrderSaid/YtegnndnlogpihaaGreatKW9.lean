/-
  Facts that the proof is made of (W9).
-/
import Derived.Test.YtegnndnlogpihaaGreatKW6
/-
  The law RollOrder, walked.
-/
namespace Go.Sl
open Go.Proofs
set_option linter.unusedVariables false
set_option linter.unusedSimpArgs false
set_option maxRecDepth 10000
set_option synthInstance.maxSize 2000
set_option synthInstance.maxHeartbeats 200000
set_option maxHeartbeats 1000000
theorem FirstB.eq2 {S : List Int} {i j : Nat} (a : FirstB S i) (b : FirstB S j) : i = j := by
  rcases Nat.lt_trichotomy i j with h | h | h
  · exact absurd (b.2.2 i h) a.2.1
  · exact h
  · exact absurd (a.2.2 j h) b.2.1
section
variable {h : PHeap} {dv mv : Value} {le sc : Int} {ds : List Dm} {ms : List ByteArray}
theorem walk_RollOrder {L : List HP} {aa : Option Addr} {ac : Nat} {acts : List Ac} [hd : IsDims h dv ds] [hm : FSl h mv encS 1 ms] [hac : FSl h (.slice aa acts.length ac) encAc 2 acts] (hdl : ds.length ≤ 9223372036854775807) (hal : acts.length ≤ 9223372036854775807) (ha64 : OkAcs acts) :
    Spec Tryz.prog 6 [.agg [dv, mv, vI le, vI sc].toArray, .slice aa acts.length ac] h L (fun K => ∀ h', Hle h h' → K (.bool true) h' L) := by
  obtain ⟨C, hC⟩ : ∃ C : Cat, C = ⟨ds.map Dm.pure, ms, le, sc⟩ := ⟨_, rfl⟩
  refine spec_enter Tryz.func6 rfl Tryz.ntmps6 Tryz.results6 (by simp) fun K R hT => ?_
  repeat (first | refine Step.imp ?_ | refine Side.mk (by first | exact True.intro | omega | exact ⟨trivial, rfl⟩ | exact ⟨by omega, trivial, rfl⟩ | exact ⟨by omega, rfl⟩ | exact ⟨by omega, by omega, rfl⟩ | (simp only [List.length_cons, List.length_nil, List.length_append]; done) | (simp only [List.length_cons, List.length_nil, List.length_append]; omega) | decide +kernel) ?_ | refine GDraw_one (by decide +kernel) ?_ | refine New.mk fun _ => ?_ | refine NewS.mk fun _ _ => ?_)
  rw [← hC]
  refine ⟨fun hno h1 le1 => ?_, fun ok h1 sb b rb qb le1 => ?_⟩
  · haveI := hd.mono le1.le
    repeat (first | refine Step.imp ?_ | refine Side.mk (by first | exact True.intro | omega | exact ⟨trivial, rfl⟩ | exact ⟨by omega, trivial, rfl⟩ | exact ⟨by omega, rfl⟩ | exact ⟨by omega, by omega, rfl⟩ | (simp only [List.length_cons, List.length_nil, List.length_append]; done) | (simp only [List.length_cons, List.length_nil, List.length_append]; omega) | decide +kernel) ?_ | refine GDraw_one (by decide +kernel) ?_ | refine New.mk fun _ => ?_ | refine NewS.mk fun _ _ => ?_)
    rw [← hC]
    refine ⟨fun _ h2 le2 => ?_, fun ok => absurd ok hno⟩
    repeat (first | refine Step.imp ?_ | refine Side.mk (by first | exact True.intro | omega | exact ⟨trivial, rfl⟩ | exact ⟨by omega, trivial, rfl⟩ | exact ⟨by omega, rfl⟩ | exact ⟨by omega, by omega, rfl⟩ | (simp only [List.length_cons, List.length_nil, List.length_append]; done) | (simp only [List.length_cons, List.length_nil, List.length_append]; omega) | decide +kernel) ?_ | refine GDraw_one (by decide +kernel) ?_ | refine New.mk fun _ => ?_ | refine NewS.mk fun _ _ => ?_)
    intro h3 le3
    have hle := le1.le.trans (le2.le.trans le3.le)
    repeat (first | refine Step.imp ?_ | refine Side.mk (by first | exact True.intro | omega | exact ⟨trivial, rfl⟩ | exact ⟨by omega, trivial, rfl⟩ | exact ⟨by omega, rfl⟩ | exact ⟨by omega, by omega, rfl⟩ | (simp only [List.length_cons, List.length_nil, List.length_append]; done) | (simp only [List.length_cons, List.length_nil, List.length_append]; omega) | decide +kernel) ?_ | refine GDraw_one (by decide +kernel) ?_ | refine New.mk fun _ => ?_ | refine NewS.mk fun _ _ => ?_)
    exact Fin.val (hT h3 hle) rfl hle
  have hds : ds.length = C.dims.length := by rw [hC]; exact (List.length_map ..).symm
  obtain ⟨V0, hV0⟩ : ∃ V, V = List.replicate (leavesF C C.dims.length).toNat (0 : Int) := ⟨_, rfl⟩
  rw [hds, ← hV0]
  haveI := hd.mono le1.le
  repeat (first | refine Step.imp ?_ | refine Side.mk (by first | exact True.intro | omega | exact ⟨trivial, rfl⟩ | exact ⟨by omega, trivial, rfl⟩ | exact ⟨by omega, rfl⟩ | exact ⟨by omega, by omega, rfl⟩ | (simp only [List.length_cons, List.length_nil, List.length_append]; done) | (simp only [List.length_cons, List.length_nil, List.length_append]; omega) | decide +kernel) ?_ | refine GDraw_one (by decide +kernel) ?_ | refine New.mk fun _ => ?_ | refine NewS.mk fun _ _ => ?_)
  rw [← hC]
  refine ⟨fun hno => absurd ok hno, fun _ h2 sb' b' rb' qb' le2 => ?_⟩
  rw [hds, ← hV0]
  have hlb := leaves_bound ok.1 C.dims.length (Nat.le_refl _)
  have hlv := ok.1.leaves
  have hV0l : V0.length = (leavesF C C.dims.length).toNat := by rw [hV0]; exact List.length_replicate
  have hV64 : Ok64 V0 := by rw [hV0]; exact ok64_zero _
  haveI hst := stopB Tryz.prog 0
  haveI : LeT h2 h2 := ⟨Hle.refl h2⟩
  haveI : LeT h1 h2 := ⟨le2.le⟩
  repeat (first | refine Step.imp ?_ | refine Side.mk (by first | exact True.intro | omega | exact ⟨trivial, rfl⟩ | exact ⟨by omega, trivial, rfl⟩ | exact ⟨by omega, rfl⟩ | exact ⟨by omega, by omega, rfl⟩ | (simp only [List.length_cons, List.length_nil, List.length_append]; done) | (simp only [List.length_cons, List.length_nil, List.length_append]; omega) | decide +kernel) ?_ | refine GDraw_one (by decide +kernel) ?_ | refine New.mk fun _ => ?_ | refine NewS.mk fun _ _ => ?_)
  refine StopB.go ?_
  clear hst
  refine G_mid (σ := Nat × PHeap) (fun s => s.1 ≤ acts.length ∧ Hle h2 s.2) (fun s => [(6, .pointer (some ⟨qb, 0, none⟩)), (5, .pointer (some ⟨b, 0, none⟩)), (8, .pointer (some ⟨b', 0, none⟩))]) (fun s => s.2) (fun s => rrH qb rb (playTo V0 acts s.1) :: rollH s.2 b sb C (playTo V0 acts s.1) :: rollH h2 b' sb' C V0 :: (L ++ R)) ?_ ?_
  · refine G_conv (x := rollH h1 b sb C V0) (y := rollH h2 b sb C V0) (rollH_mono le2.le) ?_
    repeat (first | refine Step.imp ?_ | refine Side.mk (by first | exact True.intro | omega | exact ⟨trivial, rfl⟩ | exact ⟨by omega, trivial, rfl⟩ | exact ⟨by omega, rfl⟩ | exact ⟨by omega, by omega, rfl⟩ | (simp only [List.length_cons, List.length_nil, List.length_append]; done) | (simp only [List.length_cons, List.length_nil, List.length_append]; omega) | decide +kernel) ?_ | refine GDraw_one (by decide +kernel) ?_ | refine New.mk fun _ => ?_ | refine NewS.mk fun _ _ => ?_)
    refine G_loop (σ := Nat × PHeap) (fun s => s.1 ≤ acts.length ∧ s.1 ≤ 60 ∧ Hle h2 s.2) (fun s => acts.length - s.1) (fun s => [(11, vI s.1), (6, .pointer (some ⟨qb, 0, none⟩)), (5, .pointer (some ⟨b, 0, none⟩)), (8, .pointer (some ⟨b', 0, none⟩)), (0 + 1, .slice aa acts.length ac)]) (fun s => s.2)
      (fun s => rrH qb rb (playTo V0 acts s.1) :: rollH s.2 b sb C (playTo V0 acts s.1) :: rollH h2 b' sb' C V0 :: (L ++ R)) (0, h2) ⟨by omega, by omega, Hle.refl h2⟩ ⟨rfl, rfl, rfl, rfl, rfl, trivial⟩ rfl (by show Sub _ (rrH qb rb V0 :: rollH h2 b sb C V0 :: rollH h2 b' sb' C V0 :: (L ++ R)); infer_instance) ?_
    rintro ⟨k, h3⟩ ⟨hk, hk60, hl1⟩
    simp only at hk hk60 hl1 ⊢
    haveI : LeT h3 h3 := ⟨Hle.refl h3⟩
    haveI : LeT h2 h3 := ⟨hl1⟩
    haveI : FSl h3 (.slice aa acts.length ac) encAc 2 acts := FSl.mono (le1.le.trans (le2.le.trans hl1)) hac
    by_cases hlt : k < acts.length ∧ k < 60
    · have h64 := ha64 k hlt.1
      have hq := playTo_len V0 acts k
      haveI : Known ((k : Int) < acts.length) := ⟨by omega⟩
      haveI : Known ((k : Int) < 60) := ⟨by omega⟩
      repeat (first | refine Step.imp ?_ | refine Side.mk (by first | exact True.intro | omega | exact ⟨trivial, rfl⟩ | exact ⟨by omega, trivial, rfl⟩ | exact ⟨by omega, rfl⟩ | exact ⟨by omega, by omega, rfl⟩ | (simp only [List.length_cons, List.length_nil, List.length_append]; done) | (simp only [List.length_cons, List.length_nil, List.length_append]; omega) | decide +kernel) ?_ | refine GDraw_0 (by decide +kernel) ?_ | refine New.mk fun _ => ?_ | refine NewS.mk fun _ _ => ?_)
      intro h4 le4
      have hl4 := hl1.trans le4.le
      haveI : LeT h2 h4 := ⟨hl4⟩
      refine ⟨fun hno => ?_, fun hin => ?_⟩
      · have hp : playTo V0 acts (k + 1) = playTo V0 acts k := if_neg hno
        repeat (first | refine Step.imp ?_ | refine Side.mk (by first | exact True.intro | omega | exact ⟨trivial, rfl⟩ | exact ⟨by omega, trivial, rfl⟩ | exact ⟨by omega, rfl⟩ | exact ⟨by omega, by omega, rfl⟩ | (simp only [List.length_cons, List.length_nil, List.length_append]; done) | (simp only [List.length_cons, List.length_nil, List.length_append]; omega) | decide +kernel) ?_ | refine GDraw_0 (by decide +kernel) ?_ | refine New.mk fun _ => ?_ | refine NewS.mk fun _ _ => ?_)
        refine ⟨fun _ => ?_, fun hin => absurd hin hno⟩
        repeat (first | refine Step.imp ?_ | refine Side.mk (by first | exact True.intro | omega | exact ⟨trivial, rfl⟩ | exact ⟨by omega, trivial, rfl⟩ | exact ⟨by omega, rfl⟩ | exact ⟨by omega, by omega, rfl⟩ | (simp only [List.length_cons, List.length_nil, List.length_append]; done) | (simp only [List.length_cons, List.length_nil, List.length_append]; omega) | decide +kernel) ?_ | refine GDraw_0 (by decide +kernel) ?_ | refine New.mk fun _ => ?_ | refine NewS.mk fun _ _ => ?_)
        refine X_round (k + 1, h4) ⟨by show k + 1 ≤ _; omega, by show k + 1 ≤ _; omega, hl4⟩ (by show acts.length - (k + 1) < acts.length - k; omega) ⟨rfl, rfl, rfl, rfl, rfl, trivial⟩ rfl (by show Sub _ (rrH qb rb (playTo V0 acts (k + 1)) :: rollH h4 b sb C (playTo V0 acts (k + 1)) :: rollH h2 b' sb' C V0 :: (L ++ R)); rw [hp]; infer_instance)
      · have hp : playTo V0 acts (k + 1) = (playTo V0 acts k).set (acts[k]!).code.toNat (acts[k]!).n := if_pos hin
        have hq2 := playTo_len V0 acts (k + 1)
        rw [← hp]
        repeat (first | refine Step.imp ?_ | refine Side.mk (by first | exact True.intro | omega | exact ⟨trivial, rfl⟩ | exact ⟨by omega, trivial, rfl⟩ | exact ⟨by omega, rfl⟩ | exact ⟨by omega, by omega, rfl⟩ | (simp only [List.length_cons, List.length_nil, List.length_append]; done) | (simp only [List.length_cons, List.length_nil, List.length_append]; omega) | decide +kernel) ?_ | refine GDraw_0 (by decide +kernel) ?_ | refine New.mk fun _ => ?_ | refine NewS.mk fun _ _ => ?_)
        refine ⟨fun hno => absurd hin hno, fun _ => ?_⟩
        rw [← hp]
        repeat (first | refine Step.imp ?_ | refine Side.mk (by first | exact True.intro | omega | exact ⟨trivial, rfl⟩ | exact ⟨by omega, trivial, rfl⟩ | exact ⟨by omega, rfl⟩ | exact ⟨by omega, by omega, rfl⟩ | (simp only [List.length_cons, List.length_nil, List.length_append]; done) | (simp only [List.length_cons, List.length_nil, List.length_append]; omega) | decide +kernel) ?_ | refine GDraw_0 (by decide +kernel) ?_ | refine New.mk fun _ => ?_ | refine NewS.mk fun _ _ => ?_)
        refine X_round (k + 1, h4) ⟨by show k + 1 ≤ _; omega, by show k + 1 ≤ _; omega, hl4⟩ (by show acts.length - (k + 1) < acts.length - k; omega) ⟨rfl, rfl, rfl, rfl, rfl, trivial⟩ rfl (by show Sub _ (rrH qb rb (playTo V0 acts (k + 1)) :: rollH h4 b sb C (playTo V0 acts (k + 1)) :: rollH h2 b' sb' C V0 :: (L ++ R)); infer_instance)
    · repeat' (first | refine Step.imp ?_ | refine Side.mk (by first | exact True.intro | omega | exact ⟨trivial, rfl⟩ | exact ⟨by omega, trivial, rfl⟩ | exact ⟨by omega, rfl⟩ | exact ⟨by omega, by omega, rfl⟩ | (simp only [List.length_cons, List.length_nil, List.length_append]; done) | (simp only [List.length_cons, List.length_nil, List.length_append]; omega) | decide +kernel) ?_ | refine GDraw_0 (by decide +kernel) ?_ | refine New.mk fun _ => ?_ | refine NewS.mk fun _ _ => ?_ | refine Ways.mk (fun _ => ?_) (fun _ => ?_))
      all_goals first | (exfalso; omega) | skip
      all_goals exact X_mid (k, h3) ⟨hk, hl1⟩ ⟨rfl, rfl, rfl, trivial⟩ rfl inferInstance
  rintro ⟨k, h3⟩ ⟨hk, hl1⟩
  simp only at hk hl1 ⊢
  haveI : LeT h3 h3 := ⟨Hle.refl h3⟩
  haveI : LeT h2 h3 := ⟨hl1⟩
  obtain ⟨V, hV⟩ : ∃ V, V = playTo V0 acts k := ⟨_, rfl⟩
  have hVl : V.length = V0.length := by rw [hV, playTo_len]
  have hVq : Ok64 V := by rw [hV]; exact playTo_64 hV64 ha64 k hk
  rw [← hV]
  have hle3 := le1.le.trans (le2.le.trans hl1)
  clear hV hd hm hac
  refine X_conv (x := rollH h2 b' sb' C V0) (y := rollH h3 b' sb' C V0) (rollH_mono hl1) ?_
  refine X_rr qb fun ea ec => ?_
  repeat (first | refine Step.imp ?_ | refine Side.mk (by first | exact True.intro | omega | exact ⟨trivial, rfl⟩ | exact ⟨by omega, trivial, rfl⟩ | exact ⟨by omega, rfl⟩ | exact ⟨by omega, by omega, rfl⟩ | (simp only [List.length_cons, List.length_nil, List.length_append]; done) | (simp only [List.length_cons, List.length_nil, List.length_append]; omega) | decide +kernel) ?_ | refine GDraw_one (by decide +kernel) ?_ | refine New.mk fun _ => ?_ | refine NewS.mk fun _ _ => ?_)
  refine G_loop (σ := Nat × PHeap × List Int) (fun s => s.1 ≤ V.length ∧ Hle h3 s.2.1 ∧ s.2.2.length = V.length ∧ ∀ i < V.length, s.1 ≤ i → s.2.2[i]! = V[i]!) (fun s => s.1) (fun s => [(12, vI s.1), (6, .pointer (some ⟨qb, 0, none⟩)), (5, .pointer (some ⟨b, 0, none⟩)), (8, .pointer (some ⟨b', 0, none⟩))]) (fun s => s.2.1)
    (fun s => rrB qb rb (.slice ea V.length ec) :: slo encE 2 (.slice ea V.length ec) V :: rollH h3 b sb C V :: rollH s.2.1 b' sb' C s.2.2 :: (L ++ R)) (V.length, h3, V0) ⟨Nat.le_refl _, Hle.refl h3, hVl.symm, fun i hi hj => by simp only at hj; omega⟩ ⟨rfl, rfl, rfl, rfl, trivial⟩ rfl (by show Sub _ (rrB qb rb (.slice ea V.length ec) :: slo encE 2 (.slice ea V.length ec) V :: rollH h3 b sb C V :: rollH h3 b' sb' C V0 :: (L ++ R)); infer_instance) ?_
  rintro ⟨j, h4, W⟩ ⟨hj, hl4, hWl, hW⟩
  simp only at hj hl4 hWl hW ⊢
  haveI : LeT h4 h4 := ⟨Hle.refl h4⟩
  haveI : LeT h3 h4 := ⟨hl4⟩
  repeat (first | refine Step.imp ?_ | refine Side.mk (by first | exact True.intro | omega | exact ⟨trivial, rfl⟩ | exact ⟨by omega, trivial, rfl⟩ | exact ⟨by omega, rfl⟩ | exact ⟨by omega, by omega, rfl⟩ | (simp only [List.length_cons, List.length_nil, List.length_append]; done) | (simp only [List.length_cons, List.length_nil, List.length_append]; omega) | decide +kernel) ?_ | refine GDraw_one (by decide +kernel) ?_ | refine New.mk fun _ => ?_ | refine NewS.mk fun _ _ => ?_)
  refine ⟨fun hgt => ?_, fun hle => ?_⟩
  · obtain ⟨i, rfl⟩ : ∃ i, j = i + 1 := ⟨j - 1, by omega⟩
    have hvi := hVq i (by omega)
    repeat (first | refine Step.imp ?_ | refine Side.mk (by first | exact True.intro | omega | exact ⟨trivial, rfl⟩ | exact ⟨by omega, trivial, rfl⟩ | exact ⟨by omega, rfl⟩ | exact ⟨by omega, by omega, rfl⟩ | (simp only [List.length_cons, List.length_nil, List.length_append]; done) | (simp only [List.length_cons, List.length_nil, List.length_append]; omega) | decide +kernel) ?_ | refine GDraw_one (by decide +kernel) ?_ | refine New.mk fun _ => ?_ | refine NewS.mk fun _ _ => ?_)
    intro h5 le5
    refine ⟨fun hno => absurd (by omega) hno, fun _ => ?_⟩
    rw [show (((i + 1 : Nat) : Int) - 1).toNat = i by omega]
    repeat (first | refine Step.imp ?_ | refine Side.mk (by first | exact True.intro | omega | exact ⟨trivial, rfl⟩ | exact ⟨by omega, trivial, rfl⟩ | exact ⟨by omega, rfl⟩ | exact ⟨by omega, by omega, rfl⟩ | (simp only [List.length_cons, List.length_nil, List.length_append]; done) | (simp only [List.length_cons, List.length_nil, List.length_append]; omega) | decide +kernel) ?_ | refine GDraw_one (by decide +kernel) ?_ | refine New.mk fun _ => ?_ | refine NewS.mk fun _ _ => ?_)
    refine X_round (i, h5, W.set i (V[i]!)) ⟨by show i ≤ V.length; omega, hl4.trans le5.le, by show (W.set i (V[i]!)).length = V.length; rw [List.length_set]; exact hWl, fun n hn hin => ?_⟩ (by show i < i + 1; omega) ⟨by show some (vI (((i + 1 : Nat) : Int) - 1)) = some (vI (i : Int)); rw [show ((i + 1 : Nat) : Int) - 1 = (i : Int) by omega], rfl, rfl, rfl, trivial⟩ rfl inferInstance
    show (W.set i (V[i]!))[n]! = V[n]!
    rw [set_get' (by omega)]
    split
    · rename_i e; rw [e]
    · rename_i e; exact hW n hn (by have hin : i ≤ n := hin; omega)
  · have hWV : W = V := list_eq hWl fun n hn => hW n (by omega) (by omega)
    rw [hWV]
    have hle4 := hle3.trans hl4
    repeat (first | refine Step.imp ?_ | refine Side.mk (by first | exact True.intro | omega | exact ⟨trivial, rfl⟩ | exact ⟨by omega, trivial, rfl⟩ | exact ⟨by omega, rfl⟩ | exact ⟨by omega, by omega, rfl⟩ | (simp only [List.length_cons, List.length_nil, List.length_append]; done) | (simp only [List.length_cons, List.length_nil, List.length_append]; omega) | decide +kernel) ?_ | refine GDraw_one (by decide +kernel) ?_ | refine New.mk fun _ => ?_ | refine NewS.mk fun _ _ => ?_)
    refine ⟨fun f hf => ?_, fun hall => ?_⟩
    · repeat (first | refine Step.imp ?_ | refine Side.mk (by first | exact True.intro | omega | exact ⟨trivial, rfl⟩ | exact ⟨by omega, trivial, rfl⟩ | exact ⟨by omega, rfl⟩ | exact ⟨by omega, by omega, rfl⟩ | (simp only [List.length_cons, List.length_nil, List.length_append]; done) | (simp only [List.length_cons, List.length_nil, List.length_append]; omega) | decide +kernel) ?_ | refine GDraw_one (by decide +kernel) ?_ | refine New.mk fun _ => ?_ | refine NewS.mk fun _ _ => ?_)
      refine ⟨fun f' hf' => ?_, fun hall => absurd (hall f hf.1) hf.2.1⟩
      obtain rfl := FirstB.eq2 hf hf'
      repeat (first | refine Step.imp ?_ | refine Side.mk (by first | exact True.intro | omega | exact ⟨trivial, rfl⟩ | exact ⟨by omega, trivial, rfl⟩ | exact ⟨by omega, rfl⟩ | exact ⟨by omega, by omega, rfl⟩ | (simp only [List.length_cons, List.length_nil, List.length_append]; done) | (simp only [List.length_cons, List.length_nil, List.length_append]; omega) | decide +kernel) ?_ | refine GDraw_one (by decide +kernel) ?_ | refine New.mk fun _ => ?_ | refine NewS.mk fun _ _ => ?_)
      intro h5 le5
      have hle5 := hle4.trans le5.le
      repeat (first | refine Step.imp ?_ | refine Side.mk (by first | exact True.intro | omega | exact ⟨trivial, rfl⟩ | exact ⟨by omega, trivial, rfl⟩ | exact ⟨by omega, rfl⟩ | exact ⟨by omega, by omega, rfl⟩ | (simp only [List.length_cons, List.length_nil, List.length_append]; done) | (simp only [List.length_cons, List.length_nil, List.length_append]; omega) | decide +kernel) ?_ | refine GDraw_one (by decide +kernel) ?_ | refine New.mk fun _ => ?_ | refine NewS.mk fun _ _ => ?_)
      exact Fin.val (hT h5 hle5) rfl hle5
    · repeat (first | refine Step.imp ?_ | refine Side.mk (by first | exact True.intro | omega | exact ⟨trivial, rfl⟩ | exact ⟨by omega, trivial, rfl⟩ | exact ⟨by omega, rfl⟩ | exact ⟨by omega, by omega, rfl⟩ | (simp only [List.length_cons, List.length_nil, List.length_append]; done) | (simp only [List.length_cons, List.length_nil, List.length_append]; omega) | decide +kernel) ?_ | refine GDraw_one (by decide +kernel) ?_ | refine New.mk fun _ => ?_ | refine NewS.mk fun _ _ => ?_)
      refine ⟨fun f' hf' => absurd (hall f' hf'.1) hf'.2.1, fun _ => ?_⟩
      repeat (first | refine Step.imp ?_ | refine Side.mk (by first | exact True.intro | omega | exact ⟨trivial, rfl⟩ | exact ⟨by omega, trivial, rfl⟩ | exact ⟨by omega, rfl⟩ | exact ⟨by omega, by omega, rfl⟩ | (simp only [List.length_cons, List.length_nil, List.length_append]; done) | (simp only [List.length_cons, List.length_nil, List.length_append]; omega) | decide +kernel) ?_ | refine GDraw_one (by decide +kernel) ?_ | refine New.mk fun _ => ?_ | refine NewS.mk fun _ _ => ?_)
      intro h5 le5
      have hle5 := hle4.trans le5.le
      repeat (first | refine Step.imp ?_ | refine Side.mk (by first | exact True.intro | omega | exact ⟨trivial, rfl⟩ | exact ⟨by omega, trivial, rfl⟩ | exact ⟨by omega, rfl⟩ | exact ⟨by omega, by omega, rfl⟩ | (simp only [List.length_cons, List.length_nil, List.length_append]; done) | (simp only [List.length_cons, List.length_nil, List.length_append]; omega) | decide +kernel) ?_ | refine GDraw_one (by decide +kernel) ?_ | refine New.mk fun _ => ?_ | refine NewS.mk fun _ _ => ?_)
      exact Fin.val (hT h5 hle5) rfl hle5
end
end Go.Sl
