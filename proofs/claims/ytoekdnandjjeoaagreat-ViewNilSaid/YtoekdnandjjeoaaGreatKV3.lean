/-
  Facts that the proof is made of (V3).
-/
import Derived.Test.YtoekdnandjjeoaaGreatKV2
/-
  The law ViewNil, walked.
-/
namespace Go.Sl
open Go.Proofs
set_option linter.unusedVariables false
set_option linter.unusedSimpArgs false
set_option maxRecDepth 10000
set_option synthInstance.maxSize 2000
set_option synthInstance.maxHeartbeats 200000
set_option maxHeartbeats 1000000
section
variable {h : PHeap}
instance vwN_space : CallV Tryz.prog 31 [.pointer none] h True (.pointer none) := ⟨fun _ => by
  refine spec_enter Tryz.func31 rfl Tryz.ntmps31 Tryz.results31 (by simp) fun K R hT => ?_
  repeat' (first | refine Step.imp ?_ | refine Side.mk (by first | exact True.intro | omega | exact ⟨trivial, rfl⟩ | exact ⟨by omega, trivial, rfl⟩ | exact ⟨by omega, rfl⟩ | exact ⟨by omega, by omega, rfl⟩ | (simp only [List.length_cons, List.length_nil, List.length_append]; done) | (simp only [List.length_cons, List.length_nil, List.length_append]; omega) | decide +kernel) ?_ | refine GDraw_one (by decide +kernel) ?_ | refine New.mk fun _ => ?_ | refine NewS.mk fun _ _ => ?_ | refine Ways.mk (fun _ => ?_) (fun _ => ?_))
  all_goals first | (exfalso; contradiction) | exact Fin.val hT rfl (Hle.refl _)⟩
instance vwN_pages : CallV Tryz.prog 32 [.pointer none] h True (.pointer none) := ⟨fun _ => by
  refine spec_enter Tryz.func32 rfl Tryz.ntmps32 Tryz.results32 (by simp) fun K R hT => ?_
  repeat' (first | refine Step.imp ?_ | refine Side.mk (by first | exact True.intro | omega | exact ⟨trivial, rfl⟩ | exact ⟨by omega, trivial, rfl⟩ | exact ⟨by omega, rfl⟩ | exact ⟨by omega, by omega, rfl⟩ | (simp only [List.length_cons, List.length_nil, List.length_append]; done) | (simp only [List.length_cons, List.length_nil, List.length_append]; omega) | decide +kernel) ?_ | refine GDraw_one (by decide +kernel) ?_ | refine New.mk fun _ => ?_ | refine NewS.mk fun _ _ => ?_ | refine Ways.mk (fun _ => ?_) (fun _ => ?_))
  all_goals first | (exfalso; contradiction) | exact Fin.val hT rfl (Hle.refl _)⟩
instance vwN_may {c a0 a1 a2 a3 : Int} : CallV Tryz.prog 53 [.pointer none, .agg [vI c, vI a0, vI a1, vI a2, vI a3].toArray] h True (vI 1) := ⟨fun _ => by
  refine spec_enter Tryz.func53 rfl Tryz.ntmps53 Tryz.results53 (by simp) fun K R hT => ?_
  repeat' (first | refine Step.imp ?_ | refine Side.mk (by first | exact True.intro | omega | exact ⟨trivial, rfl⟩ | exact ⟨by omega, trivial, rfl⟩ | exact ⟨by omega, rfl⟩ | exact ⟨by omega, by omega, rfl⟩ | (simp only [List.length_cons, List.length_nil, List.length_append]; done) | (simp only [List.length_cons, List.length_nil, List.length_append]; omega) | decide +kernel) ?_ | refine GDraw_one (by decide +kernel) ?_ | refine New.mk fun _ => ?_ | refine NewS.mk fun _ _ => ?_ | refine Ways.mk (fun _ => ?_) (fun _ => ?_))
  all_goals first | (exfalso; contradiction) | exact Fin.val hT rfl (Hle.refl _)⟩
instance vwN_value {r c a0 a1 a2 a3 : Int} : CallV Tryz.prog 19 [.pointer none, vI r, .agg [vI c, vI a0, vI a1, vI a2, vI a3].toArray] h True (.tuple [vI 0, vI 1].toArray) := ⟨fun _ => by
  haveI : Known ((1 : Int) ≠ 0) := ⟨by decide⟩
  refine spec_enter Tryz.func19 rfl Tryz.ntmps19 Tryz.results19 (by simp) fun K R hT => ?_
  repeat (first | refine Step.imp ?_ | refine Side.mk (by first | exact True.intro | omega | exact ⟨trivial, rfl⟩ | exact ⟨by omega, trivial, rfl⟩ | exact ⟨by omega, rfl⟩ | exact ⟨by omega, by omega, rfl⟩ | (simp only [List.length_cons, List.length_nil, List.length_append]; done) | (simp only [List.length_cons, List.length_nil, List.length_append]; omega) | decide +kernel) ?_ | refine GDraw_one (by decide +kernel) ?_ | refine New.mk fun _ => ?_ | refine NewS.mk fun _ _ => ?_)
  exact Fin.val hT rfl (Hle.refl _)⟩
instance vwN_many {r c a0 a1 a2 a3 : Int} : CallV Tryz.prog 21 [.pointer none, vI r, .agg [vI c, vI a0, vI a1, vI a2, vI a3].toArray] h True (.tuple [vI 0, vI 1].toArray) := ⟨fun _ => by
  haveI : Known ((1 : Int) ≠ 0) := ⟨by decide⟩
  refine spec_enter Tryz.func21 rfl Tryz.ntmps21 Tryz.results21 (by simp) fun K R hT => ?_
  repeat (first | refine Step.imp ?_ | refine Side.mk (by first | exact True.intro | omega | exact ⟨trivial, rfl⟩ | exact ⟨by omega, trivial, rfl⟩ | exact ⟨by omega, rfl⟩ | exact ⟨by omega, by omega, rfl⟩ | (simp only [List.length_cons, List.length_nil, List.length_append]; done) | (simp only [List.length_cons, List.length_nil, List.length_append]; omega) | decide +kernel) ?_ | refine GDraw_one (by decide +kernel) ?_ | refine New.mk fun _ => ?_ | refine NewS.mk fun _ _ => ?_)
  exact Fin.val hT rfl (Hle.refl _)⟩
instance vwN_slice {r c a0 a1 a2 a3 n : Int} : CallV Tryz.prog 18 [.pointer none, vI r, .agg [vI c, vI a0, vI a1, vI a2, vI a3].toArray, vI n] h True (.tuple [.slice none 0 0, vI 1].toArray) := ⟨fun _ => by
  haveI : Known ((1 : Int) ≠ 0) := ⟨by decide⟩
  refine spec_enter Tryz.func18 rfl Tryz.ntmps18 Tryz.results18 (by simp) fun K R hT => ?_
  repeat (first | refine Step.imp ?_ | refine Side.mk (by first | exact True.intro | omega | exact ⟨trivial, rfl⟩ | exact ⟨by omega, trivial, rfl⟩ | exact ⟨by omega, rfl⟩ | exact ⟨by omega, by omega, rfl⟩ | (simp only [List.length_cons, List.length_nil, List.length_append]; done) | (simp only [List.length_cons, List.length_nil, List.length_append]; omega) | decide +kernel) ?_ | refine GDraw_one (by decide +kernel) ?_ | refine New.mk fun _ => ?_ | refine NewS.mk fun _ _ => ?_)
  exact Fin.val hT rfl (Hle.refl _)⟩
instance vwN_top {r c a0 a1 a2 a3 n : Int} : CallV Tryz.prog 24 [.pointer none, vI r, .agg [vI c, vI a0, vI a1, vI a2, vI a3].toArray, vI n] h True (.tuple [.slice none 0 0, vI 1].toArray) := ⟨fun _ => by
  haveI : Known ((1 : Int) ≠ 0) := ⟨by decide⟩
  refine spec_enter Tryz.func24 rfl Tryz.ntmps24 Tryz.results24 (by simp) fun K R hT => ?_
  repeat (first | refine Step.imp ?_ | refine Side.mk (by first | exact True.intro | omega | exact ⟨trivial, rfl⟩ | exact ⟨by omega, trivial, rfl⟩ | exact ⟨by omega, rfl⟩ | exact ⟨by omega, by omega, rfl⟩ | (simp only [List.length_cons, List.length_nil, List.length_append]; done) | (simp only [List.length_cons, List.length_nil, List.length_append]; omega) | decide +kernel) ?_ | refine GDraw_one (by decide +kernel) ?_ | refine New.mk fun _ => ?_ | refine NewS.mk fun _ _ => ?_)
  exact Fin.val hT rfl (Hle.refl _)⟩
instance vwN_over {r : Int} : CallV Tryz.prog 29 [.pointer none, vI r] h True (.tuple [.agg [vI 0, vI 0, vI 0, vI 0, vI 0].toArray, .bool false].toArray) := ⟨fun _ => by
  refine spec_enter Tryz.func29 rfl Tryz.ntmps29 Tryz.results29 (by simp) fun K R hT => ?_
  repeat' (first | refine Step.imp ?_ | refine Side.mk (by first | exact True.intro | omega | exact ⟨trivial, rfl⟩ | exact ⟨by omega, trivial, rfl⟩ | exact ⟨by omega, rfl⟩ | exact ⟨by omega, by omega, rfl⟩ | (simp only [List.length_cons, List.length_nil, List.length_append]; done) | (simp only [List.length_cons, List.length_nil, List.length_append]; omega) | decide +kernel) ?_ | refine GDraw_one (by decide +kernel) ?_ | refine New.mk fun _ => ?_ | refine NewS.mk fun _ _ => ?_ | refine Ways.mk (fun _ => ?_) (fun _ => ?_))
  all_goals first | (exfalso; contradiction) | exact Fin.val hT rfl (Hle.refl _)⟩
theorem walk_ViewNil {L : List HP} {m a0 a1 a2 a3 n : Int} : Spec Tryz.prog 8 [.agg [vI m, vI a0, vI a1, vI a2, vI a3].toArray, vI n] h L (fun K => ∀ h', Hle h h' → K (.bool true) h' L) := by
  refine spec_enter Tryz.func8 rfl Tryz.ntmps8 Tryz.results8 (by simp) fun K R hT => ?_
  repeat (first | refine Step.imp ?_ | refine Side.mk (by first | exact True.intro | omega | exact ⟨trivial, rfl⟩ | exact ⟨by omega, trivial, rfl⟩ | exact ⟨by omega, rfl⟩ | exact ⟨by omega, by omega, rfl⟩ | (simp only [List.length_cons, List.length_nil, List.length_append]; done) | (simp only [List.length_cons, List.length_nil, List.length_append]; omega) | decide +kernel) ?_ | refine GDraw_one (by decide +kernel) ?_ | refine New.mk fun _ => ?_ | refine NewS.mk fun _ _ => ?_)
  intro h1 le1
  repeat (first | refine Step.imp ?_ | refine Side.mk (by first | exact True.intro | omega | exact ⟨trivial, rfl⟩ | exact ⟨by omega, trivial, rfl⟩ | exact ⟨by omega, rfl⟩ | exact ⟨by omega, by omega, rfl⟩ | (simp only [List.length_cons, List.length_nil, List.length_append]; done) | (simp only [List.length_cons, List.length_nil, List.length_append]; omega) | decide +kernel) ?_ | refine GDraw_one (by decide +kernel) ?_ | refine New.mk fun _ => ?_ | refine NewS.mk fun _ _ => ?_)
  exact Fin.val (hT h1 le1.le) rfl le1.le
end
end Go.Sl
