/-
  Facts that the proof is made of (P2).
-/
import Derived.Test.YtoinkcbioaipoaaGreatKP1
/-
  Plain facts: a cell's number, there and back; cells that a leaf is within.
-/
namespace Go.Sl
open Go.Proofs
set_option linter.unusedVariables false
set_option linter.unusedSimpArgs false
set_option maxRecDepth 10000
set_option synthInstance.maxSize 2000
set_option synthInstance.maxHeartbeats 200000
set_option maxHeartbeats 1000000
theorem right_congr {C : Cat} {m : Int} {a a' : Nat → Int} (h : ∀ k < 4, a k = a' k) : rightF C m a ↔ rightF C m a' := by
  unfold rightF
  constructor
  · rintro ⟨h1, h2⟩; exact ⟨h1, fun i hi => by rw [← h i hi]; exact h2 i hi⟩
  · rintro ⟨h1, h2⟩; exact ⟨h1, fun i hi => by rw [h i hi]; exact h2 i hi⟩
theorem under_congr {C : Cat} {m : Int} {a a' : Nat → Int} (hd : C.dims.length ≤ 4) (h : ∀ k < 4, a k = a' k) : underF C m a = underF C m a' := by
  have hl : listsOf C a = listsOf C a' := by
    unfold listsOf
    refine List.map_congr_left fun i hi => ?_
    unfold ranksOf
    rw [h i (by have := List.mem_range.1 hi; omega)]
  unfold underF
  by_cases hr : rightF C m a
  · rw [if_pos hr, if_pos ((right_congr h).1 hr), hl]
  · rw [if_neg hr, if_neg (fun h2 => hr ((right_congr h).2 h2))]
theorem nodesN_pos {C : Cat} {n : Int} (h : 0 ≤ n ∧ n < cellsF C C.dims.length) : ∀ k < C.dims.length, 0 < nodesN C k :=
  pos_of_all (C := C) (o := nodesN C) (fun k => by unfold nodesN; omega) C.dims.length (by rw [all_cells]; omega)
theorem pl_in {C : Cat} {o : Nat → Int} {n : Int} {i : Nat} (h : i < C.dims.length) : plF o n C.dims.length C.dims.length i = remF o n C.dims.length i := by
  unfold plF; rw [if_pos ⟨by omega, h⟩]
theorem pl_out {C : Cat} {o : Nat → Int} {n : Int} {i : Nat} (h : ¬ i < C.dims.length) : plF o n C.dims.length C.dims.length i = 0 := by
  unfold plF; rw [if_neg (by omega)]
theorem cell_right {C : Cat} {n : Int} (h : 0 ≤ n ∧ n < cellsF C C.dims.length) : rightF C (quoF (nodesN C) n C.dims.length C.dims.length) (plF (nodesN C) n C.dims.length C.dims.length) := by
  have hdg := digits (C := C) (o := nodesN C) (nodesN_pos h) h.1 (by rw [all_cells]; exact h.2)
  refine ⟨hdg.1, fun i hi => ?_⟩
  unfold sizeF
  by_cases hid : i < C.dims.length
  · rw [if_pos hid, pl_in hid]; exact hdg.2 i hid
  · rw [if_neg hid, pl_out hid]; omega
theorem index_cell {C : Cat} {n : Int} (h : 0 ≤ n ∧ n < cellsF C C.dims.length) : indexF C (quoF (nodesN C) n C.dims.length C.dims.length) (plF (nodesN C) n C.dims.length C.dims.length) = n := by
  unfold indexF
  rw [if_pos (cell_right h), packF_congr (p' := remF (nodesN C) n C.dims.length) (o' := nodesN C) _ fun k hk => ⟨pl_in hk, rfl⟩, pack_quo_all]
section
variable {C : Cat} {m : Int} {a : Nat → Int} (ok : OkCat C) (hr : rightF C m a)
include ok hr
theorem index_in : 0 ≤ indexF C m a ∧ indexF C m a < cellsF C C.dims.length := by
  have := pack_lt (C := C) (o := nodesN C) (d := C.dims.length) hr.1 (right_in hr ok.dims.2) C.dims.length (Nat.le_refl _)
  rw [all_cells] at this
  unfold indexF; rw [if_pos hr]; exact this
theorem cell_index : quoF (nodesN C) (indexF C m a) C.dims.length C.dims.length = m ∧ ∀ i < 4, plF (nodesN C) (indexF C m a) C.dims.length C.dims.length i = a i := by
  have hin := right_in hr ok.dims.2
  unfold indexF; rw [if_pos hr]
  refine ⟨quo_pack_all hr.1.1 hin, fun i hi => ?_⟩
  by_cases hid : i < C.dims.length
  · rw [pl_in hid, rem_pack hr.1.1 hin hid]
  · rw [pl_out hid]
    have := hr.2 i hi
    unfold sizeF at this
    rw [if_neg hid] at this; omega
end
/-- The leaves within the cell of a number. -/
def underAt (C : Cat) (n : Int) : List Int := underF C (quoF (nodesN C) n C.dims.length C.dims.length) (plF (nodesN C) n C.dims.length C.dims.length)
theorem under_at {C : Cat} {m : Int} {a : Nat → Int} (ok : OkCat C) (hr : rightF C m a) : underAt C (indexF C m a) = underF C m a := by
  have h := cell_index ok hr
  unfold underAt
  rw [h.1]
  exact under_congr ok.dims.2 h.2
end Go.Sl
