/-
  Facts that the proof is made of (P2).
-/
import Derived.Test.YtoekdnandjjeoaaGreatKP1
import Derived.Test.YtoekdnandjjeoaaGreatKF1
import Derived.Test.YtoekdnandjjeoaaGreatKC3
/-
  Plain facts: a cell's number, there and back; cells that a leaf is within.
-/
namespace Go.Sl
open Go.Proofs
set_option linter.unusedVariables false
set_option linter.unusedSimpArgs false
set_option maxRecDepth 10000
set_option synthInstance.maxSize 2000
set_option synthInstance.maxHeartbeats 200000
set_option maxHeartbeats 1000000
theorem right_congr {C : Cat} {m : Int} {a a' : Nat → Int} (h : ∀ k < 4, a k = a' k) : rightF C m a ↔ rightF C m a' := by
  unfold rightF
  constructor
  · rintro ⟨h1, h2⟩; exact ⟨h1, fun i hi => by rw [← h i hi]; exact h2 i hi⟩
  · rintro ⟨h1, h2⟩; exact ⟨h1, fun i hi => by rw [h i hi]; exact h2 i hi⟩
theorem under_congr {C : Cat} {m : Int} {a a' : Nat → Int} (hd : C.dims.length ≤ 4) (h : ∀ k < 4, a k = a' k) : underF C m a = underF C m a' := by
  have hl : listsOf C a = listsOf C a' := by
    unfold listsOf
    refine List.map_congr_left fun i hi => ?_
    unfold ranksOf
    rw [h i (by have := List.mem_range.1 hi; omega)]
  unfold underF
  by_cases hr : rightF C m a
  · rw [if_pos hr, if_pos ((right_congr h).1 hr), hl]
  · rw [if_neg hr, if_neg (fun h2 => hr ((right_congr h).2 h2))]
theorem nodesN_pos {C : Cat} {n : Int} (h : 0 ≤ n ∧ n < cellsF C C.dims.length) : ∀ k < C.dims.length, 0 < nodesN C k :=
  pos_of_all (C := C) (o := nodesN C) (fun k => by unfold nodesN; omega) C.dims.length (by rw [all_cells]; omega)
theorem pl_in {C : Cat} {o : Nat → Int} {n : Int} {i : Nat} (h : i < C.dims.length) : plF o n C.dims.length C.dims.length i = remF o n C.dims.length i := by
  unfold plF; rw [if_pos ⟨by omega, h⟩]
theorem pl_out {C : Cat} {o : Nat → Int} {n : Int} {i : Nat} (h : ¬ i < C.dims.length) : plF o n C.dims.length C.dims.length i = 0 := by
  unfold plF; rw [if_neg (by omega)]
theorem cell_right {C : Cat} {n : Int} (h : 0 ≤ n ∧ n < cellsF C C.dims.length) : rightF C (quoF (nodesN C) n C.dims.length C.dims.length) (plF (nodesN C) n C.dims.length C.dims.length) := by
  have hdg := digits (C := C) (o := nodesN C) (nodesN_pos h) h.1 (by rw [all_cells]; exact h.2)
  refine ⟨hdg.1, fun i hi => ?_⟩
  unfold sizeF
  by_cases hid : i < C.dims.length
  · rw [if_pos hid, pl_in hid]; exact hdg.2 i hid
  · rw [if_neg hid, pl_out hid]; omega
theorem index_cell {C : Cat} {n : Int} (h : 0 ≤ n ∧ n < cellsF C C.dims.length) : indexF C (quoF (nodesN C) n C.dims.length C.dims.length) (plF (nodesN C) n C.dims.length C.dims.length) = n := by
  unfold indexF
  rw [if_pos (cell_right h), packF_congr (p' := remF (nodesN C) n C.dims.length) (o' := nodesN C) _ fun k hk => ⟨pl_in hk, rfl⟩, pack_quo_all]
section
variable {C : Cat} {m : Int} {a : Nat → Int} (ok : OkCat C) (hr : rightF C m a)
include ok hr
theorem index_in : 0 ≤ indexF C m a ∧ indexF C m a < cellsF C C.dims.length := by
  have := pack_lt (C := C) (o := nodesN C) (d := C.dims.length) hr.1 (right_in hr ok.dims.2) C.dims.length (Nat.le_refl _)
  rw [all_cells] at this
  unfold indexF; rw [if_pos hr]; exact this
theorem cell_index : quoF (nodesN C) (indexF C m a) C.dims.length C.dims.length = m ∧ ∀ i < 4, plF (nodesN C) (indexF C m a) C.dims.length C.dims.length i = a i := by
  have hin := right_in hr ok.dims.2
  unfold indexF; rw [if_pos hr]
  refine ⟨quo_pack_all hr.1.1 hin, fun i hi => ?_⟩
  by_cases hid : i < C.dims.length
  · rw [pl_in hid, rem_pack hr.1.1 hin hid]
  · rw [pl_out hid]
    have := hr.2 i hi
    unfold sizeF at this
    rw [if_neg hid] at this; omega
end
/-- The leaves within the cell of a number. -/
def underAt (C : Cat) (n : Int) : List Int := underF C (quoF (nodesN C) n C.dims.length C.dims.length) (plF (nodesN C) n C.dims.length C.dims.length)
theorem under_at {C : Cat} {m : Int} {a : Nat → Int} (ok : OkCat C) (hr : rightF C m a) : underAt C (indexF C m a) = underF C m a := by
  have h := cell_index ok hr
  unfold underAt
  rw [h.1]
  exact under_congr ok.dims.2 h.2
end Go.Sl

/-
  Plain facts: the cells that a leaf is within.
-/
namespace Go.Sl
open Go.Proofs
set_option linter.unusedVariables false
set_option linter.unusedSimpArgs false
set_option maxRecDepth 10000
set_option synthInstance.maxSize 2000
set_option synthInstance.maxHeartbeats 200000
set_option maxHeartbeats 1000000
theorem spWithin_congr2 {C : Cat} {m : Int} {a : Nat → Int} {m' : Int} {b b' : Nat → Int} (hd : C.dims.length ≤ 4) (h : ∀ k < 4, b k = b' k) : spWithin C m a m' b ↔ spWithin C m a m' b' := by
  unfold spWithin
  rw [right_congr h]
  constructor
  · rintro ⟨h1, h2, h3, h4⟩; exact ⟨h1, h2, h3, fun i hi => by rw [← h i (by omega)]; exact h4 i hi⟩
  · rintro ⟨h1, h2, h3, h4⟩; exact ⟨h1, h2, h3, fun i hi => by rw [h i (by omega)]; exact h4 i hi⟩
def overQ (C : Cat) (n i : Int) : Prop := spWithin C (quoF (leavesN C) n C.dims.length C.dims.length) (leafAtF C n) (quoF (nodesN C) i C.dims.length C.dims.length) (plF (nodesN C) i C.dims.length C.dims.length)
instance (C : Cat) (n : Int) : DecidablePred (overQ C n) := fun i => by unfold overQ; infer_instance
def cellAt (C : Cat) (i : Int) : Cl := clOf (quoF (nodesN C) i C.dims.length C.dims.length) (plF (nodesN C) i C.dims.length C.dims.length)
section
variable {C : Cat} {n : Int}
theorem overLs_get {k : Nat} (hk : k < C.dims.length) : (overLs C n)[k]! = overL C n k := by
  unfold overLs
  rw [getElem!_pos _ k (by simpa using hk)]; simp
theorem over_in {k : Nat} (hk : k < C.dims.length) {x : Int} : x ∈ (overLs C n)[k]! ↔ withinF (C.dims[k]!).2 (leafAtF C n k) x := by
  rw [overLs_get hk]
  unfold overL withinF
  exact (sortS_perm _).mem_iff
theorem cell_pack {M : Int} {t : Nat → Int} (hM : 0 ≤ M) (h1 : ∀ k < C.dims.length, 0 ≤ t k ∧ t k < nodesN C k) (h2 : ∀ k, ¬ k < C.dims.length → t k = 0) : quoF (nodesN C) (packF M t (nodesN C) C.dims.length) C.dims.length C.dims.length = M ∧ ∀ i, plF (nodesN C) (packF M t (nodesN C) C.dims.length) C.dims.length C.dims.length i = t i := by
  refine ⟨quo_pack_all hM h1, fun i => ?_⟩
  by_cases hi : i < C.dims.length
  · rw [pl_in hi, rem_pack hM h1 hi]
  · rw [pl_out hi, h2 i hi]
variable (ok : OkCat C)
include ok
theorem over_rng {k : Nat} (hk : k < C.dims.length) {x : Int} (hx : x ∈ (overLs C n)[k]!) : 0 ≤ x ∧ x < nodesN C k := by
  rw [over_in hk] at hx
  haveI := treeErr_acyc (ok.trees k hk).2
  obtain ⟨d, hd⟩ := above_facts (nodes := (C.dims[k]!).2)
  exact ((hd _).2 x hx).1
theorem over_srt {k : Nat} (hk : k < C.dims.length) : ((overLs C n)[k]!).Pairwise (· < ·) := by
  haveI := treeErr_acyc (ok.trees k hk).2
  obtain ⟨d, hd⟩ := above_facts (nodes := (C.dims[k]!).2)
  rw [overLs_get hk]
  unfold overL
  have hnd : (sortS (above (C.dims[k]!).2 (leafAtF C n k))).Nodup := (sortS_perm _).nodup_iff.2 (hd _).1
  exact ((sortS_sorted _).and (List.nodup_iff_pairwise_ne.1 hnd)).imp (fun h => by omega)
theorem comb_in {t : Nat → Int} (ht : t ∈ combF (overLs C n) C.dims.length 0 (fun _ => 0)) : (∀ k < C.dims.length, withinF (C.dims[k]!).2 (leafAtF C n k) (t k) ∧ 0 ≤ t k ∧ t k < nodesN C k) ∧ ∀ k, ¬ k < C.dims.length → t k = 0 := by
  rw [mem_comb] at ht
  refine ⟨fun k hk => ?_, fun k hk => ht.2 k (by omega)⟩
  have := ht.1 k (by omega) (by omega)
  exact ⟨(over_in hk).1 this, over_rng ok hk this⟩
theorem over_pack (h : 0 ≤ n ∧ n < leavesF C C.dims.length) :
    (combF (overLs C n) C.dims.length 0 (fun _ => 0)).map (fun t => packF (quoF (leavesN C) n C.dims.length C.dims.length) t (nodesN C) C.dims.length) = pickTo (overQ C n) (cellsF C C.dims.length).toNat := by
  have hd := ok.dims
  have hl := (leaf_of ok h).1.1
  refine sorted_ext ?_ (pickTo_sorted _ _) fun i => ?_
  · have := (comb_sorted (ls := overLs C n) (m := quoF (leavesN C) n C.dims.length C.dims.length) (o := nodesN C) C.dims.length 0 (fun _ => 0) fun k _ hk => ⟨over_srt ok (by omega), fun x hx => over_rng ok (by omega) hx⟩).1
    rw [Nat.zero_add] at this
    exact this
  · rw [List.mem_map, mem_pickTo]
    constructor
    · rintro ⟨t, ht, rfl⟩
      obtain ⟨h1, h2⟩ := comb_in ok ht
      have hin : ∀ k < C.dims.length, 0 ≤ t k ∧ t k < nodesN C k := fun k hk => (h1 k hk).2
      have hlt := pack_lt (C := C) (o := nodesN C) (d := C.dims.length) hl.1 hin C.dims.length (Nat.le_refl _)
      rw [all_cells] at hlt
      have hc := cell_pack hl.1.1 hin h2
      refine ⟨⟨hlt.1, by omega⟩, hl, cell_right hlt, hc.1.symm, fun k hk => ?_⟩
      rw [hc.2]; exact (h1 k hk).1
    · rintro ⟨hi, hq⟩
      have hi : 0 ≤ i ∧ i < cellsF C C.dims.length := by omega
      refine ⟨plF (nodesN C) i C.dims.length C.dims.length, ?_, ?_⟩
      · rw [mem_comb]
        exact ⟨fun k _ hk => (over_in (by omega)).2 (hq.2.2.2 k (by omega)), fun k hk => pl_out (by omega)⟩
      · have := index_cell hi
        unfold indexF at this
        rw [if_pos (cell_right hi)] at this
        rw [hq.2.2.1]; exact this
theorem over_eq (h : 0 ≤ n ∧ n < leavesF C C.dims.length) : overF C n = (pickTo (overQ C n) (cellsF C C.dims.length).toNat).map (cellAt C) := by
  have hl := (leaf_of ok h).1.1
  unfold overF
  rw [if_pos h, ← over_pack ok h, List.map_map]
  refine List.map_congr_left fun t ht => ?_
  obtain ⟨h1, h2⟩ := comb_in ok ht
  have hc := cell_pack hl.1.1 (fun k hk => (h1 k hk).2) h2
  show clOf _ t = cellAt C _
  unfold cellAt clOf
  rw [hc.1, hc.2, hc.2, hc.2, hc.2]
theorem mem_over {m a0 a1 a2 a3 : Int} : (⟨m, a0, a1, a2, a3⟩ : Cl) ∈ overF C n ↔ insideF C m (get4 a0 a1 a2 a3) n := by
  have hd := ok.dims
  unfold insideF
  by_cases h : 0 ≤ n ∧ n < leavesF C C.dims.length
  rotate_left
  · unfold overF
    rw [if_neg h]
    simp [h]
  rw [over_eq ok h, List.mem_map]
  constructor
  · rintro ⟨i, hi, hc⟩
    have hq := (mem_pickTo.1 hi).2
    unfold cellAt clOf at hc
    injection hc with e0 e1 e2 e3 e4
    subst e0; subst e1; subst e2; subst e3; subst e4
    exact ⟨h, (spWithin_congr2 hd.2 (fun k hk => get4_fun (plF (nodesN C) i C.dims.length C.dims.length) hk)).2 hq⟩
  · rintro ⟨_, hw⟩
    have hr := hw.2.1
    have hx := index_in ok hr
    have hc := cell_index ok hr
    refine ⟨indexF C m (get4 a0 a1 a2 a3), mem_pickTo.2 ⟨⟨hx.1, by omega⟩, ?_⟩, ?_⟩
    · unfold overQ
      rw [hc.1]
      exact (spWithin_congr2 hd.2 hc.2).2 hw
    · unfold cellAt clOf
      rw [hc.1, hc.2 0 (by omega), hc.2 1 (by omega), hc.2 2 (by omega), hc.2 3 (by omega)]
      rfl
end
section
variable {C : Cat}
theorem code_congr {m : Int} {a a' : Nat → Int} (hd : C.dims.length ≤ 4) (h : ∀ k < 4, a k = a' k) : codeF C m a = codeF C m a' := by
  have hl : leafF C m a ↔ leafF C m a' := by
    unfold leafF
    rw [right_congr h]
    constructor
    · rintro ⟨h1, h2⟩; exact ⟨h1, fun i hi => by rw [← h i (by omega)]; exact h2 i hi⟩
    · rintro ⟨h1, h2⟩; exact ⟨h1, fun i hi => by rw [h i (by omega)]; exact h2 i hi⟩
  unfold codeF
  by_cases hr : leafF C m a
  · rw [if_pos hr, if_pos (hl.1 hr)]
    exact packF_congr _ fun k hk => ⟨by unfold rankAt; rw [h k (by omega)], rfl⟩
  · rw [if_neg hr, if_neg (fun h2 => hr (hl.2 h2))]
theorem index_congr {m : Int} {a a' : Nat → Int} (hd : C.dims.length ≤ 4) (h : ∀ k < 4, a k = a' k) : indexF C m a = indexF C m a' := by
  unfold indexF
  by_cases hr : rightF C m a
  · rw [if_pos hr, if_pos ((right_congr h).1 hr)]
    exact packF_congr _ fun k hk => ⟨h k (by omega), rfl⟩
  · rw [if_neg hr, if_neg (fun h2 => hr ((right_congr h).2 h2))]
end
end Go.Sl

/-
  The catalogue of the fixed calls.
-/
namespace Go.Sl
open Go.Proofs
set_option linter.unusedVariables false
set_option linter.unusedSimpArgs false
set_option maxRecDepth 10000
set_option synthInstance.maxSize 2000
set_option synthInstance.maxHeartbeats 200000
set_option maxHeartbeats 1000000
def kNodes : List Nd := [⟨⟨#[97, 108, 108]⟩, -1⟩, ⟨⟨#[97]⟩, 0⟩, ⟨⟨#[98]⟩, 0⟩]
def kCat : Cat := ⟨[(⟨#[120]⟩, kNodes)], [⟨#[109]⟩], 9, 1⟩
theorem kOk : OkCat kCat := ⟨by decide +kernel, by decide +kernel, by decide +kernel, by decide +kernel, by decide +kernel, by decide +kernel, by decide +kernel, by decide +kernel⟩
end Go.Sl
