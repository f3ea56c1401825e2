/-
  Facts that the proof is made of (P1).
-/
import Derived.Test.YtoekdnandjjeoaaGreatKC3
/-
  Plain facts: numbers with digits of several sizes; tuples in order.
-/
namespace Go.Sl
open Go.Proofs
set_option linter.unusedVariables false
set_option linter.unusedSimpArgs false
set_option maxRecDepth 10000
set_option synthInstance.maxSize 2000
set_option synthInstance.maxHeartbeats 200000
set_option maxHeartbeats 1000000
section
variable {m : Int} {p o : Nat → Int} {d : Nat}
theorem quo_pack (hm : 0 ≤ m) (hp : ∀ k < d, 0 ≤ p k ∧ p k < o k) : ∀ j ≤ d, quoF o (packF m p o d) d j = packF m p o (d - j)
  | 0, _ => rfl
  | j + 1, h => by
    have hk := hp (d - 1 - j) (by omega)
    simp only [quoF]
    rw [quo_pack hm hp j (by omega), show d - j = (d - 1 - j) + 1 by omega]
    simp only [packF]
    rw [Int.add_comm, Int.add_mul_ediv_right _ _ (by omega), Int.ediv_eq_zero_of_lt hk.1 hk.2, show d - (j + 1) = d - 1 - j by omega]
    omega
theorem rem_pack (hm : 0 ≤ m) (hp : ∀ k < d, 0 ≤ p k ∧ p k < o k) {i : Nat} (hi : i < d) : remF o (packF m p o d) d i = p i := by
  have hk := hp i hi
  unfold remF
  rw [quo_pack hm hp _ (by omega), show d - (d - 1 - i) = i + 1 by omega]
  simp only [packF]
  rw [Int.add_comm, Int.add_mul_emod_self_right, Int.emod_eq_of_lt hk.1 hk.2]
theorem quo_pack_all (hm : 0 ≤ m) (hp : ∀ k < d, 0 ≤ p k ∧ p k < o k) : quoF o (packF m p o d) d d = m := by
  rw [quo_pack hm hp d (Nat.le_refl _), Nat.sub_self]; rfl
theorem pack_quo (n : Int) : ∀ k ≤ d, packF (quoF o n d d) (remF o n d) o k = quoF o n d (d - k)
  | 0, _ => rfl
  | k + 1, h => by
    simp only [packF]
    rw [pack_quo n k (by omega)]
    unfold remF
    rw [show d - k = (d - 1 - k) + 1 by omega]
    simp only [quoF]
    rw [show d - 1 - (d - 1 - k) = k by omega, show d - (k + 1) = d - 1 - k by omega]
    exact Int.ediv_mul_add_emod _ _
theorem pack_quo_all (n : Int) : packF (quoF o n d d) (remF o n d) o d = n := by
  rw [pack_quo n d (Nat.le_refl _), Nat.sub_self]; rfl
end
theorem quo_lt {C : Cat} {o : Nat → Int} {n : Int} {d : Nat} (ho : ∀ k < d, 0 < o k) (hn : n < allF C o d) : ∀ j ≤ d, quoF o n d j < allF C o (d - j)
  | 0, _ => hn
  | j + 1, h => by
    have ih := quo_lt ho hn j (by omega)
    simp only [quoF]
    rw [show d - j = (d - 1 - j) + 1 by omega] at ih
    simp only [allF] at ih
    rw [show d - (j + 1) = d - 1 - j by omega]
    exact Int.ediv_lt_of_lt_mul (ho _ (by omega)) ih
theorem rem_in {o : Nat → Int} {n : Int} {d i : Nat} (ho : ∀ k < d, 0 < o k) (hi : i < d) : 0 ≤ remF o n d i ∧ remF o n d i < o i :=
  ⟨Int.emod_nonneg _ (by have := ho i hi; omega), Int.emod_lt_of_pos _ (ho i hi)⟩
/-- One number's digits. -/
theorem digits {C : Cat} {o : Nat → Int} {n : Int} {d : Nat} (ho : ∀ k < d, 0 < o k) (h0 : 0 ≤ n) (hn : n < allF C o d) :
    (0 ≤ quoF o n d d ∧ quoF o n d d < C.meas.length) ∧ ∀ i < d, 0 ≤ remF o n d i ∧ remF o n d i < o i :=
  ⟨⟨(quoF_nonneg h0 ho d (Nat.le_refl _)).1, by have := quo_lt ho hn d (Nat.le_refl _); rwa [Nat.sub_self] at this⟩, fun i hi => rem_in ho hi⟩

/-! ### Tuples -/
theorem mem_comb {ls : List (List Int)} : ∀ (r a : Nat) (l t : Nat → Int), t ∈ combF ls r a l ↔ (∀ k, a ≤ k → k < a + r → t k ∈ ls[k]!) ∧ ∀ k, ¬ (a ≤ k ∧ k < a + r) → t k = l k
  | 0, a, l, t => by
    simp only [combF, List.mem_singleton]
    constructor
    · rintro rfl; exact ⟨fun k h1 h2 => by omega, fun k _ => rfl⟩
    · rintro ⟨_, h⟩; exact funext fun k => h k (by omega)
  | r + 1, a, l, t => by
    simp only [combF, List.mem_flatMap]
    constructor
    · rintro ⟨x, hx, ht⟩
      rw [mem_comb] at ht
      obtain ⟨h1, h2⟩ := ht
      refine ⟨fun k hk1 hk2 => ?_, fun k hk => ?_⟩
      · by_cases hak : a = k
        · subst hak
          rw [h2 a (by omega), if_pos rfl]; exact hx
        · exact h1 k (by omega) (by omega)
      · rw [h2 k (by omega), if_neg (by omega)]
    · rintro ⟨h1, h2⟩
      refine ⟨t a, h1 a (by omega) (by omega), ?_⟩
      rw [mem_comb]
      refine ⟨fun k hk1 hk2 => h1 k (by omega) (by omega), fun k hk => ?_⟩
      split
      · rename_i e; rw [e]
      · exact h2 k (by omega)
def widF (o : Nat → Int) : Nat → Nat → Int
  | 0, _ => 1
  | r + 1, a => o a * widF o r (a + 1)
theorem comb_sorted {ls : List (List Int)} {m : Int} {o : Nat → Int} : ∀ (r a : Nat) (l : Nat → Int), (∀ k, a ≤ k → k < a + r → (ls[k]!).Pairwise (· < ·) ∧ ∀ x ∈ ls[k]!, 0 ≤ x ∧ x < o k) →
    ((combF ls r a l).map (fun t => packF m t o (a + r))).Pairwise (· < ·) ∧ ∀ t ∈ combF ls r a l, packF m l o a * widF o r a ≤ packF m t o (a + r) ∧ packF m t o (a + r) < (packF m l o a + 1) * widF o r a ∧ 0 < widF o r a
  | 0, a, l, _ => by
    refine ⟨by simp [combF], fun t ht => ?_⟩
    have ht := ht
    simp only [combF, List.mem_singleton] at ht
    subst ht
    simp only [widF, Nat.add_zero]
    omega
  | r + 1, a, l, h => by
    have ha := h a (by omega) (by omega)
    have hl' : ∀ x, packF m (fun j => if a = j then x else l j) o (a + 1) = packF m l o a * o a + x := fun x => by
      simp only [packF, if_true]
      rw [packF_congr (p' := l) (o' := o) a fun k hk => ⟨if_neg (by omega), rfl⟩]
    have ih : ∀ x, ((combF ls r (a + 1) (fun j => if a = j then x else l j)).map (fun t => packF m t o (a + (r + 1)))).Pairwise (· < ·) ∧ ∀ t ∈ combF ls r (a + 1) (fun j => if a = j then x else l j),
        (packF m l o a * o a + x) * widF o r (a + 1) ≤ packF m t o (a + (r + 1)) ∧ packF m t o (a + (r + 1)) < (packF m l o a * o a + x + 1) * widF o r (a + 1) ∧ 0 < widF o r (a + 1) := fun x => by
      have := comb_sorted (ls := ls) (m := m) (o := o) r (a + 1) (fun j => if a = j then x else l j) (fun k h1 h2 => h k (by omega) (by omega))
      rw [hl', show a + 1 + r = a + (r + 1) by omega] at this
      exact this
    refine ⟨?_, fun t ht => ?_⟩
    · simp only [combF, List.map_flatMap]
      rw [List.pairwise_flatMap]
      refine ⟨fun x _ => (ih x).1, List.Pairwise.imp_of_mem (fun {x y} hx hy hxy => ?_) ha.1⟩
      intro u hu v hv
      obtain ⟨t, ht, rfl⟩ := List.mem_map.1 hu
      obtain ⟨s, hs, rfl⟩ := List.mem_map.1 hv
      have h1 := (ih x).2 t ht
      have h2 := (ih y).2 s hs
      have h3 : (packF m l o a * o a + x + 1) * widF o r (a + 1) ≤ (packF m l o a * o a + y) * widF o r (a + 1) := Int.mul_le_mul_of_nonneg_right (by omega) (by omega)
      omega
    · simp only [combF, List.mem_flatMap] at ht
      obtain ⟨x, hx, ht⟩ := ht
      have h1 := (ih x).2 t ht
      have hx' := ha.2 x hx
      simp only [widF]
      have h2 : packF m l o a * o a * widF o r (a + 1) ≤ (packF m l o a * o a + x) * widF o r (a + 1) := Int.mul_le_mul_of_nonneg_right (by omega) (by omega)
      have h3 : (packF m l o a * o a + x + 1) * widF o r (a + 1) ≤ (packF m l o a * o a + o a) * widF o r (a + 1) := Int.mul_le_mul_of_nonneg_right (by omega) (by omega)
      have h4 : 0 < o a * widF o r (a + 1) := Int.mul_pos (by omega) h1.2.2
      have e1 : packF m l o a * (o a * widF o r (a + 1)) = packF m l o a * o a * widF o r (a + 1) := (Int.mul_assoc _ _ _).symm
      have e2 : (packF m l o a + 1) * (o a * widF o r (a + 1)) = (packF m l o a * o a + o a) * widF o r (a + 1) := by
        rw [Int.add_mul, Int.add_mul, Int.one_mul, ← Int.mul_assoc]
      rw [e1, e2]
      omega
/-- The first n numbers for which something holds. -/
def pickTo (q : Int → Prop) [DecidablePred q] (n : Nat) : List Int := ((List.range n).map (fun (k : Nat) => (k : Int))).filter (fun k => decide (q k))
theorem pickTo_succ (q : Int → Prop) [DecidablePred q] (n : Nat) : pickTo q (n + 1) = if q n then pickTo q n ++ [(n : Int)] else pickTo q n := by
  unfold pickTo
  rw [List.range_succ, List.map_append, List.filter_append]
  split <;> rename_i hq <;> simp [hq]
theorem pickTo_sorted (q : Int → Prop) [DecidablePred q] (n : Nat) : (pickTo q n).Pairwise (· < ·) := by
  unfold pickTo
  refine List.Pairwise.filter _ ?_
  rw [List.pairwise_map]
  exact (List.pairwise_lt_range (n := n)).imp (fun h => by omega)
theorem mem_pickTo {q : Int → Prop} [DecidablePred q] {n : Nat} {k : Int} : k ∈ pickTo q n ↔ (0 ≤ k ∧ k < n) ∧ q k := by
  unfold pickTo
  rw [List.mem_filter, List.mem_map, decide_eq_true_eq]
  constructor
  · rintro ⟨⟨j, hj, rfl⟩, hq⟩; have := List.mem_range.1 hj; exact ⟨by omega, hq⟩
  · rintro ⟨h1, hq⟩; exact ⟨⟨k.toNat, List.mem_range.2 (by omega), by omega⟩, hq⟩
theorem pickTo_len (q : Int → Prop) [DecidablePred q] (n : Nat) : (pickTo q n).length ≤ n := by
  unfold pickTo
  have := List.length_filter_le (fun k => decide (q k)) ((List.range n).map (fun (k : Nat) => (k : Int)))
  simpa using this
theorem sorted_ext {A B : List Int} (ha : A.Pairwise (· < ·)) (hb : B.Pairwise (· < ·)) (h : ∀ k, k ∈ A ↔ k ∈ B) : A = B := by
  have nd : ∀ {l : List Int}, l.Pairwise (· < ·) → l.Nodup := fun hl => List.nodup_iff_pairwise_ne.2 (hl.imp (fun h => by omega))
  exact List.Perm.eq_of_pairwise (fun a b _ _ h1 h2 => by omega) ha hb ((List.perm_ext_iff_of_nodup (nd ha) (nd hb)).2 h)
end Go.Sl

/-
  Plain facts: the leaves within a cell.
-/
namespace Go.Sl
open Go.Proofs
set_option linter.unusedVariables false
set_option linter.unusedSimpArgs false
set_option maxRecDepth 10000
set_option synthInstance.maxSize 2000
set_option synthInstance.maxHeartbeats 200000
set_option maxHeartbeats 1000000
theorem all_leaves (C : Cat) : ∀ k, allF C (leavesN C) k = leavesF C k
  | 0 => rfl
  | k + 1 => by simp only [allF, leavesF]; rw [all_leaves C k]; rfl
theorem all_cells (C : Cat) : ∀ k, allF C (nodesN C) k = cellsF C k
  | 0 => rfl
  | k + 1 => by simp only [allF, cellsF]; rw [all_cells C k]; rfl
theorem leavesN_pos {C : Cat} {n : Int} (h : 0 ≤ n ∧ n < leavesF C C.dims.length) : ∀ k < C.dims.length, 0 < leavesN C k :=
  pos_of_all (C := C) (o := leavesN C) (fun k => by unfold leavesN; omega) C.dims.length (by rw [all_leaves]; omega)
theorem leafAtF_in {C : Cat} {n : Int} {i : Nat} (h : i < C.dims.length) : leafAtF C n i = leafAt C n i := by unfold leafAtF partF; rw [if_pos h]
theorem leafAtF_out {C : Cat} {n : Int} {i : Nat} (h : ¬ i < C.dims.length) : leafAtF C n i = 0 := by unfold leafAtF partF; rw [if_neg h]
section
variable {C : Cat} (ok : OkCat C)
include ok
/-- A leaf's number is that of a leaf. -/
theorem leaf_of {n : Int} (h : 0 ≤ n ∧ n < leavesF C C.dims.length) : leafF C (quoF (leavesN C) n C.dims.length C.dims.length) (leafAtF C n) ∧ ∀ k < C.dims.length, rankAt C (leafAtF C n) k = remF (leavesN C) n C.dims.length k := by
  have hd := ok.dims
  have hdg := digits (C := C) (o := leavesN C) (leavesN_pos h) h.1 (by rw [all_leaves]; exact h.2)
  have hlf : ∀ k < C.dims.length, (mkTree (C.dims[k]!).2).leafB (leafAt C n k) ∧ (mkTree (C.dims[k]!).2).rankF (leafAt C n k) = remF (leavesN C) n C.dims.length k := fun k hk => by
    have hr := hdg.2 k hk
    have := leaf_ok (ok.trees k hk).2 (k := (remF (leavesN C) n C.dims.length k).toNat) (by have : leavesN C k = (mkTree (C.dims[k]!).2).leaves.length := rfl
                                                                                            omega)
    unfold leafAt
    refine ⟨this.1, ?_⟩
    rw [this.2]; omega
  refine ⟨⟨⟨hdg.1, fun i hi => ?_⟩, fun k hk => ?_⟩, fun k hk => ?_⟩
  · by_cases hid : i < C.dims.length
    · have h1 := (leafB_iff (ok.trees i hid).2).1 (hlf i hid).1
      rw [leafAtF_in hid]
      unfold sizeF; rw [if_pos hid]; exact h1.1
    · rw [leafAtF_out hid]
      unfold sizeF; rw [if_neg hid]; omega
  · rw [leafAtF_in hk]; exact (hlf k hk).1
  · unfold rankAt; rw [leafAtF_in hk]; exact (hlf k hk).2
theorem code_leaf {n : Int} (h : 0 ≤ n ∧ n < leavesF C C.dims.length) : codeF C (quoF (leavesN C) n C.dims.length C.dims.length) (leafAtF C n) = n := by
  have hl := leaf_of ok h
  unfold codeF
  rw [if_pos hl.1, packF_congr (p' := remF (leavesN C) n C.dims.length) (o' := leavesN C) _ fun k hk => ⟨hl.2 k hk, rfl⟩, pack_quo_all]
end
theorem mem_rangeI {a b x : Int} : x ∈ rangeI a b ↔ a ≤ x ∧ x < b := by
  unfold rangeI
  rw [List.mem_map]
  constructor
  · rintro ⟨k, hk, rfl⟩; have := List.mem_range.1 hk; omega
  · rintro ⟨h1, h2⟩; exact ⟨(x - a).toNat, List.mem_range.2 (by omega), by omega⟩
theorem rangeI_sorted (a b : Int) : (rangeI a b).Pairwise (· < ·) := by
  unfold rangeI
  rw [List.pairwise_map]
  exact (List.pairwise_lt_range (n := (b - a).toNat)).imp (fun h => by omega)
theorem listsOf_get {C : Cat} {a : Nat → Int} {k : Nat} (hk : k < C.dims.length) : (listsOf C a)[k]! = ranksOf C a k := by
  unfold listsOf
  rw [getElem!_pos _ k (by simpa using hk)]; simp
section
variable {C : Cat} {m : Int} {a : Nat → Int} (ok : OkCat C)
include ok
theorem ranks_in (hr : rightF C m a) {k : Nat} (hk : k < C.dims.length) {x : Int} : x ∈ (listsOf C a)[k]! ↔ (0 ≤ x ∧ x < leavesN C k) ∧ withinF (C.dims[k]!).2 ((mkTree (C.dims[k]!).2).leaves[x.toNat]!) (a k) := by
  have hri := right_in hr ok.dims.2 k hk
  have hs := span_leaf (ok.trees k hk).2 (i := a k) hri.1 hri.2
  have hN : leavesN C k = (mkTree (C.dims[k]!).2).leaves.length := rfl
  rw [listsOf_get hk]
  unfold ranksOf
  rw [mem_rangeI]
  constructor
  · intro hx
    refine ⟨by omega, ?_⟩
    have := (hs.2.2.2 x.toNat (by omega)).1
    rw [show ((x.toNat : Nat) : Int) = x by omega] at this
    exact this hx
  · rintro ⟨h1, h2⟩
    have := (hs.2.2.2 x.toNat (by omega)).2 h2
    rwa [show ((x.toNat : Nat) : Int) = x by omega] at this
theorem under_mem (hr : rightF C m a) {n : Int} : n ∈ underF C m a ↔ insideF C m a n := by
  have hd := ok.dims
  unfold underF
  rw [if_pos hr, List.mem_map]
  constructor
  · rintro ⟨t, ht, rfl⟩
    rw [mem_comb] at ht
    have htk : ∀ k < C.dims.length, (0 ≤ t k ∧ t k < leavesN C k) ∧ withinF (C.dims[k]!).2 ((mkTree (C.dims[k]!).2).leaves[(t k).toNat]!) (a k) := fun k hk => (ranks_in ok hr hk).1 (ht.1 k (by omega) (by omega))
    have hlt := pack_lt (C := C) (o := leavesN C) (d := C.dims.length) hr.1 (fun k hk => (htk k hk).1) C.dims.length (Nat.le_refl _)
    rw [all_leaves] at hlt
    have hq := quo_pack_all (o := leavesN C) (p := t) (d := C.dims.length) hr.1.1 (fun k hk => (htk k hk).1)
    have hl := (leaf_of ok hlt).1.1
    refine ⟨hlt, hl, hr, hq, fun k hk => ?_⟩
    rw [leafAtF_in hk]
    unfold leafAt
    rw [rem_pack hr.1.1 (fun k hk => (htk k hk).1) hk]
    exact (htk k hk).2
  · rintro ⟨hn, h1, h2, h3, h4⟩
    have hdg := digits (C := C) (o := leavesN C) (leavesN_pos hn) hn.1 (by rw [all_leaves]; exact hn.2)
    refine ⟨fun k => if k < C.dims.length then remF (leavesN C) n C.dims.length k else 0, ?_, ?_⟩
    · rw [mem_comb]
      refine ⟨fun k _ hk => ?_, fun k hk => by rw [if_neg (by omega)]⟩
      rw [if_pos (by omega), ranks_in ok hr (by omega)]
      refine ⟨hdg.2 k (by omega), ?_⟩
      have := h4 k (by omega)
      rw [leafAtF_in (by omega)] at this
      exact this
    · rw [packF_congr (p' := remF (leavesN C) n C.dims.length) (o' := leavesN C) _ fun k hk => ⟨if_pos hk, rfl⟩, ← h3, pack_quo_all]
theorem under_sorted : (underF C m a).Pairwise (· < ·) := by
  unfold underF
  split
  · rename_i hr
    have := (comb_sorted (ls := listsOf C a) (m := m) (o := leavesN C) C.dims.length 0 (fun _ => 0) fun k _ hk => ⟨by
      rw [listsOf_get (by omega)]; exact rangeI_sorted _ _, fun x hx => ((ranks_in ok hr (by omega)).1 hx).1⟩).1
    rw [Nat.zero_add] at this
    exact this
  · exact List.Pairwise.nil
theorem under_eq (hr : rightF C m a) : underF C m a = pickTo (fun n => insideF C m a n) (leavesF C C.dims.length).toNat :=
  sorted_ext (under_sorted ok) (pickTo_sorted _ _) fun k => by
    rw [under_mem ok hr, mem_pickTo]
    constructor
    · intro h; exact ⟨⟨h.1.1, by have := h.1; omega⟩, h⟩
    · exact fun h => h.2
theorem under_pos (hr : rightF C m a) : 0 < (underF C m a).length := by
  have hd := ok.dims
  unfold underF
  rw [if_pos hr, List.length_map]
  have : ∀ (r b : Nat) (l : Nat → Int), b + r ≤ C.dims.length → 0 < (combF (listsOf C a) r b l).length := by
    intro r
    induction r with
    | zero => intro b l _; simp [combF]
    | succ r ih =>
      intro b l h
      have hri := right_in hr hd.2 b (by omega)
      have hs := span_leaf (ok.trees b (by omega)).2 (i := a b) hri.1 hri.2
      simp only [combF]
      have hne : 0 < ((listsOf C a)[b]!).length := by
        rw [listsOf_get (by omega)]; unfold ranksOf rangeI; rw [List.length_map, List.length_range]; omega
      obtain ⟨x, xs, hx⟩ : ∃ x xs, (listsOf C a)[b]! = x :: xs := by
        cases hl : (listsOf C a)[b]! with
        | nil => rw [hl] at hne; simp at hne
        | cons x xs => exact ⟨x, xs, rfl⟩
      rw [hx, List.flatMap_cons, List.length_append]
      have := ih (b + 1) (fun j => if b = j then x else l j) (by omega)
      omega
  exact this _ _ _ (by omega)
end
theorem within_tr {nodes : List Nd} [ha : Acyc nodes] {y z : Int} (hyz : withinF nodes y z) : ∀ x : Int, withinF nodes x y → withinF nodes x z := by
  refine above_ind (nodes := nodes) (fun x hx h => ?_) (fun x hx ih h => ?_)
  · unfold withinF at h; rw [above_no hx] at h; cases h
  · unfold withinF at h ⊢
    rw [above_step hx] at h ⊢
    rcases List.mem_cons.1 h with rfl | h
    · unfold withinF at hyz; rw [above_step hx] at hyz; exact hyz
    · exact List.mem_cons_of_mem _ (ih h)
theorem inside_tr {C : Cat} (ok : OkCat C) {m m' n : Int} {a a' : Nat → Int} (h1 : insideF C m a n) (h2 : spWithin C m a m' a') : insideF C m' a' n := by
  obtain ⟨hn, e1, e2, e3, e4⟩ := h1
  obtain ⟨_, f2, f3, f4⟩ := h2
  refine ⟨hn, e1, f2, e3.trans f3, fun i hi => ?_⟩
  haveI := treeErr_acyc (ok.trees i hi).2
  exact within_tr (f4 i hi) _ (e4 i hi)
end Go.Sl
