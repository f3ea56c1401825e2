/-
  Facts that the proof is made of (V8).
-/
import Derived.Test.YtoekdnandjjeoaaGreatKP3
import Derived.Test.YtoekdnandjjeoaaGreatKV1
/-
  Plain facts: what is just below a cell comes to the cell.
-/
namespace Go.Sl
open Go.Proofs
set_option linter.unusedVariables false
set_option linter.unusedSimpArgs false
set_option maxRecDepth 10000
set_option synthInstance.maxSize 2000
set_option synthInstance.maxHeartbeats 200000
set_option maxHeartbeats 1000000
theorem above_dep {nodes : List Nd} [ha : Acyc nodes] {d : Int → Nat} (hd : ∀ i : Int, 0 ≤ i → i < (nodes.length : Int) → d (nodes[i.toNat]!).up < d i ∧ d i ≤ 32) : ∀ j x : Int, x ∈ above nodes j → d x ≤ d j := by
  refine above_ind (nodes := nodes) (fun j hj x hx => ?_) (fun j hj ih x hx => ?_)
  · rw [above_no hj] at hx; cases hx
  · rw [above_step hj] at hx
    rcases List.mem_cons.1 hx with rfl | h
    · exact Nat.le_refl _
    · have h1 := ih x h
      have h2 := hd j hj.1 hj.2
      unfold upF at h1
      omega
theorem above_once {nodes : List Nd} [ha : Acyc nodes] (i j : Int) : (above nodes j).count i = if withinF nodes j i then 1 else 0 := by
  have hle : (above nodes j).count i ≤ 1 := by
    obtain ⟨d, hd⟩ := ha.eq
    revert j
    refine above_ind (nodes := nodes) (fun j hj => by rw [above_no hj]; simp) (fun j hj ih => ?_)
    rw [above_count hj]
    split
    · rename_i e
      subst e
      have : (above nodes (upF nodes j)).count j = 0 := List.count_eq_zero.2 fun hm => by
        have h1 := above_dep hd _ _ hm
        have h2 := hd j hj.1 hj.2
        unfold upF at h1
        omega
      omega
    · omega
  split
  · rename_i h
    have := List.count_pos_iff.2 h
    omega
  · rename_i h
    exact List.count_eq_zero.2 h
/-- A leaf that is within a member with kids is within one kid of it. -/
theorem leaf_split {nodes : List Nd} [ha : Acyc nodes] {i j : Int} (hi : 0 ≤ i ∧ i < nodes.length) (hne : j ≠ i) : ((kidsTo nodes nodes.length i.toNat).map (fun k => if withinF nodes j k then 1 else 0)).sum = if withinF nodes j i then 1 else 0 := by
  have h := count_split hi j
  rw [above_once, if_neg hne, Nat.zero_add] at h
  rw [h]
  congr 1
  exact List.map_congr_left fun k _ => (above_once k j).symm
theorem sum_and (Z : Prop) [Decidable Z] (q : Int → Prop) [DecidablePred q] (r : Prop) [Decidable r] : ∀ (l : List Int), (l.map (fun k => if q k then 1 else 0)).sum = (if r then 1 else 0) → (l.map (fun k => if Z ∧ q k then (1 : Nat) else 0)).sum = if Z ∧ r then 1 else 0 := by
  intro l h
  by_cases hz : Z
  · simp only [hz, true_and]; exact h
  · simp only [hz, false_and, if_false]
    exact sum_zero _ fun _ _ => rfl
theorem sumIf_split (ks : List Int) (q : Int → Nat → Prop) [∀ k, DecidablePred (q k)] (r : Nat → Prop) [DecidablePred r] (vals : List Int) : ∀ n, (∀ j < n, (ks.map (fun k => if q k j then (1 : Nat) else 0)).sum = if r j then 1 else 0) → (ks.map (fun k => sumIf (q k) vals n)).sum = sumIf r vals n
  | 0, _ => by
    simp only [sumIf]
    induction ks with
    | nil => rfl
    | cons k ks ih => simp only [List.map_cons, List.sum_cons]; rw [ih (fun j hj => by omega)]; rfl
  | n + 1, h => by
    have ih := sumIf_split ks q r vals n (fun j hj => h j (by omega))
    have hn := h n (by omega)
    simp only [sumIf]
    rw [← ih]
    have : ∀ (l : List Int), (l.map (fun k => sumIf (q k) vals n + if q k n then vals[n]! else 0)).sum = (l.map (fun k => sumIf (q k) vals n)).sum + ((l.map (fun k => if q k n then (1 : Nat) else 0)).sum : Nat) * vals[n]! := by
      intro l
      induction l with
      | nil => simp
      | cons k l il =>
        simp only [List.map_cons, List.sum_cons]
        rw [il]
        by_cases hq : q k n
        · rw [if_pos hq, if_pos hq, show ((1 + (l.map (fun k => if q k n then (1 : Nat) else 0)).sum : Nat) : Int) = 1 + ((l.map (fun k => if q k n then (1 : Nat) else 0)).sum : Nat) by omega, Int.add_mul]
          omega
        · rw [if_neg hq, if_neg hq, Nat.zero_add]
          omega
    rw [this, hn]
    by_cases hr : r n
    · rw [if_pos hr, if_pos hr]; simp
    · rw [if_neg hr, if_neg hr]; simp
theorem cellSum_inside {C : Cat} (ok : OkCat C) {m : Int} {a : Nat → Int} (hr : rightF C m a) {vals : List Int} (hv : vals.length = (leavesF C C.dims.length).toNat) :
    cellSum C vals (indexF C m a).toNat = sumIf (fun (n : Nat) => insideF C m a n) vals vals.length := by
  have hx := index_in ok hr
  unfold cellSum
  refine sumIf_congr _ fun k hk => ?_
  rw [inside_over ok hr (n := (k : Int)) (by omega), show (((indexF C m a).toNat : Nat) : Int) = indexF C m a by omega]
theorem kids_right {C : Cat} {c : Cl} {d : Nat} (hd : d < C.dims.length) (hd4 : C.dims.length ≤ 4) (hr : rightF C c.m c.a) {k : Int} (hk : k ∈ kidsF C d (c.a d)) : rightF C (setAt c d k).m (setAt c d k).a := by
  obtain ⟨t, ht1, _, ht2⟩ := kidsTo_mem.1 hk
  refine ⟨hr.1, fun i hi => ?_⟩
  rw [setAt_a _ d _ (by omega) hi]
  split
  · rename_i e
    rw [e, show sizeF C d = (C.dims[d]!).2.length from if_pos hd]
    omega
  · exact hr.2 i hi
theorem leaf_rank {C : Cat} {n : Int} (hn : 0 ≤ n ∧ n < leavesF C C.dims.length) {d : Nat} (hd : d < C.dims.length) (ok : OkCat C) : (mkTree (C.dims[d]!).2).leafB (leafAtF C n d) := by
  have hdg := digits (C := C) (o := leavesN C) (leavesN_pos hn) hn.1 (by rw [all_leaves]; exact hn.2)
  have h2 := hdg.2 d hd
  have hN : leavesN C d = (mkTree (C.dims[d]!).2).leaves.length := rfl
  rw [leafAtF_in hd]
  exact (leaf_ok (ok.trees d hd).2 (k := (remF (leavesN C) n C.dims.length d).toNat) (by omega)).1
/-- The cells just below a cell come to it. -/
theorem parts_sum {C : Cat} (ok : OkCat C) {c : Cl} {d : Nat} (hd : d < C.dims.length) (hr : rightF C c.m c.a) (hne : 0 < (kidsF C d (c.a d)).length) {vals : List Int} (hv : vals.length = (leavesF C C.dims.length).toNat) :
    ((kidsF C d (c.a d)).map (fun k => valF C vals (setAt c d k))).sum = valF C vals c := by
  have hd4 := ok.dims.2
  haveI := treeErr_acyc (ok.trees d hd).2
  have hri := right_in hr ok.dims.2 d hd
  unfold valF
  rw [cellSum_inside ok hr hv]
  have e1 : (kidsF C d (c.a d)).map (fun k => cellSum C vals (indexF C (setAt c d k).m (setAt c d k).a).toNat) = (kidsF C d (c.a d)).map (fun k => sumIf (fun (n : Nat) => insideF C (setAt c d k).m (setAt c d k).a n) vals vals.length) :=
    List.map_congr_left fun k hk => cellSum_inside ok (kids_right hd hd4 hr hk) hv
  rw [e1]
  refine sumIf_split _ _ _ _ _ fun n hn => ?_
  have hn2 : 0 ≤ (n : Int) ∧ (n : Int) < leavesF C C.dims.length := by omega
  have hlb := (leafB_iff (ok.trees d hd).2).1 (leaf_rank hn2 hd ok)
  have hneq : leafAtF C n d ≠ c.a d := fun e => by
    have h2 := hlb.2
    unfold leafK at h2
    rw [decide_eq_true_eq, e, kidsOf_get (by omega)] at h2
    unfold kidsF at hne
    omega
  have hls := leaf_split hri hneq
  obtain ⟨Z, hZ⟩ : ∃ Z : Prop, Z = ((0 ≤ (n : Int) ∧ (n : Int) < leavesF C C.dims.length) ∧ rightF C (quoF (leavesN C) n C.dims.length C.dims.length) (leafAtF C n) ∧ quoF (leavesN C) n C.dims.length C.dims.length = c.m ∧ ∀ i < C.dims.length, i ≠ d → withinF (C.dims[i]!).2 (leafAtF C n i) (c.a i)) := ⟨_, rfl⟩
  haveI : Decidable Z := Classical.propDecidable _
  have h1 : insideF C c.m c.a n ↔ Z ∧ withinF (C.dims[d]!).2 (leafAtF C n d) (c.a d) := by
    rw [hZ]
    constructor
    · rintro ⟨a1, a2, a3, a4, a5⟩
      exact ⟨⟨a1, a2, a4, fun i hi _ => a5 i hi⟩, a5 d hd⟩
    · rintro ⟨⟨a1, a2, a4, a5⟩, a6⟩
      refine ⟨a1, a2, hr, a4, fun i hi => ?_⟩
      by_cases e : i = d
      · rw [e]; exact a6
      · exact a5 i hi e
  have h2 : ∀ k ∈ kidsF C d (c.a d), (insideF C (setAt c d k).m (setAt c d k).a n ↔ Z ∧ withinF (C.dims[d]!).2 (leafAtF C n d) k) := fun k hk => by
    rw [hZ]
    constructor
    · rintro ⟨a1, a2, a3, a4, a5⟩
      refine ⟨⟨a1, a2, a4, fun i hi e => ?_⟩, ?_⟩
      · have := a5 i hi
        rwa [setAt_a _ d _ (by omega) (by omega), if_neg e] at this
      · have := a5 d hd
        rwa [setAt_a _ d _ (by omega) (by omega), if_pos rfl] at this
    · rintro ⟨⟨a1, a2, a4, a5⟩, a6⟩
      refine ⟨a1, a2, kids_right hd hd4 hr hk, a4, fun i hi => ?_⟩
      rw [setAt_a _ d _ (by omega) (by omega)]
      split
      · rename_i e; rw [e]; exact a6
      · rename_i e; exact a5 i hi e
  have h3 := sum_and Z _ _ _ hls
  simp only [h1]
  rw [← h3]
  congr 1
  refine List.map_congr_left fun k hk => ?_
  simp only [h2 k hk]
section
variable {P : Program} {N : NN} {V : List HP} {e : Env} {h : PHeap}
/-- A sum that may wrap. -/
theorem soft_addW (P : Program) (N : NN) : ∀ (V : List HP) (h : PHeap) (e : Env) (a b : Operand) (t ty' : TypeId) (x y : Int) [ha : Is (lkO e a) (some (vI x))] [hb : Is (lkO e b) (some (vI y))], Soft P N V h e (.binOp .add t a b ty') True (vI (IntKind.i64.wrap (x + y))) :=
  fun V h e a b t ty' x y ha hb => ⟨fun hs _ d ty pos af g ac w se _ => run_int .add (se.eval ha.eq) (se.eval hb.eq) (fun w => by simp [binOp, Op.intArith]) w⟩
end
theorem wrap_add (a b : Int) : IntKind.i64.wrap (IntKind.i64.wrap a + b) = IntKind.i64.wrap (a + b) := by
  simp only [i64_wrap]
  omega
end Go.Sl
