/-
  Facts that the proof is made of (P3).
-/
import Derived.Test.YtoekdnandjjeoaaGreatKP2
import Derived.Test.YtoekdnandjjeoaaGreatKN1
/-
  Plain facts: sums of the leaves within cells, and how they change.
-/
namespace Go.Sl
open Go.Proofs
set_option linter.unusedVariables false
set_option linter.unusedSimpArgs false
set_option maxRecDepth 10000
set_option synthInstance.maxSize 2000
set_option synthInstance.maxHeartbeats 200000
set_option maxHeartbeats 1000000
def sumIf (q : Nat → Prop) [DecidablePred q] (vals : List Int) : Nat → Int
  | 0 => 0
  | k + 1 => sumIf q vals k + if q k then vals[k]! else 0
/-- The sum of a cell's leaves. -/
def cellSum (C : Cat) (vals : List Int) (i : Nat) : Int := sumIf (fun (n : Nat) => overQ C n i) vals vals.length
def sumsF (C : Cat) (vals : List Int) : List Int := (List.range (cellsF C C.dims.length).toNat).map (cellSum C vals)
def Ok64 (vals : List Int) : Prop := ∀ k < vals.length, -9223372036854775808 ≤ vals[k]! ∧ vals[k]! ≤ 9223372036854775807
theorem sumsF_len (C : Cat) (vals : List Int) : (sumsF C vals).length = (cellsF C C.dims.length).toNat := by unfold sumsF; simp
theorem sumsF_get {C : Cat} {vals : List Int} {i : Nat} (hi : i < (cellsF C C.dims.length).toNat) : (sumsF C vals)[i]! = cellSum C vals i := by
  unfold sumsF
  rw [getElem!_pos _ i (by simpa using hi)]; simp
theorem sumIf_bnd {q : Nat → Prop} [DecidablePred q] {vals : List Int} (h : Ok64 vals) : ∀ k ≤ vals.length, -(9223372036854775808 * (k : Int)) ≤ sumIf q vals k ∧ sumIf q vals k ≤ 9223372036854775808 * (k : Int)
  | 0, _ => by simp [sumIf]
  | k + 1, hk => by
    have ih := sumIf_bnd (q := q) h k (by omega)
    have := h k (by omega)
    simp only [sumIf]
    split <;> omega
theorem cellSum_bnd {C : Cat} {vals : List Int} (h : Ok64 vals) (hl : vals.length ≤ 4294967296) (i : Nat) : -39614081257132168796771975168 ≤ cellSum C vals i ∧ cellSum C vals i ≤ 39614081257132168796771975168 := by
  have := sumIf_bnd (q := fun (n : Nat) => overQ C n i) h vals.length (Nat.le_refl _)
  unfold cellSum
  omega
theorem set_get' {xs : List Int} {x : Int} {i j : Nat} (hj : j < xs.length) : (xs.set i x)[j]! = if i = j then x else xs[j]! := by
  rw [getElem!_pos _ j (by simpa using hj), List.getElem_set, getElem!_pos xs j hj]
theorem sumIf_set {q : Nat → Prop} [DecidablePred q] {vals : List Int} {c : Nat} {x : Int} (hc : c < vals.length) : ∀ k ≤ vals.length, sumIf q (vals.set c x) k = sumIf q vals k + if c < k ∧ q c then x - vals[c]! else 0
  | 0, _ => by simp [sumIf]
  | k + 1, hk => by
    have ih := sumIf_set (q := q) (x := x) hc k (by omega)
    simp only [sumIf]
    rw [ih, set_get' (show k < vals.length by omega)]
    by_cases e : c = k
    · subst e
      rw [if_pos rfl, if_neg (by omega)]
      by_cases hq : q c
      · rw [if_pos hq, if_pos hq, if_pos ⟨by omega, hq⟩]; omega
      · rw [if_neg hq, if_neg hq, if_neg (fun h => hq h.2)]
    · rw [if_neg e]
      have hiff : (c < k + 1 ∧ q c) ↔ (c < k ∧ q c) := ⟨fun h => ⟨by omega, h.2⟩, fun h => ⟨by omega, h.2⟩⟩
      by_cases hq : c < k ∧ q c
      · rw [if_pos hq, if_pos (hiff.2 hq)]; omega
      · rw [if_neg hq, if_neg (fun h => hq (hiff.1 h))]; omega
theorem cellSum_set {C : Cat} {vals : List Int} {c : Nat} {x : Int} (hc : c < vals.length) (i : Nat) : cellSum C (vals.set c x) i = cellSum C vals i + if overQ C c i then x - vals[c]! else 0 := by
  unfold cellSum
  rw [List.length_set, sumIf_set hc vals.length (Nat.le_refl _)]
  by_cases h : overQ C c i
  · rw [if_pos h, if_pos ⟨hc, h⟩]
  · rw [if_neg h, if_neg (fun h2 => h h2.2)]
theorem Ok64.set {vals : List Int} {c : Nat} {x : Int} (h : Ok64 vals) (hx : -9223372036854775808 ≤ x ∧ x ≤ 9223372036854775807) : Ok64 (vals.set c x) := fun k hk => by
  have hk : k < vals.length := by simpa using hk
  rw [set_get' hk]
  split
  · exact hx
  · exact h k hk
/-! ### How many do not fit; how many are not 0 -/
def cntB (S : List Int) : Int := ((S.filter fun v => !decide (FitP v)).length : Int)
def cnt0 (S : List Int) : Int := ((S.filter fun v => !decide (v = 0)).length : Int)
theorem cnt_set (p : Int → Bool) : ∀ (S : List Int) (i : Nat) (x : Int), i < S.length → (((S.set i x).filter p).length : Int) = ((S.filter p).length : Int) - (if p (S[i]!) then 1 else 0) + (if p x then 1 else 0)
  | [], i, x, h => by simp at h
  | y :: S, 0, x, _ => by
    simp only [List.set_cons_zero, List.filter_cons, List.getElem!_cons_zero]
    cases p y <;> cases p x <;> simp
  | y :: S, i + 1, x, h => by
    have ih := cnt_set p S i x (by simpa using h)
    simp only [List.set_cons_succ, List.filter_cons, List.getElem!_cons_succ]
    cases hpy : p y with
    | false => simp only [Bool.false_eq_true, if_false]; exact ih
    | true => simp only [if_true, List.length_cons, Int.natCast_add]; omega
theorem cntB_set {S : List Int} {i : Nat} {x : Int} (h : i < S.length) : cntB (S.set i x) = cntB S - (if FitP (S[i]!) then 0 else 1) + (if FitP x then 0 else 1) := by
  unfold cntB
  rw [cnt_set _ S i x h]
  by_cases h1 : FitP (S[i]!) <;> by_cases h2 : FitP x <;> simp [h1, h2]
theorem cnt0_set {S : List Int} {i : Nat} {x : Int} (h : i < S.length) : cnt0 (S.set i x) = cnt0 S - (if S[i]! = 0 then 0 else 1) + (if x = 0 then 0 else 1) := by
  unfold cnt0
  rw [cnt_set _ S i x h]
  by_cases h1 : S[i]! = 0 <;> by_cases h2 : x = 0 <;> simp [h1, h2]
theorem cnt_le (p : Int → Bool) (S : List Int) : 0 ≤ ((S.filter p).length : Int) ∧ ((S.filter p).length : Int) ≤ S.length := by
  have := List.length_filter_le p S
  omega
theorem cntB_le (S : List Int) : 0 ≤ cntB S ∧ cntB S ≤ S.length := cnt_le _ S
theorem cnt0_le (S : List Int) : 0 ≤ cnt0 S ∧ cnt0 S ≤ S.length := cnt_le _ S
/-! ### A leaf changes: its cells, one after another -/
/-- Sums of which the first k cells over a leaf are changed. -/
def TurnTo (C : Cat) (vals : List Int) (c : Nat) (x : Int) (k : Nat) (S : List Int) : Prop :=
  S.length = (cellsF C C.dims.length).toNat ∧ ∀ i < (cellsF C C.dims.length).toNat, S[i]! = cellSum C vals i + if (i : Int) ∈ (pickTo (overQ C c) (cellsF C C.dims.length).toNat).take k then x - vals[c]! else 0
theorem turn_0 (C : Cat) (vals : List Int) (c : Nat) (x : Int) : TurnTo C vals c x 0 (sumsF C vals) := ⟨sumsF_len C vals, fun i hi => by rw [sumsF_get hi]; simp⟩
theorem pickTo_nodup (q : Int → Prop) [DecidablePred q] (n : Nat) : (pickTo q n).Nodup := List.nodup_iff_pairwise_ne.2 ((pickTo_sorted q n).imp (fun h => by omega))
theorem turn_step {C : Cat} {vals : List Int} {c : Nat} {x : Int} {k : Nat} {S : List Int} (t : TurnTo C vals c x k S) (hk : k < (pickTo (overQ C c) (cellsF C C.dims.length).toNat).length) {i : Nat} (hi : (i : Int) = (pickTo (overQ C c) (cellsF C C.dims.length).toNat)[k]!) (hic : i < (cellsF C C.dims.length).toNat) :
    S[i]! = cellSum C vals i ∧ TurnTo C vals c x (k + 1) (S.set i (S[i]! - vals[c]! + x)) := by
  obtain ⟨t1, t2⟩ := t
  have hnd := pickTo_nodup (overQ C c) (cellsF C C.dims.length).toNat
  have hget : (pickTo (overQ C c) (cellsF C C.dims.length).toNat)[k]! = (pickTo (overQ C c) (cellsF C C.dims.length).toNat)[k] := getElem!_pos _ k hk
  have htk : (pickTo (overQ C c) (cellsF C C.dims.length).toNat).take (k + 1) = (pickTo (overQ C c) (cellsF C C.dims.length).toNat).take k ++ [(i : Int)] := by
    rw [hi, hget, List.take_succ_eq_append_getElem hk]
  have hni : ¬ (i : Int) ∈ (pickTo (overQ C c) (cellsF C C.dims.length).toNat).take k := fun h => by
    have h2 : ((pickTo (overQ C c) (cellsF C C.dims.length).toNat).take (k + 1)).Nodup := hnd.sublist (List.take_sublist _ _)
    rw [htk, List.nodup_append] at h2
    exact h2.2.2 _ h _ (List.mem_singleton.2 rfl) rfl
  have hSi : S[i]! = cellSum C vals i := by rw [t2 i hic, if_neg hni]; omega
  refine ⟨hSi, by rw [List.length_set]; exact t1, fun j hj => ?_⟩
  rw [set_get' (by omega), htk]
  by_cases e : i = j
  · subst e
    rw [if_pos rfl, if_pos (by simp), hSi]; omega
  · rw [if_neg e, t2 j hj]
    have hiff : (j : Int) ∈ (pickTo (overQ C c) (cellsF C C.dims.length).toNat).take k ++ [(i : Int)] ↔ (j : Int) ∈ (pickTo (overQ C c) (cellsF C C.dims.length).toNat).take k := by
      rw [List.mem_append, List.mem_singleton]
      constructor
      · rintro (h | h)
        · exact h
        · omega
      · exact .inl
    by_cases hm : (j : Int) ∈ (pickTo (overQ C c) (cellsF C C.dims.length).toNat).take k
    · rw [if_pos hm, if_pos (hiff.2 hm)]
    · rw [if_neg hm, if_neg (fun h => hm (hiff.1 h))]
theorem turn_all {C : Cat} {vals : List Int} {c : Nat} {x : Int} {S : List Int} (hc : c < vals.length) (t : TurnTo C vals c x (pickTo (overQ C c) (cellsF C C.dims.length).toNat).length S) : S = sumsF C (vals.set c x) := by
  obtain ⟨t1, t2⟩ := t
  refine list_eq (by rw [t1, sumsF_len]) fun i hi => ?_
  have hi : i < (cellsF C C.dims.length).toNat := by omega
  rw [t2 i hi, sumsF_get hi, cellSum_set hc, List.take_length]
  have hiff : (i : Int) ∈ pickTo (overQ C c) (cellsF C C.dims.length).toNat ↔ overQ C c i := by
    rw [mem_pickTo]
    exact ⟨fun h => h.2, fun h => ⟨by omega, h⟩⟩
  by_cases h : overQ C c i
  · rw [if_pos h, if_pos (hiff.2 h)]
  · rw [if_neg h, if_neg (fun h2 => h (hiff.1 h2))]
/-! ### The document's sum -/
theorem sumTo_append (xs ys : List Int) : ∀ k ≤ xs.length, sumTo (xs ++ ys) k = sumTo xs k
  | 0, _ => rfl
  | k + 1, hk => by
    simp only [sumTo]
    rw [sumTo_append xs ys k (by omega), getElem!_pos (xs ++ ys) k (by simp; omega), getElem!_pos xs k (by omega), List.getElem_append_left]
theorem sumI_snoc (xs : List Int) (y : Int) : sumI (xs ++ [y]) = sumI xs + y := by
  unfold sumI
  rw [List.length_append, List.length_singleton]
  simp only [sumTo]
  rw [sumTo_append xs [y] xs.length (Nat.le_refl _), getElem!_pos (xs ++ [y]) xs.length (by simp)]
  simp
theorem sum_pick (q : Int → Prop) [DecidablePred q] (vals : List Int) : ∀ n, sumI ((pickTo q n).map (fun u => vals[u.toNat]!)) = sumIf (fun (k : Nat) => q k) vals n
  | 0 => rfl
  | n + 1 => by
    rw [pickTo_succ]
    simp only [sumIf]
    split
    · rw [List.map_append, List.map_singleton, sumI_snoc, sum_pick q vals n]; rfl
    · rw [sum_pick q vals n, Int.add_zero]
theorem inside_over {C : Cat} (ok : OkCat C) {m : Int} {a : Nat → Int} (hr : rightF C m a) {n : Int} (hn : 0 ≤ n ∧ n < leavesF C C.dims.length) : insideF C m a n ↔ overQ C n (indexF C m a) := by
  have hc := cell_index ok hr
  unfold insideF overQ
  rw [hc.1, spWithin_congr2 ok.dims.2 hc.2]
  exact ⟨fun h => h.2, fun h => ⟨hn, h⟩⟩
theorem sumIf_congr {q r : Nat → Prop} [DecidablePred q] [DecidablePred r] {vals : List Int} : ∀ n, (∀ k < n, q k ↔ r k) → sumIf q vals n = sumIf r vals n
  | 0, _ => rfl
  | n + 1, h => by
    simp only [sumIf]
    rw [sumIf_congr n (fun k hk => h k (by omega))]
    by_cases hq : q n
    · rw [if_pos hq, if_pos ((h n (by omega)).1 hq)]
    · rw [if_neg hq, if_neg (fun h2 => hq ((h n (by omega)).2 h2))]
/-- What a cell's leaves come to. -/
theorem value_eq {C : Cat} (ok : OkCat C) {m : Int} {a : Nat → Int} (hr : rightF C m a) {vals : List Int} (hv : vals.length = (leavesF C C.dims.length).toNat) :
    sumI ((underF C m a).map (fun u => vals[u.toNat]!)) = cellSum C vals (indexF C m a).toNat := by
  have hx := index_in ok hr
  rw [under_eq ok hr, sum_pick, ← hv]
  unfold cellSum
  refine sumIf_congr _ fun k hk => ?_
  rw [inside_over ok hr (n := (k : Int)) (by omega), show (((indexF C m a).toNat : Nat) : Int) = indexF C m a by omega]
end Go.Sl
