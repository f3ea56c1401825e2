/-
  Facts that the proof is made of (PV).
-/
import Derived.Test.YtoekdnandjjeoaaGreatKP3
/-
  Plain facts: the values of a cell's leaves, and how many are not 0.
-/
namespace Go.Sl
open Go.Proofs
set_option linter.unusedVariables false
set_option linter.unusedSimpArgs false
set_option maxRecDepth 10000
set_option synthInstance.maxSize 2000
set_option synthInstance.maxHeartbeats 200000
set_option maxHeartbeats 1000000
theorem cnt0_take {vals : List Int} {k : Nat} (hk : k < vals.length) : cnt0 (vals.take (k + 1)) = cnt0 (vals.take k) + if vals[k]! = 0 then 0 else 1 := by
  rw [List.take_succ_eq_append_getElem hk, getElem!_pos vals k hk]
  unfold cnt0
  rw [List.filter_append, List.length_append]
  by_cases h : vals[k] = 0
  · simp [h]
  · simp [h]
def pickV (us vals : List Int) (k : Nat) : List Int := (us.take k).map (fun u => vals[u.toNat]!)
theorem pickV_succ {us vals : List Int} {k : Nat} (hk : k < us.length) : pickV us vals (k + 1) = pickV us vals k ++ [vals[(us[k]!).toNat]!] := by
  unfold pickV
  rw [List.take_succ_eq_append_getElem hk, List.map_append, getElem!_pos us k hk]; rfl
theorem pickV_len {us vals : List Int} {k : Nat} (hk : k ≤ us.length) : (pickV us vals k).length = k := by
  unfold pickV
  rw [List.length_map, List.length_take]; omega
end Go.Sl

/-
  Plain facts: sums of leaves that are all 0; the first sum that does not fit; leaves that come one after another.
-/
namespace Go.Sl
open Go.Proofs
set_option linter.unusedVariables false
set_option linter.unusedSimpArgs false
set_option maxRecDepth 10000
set_option synthInstance.maxSize 2000
set_option synthInstance.maxHeartbeats 200000
set_option maxHeartbeats 1000000
theorem rep_get {n k : Nat} (hk : k < n) : (List.replicate n (0 : Int))[k]! = 0 := by
  rw [getElem!_pos _ k (by simpa using hk), List.getElem_replicate]
theorem sumIf_zero (q : Nat → Prop) [DecidablePred q] (n : Nat) : ∀ k ≤ n, sumIf q (List.replicate n 0) k = 0
  | 0, _ => rfl
  | k + 1, hk => by
    simp only [sumIf]
    rw [sumIf_zero q n k (by omega), rep_get (by omega)]
    split <;> rfl
theorem sums_zero (C : Cat) (n : Nat) : sumsF C (List.replicate n 0) = List.replicate (cellsF C C.dims.length).toNat 0 := by
  refine list_eq (by rw [sumsF_len, List.length_replicate]) fun i hi => ?_
  rw [sumsF_len] at hi
  rw [sumsF_get hi, rep_get hi]
  unfold cellSum
  rw [List.length_replicate]
  exact sumIf_zero _ _ _ (Nat.le_refl _)
theorem filter_zero (p : Int → Bool) (hp : p 0 = false) (n : Nat) : ((List.replicate n (0 : Int)).filter p).length = 0 := by
  rw [List.filter_replicate, hp]; rfl
theorem cntB_zero (n : Nat) : cntB (List.replicate n 0) = 0 := by
  unfold cntB
  rw [filter_zero _ (by decide) n]; rfl
theorem cnt0_zero (n : Nat) : cnt0 (List.replicate n 0) = 0 := by
  unfold cnt0
  rw [filter_zero _ (by decide) n]; rfl
/-- The first sum that does not fit. -/
def FirstB (S : List Int) (j : Nat) : Prop := j < S.length ∧ ¬ FitP (S[j]!) ∧ ∀ i < j, FitP (S[i]!)
theorem first_ex {S : List Int} : ∀ n ≤ S.length, (∀ i < n, FitP (S[i]!)) ∨ ∃ j, FirstB S j
  | 0, _ => .inl fun i hi => by omega
  | n + 1, hn => by
    rcases first_ex (S := S) n (by omega) with h | h
    · by_cases hf : FitP (S[n]!)
      · refine .inl fun i hi => ?_
        rcases Nat.lt_or_ge i n with h2 | h2
        · exact h i h2
        · have : i = n := by omega
          subst this; exact hf
      · exact .inr ⟨n, by omega, hf, h⟩
    · exact .inr h
/-- The first n values; the others are 0. -/
def frontN (vals : List Int) (n : Nat) : List Int := vals.take n ++ List.replicate (vals.length - n) 0
theorem frontN_len {vals : List Int} {n : Nat} (hn : n ≤ vals.length) : (frontN vals n).length = vals.length := by
  unfold frontN; rw [List.length_append, List.length_take, List.length_replicate]; omega
theorem frontN_get {vals : List Int} {n j : Nat} (hn : n ≤ vals.length) (hj : j < vals.length) : (frontN vals n)[j]! = if j < n then vals[j]! else 0 := by
  rw [getElem!_pos _ j (by rw [frontN_len hn]; exact hj)]
  unfold frontN
  split
  · rename_i h
    rw [List.getElem_append_left (by rw [List.length_take]; omega), List.getElem_take, getElem!_pos vals j hj]
  · rename_i h
    rw [List.getElem_append_right (by rw [List.length_take]; omega), List.getElem_replicate]
theorem frontN_succ {vals : List Int} {n : Nat} (hn : n < vals.length) : frontN vals (n + 1) = (frontN vals n).set n (vals[n]!) := by
  refine list_eq (by rw [List.length_set, frontN_len (by omega), frontN_len (by omega)]) fun j hj => ?_
  rw [frontN_len (by omega)] at hj
  rw [frontN_get (by omega) hj, set_get' (by rw [frontN_len (by omega)]; exact hj)]
  by_cases e : n = j
  · subst e; rw [if_pos (by omega), if_pos rfl]
  · rw [if_neg e, frontN_get (by omega) hj]
    by_cases h : j < n
    · rw [if_pos h, if_pos (by omega)]
    · rw [if_neg h, if_neg (by omega)]
theorem frontN_all (vals : List Int) : frontN vals vals.length = vals := by unfold frontN; simp
theorem frontN_zero (vals : List Int) : frontN vals 0 = List.replicate vals.length 0 := by unfold frontN; simp
theorem frontN_64 {vals : List Int} {n : Nat} (hn : n ≤ vals.length) (h : Ok64 vals) : Ok64 (frontN vals n) := fun k hk => by
  rw [frontN_len hn] at hk
  rw [frontN_get hn hk]
  split
  · exact h k hk
  · omega
theorem frontN_same {vals : List Int} {n : Nat} (hn : n < vals.length) (h0 : vals[n]! = 0) : frontN vals (n + 1) = frontN vals n := by
  refine list_eq (by rw [frontN_len (by omega), frontN_len (by omega)]) fun j hj => ?_
  rw [frontN_len (by omega)] at hj
  rw [frontN_get (by omega) hj, frontN_get (by omega) hj]
  by_cases e : n = j
  · subst e; rw [if_pos (by omega), if_neg (by omega)]; exact h0
  · by_cases h : j < n
    · rw [if_pos h, if_pos (by omega)]
    · rw [if_neg h, if_neg (by omega)]
end Go.Sl
