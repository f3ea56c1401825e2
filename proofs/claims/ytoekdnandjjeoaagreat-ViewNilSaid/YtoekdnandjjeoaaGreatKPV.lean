/-
  Facts that the proof is made of (PV).
-/
import Derived.Test.YtoekdnandjjeoaaGreatKP3
/-
  Plain facts: the values of a cell's leaves, and how many are not 0.
-/
namespace Go.Sl
open Go.Proofs
set_option linter.unusedVariables false
set_option linter.unusedSimpArgs false
set_option maxRecDepth 10000
set_option synthInstance.maxSize 2000
set_option synthInstance.maxHeartbeats 200000
set_option maxHeartbeats 1000000
theorem cnt0_take {vals : List Int} {k : Nat} (hk : k < vals.length) : cnt0 (vals.take (k + 1)) = cnt0 (vals.take k) + if vals[k]! = 0 then 0 else 1 := by
  rw [List.take_succ_eq_append_getElem hk, getElem!_pos vals k hk]
  unfold cnt0
  rw [List.filter_append, List.length_append]
  by_cases h : vals[k] = 0
  · simp [h]
  · simp [h]
def pickV (us vals : List Int) (k : Nat) : List Int := (us.take k).map (fun u => vals[u.toNat]!)
theorem pickV_succ {us vals : List Int} {k : Nat} (hk : k < us.length) : pickV us vals (k + 1) = pickV us vals k ++ [vals[(us[k]!).toNat]!] := by
  unfold pickV
  rw [List.take_succ_eq_append_getElem hk, List.map_append, getElem!_pos us k hk]; rfl
theorem pickV_len {us vals : List Int} {k : Nat} (hk : k ≤ us.length) : (pickV us vals k).length = k := by
  unfold pickV
  rw [List.length_map, List.length_take]; omega
end Go.Sl
