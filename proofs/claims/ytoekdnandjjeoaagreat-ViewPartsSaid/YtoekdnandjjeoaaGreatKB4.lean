/-
  Facts that the proof is made of (B4).
-/
import Derived.Test.YtoekdnandjjeoaaGreatKB2
import Derived.Test.YtoekdnandjjeoaaGreatKP3
/-
  Lists of numbers: how they read.
-/
namespace Go.Sl
open Go.RowKit
open Go.Proofs
set_option linter.unusedVariables false
set_option linter.unusedSimpArgs false
set_option maxRecDepth 10000
set_option synthInstance.maxSize 2000
set_option synthInstance.maxHeartbeats 200000
set_option maxHeartbeats 1000000
section
variable {w : World} {r : Reach} {b0 : Nat} {H : Type} {enc : TypeId × Value → H} {base : Nat} {held : Bool} {d : DataW H} {ps : List MemPlace} {v : Value}
theorem rd_i641 {cs : List Value} (r : Reads Tryz.prog w 2 cs) : ∃ y : Int, encI y = cs ∧ (-9223372036854775808 ≤ y ∧ y ≤ 9223372036854775807) := by
  obtain ⟨n, e, hb⟩ := rd_i64 r
  exact ⟨n, e.symm, hb⟩
theorem arg_i64s (hv : Value.okWide Tryz.prog w r b0 45 v) (h : DataW.Trod enc Tryz.prog w base (fun _ => true) held 45 v d ps) : ∃ a c, ∃ xs : List Int, v = .slice a xs.length c ∧ FSl (full w) (.slice a xs.length c) encI 1 xs ∧ xs.length ≤ 9223372036854775807 ∧ Ok64 xs := by
  obtain ⟨a0, n0, c0, rfl⟩ := Go.WideShapes.okWide_slice (Go.Proofs.Tryz.underlying45) hv
  obtain ⟨fuel, hf⟩ := h
  obtain ⟨a, n, c, xs, e, h1, hg, h2⟩ := rd_slice (enc := encI) (k := 1) (good := fun y : Int => -9223372036854775808 ≤ y ∧ y ≤ 9223372036854775807) (by omega) (fun _ h => rd_i641 h) (cs := [.slice a0 n0 c0]) ⟨H, enc, base, held, fuel, _, hf⟩
  have hn : xs.length = n := FSl.len_eq h1
  simp only [List.cons.injEq, and_true] at e
  subst hn
  exact ⟨a, c, xs, e, h1, h2, fun k hk => by rw [getElem!_pos xs k hk]; exact hg _ (List.getElem_mem _)⟩
end
end Go.Sl
