/-
  Facts that the proof is made of (B2).
-/
import Derived.Test.YtoekdnandjjeoaaGreatKB1
/-
  Catalogues and lists of cells, with their lengths: how they read.
-/
namespace Go.Sl
open Go.RowKit
open Go.Proofs
set_option linter.unusedVariables false
set_option linter.unusedSimpArgs false
set_option maxRecDepth 10000
set_option synthInstance.maxSize 2000
set_option synthInstance.maxHeartbeats 200000
set_option maxHeartbeats 1000000
theorem FSl.len_eq {α : Type} {h : PHeap} {a : Option Addr} {n c k : Nat} {enc : α → List Value} {xs : List α} (f : FSl h (.slice a n c) enc k xs) : xs.length = n := by
  obtain ⟨bs, ⟨_, h2⟩, _⟩ := f.fz
  rcases h2 with ⟨⟨b, e⟩, rfl, _⟩ | ⟨b, off, cap, pre, post, T, fr, e, _⟩
  · simp only [Value.slice.injEq] at e; simp [e.2.1]
  · simp only [Value.slice.injEq] at e; exact e.2.1.symm
theorem maxLen_le {n : Nat} (h : n ≤ maxLen) : n ≤ 9223372036854775807 := h
section
variable {w : World}
theorem rd_i64 {t : TypeId} [h : IntT Tryz.prog t .i64] {cs : List Value} (r : Reads Tryz.prog w t cs) : ∃ n, cs = [vI n] ∧ -9223372036854775808 ≤ n ∧ n ≤ 9223372036854775807 := by
  obtain ⟨n, e, hw⟩ := rd_int r
  simp only [Lit.wf, Bool.and_eq_true, decide_eq_true_eq] at hw
  exact ⟨n, e, hw⟩
theorem rd_dims' {cs : List Value} (r : Reads Tryz.prog w 22 cs) : ∃ v ds, cs = [v] ∧ IsDims (full w) v ds ∧ ds.length ≤ 9223372036854775807 := by
  obtain ⟨a, n, c, xs, e, hf, hg, hl⟩ := rd_slice (enc := encDm) (k := 2) (good := fun y : Dm => FSl (full w) y.nv encNd 2 y.nodes) (by omega) (fun _ h => rd_dm h) r
  exact ⟨_, xs, e, ⟨hf, fun i hi => hg _ (by rw [getElem!_pos xs i hi]; exact List.getElem_mem _)⟩, hl⟩
theorem rd_cat' {cs : List Value} (r : Reads Tryz.prog w 25 cs) : ∃ dv mv le sc ds ms, cs = [dv, mv, vI le, vI sc] ∧ IsDims (full w) dv ds ∧ FSl (full w) mv encS 1 ms ∧ ds.length ≤ 9223372036854775807 := by
  obtain ⟨h1, h2⟩ := rd_fields r
  match cs, h1 with
  | [c0, c1, c2, c3], _ =>
    obtain ⟨dv, ds, e0, hd, hl⟩ := rd_dims' (h2 _ (List.mem_cons_self ..))
    obtain ⟨mv, ms, e1, hm⟩ := rd_strs (h2 _ (List.mem_cons_of_mem _ (List.mem_cons_self ..)))
    obtain ⟨le, e2, _⟩ := rd_int (h2 _ (List.mem_cons_of_mem _ (List.mem_cons_of_mem _ (List.mem_cons_self ..))))
    obtain ⟨sc, e3, _⟩ := rd_int (h2 _ (List.mem_cons_of_mem _ (List.mem_cons_of_mem _ (List.mem_cons_of_mem _ (List.mem_cons_self ..)))))
    simp at e0 e1 e2 e3
    subst e0; subst e1; subst e2; subst e3
    exact ⟨_, _, _, _, ds, ms, rfl, hd, hm, hl⟩
theorem rd_cl {cs : List Value} (r : Reads Tryz.prog w 48 cs) : ∃ y : Cl, encCl y = cs ∧ True := by
  obtain ⟨m, a0, a1, a2, a3, rfl⟩ := rd_cell r
  exact ⟨⟨m, a0, a1, a2, a3⟩, rfl, trivial⟩
theorem rd_cells {cs : List Value} (r : Reads Tryz.prog w 157 cs) : ∃ a n c xs, cs = [.slice a n c] ∧ xs.length = n ∧ FSl (full w) (.slice a n c) encCl 5 xs ∧ xs.length ≤ 9223372036854775807 := by
  obtain ⟨a, n, c, xs, e, hf, _, hl⟩ := rd_slice (enc := encCl) (k := 5) (good := fun _ => True) (by omega) (fun _ h => rd_cl h) r
  exact ⟨a, n, c, xs, e, FSl.len_eq hf, hf, hl⟩
end
section
variable {w : World} {r : Reach} {b0 : Nat} {H : Type} {enc : TypeId × Value → H} {base : Nat} {held : Bool} {d : DataW H} {ps : List MemPlace} {v : Value}
theorem arg_catL (hv : Value.okWide Tryz.prog w r b0 25 v) (h : DataW.Trod enc Tryz.prog w base (fun _ => true) held 25 v d ps) : ∃ dv mv le sc ds ms, v = .agg [dv, mv, vI le, vI sc].toArray ∧ IsDims (full w) dv ds ∧ FSl (full w) mv encS 1 ms ∧ ds.length ≤ 9223372036854775807 := by
  obtain ⟨cs, rfl, _⟩ := Go.WideShapes.okWide_struct (Go.Proofs.Tryz.underlying25) hv
  obtain ⟨fuel, hf⟩ := h
  obtain ⟨dv, mv, le, sc, ds, ms, e, h1, h2, h3⟩ := rd_cat' (cs := cs.toList) ⟨H, enc, base, held, fuel, _, hf⟩
  exact ⟨dv, mv, le, sc, ds, ms, by rw [← e], h1, h2, h3⟩
theorem arg_cells (hv : Value.okWide Tryz.prog w r b0 157 v) (h : DataW.Trod enc Tryz.prog w base (fun _ => true) held 157 v d ps) : ∃ a c, ∃ xs : List Cl, v = .slice a xs.length c ∧ FSl (full w) (.slice a xs.length c) encCl 5 xs ∧ xs.length ≤ 9223372036854775807 := by
  obtain ⟨a0, n0, c0, rfl⟩ := Go.WideShapes.okWide_slice (Go.Proofs.Tryz.underlying157) hv
  obtain ⟨fuel, hf⟩ := h
  obtain ⟨a, n, c, xs, e, hn, h1, h2⟩ := rd_cells (cs := [.slice a0 n0 c0]) ⟨H, enc, base, held, fuel, _, hf⟩
  simp only [List.cons.injEq, and_true] at e
  subst hn
  exact ⟨a, c, xs, e, h1, h2⟩
end
end Go.Sl
