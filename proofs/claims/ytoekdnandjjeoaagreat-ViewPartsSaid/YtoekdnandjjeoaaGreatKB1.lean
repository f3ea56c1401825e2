/-
  Facts that the proof is made of (B1).
-/
import Derived.Test.YtoekdnandjjeoaaGreatKY
import Derived.WalkKit
import Derived.ProofKit
import Derived.OpenShut
import Derived.ShutString
import Derived.ChangeOld
import Derived.Below
import Derived.Deep.Slices
import Derived.Test.YtoekdnandjjeoaaGreatKC3
/-
  From a reading of data to what is never changed; from a contract to a call.
-/
namespace Go.Sl
open Go.RowKit
set_option linter.unusedVariables false
set_option linter.unusedSimpArgs false
/-- All that there is, never changed from now on. -/
def full (w : World) : PHeap := ⟨fun b => w.heap[b]?, strm w⟩
theorem st_full (w : World) : St (full w) [] w := ⟨[], rfl, fun b o e => e, by simp, by simp, rfl⟩
theorem calls_of {P : Program} {f : FuncId} {args : List Value} {w : World} (s : Spec P f args (full w) [] (fun K => ∀ h', Hle (full w) h' → K (.bool true) h' [])) :
    Calls P f args.toArray w (fun e w' => e = .returned (.bool true) ∧ Below w.heap.size w w') := by
  refine (s (fun v h' L' => v = .bool true ∧ Hle (full w) h') [] w (fun h' hl => ⟨rfl, hl⟩) (by simpa using st_full w)).mono fun e w' hf => ?_
  obtain ⟨v, h', L', rfl, hle, ⟨rfl, _⟩, bs, hd, s0⟩ := hf
  have hs : strm w' = strm w := s0.sm.trans hle.sm
  have hb : ∀ k o, w.heap[k]? = some o → w'.heap[k]? = some o := fun k o e => s0.per k o (hle k o e)
  simp only [strm, Prod.mk.injEq] at hs
  refine ⟨rfl, ⟨hs.2.1, hs.1, hs.2.2, ?_, fun k hk => ?_⟩⟩
  · rcases Nat.eq_zero_or_pos w.heap.size with h0 | h0
    · omega
    · have := lt_of_heap (hb (w.heap.size - 1) _ (Array.getElem?_eq_getElem (by omega)))
      omega
  · have e := Array.getElem?_eq_getElem hk
    rw [hb k _ e, e]
/-- Cells that read as data of a type. -/
def Reads (P : Program) (w : World) (t : TypeId) (cs : List Value) : Prop :=
  ∃ (H : Type) (enc : TypeId × Value → H) (base : Nat) (held : Bool) (fuel : Nat) (x : DataW H × List MemPlace), DataW.trod enc P w base (fun _ => true) held fuel t cs = some x
section
variable {P : Program} {w : World}
theorem rd_int {t : TypeId} {k : IntKind} [h : IntT P t k] {cs : List Value} (r : Reads P w t cs) : ∃ n, cs = [.int k n] ∧ (Lit.int k n).wf = true := by
  obtain ⟨H, enc, base, held, fuel, x, hx⟩ := r
  obtain ⟨n, h1, _, h2⟩ := DataW.trod_int h.eq hx
  exact ⟨n, h1, h2⟩
theorem rd_bool {t : TypeId} [h : BoolT P t] {cs : List Value} (r : Reads P w t cs) : ∃ b, cs = [.bool b] := by
  obtain ⟨H, enc, base, held, fuel, x, hx⟩ := r
  obtain ⟨n, h1, _⟩ := DataW.trod_bool h.eq hx
  exact ⟨n, h1⟩
theorem rd_string {t : TypeId} [h : StrT P t] {cs : List Value} (r : Reads P w t cs) : ∃ s, cs = [.string s] ∧ s.size ≤ maxLen := by
  obtain ⟨H, enc, base, held, fuel, x, hx⟩ := r
  obtain ⟨n, h1, _, h2⟩ := DataW.trod_string h.eq hx
  exact ⟨n, h1, h2⟩
theorem rd_fields {t : TypeId} {l : List (TypeId × Nat × Nat)} {n : Nat} [h : FieldsL P t l n] {cs : List Value} (r : Reads P w t cs) : cs.length = n ∧ ∀ f ∈ l, Reads P w f.1 ((cs.drop f.2.1).take f.2.2) := by
  obtain ⟨H, enc, base, held, fuel, x, hx⟩ := r
  obtain ⟨fs, h1, h2, h3⟩ := h.eq
  obtain ⟨xs, m, _, _, h4, h5, h6⟩ := DataW.trod_struct h1 hx
  refine ⟨by rw [h4, h3], fun f hf => ?_⟩
  rw [← h2] at hf
  obtain ⟨g, hg, rfl⟩ := List.mem_map.1 hf
  obtain ⟨i, hi, hgi⟩ := Array.mem_iff_getElem.1 (by simpa using hg : g ∈ fs)
  have := h6 i g (by rw [Array.getElem?_eq_getElem hi, hgi])
  rw [List.getElem?_eq_getElem (by omega)] at this
  exact ⟨H, enc, base, held, m, _, this⟩
theorem rd_array {t e : TypeId} {n c : Nat} {agg : Bool} [h : ArrT P t n e] [hz : TySz P e agg c] {cs : List Value} (r : Reads P w t cs) : cs.length = P.cellsOf t ∧ ∀ i < n, Reads P w e ((cs.drop (i * c)).take c) := by
  obtain ⟨H, enc, base, held, fuel, x, hx⟩ := r
  obtain ⟨inf, dd, e1, e2, _, _⟩ := hz.eq
  have hc : P.cellsOf e = c := by simp [Program.cellsOf, e1, e2]
  obtain ⟨xs, m, _, _, h4, h5, h6⟩ := DataW.trod_array h.eq hx
  refine ⟨h4, fun i hi => ?_⟩
  have := h6 i hi
  rw [hc, List.getElem?_eq_getElem (by omega)] at this
  exact ⟨H, enc, base, held, m, _, this⟩
theorem list_of {α : Type} {p : Nat → α → Prop} : ∀ {n : Nat}, (∀ i < n, ∃ y, p i y) → ∃ xs : List α, xs.length = n ∧ ∀ i (h : i < xs.length), p i xs[i]
  | 0, _ => ⟨[], rfl, fun i h => by simp at h⟩
  | n + 1, h => by
    obtain ⟨xs, h1, h2⟩ := list_of (n := n) (fun i hi => h i (by omega))
    obtain ⟨y, hy⟩ := h n (by omega)
    refine ⟨xs ++ [y], by simp [h1], fun i hi => ?_⟩
    rcases Nat.lt_or_ge i xs.length with h3 | h3
    · rw [List.getElem_append_left h3]; exact h2 i h3
    · have : i = n := by simp at hi; omega
      subst this
      rw [List.getElem_append_right h3]; simp [h1]; exact hy
theorem flat_of {α : Type} {enc : α → List Value} {k : Nat} : ∀ (xs : List α) (l : List Value), (∀ i (h : i < xs.length), (l.drop (i * k)).take k = enc xs[i]) → l.take (xs.length * k) = xs.flatMap enc
  | [], l, _ => by simp
  | x :: xs, l, h => by
    have h0 := h 0 (by simp)
    simp only [Nat.zero_mul, List.drop_zero, List.getElem_cons_zero] at h0
    have ih := flat_of xs (l.drop k) fun i hi => by
      have := h (i + 1) (by simpa using hi)
      simp only [List.getElem_cons_succ] at this
      rw [List.drop_drop, show k + i * k = (i + 1) * k by rw [Nat.add_mul]; omega]
      exact this
    rw [List.length_cons, Nat.add_mul, Nat.one_mul, Nat.add_comm, List.take_add, h0, ih, List.flatMap_cons]
theorem rd_slice {α : Type} {enc : α → List Value} {k : Nat} {good : α → Prop} {t e : TypeId} {agg : Bool} [ht : SliT P t e] [hz : TySz P e agg k] (hk : 0 < k) (hel : ∀ cs, Reads P w e cs → ∃ y, enc y = cs ∧ good y) {cs : List Value} (r : Reads P w t cs) :
    ∃ a n c xs, cs = [.slice a n c] ∧ FSl (full w) (.slice a n c) enc k xs ∧ (∀ y ∈ xs, good y) ∧ xs.length ≤ maxLen := by
  obtain ⟨H, en, base, held, fuel, x, hx⟩ := r
  obtain ⟨inf, dd, e1, e2, _, _⟩ := hz.eq
  have hc : P.cellsOf e = k := by simp [Program.cellsOf, e1, e2]
  rcases Go.Deep.open_slice ht.eq hx with ⟨rfl, _⟩ | ⟨a, len, cap, m, n, D, Pl, rfl, hb, hl, hm, hmm, _, hel2⟩
  · exact ⟨none, 0, 0, [], rfl, ⟨[], ⟨by simp, .inl ⟨⟨none, rfl⟩, rfl, rfl⟩⟩, by simp⟩, by simp, by simp⟩
  simp only [if_true] at hmm
  subst hmm
  rw [hc] at hel2
  by_cases h0 : m = 0
  · subst h0
    have : len = 0 := by omega
    subst this
    exact ⟨some a, 0, 0, [], rfl, ⟨[], ⟨by simp, .inl ⟨⟨some a, rfl⟩, rfl, rfl⟩⟩, by simp⟩, by simp, by simp⟩
  obtain ⟨b, off, spot⟩ := a
  have hblk : ∃ c T fr, w.heap[b]? = some (.cells c T fr) ∧ spot = none := by
    obtain ⟨cs', h1, h2⟩ := hel2 0 (by omega)
    obtain ⟨_, h3, h4⟩ := World.cells?_some h1
    have h4 := h4 0 hk
    rw [List.getElem?_eq_getElem (by omega)] at h4
    simp only [Nat.zero_mul, Addr.add, if_true] at h4
    unfold World.cell? at h4
    simp only at h4
    split at h4
    · rename_i c T fr hh
      refine ⟨c, T, fr, hh, ?_⟩
      cases spot with
      | none => rfl
      | some s => simp at h4
    · cases h4
  obtain ⟨c, T, fr, hh, rfl⟩ := hblk
  have hcell : ∀ i < m, ∃ cs', cs'.length = k ∧ (∀ f < k, c[off + (i * k + f)]? = cs'[f]?) ∧ Reads P w e cs' := fun i hi => by
    obtain ⟨cs', h1, h2⟩ := hel2 i hi
    obtain ⟨_, h3, h4⟩ := World.cells?_some h1
    refine ⟨cs', h3, fun f hf => ?_, H, en, base, held, n, _, h2⟩
    have := h4 f hf
    rw [Addr.add_mid, Addr.add_mid] at this
    simp only [World.cell?, hh, Option.isSome_none, Bool.false_eq_true, if_false] at this
    rw [← this, Nat.add_assoc]
  have hc2 : ∀ i < m, ∃ y, (((c.toList.drop off).drop (i * k)).take k = enc y) ∧ (enc y).length = k ∧ good y := fun i hi => by
    obtain ⟨cs', h1, h2, h3⟩ := hcell i hi
    obtain ⟨y, hy, hg⟩ := hel cs' h3
    refine ⟨y, ?_, by rw [hy, h1], hg⟩
    rw [hy]
    apply List.ext_getElem?
    intro f
    rw [List.getElem?_take]
    split
    · rename_i hf
      have := h2 f hf
      rw [← this, List.getElem?_drop, List.getElem?_drop, Array.getElem?_toList]
    · rename_i hf
      rw [List.getElem?_eq_none (by omega)]
  obtain ⟨xs, hx1, hx2⟩ := list_of (n := len) (p := fun i y => ((c.toList.drop off).drop (i * k)).take k = enc y ∧ (enc y).length = k ∧ good y) fun i hi => hc2 i (by omega)
  have hfl := flat_of (k := k) (enc := enc) xs (c.toList.drop off) fun i hi => (hx2 i hi).1
  have hgood : ∀ y ∈ xs, good y := fun y hy => by
    obtain ⟨i, hi, rfl⟩ := List.mem_iff_getElem.1 hy
    exact (hx2 i hi).2.2
  have hoff : off ≤ c.toList.length := by
    obtain ⟨cs', h1, h2, _⟩ := hcell 0 (by omega)
    have h3 := h2 0 hk
    rw [List.getElem?_eq_getElem (by omega)] at h3
    have := (Array.getElem?_eq_some_iff.1 h3).1
    simp at this ⊢; omega
  refine ⟨some ⟨b, off, none⟩, len, m, xs, rfl, ⟨[(b, .cells c T fr)], ⟨fun y hy => ?_, .inr ⟨b, off, m, c.toList.take off, (c.toList.drop off).drop (xs.length * k), T, fr, by rw [hx1], by rw [List.length_take]; omega, by omega, ?_⟩⟩, fun d hd => ?_⟩, hgood, by omega⟩
  · obtain ⟨i, hi, rfl⟩ := List.mem_iff_getElem.1 hy
    exact (hx2 i hi).2.1
  · rw [← hfl, List.take_append_drop, List.take_append_drop]
  · have : d = (b, .cells c T fr) := by simpa using hd
    subst this; exact hh
end
end Go.Sl

/-
  Catalogues, cells, numbers: how they read.
-/
namespace Go.Sl
open Go.RowKit
open Go.Proofs
set_option linter.unusedVariables false
set_option linter.unusedSimpArgs false
set_option maxRecDepth 10000
set_option synthInstance.maxSize 2000
set_option synthInstance.maxHeartbeats 200000
set_option maxHeartbeats 1000000
section
variable {w : World}
theorem two_of {cs : List Value} (h : cs.length = 2) : ∃ a b, cs = [a, b] := by
  match cs, h with
  | [a, b], _ => exact ⟨a, b, rfl⟩
theorem rd_nd {cs : List Value} (r : Reads Tryz.prog w 126 cs) : ∃ y : Nd, encNd y = cs ∧ True := by
  obtain ⟨h1, h2⟩ := rd_fields r
  obtain ⟨c0, c1, rfl⟩ := two_of h1
  obtain ⟨s, e0, _⟩ := rd_string (h2 _ (List.mem_cons_self ..))
  obtain ⟨n, e1, _⟩ := rd_int (h2 _ (List.mem_cons_of_mem _ (List.mem_cons_self ..)))
  simp at e0 e1
  subst e0; subst e1
  exact ⟨⟨s, n⟩, rfl, trivial⟩
theorem rd_dm {cs : List Value} (r : Reads Tryz.prog w 101 cs) : ∃ y : Dm, encDm y = cs ∧ FSl (full w) y.nv encNd 2 y.nodes := by
  obtain ⟨h1, h2⟩ := rd_fields r
  obtain ⟨c0, c1, rfl⟩ := two_of h1
  obtain ⟨s, e0, _⟩ := rd_string (h2 _ (List.mem_cons_self ..))
  obtain ⟨a, n, c, xs, e1, hf, _, _⟩ := rd_slice (enc := encNd) (k := 2) (good := fun _ => True) (by omega) (fun _ h => rd_nd h) (h2 _ (List.mem_cons_of_mem _ (List.mem_cons_self ..)))
  simp at e0 e1
  subst e0; subst e1
  exact ⟨⟨s, .slice a n c, rfl, xs⟩, rfl, hf⟩
theorem rd_dims {cs : List Value} (r : Reads Tryz.prog w 22 cs) : ∃ v ds, cs = [v] ∧ IsDims (full w) v ds := by
  obtain ⟨a, n, c, xs, e, hf, hg, _⟩ := rd_slice (enc := encDm) (k := 2) (good := fun y : Dm => FSl (full w) y.nv encNd 2 y.nodes) (by omega) (fun _ h => rd_dm h) r
  exact ⟨_, xs, e, hf, fun i hi => hg _ (by rw [getElem!_pos xs i hi]; exact List.getElem_mem _)⟩
theorem rd_str1 {cs : List Value} (r : Reads Tryz.prog w 9 cs) : ∃ y : ByteArray, encS y = cs ∧ y.size ≤ maxLen := by
  obtain ⟨s, e, hs⟩ := rd_string r
  exact ⟨s, e.symm, hs⟩
theorem rd_strs {cs : List Value} (r : Reads Tryz.prog w 23 cs) : ∃ v xs, cs = [v] ∧ FSl (full w) v encS 1 xs := by
  obtain ⟨a, n, c, xs, e, hf, hg, _⟩ := rd_slice (enc := encS) (k := 1) (good := fun y : ByteArray => y.size ≤ maxLen) (by omega) (fun _ h => rd_str1 h) r
  exact ⟨_, xs, e, hf⟩
theorem rd_cat {cs : List Value} (r : Reads Tryz.prog w 25 cs) : ∃ dv mv le sc ds ms, cs = [dv, mv, vI le, vI sc] ∧ IsDims (full w) dv ds ∧ FSl (full w) mv encS 1 ms := by
  obtain ⟨h1, h2⟩ := rd_fields r
  match cs, h1 with
  | [c0, c1, c2, c3], _ =>
    obtain ⟨dv, ds, e0, hd⟩ := rd_dims (h2 _ (List.mem_cons_self ..))
    obtain ⟨mv, ms, e1, hm⟩ := rd_strs (h2 _ (List.mem_cons_of_mem _ (List.mem_cons_self ..)))
    obtain ⟨le, e2, _⟩ := rd_int (h2 _ (List.mem_cons_of_mem _ (List.mem_cons_of_mem _ (List.mem_cons_self ..))))
    obtain ⟨sc, e3, _⟩ := rd_int (h2 _ (List.mem_cons_of_mem _ (List.mem_cons_of_mem _ (List.mem_cons_of_mem _ (List.mem_cons_self ..)))))
    simp at e0 e1 e2 e3
    subst e0; subst e1; subst e2; subst e3
    exact ⟨_, _, _, _, ds, ms, rfl, hd, hm⟩
theorem rd_cell {cs : List Value} (r : Reads Tryz.prog w 48 cs) : ∃ m a0 a1 a2 a3, cs = [vI m, vI a0, vI a1, vI a2, vI a3] := by
  obtain ⟨h1, h2⟩ := rd_fields r
  match cs, h1 with
  | [c0, c1, c2, c3, c4], _ =>
    obtain ⟨m, e0, _⟩ := rd_int (h2 _ (List.mem_cons_self ..))
    obtain ⟨_, h3⟩ := rd_array (h2 _ (List.mem_cons_of_mem _ (List.mem_cons_self ..)))
    obtain ⟨a0, e1, _⟩ := rd_int (h3 0 (by omega))
    obtain ⟨a1, e2, _⟩ := rd_int (h3 1 (by omega))
    obtain ⟨a2, e3, _⟩ := rd_int (h3 2 (by omega))
    obtain ⟨a3, e4, _⟩ := rd_int (h3 3 (by omega))
    simp at e0 e1 e2 e3 e4
    subst e0; subst e1; subst e2; subst e3; subst e4
    exact ⟨_, _, _, _, _, rfl⟩
end
section
variable {w : World} {r : Reach} {b0 : Nat} {H : Type} {enc : TypeId × Value → H} {base : Nat} {held : Bool} {d : DataW H} {ps : List MemPlace} {v : Value}
theorem arg_cell (hv : Value.okWide Tryz.prog w r b0 48 v) (h : DataW.Trod enc Tryz.prog w base (fun _ => true) held 48 v d ps) : ∃ m a0 a1 a2 a3, v = .agg [vI m, vI a0, vI a1, vI a2, vI a3].toArray := by
  obtain ⟨cs, rfl, _⟩ := Go.WideShapes.okWide_struct (Go.Proofs.Tryz.underlying48) hv
  obtain ⟨fuel, hf⟩ := h
  obtain ⟨m, a0, a1, a2, a3, e⟩ := rd_cell (cs := cs.toList) ⟨H, enc, base, held, fuel, _, hf⟩
  exact ⟨m, a0, a1, a2, a3, by rw [← e]⟩
theorem arg_cat (hv : Value.okWide Tryz.prog w r b0 25 v) (h : DataW.Trod enc Tryz.prog w base (fun _ => true) held 25 v d ps) : ∃ dv mv le sc ds ms, v = .agg [dv, mv, vI le, vI sc].toArray ∧ IsDims (full w) dv ds ∧ FSl (full w) mv encS 1 ms := by
  obtain ⟨cs, rfl, _⟩ := Go.WideShapes.okWide_struct (Go.Proofs.Tryz.underlying25) hv
  obtain ⟨fuel, hf⟩ := h
  obtain ⟨dv, mv, le, sc, ds, ms, e, h1, h2⟩ := rd_cat (cs := cs.toList) ⟨H, enc, base, held, fuel, _, hf⟩
  exact ⟨dv, mv, le, sc, ds, ms, by rw [← e], h1, h2⟩
end
end Go.Sl
