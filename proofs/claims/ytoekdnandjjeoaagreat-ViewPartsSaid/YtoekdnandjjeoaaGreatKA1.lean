/-
  Facts that the proof is made of (A1).
-/
import Derived.Test.YtoekdnandjjeoaaGreatKN2
import Derived.Test.YtoekdnandjjeoaaGreatKC3
/-
  Nodes of the arena, as they lie in memory.
-/
namespace Go.Sl
open Go.Proofs
set_option linter.unusedVariables false
set_option linter.unusedSimpArgs false
set_option maxRecDepth 10000
set_option synthInstance.maxSize 2000
set_option synthInstance.maxHeartbeats 200000
set_option maxHeartbeats 1000000
structure En where
  val : Int
  held : Bool
deriving Inhabited, DecidableEq
@[reducible] def encEn (x : En) : List Value := [vI x.val, .bool x.held]
instance : EncOne encEn := ⟨fun y u hu => by simp at hu; rcases hu with rfl | rfl <;> rfl⟩
instance {n : Int} {b : Bool} : Mk encEn [vI n, .bool b] ⟨n, b⟩ := ⟨rfl⟩
/-- A node: of leaves or not, its parts, its entries. -/
structure Nd8 where
  leaf : Bool
  k : Nat → Int
  v : Nat → Int
  h : Nat → Bool
instance : Inhabited Nd8 := ⟨⟨false, fun _ => 0, fun _ => 0, fun _ => false⟩⟩
structure Slt where
  n : Nd8
  refs : Int
deriving Inhabited
def Nd8.non (leaf : Bool) : Nd8 := ⟨leaf, fun _ => 0, fun _ => 0, fun _ => false⟩
@[reducible] def nodeC (n : Nd8) : List Value := .bool n.leaf :: vI (n.k 0) :: vI (n.k 1) :: vI (n.k 2) :: vI (n.k 3) :: vI (n.k 4) :: vI (n.k 5) :: vI (n.k 6) :: vI (n.k 7) :: vI (n.v 0) :: .bool (n.h 0) :: vI (n.v 1) :: .bool (n.h 1) :: vI (n.v 2) :: .bool (n.h 2) :: vI (n.v 3) :: .bool (n.h 3) :: vI (n.v 4) :: .bool (n.h 4) :: vI (n.v 5) :: .bool (n.h 5) :: vI (n.v 6) :: .bool (n.h 6) :: vI (n.v 7) :: .bool (n.h 7) :: []
@[reducible] def encSt (s : Slt) : List Value := .bool s.n.leaf :: vI (s.n.k 0) :: vI (s.n.k 1) :: vI (s.n.k 2) :: vI (s.n.k 3) :: vI (s.n.k 4) :: vI (s.n.k 5) :: vI (s.n.k 6) :: vI (s.n.k 7) :: vI (s.n.v 0) :: .bool (s.n.h 0) :: vI (s.n.v 1) :: .bool (s.n.h 1) :: vI (s.n.v 2) :: .bool (s.n.h 2) :: vI (s.n.v 3) :: .bool (s.n.h 3) :: vI (s.n.v 4) :: .bool (s.n.h 4) :: vI (s.n.v 5) :: .bool (s.n.h 5) :: vI (s.n.v 6) :: .bool (s.n.h 6) :: vI (s.n.v 7) :: .bool (s.n.h 7) :: vI s.refs :: []
instance : EncOne encSt := ⟨fun y u hu => by
  simp only [encSt, List.mem_cons, List.not_mem_nil, or_false] at hu
  rcases hu with rfl | rfl | rfl | rfl | rfl | rfl | rfl | rfl | rfl | rfl | rfl | rfl | rfl | rfl | rfl | rfl | rfl | rfl | rfl | rfl | rfl | rfl | rfl | rfl | rfl | rfl <;> rfl⟩
def isNon (n : Nd8) : Prop := ∀ j < 8, n.k j = 0 ∧ n.v j = 0 ∧ n.h j = false
theorem isNon_iff {l : Bool} {f g : Nat → Int} {hh : Nat → Bool} : (l = l ∧ (f 0 = 0 ∧ f 1 = 0 ∧ f 2 = 0 ∧ f 3 = 0 ∧ f 4 = 0 ∧ f 5 = 0 ∧ f 6 = 0 ∧ f 7 = 0 ∧ True) ∧ ((g 0 = 0 ∧ hh 0 = false ∧ True) ∧ (g 1 = 0 ∧ hh 1 = false ∧ True) ∧ (g 2 = 0 ∧ hh 2 = false ∧ True) ∧ (g 3 = 0 ∧ hh 3 = false ∧ True) ∧ (g 4 = 0 ∧ hh 4 = false ∧ True) ∧ (g 5 = 0 ∧ hh 5 = false ∧ True) ∧ (g 6 = 0 ∧ hh 6 = false ∧ True) ∧ (g 7 = 0 ∧ hh 7 = false ∧ True) ∧ True) ∧ True) ↔ isNon ⟨l, f, g, hh⟩ := by
  constructor
  · intro hp j hj
    have : j = 0 ∨ j = 1 ∨ j = 2 ∨ j = 3 ∨ j = 4 ∨ j = 5 ∨ j = 6 ∨ j = 7 := by omega
    rcases this with rfl | rfl | rfl | rfl | rfl | rfl | rfl | rfl <;> simp_all
  · intro hn
    have h0 := hn 0 (by omega)
    have h1 := hn 1 (by omega)
    have h2 := hn 2 (by omega)
    have h3 := hn 3 (by omega)
    have h4 := hn 4 (by omega)
    have h5 := hn 5 (by omega)
    have h6 := hn 6 (by omega)
    have h7 := hn 7 (by omega)
    simp_all
/-- A function that is another one at one place. -/
def updI (f : Nat → Int) (i : Nat) (x : Int) : Nat → Int := fun j => if j = i then x else f j
def updB (f : Nat → Bool) (i : Nat) (x : Bool) : Nat → Bool := fun j => if j = i then x else f j
instance : RangeL 8 [0, 1, 2, 3, 4, 5, 6, 7] := ⟨rfl⟩
instance : MulN 1 2 2 := ⟨rfl⟩
instance : MulN 2 2 4 := ⟨rfl⟩
instance : MulN 3 2 6 := ⟨rfl⟩
instance : MulN 4 2 8 := ⟨rfl⟩
instance : MulN 5 2 10 := ⟨rfl⟩
instance : MulN 6 2 12 := ⟨rfl⟩
instance : MulN 7 2 14 := ⟨rfl⟩
section
variable {l : Bool} {f g : Nat → Int} {hh : Nat → Bool} {r : Int} {rest : List Value} {i : Nat}
instance : Mk encSt (.bool l :: vI (f 0) :: vI (f 1) :: vI (f 2) :: vI (f 3) :: vI (f 4) :: vI (f 5) :: vI (f 6) :: vI (f 7) :: vI (g 0) :: .bool (hh 0) :: vI (g 1) :: .bool (hh 1) :: vI (g 2) :: .bool (hh 2) :: vI (g 3) :: .bool (hh 3) :: vI (g 4) :: .bool (hh 4) :: vI (g 5) :: .bool (hh 5) :: vI (g 6) :: .bool (hh 6) :: vI (g 7) :: .bool (hh 7) :: vI r :: []) ⟨⟨l, f, g, hh⟩, r⟩ := ⟨rfl⟩
instance : Mk encSt (.bool l :: vI 0 :: vI 0 :: vI 0 :: vI 0 :: vI 0 :: vI 0 :: vI 0 :: vI 0 :: vI (g 0) :: .bool (hh 0) :: vI (g 1) :: .bool (hh 1) :: vI (g 2) :: .bool (hh 2) :: vI (g 3) :: .bool (hh 3) :: vI (g 4) :: .bool (hh 4) :: vI (g 5) :: .bool (hh 5) :: vI (g 6) :: .bool (hh 6) :: vI (g 7) :: .bool (hh 7) :: vI r :: []) ⟨⟨l, fun _ => 0, g, hh⟩, r⟩ := ⟨rfl⟩
instance : Mk encSt (.bool l :: vI (f 0) :: vI (f 1) :: vI (f 2) :: vI (f 3) :: vI (f 4) :: vI (f 5) :: vI (f 6) :: vI (f 7) :: vI 0 :: .bool false :: vI 0 :: .bool false :: vI 0 :: .bool false :: vI 0 :: .bool false :: vI 0 :: .bool false :: vI 0 :: .bool false :: vI 0 :: .bool false :: vI 0 :: .bool false :: vI r :: []) ⟨⟨l, f, fun _ => 0, fun _ => false⟩, r⟩ := ⟨rfl⟩
instance : Mk encSt (.bool l :: vI 0 :: vI 0 :: vI 0 :: vI 0 :: vI 0 :: vI 0 :: vI 0 :: vI 0 :: vI 0 :: .bool false :: vI 0 :: .bool false :: vI 0 :: .bool false :: vI 0 :: .bool false :: vI 0 :: .bool false :: vI 0 :: .bool false :: vI 0 :: .bool false :: vI 0 :: .bool false :: vI r :: []) ⟨⟨l, fun _ => 0, fun _ => 0, fun _ => false⟩, r⟩ := ⟨rfl⟩
theorem get8 {i : Nat} (hi : i < 8) : (vI (f 0) :: vI (f 1) :: vI (f 2) :: vI (f 3) :: vI (f 4) :: vI (f 5) :: vI (f 6) :: vI (f 7) :: rest)[i]? = some (vI (f i)) := by
  have : i = 0 ∨ i = 1 ∨ i = 2 ∨ i = 3 ∨ i = 4 ∨ i = 5 ∨ i = 6 ∨ i = 7 := by omega
  rcases this with rfl | rfl | rfl | rfl | rfl | rfl | rfl | rfl <;> rfl
instance : GetAt (vI (f 0) :: vI (f 1) :: vI (f 2) :: vI (f 3) :: vI (f 4) :: vI (f 5) :: vI (f 6) :: vI (f 7) :: rest) i (i < 8) (vI (f i)) := ⟨fun hi => get8 hi⟩
instance : GetAt (.bool l :: vI (f 0) :: vI (f 1) :: vI (f 2) :: vI (f 3) :: vI (f 4) :: vI (f 5) :: vI (f 6) :: vI (f 7) :: rest) (1 + i) (i < 8) (vI (f i)) := ⟨fun hi => by rw [Nat.add_comm 1 i]; exact get8 hi⟩
theorem get8z {i : Nat} (hi : i < 8) : (vI 0 :: vI 0 :: vI 0 :: vI 0 :: vI 0 :: vI 0 :: vI 0 :: vI 0 :: rest)[i]? = some (vI 0) := by
  have : i = 0 ∨ i = 1 ∨ i = 2 ∨ i = 3 ∨ i = 4 ∨ i = 5 ∨ i = 6 ∨ i = 7 := by omega
  rcases this with rfl | rfl | rfl | rfl | rfl | rfl | rfl | rfl <;> rfl
instance : GetAt (vI 0 :: vI 0 :: vI 0 :: vI 0 :: vI 0 :: vI 0 :: vI 0 :: vI 0 :: rest) i (i < 8) (vI 0) := ⟨fun hi => get8z hi⟩
instance {x : Int} : PutAt (.bool l :: vI (f 0) :: vI (f 1) :: vI (f 2) :: vI (f 3) :: vI (f 4) :: vI (f 5) :: vI (f 6) :: vI (f 7) :: rest) (1 + i) [vI x] (i < 8) (.bool l :: vI (updI f i x 0) :: vI (updI f i x 1) :: vI (updI f i x 2) :: vI (updI f i x 3) :: vI (updI f i x 4) :: vI (updI f i x 5) :: vI (updI f i x 6) :: vI (updI f i x 7) :: rest) := ⟨fun hi => by
  have : i = 0 ∨ i = 1 ∨ i = 2 ∨ i = 3 ∨ i = 4 ∨ i = 5 ∨ i = 6 ∨ i = 7 := by omega
  rcases this with rfl | rfl | rfl | rfl | rfl | rfl | rfl | rfl <;> exact ⟨rfl, by simp⟩⟩
instance {x : Int} {y : Bool} {a a0 a1 a2 a3 a4 a5 a6 a7 : Value} : PutAt (a :: a0 :: a1 :: a2 :: a3 :: a4 :: a5 :: a6 :: a7 :: vI (g 0) :: .bool (hh 0) :: vI (g 1) :: .bool (hh 1) :: vI (g 2) :: .bool (hh 2) :: vI (g 3) :: .bool (hh 3) :: vI (g 4) :: .bool (hh 4) :: vI (g 5) :: .bool (hh 5) :: vI (g 6) :: .bool (hh 6) :: vI (g 7) :: .bool (hh 7) :: rest) (9 + i * 2) [vI x, .bool y] (i < 8) (a :: a0 :: a1 :: a2 :: a3 :: a4 :: a5 :: a6 :: a7 :: vI (updI g i x 0) :: .bool (updB hh i y 0) :: vI (updI g i x 1) :: .bool (updB hh i y 1) :: vI (updI g i x 2) :: .bool (updB hh i y 2) :: vI (updI g i x 3) :: .bool (updB hh i y 3) :: vI (updI g i x 4) :: .bool (updB hh i y 4) :: vI (updI g i x 5) :: .bool (updB hh i y 5) :: vI (updI g i x 6) :: .bool (updB hh i y 6) :: vI (updI g i x 7) :: .bool (updB hh i y 7) :: rest) := ⟨fun hi => by
  have : i = 0 ∨ i = 1 ∨ i = 2 ∨ i = 3 ∨ i = 4 ∨ i = 5 ∨ i = 6 ∨ i = 7 := by omega
  rcases this with rfl | rfl | rfl | rfl | rfl | rfl | rfl | rfl <;> exact ⟨rfl, by simp⟩⟩
end
section
variable {P : Program} {N : NN} {V : List HP} {h : PHeap} {e : Env}
/-- A part of an element is loaded. -/
instance load_part {t n m k j f : Nat} {x : Operand} {u : Value} {α : Type} [Inhabited α] {enc : α → List Value} {xs : List α} {cs c1 c2 : List Value} [hz : TySz P t true m] [hx : Is (lkO e x) (some (.pointer (some (elA u n))))] [hr : Rds V h u enc k xs] [he : ElAt n k j f]
    [hl : Lit (enc (xs[j]!)) cs] [hd : DropN cs f c1] [ht : TakeN c1 m c2] : Soft P N V h e (.load t x) (j < xs.length) (.agg c2.toArray) := ⟨fun hs _ d ty pos af g a w se hw => by
  have ho := hr.rd w (hw rfl)
  obtain ⟨b, o, hm⟩ := elA_mk u n
  have hk : cs.length = k := by
    rw [← hl.eq]
    obtain ⟨bs, ⟨h1, _⟩, _⟩ := ho
    exact h1 _ (by rw [getElem!_pos xs j hs]; exact List.getElem_mem hs)
  have hl : (loadVar t ⟨b, o, none⟩).run P w = .ok (.agg c2.toArray) w := by
    refine run_loadVar_agg ht.eq.2 fun i v hi => ?_
    have hc : cs[f + i]? = some v := by
      rw [← List.getElem?_drop, hd.eq]
      rw [← ht.eq.1, List.getElem?_take] at hi
      split at hi
      · exact hi
      · cases hi
    have hik : f + i < k := by rw [← hk]; exact (List.getElem?_eq_some_iff.1 hc).1
    rw [← hm i, he.eq, Nat.add_assoc, ho.slc_get hs hik, hl.eq, hc]
  have h0 := hm 0
  simp only [Nat.add_zero] at h0
  simp only [execOp, se.eval hx.eq, Sem.run_bind, Instr.loadAt, Instr.sureAddr, Sem.run_pure, Result.andThen_ok, h0, hl]⟩
instance index_en {t el len n : Nat} {kk : IntKind} {j : Int} {x y : Operand} {g : Nat → Int} {hh : Nat → Bool} [hx : Is (lkO e x) (some (.agg ([vI (g 0), .bool (hh 0), vI (g 1), .bool (hh 1), vI (g 2), .bool (hh 2), vI (g 3), .bool (hh 3), vI (g 4), .bool (hh 4), vI (g 5), .bool (hh 5), vI (g 6), .bool (hh 6), vI (g 7), .bool (hh 7)]).toArray))] [hy : Is (lkO e y) (some (.int kk j))] [ha : ArrT P t len el] [hz : TySz P el true 2] [hn : ToN j n] :
    Soft P N V h e (.index t x y) (0 ≤ j ∧ j < len ∧ n < 8) (.agg [vI (g n), .bool (hh n)].toArray) := ⟨fun hs _ d ty pos af g0 a w se _ => by
  have hp : PartAt P el [vI (g 0), .bool (hh 0), vI (g 1), .bool (hh 1), vI (g 2), .bool (hh 2), vI (g 3), .bool (hh 3), vI (g 4), .bool (hh 4), vI (g 5), .bool (hh 5), vI (g 6), .bool (hh 6), vI (g 7), .bool (hh 7)] (n * 2) (.agg [vI (g n), .bool (hh n)].toArray) := by
    have h8 := hs.2.2
    have : n = 0 ∨ n = 1 ∨ n = 2 ∨ n = 3 ∨ n = 4 ∨ n = 5 ∨ n = 6 ∨ n = 7 := by omega
    rcases this with rfl | rfl | rfl | rfl | rfl | rfl | rfl | rfl <;> (simp only [Nat.reduceMul]; infer_instance)
  obtain ⟨inf, dd, e1, e2, e3, e4⟩ := hz.eq
  have hr := hp.run w
  simp [execOp, se.eval hx.eq, se.eval hy.eq, Instr.index, asIntOf, underlying, ha.eq, hs.1, hs.2.1, sizeOf, typeInfo, e1, e2, hn.eq, hr]⟩
end
end Go.Sl

/-
  Plain facts: nodes that are shared, and trees of entries.
-/
namespace Go.Sl
open Go.Proofs
set_option linter.unusedVariables false
set_option linter.unusedSimpArgs false
set_option maxRecDepth 10000
set_option synthInstance.maxSize 2000
set_option synthInstance.maxHeartbeats 200000
set_option maxHeartbeats 1000000
def liveP (ss : List Slt) (id : Int) : Prop := (1 ≤ id ∧ id ≤ ss.length) ∧ (ss[(id - 1).toNat]!).refs ≠ 0
instance {ss : List Slt} {id : Int} : Decidable (liveP ss id) := by unfold liveP; infer_instance
/-- A node as it is read: nothing, if there is none, or it is of the other kind. -/
def rdN (ss : List Slt) (id : Int) (leaf : Bool) : Nd8 := if liveP ss id ∧ (ss[(id - 1).toNat]!).n.leaf = leaf then (ss[(id - 1).toNat]!).n else .non leaf
def kidAt (m : Nat) (code : Int) : Nat := (code / 8 ^ (m + 1) % 8).toNat
/-- An entry of a tree of m + 1 levels. -/
def getL (ss : List Slt) : Nat → Int → Int → En
  | 0, root, code => ⟨(rdN ss root true).v (code % 8).toNat, (rdN ss root true).h (code % 8).toNat⟩
  | m + 1, root, code => getL ss m ((rdN ss root false).k (kidAt m code)) code
/-- What holds of an arena that only grows: each node is asked for, at most B times; its parts are there. -/
def ArInv (ss : List Slt) (B : Int) : Prop := ∀ i < ss.length, 1 ≤ (ss[i]!).refs ∧ (ss[i]!).refs ≤ B ∧ ∀ j < 8, 0 ≤ (ss[i]!).n.k j ∧ (ss[i]!).n.k j ≤ ss.length
/-- Nodes are still there. -/
def ArExt (ss ss' : List Slt) : Prop := ss.length ≤ ss'.length ∧ ∀ i < ss.length, (ss'[i]!).n = (ss[i]!).n ∧ 1 ≤ (ss'[i]!).refs
theorem ArExt.refl {ss : List Slt} {B : Int} (h : ArInv ss B) : ArExt ss ss := ⟨Nat.le_refl _, fun i hi => ⟨rfl, (h i hi).1⟩⟩
theorem ArExt.trans {a b c : List Slt} (h1 : ArExt a b) (h2 : ArExt b c) : ArExt a c := ⟨Nat.le_trans h1.1 h2.1, fun i hi => ⟨by rw [(h2.2 i (by have := h1.1; omega)).1, (h1.2 i hi).1], (h2.2 i (by have := h1.1; omega)).2⟩⟩
theorem rdN_zero {ss : List Slt} {leaf : Bool} : rdN ss 0 leaf = .non leaf := by
  unfold rdN liveP
  rw [if_neg (by omega)]
theorem getL_zero {ss : List Slt} : ∀ m code, getL ss m 0 code = ⟨0, false⟩
  | 0, code => by simp only [getL, rdN_zero]; rfl
  | m + 1, code => by simp only [getL, rdN_zero]; exact getL_zero m code
theorem live_of {ss : List Slt} {B : Int} (h : ArInv ss B) {id : Int} (h1 : 1 ≤ id) (h2 : id ≤ ss.length) : liveP ss id := ⟨⟨h1, h2⟩, by have := (h (id - 1).toNat (by omega)).1; omega⟩
theorem rdN_ext {ss ss' : List Slt} {B : Int} (h : ArInv ss B) (x : ArExt ss ss') {id : Int} (h0 : id ≤ ss.length) (leaf : Bool) : rdN ss' id leaf = rdN ss id leaf := by
  by_cases h1 : 1 ≤ id
  · have hx := x.2 (id - 1).toNat (by omega)
    have l1 := live_of h h1 h0
    have l2 : liveP ss' id := ⟨⟨h1, by have := x.1; omega⟩, by have := hx.2; omega⟩
    unfold rdN
    rw [hx.1]
    by_cases hl : (ss[(id - 1).toNat]!).n.leaf = leaf
    · rw [if_pos ⟨l2, hl⟩, if_pos ⟨l1, hl⟩]
    · rw [if_neg (fun q => hl q.2), if_neg (fun q => hl q.2)]
  · unfold rdN liveP
    rw [if_neg (by omega), if_neg (by omega)]
theorem kid_le {ss : List Slt} {B : Int} (h : ArInv ss B) (id : Int) (leaf : Bool) {j : Nat} (hj : j < 8) : 0 ≤ (rdN ss id leaf).k j ∧ (rdN ss id leaf).k j ≤ ss.length := by
  unfold rdN
  split
  · rename_i hl
    exact (h _ (by have := hl.1.1; omega)).2.2 j hj
  · exact ⟨Int.le_refl _, by show (0 : Int) ≤ _; omega⟩
theorem kidAt_lt (m : Nat) (code : Int) : kidAt m code < 8 := by unfold kidAt; omega
theorem getL_ext {ss ss' : List Slt} {B : Int} (h : ArInv ss B) (x : ArExt ss ss') : ∀ m (root code : Int), root ≤ ss.length → getL ss' m root code = getL ss m root code
  | 0, root, code, h0 => by simp only [getL, rdN_ext h x h0]
  | m + 1, root, code, h0 => by
    simp only [getL, rdN_ext h x h0]
    exact getL_ext h x m _ _ (kid_le h root false (kidAt_lt m code)).2
theorem pow8_pos (m : Nat) : (0 : Int) < 8 ^ m := by
  induction m with
  | zero => decide
  | succ m ih => rw [Int.pow_succ]; omega
theorem getL_mod {ss : List Slt} : ∀ (m n : Nat), m < n → ∀ root code, getL ss m root (code % 8 ^ n) = getL ss m root code
  | 0, n, hn, root, code => by
    obtain ⟨n, rfl⟩ : ∃ p, n = p + 1 := ⟨n - 1, by omega⟩
    have : code % 8 ^ (n + 1) % 8 = code % 8 := by
      rw [Int.pow_succ, Int.mul_comm, Int.emod_emod_of_dvd _ (Int.dvd_mul_right ..)]
    simp only [getL, this]
  | m + 1, n, hn, root, code => by
    have h1 : kidAt m (code % 8 ^ n) = kidAt m code := by
      unfold kidAt
      obtain ⟨d, rfl⟩ : ∃ d, n = (m + 1) + (d + 1) := ⟨n - (m + 1) - 1, by omega⟩
      have hp := pow8_pos (m + 1)
      have e : (8 : Int) ^ (m + 1 + (d + 1)) = 8 ^ (m + 1) * 8 ^ (d + 1) := Int.pow_add ..
      have e2 : code % (8 ^ (m + 1) * 8 ^ (d + 1)) / 8 ^ (m + 1) = code / 8 ^ (m + 1) % 8 ^ (d + 1) := by
        rw [Int.mul_comm]
        have h2 := Int.emod_add_mul_ediv code (8 ^ (m + 1))
        have h3 := Int.emod_add_mul_ediv (code / 8 ^ (m + 1)) (8 ^ (d + 1))
        have h4 := Int.emod_nonneg code (Int.ne_of_gt hp)
        have h5 := Int.emod_lt_of_pos code hp
        have hq := pow8_pos (d + 1)
        have h6 := Int.emod_nonneg (code / 8 ^ (m + 1)) (Int.ne_of_gt hq)
        have h7 := Int.emod_lt_of_pos (code / 8 ^ (m + 1)) hq
        have hcode : code = (code % 8 ^ (m + 1) + 8 ^ (m + 1) * (code / 8 ^ (m + 1) % 8 ^ (d + 1))) + 8 ^ (d + 1) * 8 ^ (m + 1) * (code / 8 ^ (m + 1) / 8 ^ (d + 1)) := by
          have : (8 : Int) ^ (d + 1) * 8 ^ (m + 1) * (code / 8 ^ (m + 1) / 8 ^ (d + 1)) = 8 ^ (m + 1) * (8 ^ (d + 1) * (code / 8 ^ (m + 1) / 8 ^ (d + 1))) := by rw [← Int.mul_assoc, Int.mul_comm (8 ^ (d + 1)) (8 ^ (m + 1))]
          rw [this, Int.add_assoc, ← Int.mul_add, h3, h2]
        have hr : code % (8 ^ (d + 1) * 8 ^ (m + 1)) = code % 8 ^ (m + 1) + 8 ^ (m + 1) * (code / 8 ^ (m + 1) % 8 ^ (d + 1)) := by
          conv => lhs; rw [hcode]
          rw [Int.add_mul_emod_self_left]
          refine Int.emod_eq_of_lt ?_ ?_
          · have := Int.mul_nonneg (Int.le_of_lt hp) h6; omega
          · have h8 : (8 : Int) ^ (m + 1) * (code / 8 ^ (m + 1) % 8 ^ (d + 1)) ≤ 8 ^ (m + 1) * (8 ^ (d + 1) - 1) := Int.mul_le_mul_of_nonneg_left (by omega) (Int.le_of_lt hp)
            rw [Int.mul_sub, Int.mul_one] at h8
            rw [Int.mul_comm (8 ^ (d + 1))]
            omega
        rw [hr, Int.add_mul_ediv_left _ _ (Int.ne_of_gt hp), Int.ediv_eq_zero_of_lt h4 h5, Int.zero_add]
      rw [e, e2, show (8 : Int) ^ (d + 1) = 8 * 8 ^ d by rw [Int.pow_succ, Int.mul_comm], Int.emod_emod_of_dvd _ (Int.dvd_mul_right ..)]
    simp only [getL, h1]
    exact getL_mod m n (by omega) _ _
/-! ### What a new node does -/
/-- A node more: parts are asked for once more each time that they are named. -/
def MadeR (ss : List Slt) (n : Nd8) (ss' : List Slt) : Prop := ss'.length = ss.length + 1 ∧ (∀ i < ss.length, (ss'[i]!).n = (ss[i]!).n ∧ (ss[i]!).refs ≤ (ss'[i]!).refs ∧ (ss'[i]!).refs ≤ (ss[i]!).refs + 8 ∧ ((∃ j < 8, n.k j = (i : Int) + 1) → n.leaf = false → (ss[i]!).refs + 1 ≤ (ss'[i]!).refs)) ∧
  (ss'[ss.length]!).refs = 1 ∧ (ss'[ss.length]!).n = (if n.leaf then ⟨true, fun _ => 0, n.v, n.h⟩ else ⟨false, n.k, fun _ => 0, fun _ => false⟩)
/-- A node that is made, if it is something. -/
def PutR (m : Nat) (ss : List Slt) (B : Int) (root code : Int) (e : En) (ss' : List Slt) (r : Int) : Prop :=
  ArInv ss' (B + 16 * (m + 1)) ∧ ArExt ss ss' ∧ ss'.length ≤ ss.length + (m + 1) ∧ 0 ≤ r ∧ r ≤ ss'.length ∧ ∀ c : Int, 0 ≤ c → c < 8 ^ (m + 1) → getL ss' m r c = if c = code then e else getL ss m root c
theorem MadeR.ext {ss ss' : List Slt} {n : Nd8} {B : Int} (h : ArInv ss B) (m : MadeR ss n ss') : ArExt ss ss' := ⟨by have := m.1; omega, fun i hi => ⟨(m.2.1 i hi).1, by have := (m.2.1 i hi).2.1; have := (h i hi).1; omega⟩⟩
theorem MadeR.inv {ss ss' : List Slt} {n : Nd8} {B : Int} (h : ArInv ss B) (hB : 0 ≤ B) (hk : ∀ j < 8, 0 ≤ n.k j ∧ n.k j ≤ ss.length) (m : MadeR ss n ss') : ArInv ss' (B + 8) := fun i hi => by
  obtain ⟨m1, m2, m3, m4⟩ := m
  rcases Nat.lt_or_ge i ss.length with h1 | h1
  · have a := m2 i h1
    have b := h i h1
    refine ⟨by omega, by omega, fun j hj => ?_⟩
    rw [a.1]
    have := b.2.2 j hj
    omega
  · have : i = ss.length := by omega
    subst this
    refine ⟨by omega, by omega, fun j hj => ?_⟩
    rw [m4]
    have := hk j hj
    split
    · exact ⟨Int.le_refl _, by show (0 : Int) ≤ _; omega⟩
    · show 0 ≤ n.k j ∧ n.k j ≤ _
      omega
theorem MadeR.rd {ss ss' : List Slt} {n : Nd8} (m : MadeR ss n ss') (leaf : Bool) : rdN ss' (ss'.length : Int) leaf = if n.leaf = leaf then (if n.leaf then ⟨true, fun _ => 0, n.v, n.h⟩ else ⟨false, n.k, fun _ => 0, fun _ => false⟩) else .non leaf := by
  obtain ⟨m1, m2, m3, m4⟩ := m
  have e : (((ss'.length : Int)) - 1).toNat = ss.length := by omega
  have hl : liveP ss' (ss'.length : Int) := ⟨by omega, by rw [e, m3]; omega⟩
  have hleaf : (ss'[ss.length]!).n.leaf = n.leaf := by rw [m4]; split <;> simp_all
  unfold rdN
  rw [e, hleaf]
  by_cases hh : n.leaf = leaf
  · rw [if_pos ⟨hl, hh⟩, if_pos hh, m4]
  · rw [if_neg (fun q => hh q.2), if_neg hh]
end Go.Sl

/-
  Plain facts: a tree with another entry.
-/
namespace Go.Sl
open Go.Proofs
set_option linter.unusedVariables false
set_option linter.unusedSimpArgs false
set_option maxRecDepth 10000
set_option synthInstance.maxSize 2000
set_option synthInstance.maxHeartbeats 200000
set_option maxHeartbeats 1000000
theorem rdN_leaf (ss : List Slt) (id : Int) (leaf : Bool) : (rdN ss id leaf).leaf = leaf := by
  unfold rdN
  split
  · rename_i h; exact h.2
  · rfl
/-- A node is asked for once less. -/
@[reducible] def decR (ss : List Slt) (i : Nat) : List Slt := ss.set i ⟨(ss[i]!).n, (ss[i]!).refs - 1⟩
theorem set_get_st {ss : List Slt} {i j : Nat} {x : Slt} (hj : j < ss.length) : (ss.set i x)[j]! = if i = j then x else ss[j]! := by
  rw [getElem!_pos _ j (by simpa using hj), List.getElem_set, getElem!_pos ss j hj]
theorem decR_get {ss : List Slt} {i j : Nat} (hj : j < ss.length) : ((decR ss i)[j]!).n = (ss[j]!).n ∧ ((decR ss i)[j]!).refs = (ss[j]!).refs - (if i = j then 1 else 0) := by
  unfold decR
  rw [set_get_st hj]
  by_cases e : i = j
  · subst e; rw [if_pos rfl]; exact ⟨rfl, by rw [if_pos rfl]⟩
  · rw [if_neg e]; exact ⟨rfl, by rw [if_neg e, Int.sub_zero]⟩
theorem decR_len (ss : List Slt) (i : Nat) : (decR ss i).length = ss.length := by unfold decR; exact List.length_set
theorem decR_inv {ss : List Slt} {B : Int} {i : Nat} (h : ArInv ss B) (h2 : ∀ j < ss.length, i = j → 2 ≤ (ss[j]!).refs) : ArInv (decR ss i) B := fun j hj => by
  rw [decR_len] at hj
  have a := decR_get (i := i) hj
  have b := h j hj
  refine ⟨?_, ?_, fun t ht => ?_⟩
  · rw [a.2]; split
    · have := h2 j hj ‹_›; omega
    · omega
  · rw [a.2]; split <;> omega
  · rw [a.1, decR_len]; exact b.2.2 t ht
theorem decR_ext {ss : List Slt} {B : Int} {i : Nat} (h : ArInv ss B) (h2 : ∀ j < ss.length, i = j → 2 ≤ (ss[j]!).refs) : ArExt ss (decR ss i) := ⟨by rw [decR_len]; exact Nat.le_refl _, fun j hj => ⟨(decR_get hj).1, by have := decR_inv h h2 j (by rw [decR_len]; exact hj); exact this.1⟩⟩
theorem pow8_succ (m : Nat) : (8 : Int) ^ (m + 1) = 8 * 8 ^ m := by rw [Int.pow_succ, Int.mul_comm]
theorem kid_eq {m : Nat} {c : Int} (h0 : 0 ≤ c) (h1 : c < 8 ^ (m + 2)) : (kidAt m c : Int) = c / 8 ^ (m + 1) ∧ c / 8 ^ (m + 1) < 8 := by
  have hp := pow8_pos (m + 1)
  have h2 : c / 8 ^ (m + 1) < 8 := by
    rw [pow8_succ (m + 1)] at h1
    exact Int.ediv_lt_of_lt_mul hp h1
  have h3 := Int.ediv_nonneg h0 (Int.le_of_lt hp)
  unfold kidAt
  rw [Int.emod_eq_of_lt h3 h2]
  exact ⟨Int.toNat_of_nonneg h3, h2⟩
theorem put_leaf {ss : List Slt} {B : Int} (h : ArInv ss B) (hB : 0 ≤ B) {root code : Int} {e : En} (hr : root ≤ ss.length) (hc : 0 ≤ code ∧ code < 8) (n1 : Nd8)
    (hn : n1 = ⟨true, (rdN ss root true).k, updI (rdN ss root true).v code.toNat e.val, updB (rdN ss root true).h code.toNat e.held⟩) :
    (isNon n1 → PutR 0 ss B root code e ss 0) ∧ (∀ ss', MadeR ss n1 ss' → PutR 0 ss B root code e ss' ss'.length) := by
  have key : ∀ c : Int, 0 ≤ c → c < 8 ^ (0 + 1) → (⟨n1.v (c % 8).toNat, n1.h (c % 8).toNat⟩ : En) = if c = code then e else getL ss 0 root c := fun c h0 h1 => by
    have h1 : c < 8 := h1
    have e1 : c % 8 = c := Int.emod_eq_of_lt h0 h1
    simp only [getL]
    rw [e1, hn]
    simp only [updI, updB]
    by_cases hcc : c = code
    · subst hcc; rw [if_pos rfl, if_pos rfl, if_pos rfl]
    · rw [if_neg hcc, if_neg (by omega), if_neg (by omega)]
  constructor
  · intro hz
    refine ⟨fun i hi => ⟨(h i hi).1, by have := (h i hi).2.1; omega, (h i hi).2.2⟩, .refl h, by omega, Int.le_refl _, by omega, fun c h0 h1 => ?_⟩
    rw [← key c h0 h1, getL_zero]
    have h1 : c < 8 := h1
    have := hz (c % 8).toNat (by omega)
    rw [this.2.1, this.2.2]
  · intro ss' m
    have hk : ∀ j < 8, 0 ≤ n1.k j ∧ n1.k j ≤ ss.length := fun j hj => by rw [hn]; exact kid_le h root true hj
    have hi := m.inv h hB hk
    refine ⟨fun i hi2 => ⟨(hi i hi2).1, by have := (hi i hi2).2.1; omega, (hi i hi2).2.2⟩, m.ext h, by have := m.1; omega, by omega, Int.le_refl _, fun c h0 h1 => ?_⟩
    rw [← key c h0 h1]
    simp only [getL]
    rw [m.rd]
    have hl : n1.leaf = true := by rw [hn]
    rw [if_pos hl, if_pos hl]
theorem put_node {m : Nat} {ss ss1 : List Slt} {B : Int} (h : ArInv ss B) (hB : 0 ≤ B) {root code r1 : Int} {e : En} (hr : root ≤ ss.length) (hc : 0 ≤ code ∧ code < 8 ^ (m + 2)) (n1 : Nd8)
    (hn : n1 = ⟨false, updI (rdN ss root false).k (kidAt m code) r1, (rdN ss root false).v, (rdN ss root false).h⟩)
    (p : PutR m ss B ((rdN ss root false).k (kidAt m code)) (code % 8 ^ (m + 1)) e ss1 r1) :
    (isNon n1 → r1 = 0 ∧ PutR (m + 1) ss B root code e ss1 0) ∧
    (∀ ss2, MadeR ss1 n1 ss2 → (r1 = 0 → PutR (m + 1) ss B root code e ss2 ss2.length) ∧
      (r1 ≠ 0 → liveP ss2 r1 ∧ 2 ≤ (ss2[(r1 - 1).toNat]!).refs ∧ PutR (m + 1) ss B root code e (decR ss2 (r1 - 1).toNat) ss2.length)) := by
  obtain ⟨p1, p2, p3, p4, p5, p6⟩ := p
  have hat := kidAt_lt m code
  have hka := kid_eq hc.1 hc.2
  have hp := pow8_pos (m + 1)
  have hk0 := fun (j : Nat) (hj : j < 8) => kid_le h root false hj
  have hk1 : ∀ j < 8, 0 ≤ n1.k j ∧ n1.k j ≤ ss1.length := fun j hj => by
    rw [hn]; simp only [updI]
    split
    · exact ⟨p4, p5⟩
    · have := hk0 j hj; have := p2.1; omega
  have hmod : ∀ c : Int, 0 ≤ c % 8 ^ (m + 1) ∧ c % 8 ^ (m + 1) < 8 ^ (m + 1) := fun c => ⟨Int.emod_nonneg _ (Int.ne_of_gt hp), Int.emod_lt_of_pos _ hp⟩
  have key : ∀ ss3, ArExt ss1 ss3 → ∀ c : Int, 0 ≤ c → c < 8 ^ (m + 2) → getL ss3 m (n1.k (kidAt m c)) c = if c = code then e else getL ss (m + 1) root c := fun ss3 x3 c h0 h1 => by
    have hkc := kid_eq h0 h1
    rw [hn]; simp only [updI, getL]
    by_cases hkk : kidAt m c = kidAt m code
    · rw [if_pos hkk, ← getL_mod m (m + 1) (by omega) r1 c, getL_ext p1 x3 m _ _ p5, p6 _ (hmod c).1 (hmod c).2]
      have hiff : c % 8 ^ (m + 1) = code % 8 ^ (m + 1) ↔ c = code := by
        constructor
        · intro hm
          have a := Int.emod_add_mul_ediv c (8 ^ (m + 1))
          have b := Int.emod_add_mul_ediv code (8 ^ (m + 1))
          rw [← hkc.1, hkk, hka.1, hm] at a
          omega
        · intro hm; rw [hm]
      by_cases hcc : c = code
      · rw [if_pos (hiff.2 hcc), if_pos hcc]
      · rw [if_neg (fun q => hcc (hiff.1 q)), if_neg hcc, getL_mod m (m + 1) (by omega), hkk]
    · rw [if_neg hkk, if_neg (fun q => hkk (by rw [q])), getL_ext h (p2.trans x3) m _ _ (hk0 _ (kidAt_lt m c)).2]
  constructor
  · intro hz
    have hr1 : r1 = 0 := by
      have := (hz _ hat).1
      rw [hn] at this
      simpa [updI] using this
    refine ⟨hr1, fun i hi => ⟨(p1 i hi).1, by have := (p1 i hi).2.1; omega, (p1 i hi).2.2⟩, p2, by omega, Int.le_refl _, by omega, fun c h0 h1 => ?_⟩
    rw [← key ss1 (.refl p1) c h0 h1, getL_zero, (hz _ (kidAt_lt m c)).1, getL_zero]
  · intro ss2 md
    have x2 := md.ext p1
    have i2 := md.inv p1 (by omega) hk1
    have hl : n1.leaf = false := by rw [hn]
    have rd : rdN ss2 (ss2.length : Int) false = ⟨false, n1.k, fun _ => 0, fun _ => false⟩ := by rw [md.rd, if_pos hl, hl]; rfl
    refine ⟨fun hr1 => ?_, fun hr1 => ?_⟩
    · refine ⟨fun i hi => ⟨(i2 i hi).1, by have := (i2 i hi).2.1; omega, (i2 i hi).2.2⟩, p2.trans x2, by have := md.1; omega, by omega, Int.le_refl _, fun c h0 h1 => ?_⟩
      rw [← key ss2 x2 c h0 h1]
      rw [show getL ss2 (m + 1) (ss2.length : Int) c = getL ss2 m ((rdN ss2 (ss2.length : Int) false).k (kidAt m c)) c from rfl, rd]
    · have hrr : (r1 - 1).toNat < ss1.length := by omega
      have hi1 := md.2.1 (r1 - 1).toNat hrr
      have hq := hi1.2.2.2 ⟨kidAt m code, hat, by rw [hn]; simp only [updI, if_true]; omega⟩ hl
      have hs1 := (p1 _ hrr).1
      have h2r : ∀ j < ss2.length, (r1 - 1).toNat = j → 2 ≤ (ss2[j]!).refs := fun j _ hj => by subst hj; omega
      have i3 := decR_inv i2 h2r
      have x3 := decR_ext i2 h2r
      refine ⟨live_of i2 (by omega) (by have := md.1; omega), by omega, fun i hi => ⟨(i3 i hi).1, by have := (i3 i hi).2.1; omega, (i3 i hi).2.2⟩, (p2.trans x2).trans x3, by rw [decR_len]; have := md.1; omega, by omega, by rw [decR_len]; exact Int.le_refl _, fun c h0 h1 => ?_⟩
      rw [← key _ (x2.trans x3) c h0 h1]
      rw [show getL (decR ss2 (r1 - 1).toNat) (m + 1) (ss2.length : Int) c = getL (decR ss2 (r1 - 1).toNat) m ((rdN (decR ss2 (r1 - 1).toNat) (ss2.length : Int) false).k (kidAt m c)) c from rfl, rdN_ext i2 x3 (Int.le_refl _) false, rd]
end Go.Sl
