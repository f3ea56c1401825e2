/-
  Facts that the proof is made of (N2).
-/
import Derived.Test.YtoekdnandjjeoaaGreatKN1
/-
  copy, on slices that are owned.
-/
namespace Go.Sl
open Go.Proofs
set_option linter.unusedVariables false
set_option linter.unusedSimpArgs false
set_option maxRecDepth 10000
set_option synthInstance.maxSize 2000
set_option synthInstance.maxHeartbeats 200000
set_option maxHeartbeats 1000000
/-- A region that draws its order, several hard operations of which are free; the free ones read a block alone. -/
theorem GDraw_schC {P : Program} {N : NN} {Q : Post} {e : Env} {h : PHeap} {L R : List HP} {k : List It} {ops : List Oper} {id b T : Nat} {cs : List Value} (sch : Sch) [hm : Mixed P] [p : PickC L b cs T R] (hok : (manyOK ops.toArray && schOK ops.toArray (Array.replicate ops.length false) true sch && decide (sch.depth ≤ ops.length)) = true) (g : GT P N ops [blk b (.cells cs.toArray T (0, 0))] h sch k Q e h L) : GDraw P N id ops k Q e h L :=
  GDraw_schV [blk b (.cells cs.toArray T (0, 0))] sch p.eq hok g
/-- A region that draws its order, of which the free operations read nothing that is owned. -/
theorem GDraw_0 {P : Program} {N : NN} {Q : Post} {e : Env} {h : PHeap} {L : List HP} {k : List It} {l : List Oper} {id : Nat} [hm : Mixed P] (hok : drawOK l.toArray = true) (g : GD P N l [] h 0 l k Q e h L) : GDraw P N id l k Q e h L := G_draw (Z := L) [] hm.eq hok (by simp) g
/-- A region that draws its order, of which the free operations read one block alone. -/
theorem GDraw_C {P : Program} {N : NN} {Q : Post} {e : Env} {h : PHeap} {L R : List HP} {k : List It} {l : List Oper} {id T : Nat} {cs : List Value} (b : Nat) [hm : Mixed P] [p : PickC L b cs T R] (hok : drawOK l.toArray = true) (g : GD P N l [blk b (.cells cs.toArray T (0, 0))] h 0 l k Q e h L) : GDraw P N id l k Q e h L := G_draw (Z := R) [blk b (.cells cs.toArray T (0, 0))] hm.eq hok p.eq g
section
variable {P : Program} {N : NN} {k : List It} {Q : Post} {e : Env} {h h0 : PHeap} {L V M : List HP} {ops l : List Oper} {i : Nat}
theorem run_copy {t1 t2 el sz : Nat} [ht : SliT P t1 el] [he : ElT P el sz] {ty : TypeId} {α : Type} {enc : α → List Value} {v u : Value} {xs ys : List α} {w : World} {R : List HP} (hst : St h (slo enc sz v xs :: R) w)
    (hsrc : Source P w sz u ys.length (ys.flatMap enc)) (hone : ∀ y ∈ ys, (enc y).length = sz ∧ ∀ x ∈ enc y, x.oneCell' = true) (hn : ys.length = xs.length) :
    ∃ w', (Builtin.copy_ #[t1, t2] ty #[v, u]).run P w = .ok (vI xs.length) w' ∧ St h (slo enc sz v ys :: R) w' := by
  obtain ⟨inf, z, e1, e2, e3, e4, e5, e6⟩ := he.eq
  obtain ⟨bs, ⟨b1, b2, rfl, ⟨hx1, hx2⟩, hd⟩, s0⟩ := hst
  have hxl : (xs.flatMap enc).length = xs.length * sz := flat_len fun x hx => (hx1 x hx).1
  have hyl : (ys.flatMap enc).length = ys.length * sz := flat_len fun x hx => (hone x hx).1
  obtain ⟨hs1, hs2, hs3⟩ := hsrc
  have hlen := hs1 w ⟨0, .inl rfl⟩
  have o2 := hs2 w.drawn
  have hsz : ∀ w, (sizeOf el).run P w = .ok sz w := fun w => by simp [sizeOf, typeInfo, e1, e2]
  rcases hx2 with ⟨⟨a, rfl⟩, rfl, rfl⟩ | ⟨b, cap, post, T, rfl, hcap, rfl, hpost⟩
  · have hy0 : ys = [] := List.eq_nil_of_length_eq_zero (by simpa using hn)
    subst hy0
    refine ⟨w, ?_, ⟨[] ++ b2, ⟨[], b2, rfl, ⟨by simp, .inl ⟨⟨a, rfl⟩, by simp, rfl⟩⟩, hd⟩, s0⟩⟩
    simp only [List.length_nil, List.flatMap_nil] at o2 hlen
    cases a <;> simp [Builtin.copy_, run_underlying ht.eq, hsz, hlen, o2, storeCells, goInt]
  · have hb := (s0.own (b, .cells (xs.flatMap enc ++ post).toArray T (0, 0)) (by simp)).1
    simp only at hb
    have h1y : ∀ v ∈ ys.flatMap enc, v.oneCell' = true := fun v hv => by
      obtain ⟨y, hy, hv⟩ := List.mem_flatMap.1 hv
      exact (hone y hy).2 v hv
    have hst := run_storeCells_cells (P := P) b 0 (ys.flatMap enc) 0 w (fun j hj => by
      have hlt : 0 + 0 + j < (xs.flatMap enc ++ post).length := by rw [List.length_append, hxl]; rw [hyl, hn] at hj; omega
      simp only [World.cell?, hb, Option.isSome_none, Bool.false_eq_true, if_false, List.getElem?_toArray]
      rw [List.getElem?_eq_getElem hlt]; rfl) (fun j hj => by simp [World.frozen?, hb]) h1y
    simp only [Nat.add_zero] at hst
    have hw := setCells_heap (ys.flatMap enc) 0 (xs.flatMap enc ++ post) w hb
    have hput : putL (xs.flatMap enc ++ post) 0 (ys.flatMap enc) = ys.flatMap enc ++ post := by
      have := putL_mid [] (ys.flatMap enc) (xs.flatMap enc ++ post) (by rw [List.length_append, hxl, hyl, hn]; omega)
      simp only [List.nil_append, List.length_nil] at this
      rw [this, hyl, hn, ← hxl, List.drop_left]
    rw [hput] at hw
    refine ⟨w.setCells b 0 (ys.flatMap enc), ?_, ?_⟩
    · rw [hn] at hlen o2
      simp [Builtin.copy_, run_underlying ht.eq, hsz, hlen, o2, hst, goInt]
    · refine St.put (x := blk b (.cells (xs.flatMap enc ++ post).toArray T (0, 0))) ⟨_, ⟨_, b2, rfl, rfl, hd⟩, s0⟩ (strm_setCells _ _ _ _) ?_
      rintro bs rfl _
      refine ⟨[(b, .cells (ys.flatMap enc ++ post).toArray T (0, 0))], ⟨hone, .inr ⟨b, cap, post, T, by rw [hn], by omega, rfl, by rw [hn]; exact hpost⟩⟩, rfl, ?_, ?_⟩
      · intro c hc
        have : c = (b, .cells (ys.flatMap enc ++ post).toArray T (0, 0)) := by simpa using hc
        subst this; exact hw.1
      · intro b' hb'; exact hw.2 b' (by simpa using hb')
section
variable {d : Nat} {ty : TypeId} {pos : String} {af : Array Edge} {g : Option (Nat × Bool)} {C : Env → PHeap → List HP → Prop}
theorem hard_copy {x y : Operand} {t1 t2 el sz : Nat} {v u : Value} {α : Type} {enc : α → List Value} {xs ys : List α} {R : List HP} [hx : Is (lkO e x) (some v)] [hy : Is (lkO e y) (some u)] [ht : SliT P t1 el] [he : ElT P el sz] [hp : PickO L v α enc sz xs R] [hs : Src P L h enc sz u ys] [hN : InN N d]
    (hn : ys.length = xs.length) (hk : C ((d, vI xs.length) :: e) h (slo enc sz v ys :: R)) : HardS P N ⟨some d, .call { callee := .builtin .copy, args := #[x, y], argTypes := #[t1, t2] }, ty, pos, af, g⟩ e h L C := by
  intro a w s st
  obtain ⟨h1, h2⟩ := hs.eq w (Cw.self st)
  obtain ⟨w', hr, hst⟩ := run_copy (P := P) (t1 := t1) (t2 := t2) (ty := ty) (st.perm hp.eq) h1 h2 hn
  have hr1 : (execOp a.eval ⟨some d, .call { callee := .builtin .copy, args := #[x, y], argTypes := #[t1, t2] }, ty, pos, af, g⟩).run P w = .ok (.value (vI xs.length)) w' := by
    simp only [execOp, resolve, Sem.run_bind, Sem.run_pure, Result.andThen_ok, invoke, builtin]
    simp only [List.map_toArray, List.map_cons, List.map_nil, s.eval hx.eq, s.eval hy.eq, hr, Result.andThen_ok]
  unfold Oper.wp
  rw [hr1]
  exact ⟨⟨_, h, _, s.put hN.eq, Hle.refl h, hst, hk⟩, trivial⟩
instance go_copy {x y : Operand} {t1 t2 el sz : Nat} {v u : Value} {α : Type} {enc : α → List Value} {xs ys : List α} {R : List HP} [hx : Is (lkO e x) (some v)] [hy : Is (lkO e y) (some u)] [ht : SliT P t1 el] [he : ElT P el sz] [hp : PickO L v α enc sz xs R] [hs : Src P L h enc sz u ys] [hN : InN N d] :
    Step (GO1 P N ops ⟨some d, .call { callee := .builtin .copy, args := #[x, y], argTypes := #[t1, t2] }, ty, pos, af, g⟩ l k Q e h L)
      (Side (ys.length = xs.length) (GO P N ops l k Q ((d, vI xs.length) :: e) h (slo enc sz v ys :: R))) := ⟨fun hk => GO1_hard (hard_copy hk.side hk.rest)⟩
instance gd_copy {x y : Operand} {t1 t2 el sz : Nat} {v u : Value} {α : Type} {enc : α → List Value} {xs ys : List α} {R : List HP} [hx : Is (lkO e x) (some v)] [hy : Is (lkO e y) (some u)] [ht : SliT P t1 el] [he : ElT P el sz] [hp : PickO L v α enc sz xs R] [hs : Src P L h enc sz u ys] [hN : InN N d] :
    Step (GD1 P N ops V h0 i ⟨some d, .call { callee := .builtin .copy, args := #[x, y], argTypes := #[t1, t2] }, ty, pos, af, g⟩ l k Q e h L)
      (Side (ys.length = xs.length) (GDk P N ops V h0 i l k Q ((d, vI xs.length) :: e) h (slo enc sz v ys :: R))) := ⟨fun hk => GD1_hard rfl (hard_copy hk.side hk.rest)⟩
end
end
end Go.Sl
