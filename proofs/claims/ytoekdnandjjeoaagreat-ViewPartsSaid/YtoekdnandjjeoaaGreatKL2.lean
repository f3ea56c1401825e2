/-
  Facts that the proof is made of (L2).
-/
import Derived.Test.YtoekdnandjjeoaaGreatKL1
import Derived.Deep.LoopGhost
import Derived.Laws.AppendOwn
/-
  Hard operations; calls; loops; what is never changed from now on.
-/
namespace Go.Sl
set_option linter.unusedVariables false
set_option linter.unusedSimpArgs false
theorem strm_setCells (b : Nat) : ∀ (cs : List Value) (o : Nat) (w : World), strm (w.setCells b o cs) = strm w
  | [], _, _ => rfl
  | _ :: r, o, w => strm_setCells b r (o + 1) _
section
variable {P : Program} {N : NN} {k : List It} {Q : Post} {e : Env} {h h0 : PHeap} {L V M : List HP} {ops l : List Oper} {i : Nat}

/-! ### Values as cells -/
class CellsOf (V : List HP) (h : PHeap) (v : Value) (l : outParam (List Value)) : Prop where
  eq : (∃ w, Cw V h w) → v.cells = l.toArray
class OneC (V : List HP) (h : PHeap) (v : Value) : Prop where
  eq : (∃ w, Cw V h w) → v.oneCell' = true
instance {k : IntKind} {n : Int} : OneC V h (.int k n) := ⟨fun _ => rfl⟩
instance {b : Bool} : OneC V h (.bool b) := ⟨fun _ => rfl⟩
instance {s : ByteArray} : OneC V h (.string s) := ⟨fun _ => rfl⟩
instance {a : Option Addr} : OneC V h (.pointer a) := ⟨fun _ => rfl⟩
instance {a : Option Addr} {n c : Nat} : OneC V h (.slice a n c) := ⟨fun _ => rfl⟩
instance {m : Option Nat} : OneC V h (.map m) := ⟨fun _ => rfl⟩
instance {fn : Fn} {x y : Array Value} : OneC V h (.func fn x y) := ⟨fun _ => rfl⟩
instance : OneC V h .nilFunc := ⟨fun _ => rfl⟩
instance (priority := low) {v : Value} {α : Type} {enc : α → List Value} {k : Nat} {xs : List α} [r : Rds V h v enc k xs] : OneC V h v := ⟨fun ⟨w, c⟩ => by
  rcases (r.rd w c).slc_pure with ⟨⟨_, rfl⟩, _⟩ | ⟨_, _, _, rfl⟩ <;> rfl⟩
instance {l : List Value} : CellsOf V h (.agg l.toArray) l := ⟨fun _ => rfl⟩
instance (priority := low) {v : Value} [o : OneC V h v] : CellsOf V h v [v] := ⟨fun c => by
  have := o.eq c
  cases v <;> simp [Value.oneCell'] at this <;> rfl⟩
class AllOne (V : List HP) (h : PHeap) (l : List Value) : Prop where
  eq : (∃ w, Cw V h w) → ∀ v ∈ l, v.oneCell' = true
instance : AllOne V h [] := ⟨fun _ _ h => by cases h⟩
instance {v : Value} {l : List Value} [o : OneC V h v] [r : AllOne V h l] : AllOne V h (v :: l) := ⟨fun c x hx => by
  rcases List.mem_cons.1 hx with rfl | hx
  · exact o.eq c
  · exact r.eq c x hx⟩

/-! ### New blocks -/
section
variable {d : Nat} {ty : TypeId} {pos : String} {af : Array Edge} {g : Option (Nat × Bool)} {C : Env → PHeap → List HP → Prop}
theorem hard_box {T : TypeId} {x : Operand} {v : Value} {cs : List Value} [hx : Is (lkO e x) (some v)] [hc : CellsOf L h v cs] [hN : InN N d]
    (hk : ∀ b, C ((d, .pointer (some ⟨b, 0, none⟩)) :: e) h (blk b (.cells cs.toArray T (0, 0)) :: L)) : HardS P N ⟨some d, .box T x, ty, pos, af, g⟩ e h L C := by
  intro a w s st
  have hcs := hc.eq ⟨w, Cw.self st⟩
  have hr : (execOp a.eval ⟨some d, .box T x, ty, pos, af, g⟩).run P w = .ok (.value (.pointer (some ⟨w.heap.size, 0, none⟩))) { w with heap := w.heap.push (.cells cs.toArray T) } := by
    simp [execOp, s.eval hx.eq, Instr.box, newVar, newRow, hcs]
  unfold Oper.wp
  rw [hr]
  exact ⟨⟨_, h, _, s.put hN.eq, Hle.refl h, st.new (x := blk w.heap.size (.cells cs.toArray T (0, 0))) _ rfl, hk _⟩, trivial⟩
theorem hard_alloc {T : TypeId} {z : Value} {cs : List Value} [hz : ZeroT P T z] [hc : CellsOf L h z cs] [hN : InN N d]
    (hk : ∀ b, C ((d, .pointer (some ⟨b, 0, none⟩)) :: e) h (blk b (.cells cs.toArray T (0, 0)) :: L)) : HardS P N ⟨some d, .alloc T, ty, pos, af, g⟩ e h L C := by
  intro a w s st
  have hcs := hc.eq ⟨w, Cw.self st⟩
  obtain ⟨inf, h1, h2⟩ := hz.eq
  have hr : (execOp a.eval ⟨some d, .alloc T, ty, pos, af, g⟩).run P w = .ok (.value (.pointer (some ⟨w.heap.size, 0, none⟩))) { w with heap := w.heap.push (.cells cs.toArray T) } := by
    simp [execOp, Instr.alloc, zeroValue, typeInfo, h1, h2, newVar, newRow, hcs]
  unfold Oper.wp
  rw [hr]
  exact ⟨⟨_, h, _, s.put hN.eq, Hle.refl h, st.new (x := blk w.heap.size (.cells cs.toArray T (0, 0))) _ rfl, hk _⟩, trivial⟩

instance go_box {T : TypeId} {x : Operand} {v : Value} {cs : List Value} [hx : Is (lkO e x) (some v)] [hc : CellsOf L h v cs] [hN : InN N d] :
    Step (GO1 P N ops ⟨some d, .box T x, ty, pos, af, g⟩ l k Q e h L) (New fun b => GO P N ops l k Q ((d, .pointer (some ⟨b, 0, none⟩)) :: e) h (blk b (.cells cs.toArray T (0, 0)) :: L)) := ⟨fun hk => GO1_hard (hard_box hk.all)⟩
instance gd_box {T : TypeId} {x : Operand} {v : Value} {cs : List Value} [hx : Is (lkO e x) (some v)] [hc : CellsOf L h v cs] [hN : InN N d] :
    Step (GD1 P N ops V h0 i ⟨some d, .box T x, ty, pos, af, g⟩ l k Q e h L) (New fun b => GDk P N ops V h0 i l k Q ((d, .pointer (some ⟨b, 0, none⟩)) :: e) h (blk b (.cells cs.toArray T (0, 0)) :: L)) := ⟨fun hk => GD1_hard rfl (hard_box hk.all)⟩
instance go_alloc {T : TypeId} {z : Value} {cs : List Value} [hz : ZeroT P T z] [hc : CellsOf L h z cs] [hN : InN N d] :
    Step (GO1 P N ops ⟨some d, .alloc T, ty, pos, af, g⟩ l k Q e h L) (New fun b => GO P N ops l k Q ((d, .pointer (some ⟨b, 0, none⟩)) :: e) h (blk b (.cells cs.toArray T (0, 0)) :: L)) := ⟨fun hk => GO1_hard (hard_alloc hk.all)⟩
instance gd_alloc {T : TypeId} {z : Value} {cs : List Value} [hz : ZeroT P T z] [hc : CellsOf L h z cs] [hN : InN N d] :
    Step (GD1 P N ops V h0 i ⟨some d, .alloc T, ty, pos, af, g⟩ l k Q e h L) (New fun b => GDk P N ops V h0 i l k Q ((d, .pointer (some ⟨b, 0, none⟩)) :: e) h (blk b (.cells cs.toArray T (0, 0)) :: L)) := ⟨fun hk => GD1_hard rfl (hard_alloc hk.all)⟩
end

/-! ### Stores into a block -/
def putL : List Value → Nat → List Value → List Value
  | l, _, [] => l
  | l, o, v :: r => putL (l.set o v) (o + 1) r
theorem putL_length : ∀ (l : List Value) (o : Nat) (r : List Value), (putL l o r).length = l.length
  | _, _, [] => rfl
  | l, o, v :: r => by simp [putL, putL_length]
theorem putL_cons : ∀ (x : Value) (l : List Value) (o : Nat) (r : List Value), putL (x :: l) (o + 1) r = x :: putL l o r
  | _, _, _, [] => rfl
  | x, l, o, v :: r => by simp [putL, putL_cons]
class PutAt (l : List Value) (o : Nat) (cs : List Value) (s : outParam Prop) (l' : outParam (List Value)) : Prop where
  eq : s → putL l o cs = l' ∧ o + cs.length ≤ l.length
instance {l : List Value} : PutAt l 0 [] True l := ⟨fun _ => ⟨rfl, by simp⟩⟩
instance {x v : Value} {l r l' : List Value} {s : Prop} [p : PutAt l 0 r s l'] : PutAt (x :: l) 0 (v :: r) s (v :: l') := ⟨fun hs => by
  have := p.eq hs
  refine ⟨?_, by simp at this ⊢; omega⟩
  show putL ((x :: l).set 0 v) (0 + 1) r = _
  rw [List.set_cons_zero, putL_cons, this.1]⟩
instance {x : Value} {l cs l' : List Value} {n : Nat} {s : Prop} [p : PutAt l n cs s l'] : PutAt (x :: l) (n + 1) cs s (x :: l') := ⟨fun hs => by
  have := p.eq hs
  exact ⟨by rw [putL_cons, this.1], by simp; omega⟩⟩
theorem set4 {x y z u v : Int} {r : List Value} {k : Nat} (hk : k < 4) : (vI x :: vI y :: vI z :: vI u :: r).set k (vI v) =
    vI (if k = 0 then v else x) :: vI (if k = 1 then v else y) :: vI (if k = 2 then v else z) :: vI (if k = 3 then v else u) :: r := by
  match k, hk with
  | 0, _ => rfl
  | 1, _ => rfl
  | 2, _ => rfl
  | 3, _ => rfl
instance (priority := 10) {r : List Value} {k : Nat} {x y z u v : Int} : PutAt (vI x :: vI y :: vI z :: vI u :: r) k [vI v] (k < 4)
    (vI (if k = 0 then v else x) :: vI (if k = 1 then v else y) :: vI (if k = 2 then v else z) :: vI (if k = 3 then v else u) :: r) := ⟨fun hk => ⟨set4 hk, by simp; omega⟩⟩
instance (priority := low) {a : Value} {l l' : List Value} {o k : Nat} {cs : List Value} {s : Prop} [p : PutAt l (o + k) cs s l'] : PutAt (a :: l) (o + 1 + k) cs s (a :: l') := ⟨fun hs => by
  have := p.eq hs
  rw [show o + 1 + k = (o + k) + 1 by omega]
  exact ⟨by rw [putL_cons, this.1], by simp; omega⟩⟩
instance (priority := low) {a : Value} {l l' : List Value} {k : Nat} {cs : List Value} {s : Prop} [p : PutAt l k cs s l'] : PutAt (a :: l) (1 + k) cs s (a :: l') := ⟨fun hs => by
  have := p.eq hs
  rw [show 1 + k = k + 1 by omega]
  exact ⟨by rw [putL_cons, this.1], by simp; omega⟩⟩

class OwnB (L : List HP) (b : Nat) (l : outParam (List Value)) (T : outParam TypeId) : Prop where
  eq : blk b (.cells l.toArray T (0, 0)) ∈ L
instance {b : Nat} {l : List Value} {T : TypeId} {L : List HP} : OwnB (blk b (.cells l.toArray T (0, 0)) :: L) b l T := ⟨List.mem_cons_self⟩
instance {x : HP} {b : Nat} {l : List Value} {T : TypeId} {L : List HP} [r : OwnB L b l T] : OwnB (x :: L) b l T := ⟨List.mem_cons_of_mem _ r.eq⟩
class Rep (L : List HP) (x y : HP) (L' : outParam (List HP)) : Prop where
  eq : ∃ R, L.Perm (x :: R) ∧ L'.Perm (y :: R)
instance {x y : HP} {L : List HP} : Rep (x :: L) x y (y :: L) := ⟨⟨L, .refl _, .refl _⟩⟩
instance (priority := low) {x y z : HP} {L L' : List HP} [r : Rep L x y L'] : Rep (z :: L) x y (z :: L') := ⟨by
  obtain ⟨R, h1, h2⟩ := r.eq
  exact ⟨z :: R, (List.Perm.cons z h1).trans (.swap _ _ _), (List.Perm.cons z h2).trans (.swap _ _ _)⟩⟩

theorem setCells_heap {b : Nat} {T : TypeId} : ∀ (cs : List Value) (o : Nat) (l : List Value) (w : World), w.heap[b]? = some (.cells l.toArray T (0, 0)) →
    (w.setCells b o cs).heap[b]? = some (.cells (putL l o cs).toArray T (0, 0)) ∧ ∀ b', b' ≠ b → (w.setCells b o cs).heap[b']? = w.heap[b']?
  | [], _, _, _, hb => ⟨hb, fun _ _ => rfl⟩
  | v :: r, o, l, w, hb => by
    have h1 : (w.setCell ⟨b, o, none⟩ v).heap[b]? = some (.cells (l.set o v).toArray T (0, 0)) := by
      simp only [World.setCell]; rw [Array.getElem?_modify]; simp [hb]
    have ih := setCells_heap r (o + 1) (l.set o v) _ h1
    refine ⟨ih.1, fun b' hne => ?_⟩
    have := ih.2 b' hne
    simp only [World.setCells]
    rw [this]
    simp [World.setCell, Array.getElem?_modify, Ne.symm hne]

theorem Perm.pick {x : HP} {L R : List HP} (p : L.Perm (x :: R)) {w : World} (s : St h L w) : St h (x :: R) w := s.perm p

section
variable {d : Nat} {ty : TypeId} {pos : String} {af : Array Edge} {g : Option (Nat × Bool)} {C : Env → PHeap → List HP → Prop}
theorem run_storeAt {T n b o : Nat} {agg : Bool} [hz : TySz P T agg n] {E : TypeId} {w : World} {ls cs : List Value} {v : Value} (hv : v.cells = cs.toArray) (h1 : ∀ x ∈ cs, x.oneCell' = true) (hn : cs.length = n)
    (hb : w.heap[b]? = some (.cells ls.toArray E (0, 0))) (hle : o + cs.length ≤ ls.length) : (Instr.storeAt T (.pointer (some ⟨b, o, none⟩)) v).run P w = .ok () (w.setCells b o cs) := by
  obtain ⟨inf, dd, e1, e2, _, _⟩ := hz.eq
  have hs : ∀ w, (sizeOf T).run P w = .ok n w := fun w => by simp [sizeOf, typeInfo, e1, e2]
  have := run_storeCells_cells (P := P) b o cs 0 w (fun j hj => by simp [World.cell?, hb]; omega) (fun j hj => by simp [World.frozen?, hb]) h1
  simp only [Nat.add_zero] at this
  simp [Instr.storeAt, Instr.sureAddr, storeVar, hs, hv, hn, this]
theorem hard_store {T n b o E : Nat} {agg : Bool} {x y : Operand} {v : Value} {cs ls ls' : List Value} {s : Prop} {L' : List HP} [hz : TySz P T agg n] [hx : Is (lkO e x) (some (.pointer (some ⟨b, o, none⟩)))] [hy : Is (lkO e y) (some v)] [hc : CellsOf L h v cs] [h1 : AllOne L h cs]
    [ho : OwnB L b ls E] [hp : PutAt ls o cs s ls'] [hr : Rep L (blk b (.cells ls.toArray E (0, 0))) (blk b (.cells ls'.toArray E (0, 0))) L'] (hs : s ∧ cs.length = n) (hk : C e h L') : HardS P N ⟨none, .store T x y, ty, pos, af, g⟩ e h L C := by
  intro a w se st
  obtain ⟨hs, hn⟩ := hs
  obtain ⟨e1, e2⟩ := hp.eq hs
  have hcw : ∃ w, Cw L h w := ⟨w, Cw.self st⟩
  obtain ⟨bs, hbs, hb⟩ := Own.ofMem ho.eq (Cw.self st)
  have hb := hb (b, .cells ls.toArray E (0, 0)) (by rw [hbs]; simp)
  have hrun := run_storeAt (P := P) (T := T) (o := o) (hc.eq hcw) (h1.eq hcw) hn hb e2
  have hw := setCells_heap cs o ls w hb
  rw [e1] at hw
  have hr1 : (execOp a.eval ⟨none, .store T x y, ty, pos, af, g⟩).run P w = .ok .skip (w.setCells b o cs) := by
    simp [execOp, se.eval hx.eq, se.eval hy.eq, hrun]
  unfold Oper.wp
  rw [hr1]
  obtain ⟨R, p1, p2⟩ := hr.eq
  refine ⟨⟨e, h, L', se, Hle.refl h, ?_, hk⟩, trivial⟩
  refine (St.put (st.perm p1) (x' := blk b (.cells ls'.toArray E (0, 0))) (strm_setCells _ _ _ _) ?_).perm p2.symm
  rintro bs rfl _
  exact ⟨_, rfl, rfl, fun c hc => by have : c = (b, .cells ls'.toArray E (0, 0)) := by simpa using hc
                                     subst this; exact hw.1, fun b' hb' => hw.2 b' (by simpa using hb')⟩
instance go_store {T n b o E : Nat} {agg : Bool} {x y : Operand} {v : Value} {cs ls ls' : List Value} {s : Prop} {L' : List HP} [hz : TySz P T agg n] [hx : Is (lkO e x) (some (.pointer (some ⟨b, o, none⟩)))] [hy : Is (lkO e y) (some v)] [hc : CellsOf L h v cs] [h1 : AllOne L h cs]
    [ho : OwnB L b ls E] [hp : PutAt ls o cs s ls'] [hr : Rep L (blk b (.cells ls.toArray E (0, 0))) (blk b (.cells ls'.toArray E (0, 0))) L'] :
    Step (GO1 P N ops ⟨none, .store T x y, ty, pos, af, g⟩ l k Q e h L) (Side (s ∧ cs.length = n) (GO P N ops l k Q e h L')) := ⟨fun hk => GO1_hard (hard_store hk.side hk.rest)⟩
instance gd_store {T n b o E : Nat} {agg : Bool} {x y : Operand} {v : Value} {cs ls ls' : List Value} {s : Prop} {L' : List HP} [hz : TySz P T agg n] [hx : Is (lkO e x) (some (.pointer (some ⟨b, o, none⟩)))] [hy : Is (lkO e y) (some v)] [hc : CellsOf L h v cs] [h1 : AllOne L h cs]
    [ho : OwnB L b ls E] [hp : PutAt ls o cs s ls'] [hr : Rep L (blk b (.cells ls.toArray E (0, 0))) (blk b (.cells ls'.toArray E (0, 0))) L'] :
    Step (GD1 P N ops V h0 i ⟨none, .store T x y, ty, pos, af, g⟩ l k Q e h L) (Side (s ∧ cs.length = n) (GDk P N ops V h0 i l k Q e h L')) := ⟨fun hk => GD1_hard rfl (hard_store hk.side hk.rest)⟩
end

/-! ### Calls -/
class ArgsOf (e : Env) (l : List Operand) (vs : outParam (List Value)) : Prop where
  eq : ∀ N a, AE N e a → l.map a.eval = vs
instance : ArgsOf e [] [] := ⟨fun _ _ _ => rfl⟩
instance {x : Operand} {xs : List Operand} {v : Value} {vs : List Value} [hx : Is (lkO e x) (some v)] [r : ArgsOf e xs vs] : ArgsOf e (x :: xs) (v :: vs) := ⟨fun N a s => by
  rw [List.map_cons, s.eval hx.eq, r.eq N a s]⟩
class CallF (P : Program) (n : FuncId) : Prop where
  eq : ∀ args w, (callFunc n args).run P w = .ok (.enter n args) w
class CallV (P : Program) (n : FuncId) (vs : List Value) (h : PHeap) (s : outParam Prop) (v : outParam Value) : Prop where
  spec : s → Spec P n vs h [] (fun K => K v h [])
class CallT (P : Program) (n : FuncId) (vs : List Value) (h : PHeap) (L : List HP) (s : outParam Prop) (M : outParam (List HP)) (T : outParam (Kont → Prop)) : Prop where
  spec : s → ∃ Lp, L.Perm (Lp ++ M) ∧ Spec P n vs h Lp T

@[reducible] def putR (d : Option Nat) (v : Value) (e : Env) : Env := match d with | some t => (t, v) :: e | none => e
/-- Where a call's result goes. -/
def GOr (P : Program) (N : NN) (ops l : List Oper) (k : List It) (Q : Post) (d : Option Nat) (v : Value) (e : Env) (h : PHeap) (L M : List HP) : Prop :=
  GO P N ops l k Q (putR d v e) h (L ++ M)
def GDr (P : Program) (N : NN) (ops : List Oper) (V : List HP) (h0 : PHeap) (i : Nat) (l : List Oper) (k : List It) (Q : Post) (d : Option Nat) (v : Value) (e : Env) (h : PHeap) (L M : List HP) : Prop :=
  GDk P N ops V h0 i l k Q (putR d v e) h (L ++ M)
theorem GO.perm {L L' : List HP} (p : L.Perm L') (g : GO P N ops l k Q e h L') : GO P N ops l k Q e h L := fun a w s => g a w (s.ae.as (s.st.perm p))
theorem GDk.perm {L L' : List HP} (p : L.Perm L') (g : GDk P N ops V h0 i l k Q e h L') : GDk P N ops V h0 i l k Q e h L :=
  ⟨fun hn w hl st => g.1 hn w hl (st.perm p), fun hl hc a w s hj => g.2 hl hc a w (s.ae.as (s.st.perm p)) hj⟩
instance gor_cons {d : Option Nat} {v : Value} {x : HP} : Step (GOr P N ops l k Q d v e h (x :: L) M) (GOr P N ops l k Q d v e h L (x :: M)) := ⟨fun g => GO.perm (List.perm_middle.symm) g⟩
instance gdr_cons {d : Option Nat} {v : Value} {x : HP} : Step (GDr P N ops V h0 i l k Q d v e h (x :: L) M) (GDr P N ops V h0 i l k Q d v e h L (x :: M)) := ⟨fun g => GDk.perm (List.perm_middle.symm) g⟩
instance gor_nil {d : Nat} {v : Value} : Step (GOr P N ops l k Q (some d) v e h [] M) (GO P N ops l k Q ((d, v) :: e) h M) := ⟨fun g => g⟩
instance gor_nil' {v : Value} : Step (GOr P N ops l k Q none v e h [] M) (GO P N ops l k Q e h M) := ⟨fun g => g⟩
instance gdr_nil {d : Nat} {v : Value} : Step (GDr P N ops V h0 i l k Q (some d) v e h [] M) (GDk P N ops V h0 i l k Q ((d, v) :: e) h M) := ⟨fun g => g⟩
instance gdr_nil' {v : Value} : Step (GDr P N ops V h0 i l k Q none v e h [] M) (GDk P N ops V h0 i l k Q e h M) := ⟨fun g => g⟩

class DstOk (N : NN) (d : Option Nat) : Prop where
  eq : ∀ e a v, AE N e a → AE N (putR d v e) (a.put d v)
instance {d : Nat} [hN : InN N d] : DstOk N (some d) := ⟨fun _ _ _ s => s.put hN.eq⟩
instance : DstOk N none := ⟨fun _ _ _ s => s⟩

section
variable {d : Option Nat} {ty : TypeId} {pos : String} {af : Array Edge} {g : Option (Nat × Bool)} {C : Env → PHeap → List HP → Prop}
theorem hard_call {n : FuncId} {f : Operand} {xs : List Operand} {ts : Array TypeId} {vs : List Value} {Lp : List HP} {T : Kont → Prop} (hf : lkO e f = some (.func (.func n) #[] #[])) (hargs : ∀ a, AE N e a → xs.map a.eval = vs) (hcf : CallF P n) (hd : DstOk N d)
    (hp : L.Perm (Lp ++ M)) (hspec : Spec P n vs h Lp T) (hT : T (fun v h' L' => C (putR d v e) h' (L' ++ M))) : HardS P N ⟨d, .call { callee := .value f, args := xs.toArray, argTypes := ts }, ty, pos, af, g⟩ e h L C := by
  intro a w s st
  have hr : (execOp a.eval ⟨d, .call { callee := .value f, args := xs.toArray, argTypes := ts }, ty, pos, af, g⟩).run P w = .ok (.enter n vs.toArray) w := by
    simp [execOp, resolve, s.eval hf, hargs a s, Deferred.ofValue, invoke, hcf.eq]
  unfold Oper.wp
  rw [hr]
  refine ⟨?_, trivial⟩
  refine (hspec _ M w hT (st.perm hp)).mono fun en w' hk => ?_
  obtain ⟨v, h', L', rfl, hle, hK, hst⟩ := hk
  exact ⟨_, h', _, hd.eq e a v s, hle, hst, hK⟩
instance go_callV {n : FuncId} {f : Operand} {xs : List Operand} {ts : Array TypeId} {vs : List Value} {s : Prop} {v : Value} [hf : Is (lkO e f) (some (.func (.func n) #[] #[]))] [ha : ArgsOf e xs vs] [hcf : CallF P n] [hc : CallV P n vs h s v] [hd : DstOk N d] :
    Step (GO1 P N ops ⟨d, .call { callee := .value f, args := xs.toArray, argTypes := ts }, ty, pos, af, g⟩ l k Q e h L) (Side s (GOr P N ops l k Q d v e h [] L)) :=
  ⟨fun hk => GO1_hard (hard_call (M := L) (Lp := []) hf.eq (ha.eq N) hcf hd (.refl _) (hc.spec hk.side) hk.rest)⟩
instance gd_callV {n : FuncId} {f : Operand} {xs : List Operand} {ts : Array TypeId} {vs : List Value} {s : Prop} {v : Value} [hf : Is (lkO e f) (some (.func (.func n) #[] #[]))] [ha : ArgsOf e xs vs] [hcf : CallF P n] [hc : CallV P n vs h s v] [hd : DstOk N d] :
    Step (GD1 P N ops V h0 i ⟨d, .call { callee := .value f, args := xs.toArray, argTypes := ts }, ty, pos, af, g⟩ l k Q e h L) (Side s (GDr P N ops V h0 i l k Q d v e h [] L)) :=
  ⟨fun hk => GD1_hard rfl (hard_call (M := L) (Lp := []) hf.eq (ha.eq N) hcf hd (.refl _) (hc.spec hk.side) hk.rest)⟩
instance (priority := low) go_callT {n : FuncId} {f : Operand} {xs : List Operand} {ts : Array TypeId} {vs : List Value} {s : Prop} {T : Kont → Prop} [hf : Is (lkO e f) (some (.func (.func n) #[] #[]))] [ha : ArgsOf e xs vs] [hcf : CallF P n] [hc : CallT P n vs h L s M T] [hd : DstOk N d] :
    Step (GO1 P N ops ⟨d, .call { callee := .value f, args := xs.toArray, argTypes := ts }, ty, pos, af, g⟩ l k Q e h L) (Side s (T (fun v h' L' => GOr P N ops l k Q d v e h' L' M))) :=
  ⟨fun hk => by obtain ⟨Lp, hp, hs⟩ := hc.spec hk.side; exact GO1_hard (hard_call hf.eq (ha.eq N) hcf hd hp hs hk.rest)⟩
instance (priority := low) gd_callT {n : FuncId} {f : Operand} {xs : List Operand} {ts : Array TypeId} {vs : List Value} {s : Prop} {T : Kont → Prop} [hf : Is (lkO e f) (some (.func (.func n) #[] #[]))] [ha : ArgsOf e xs vs] [hcf : CallF P n] [hc : CallT P n vs h L s M T] [hd : DstOk N d] :
    Step (GD1 P N ops V h0 i ⟨d, .call { callee := .value f, args := xs.toArray, argTypes := ts }, ty, pos, af, g⟩ l k Q e h L) (Side s (T (fun v h' L' => GDr P N ops V h0 i l k Q d v e h' L' M))) :=
  ⟨fun hk => by obtain ⟨Lp, hp, hs⟩ := hc.spec hk.side; exact GD1_hard rfl (hard_call hf.eq (ha.eq N) hcf hd hp hs hk.rest)⟩
end

/-! ### Loops -/
def EnvLe (e : Env) : Env → Prop
  | [] => True
  | (i, v) :: r => lk e i = some v ∧ EnvLe e r
theorem EnvLe.ae {e : Env} : ∀ {e' : Env}, EnvLe e e' → ∀ {N a}, AE N e a → AE N e' a
  | [], _, _, _, s => ⟨s.sz, s.df, fun _ _ h => by cases h⟩
  | (i, v) :: r, ⟨h1, h2⟩, N, a, s => by
    have ih := EnvLe.ae h2 s
    refine ⟨s.sz, s.df, fun j u hu => ?_⟩
    unfold lk at hu
    split at hu
    · rename_i hb
      have := Nat.eq_of_beq_eq_true hb
      subst this; rw [← hu]; exact s.ev _ _ h1
    · exact ih.ev _ _ hu

theorem G_loop {body : Code} {σ : Type} (Inv : σ → Prop) (μ : σ → Nat) (E : σ → Env) (H : σ → PHeap) (S : σ → List HP) (s0 : σ) (h0 : Inv s0) (hE : EnvLe e (E s0)) (hH : H s0 = h) (hS : Sub L (S s0))
    (round : ∀ s, Inv s → G P N body (.inv (fun a w => ∃ s' : σ, Inv s' ∧ μ s' < μ s ∧ AS N (E s') (H s') (S s') a w) :: k) Q (E s) (H s) (S s)) : G P N (.loop body) k Q e h L := by
  intro a w s
  obtain ⟨Z, hz⟩ := hS.eq
  have hst : St (H s0) (S s0) w := by rw [hH]; exact ((s.st.perm hz).perm List.perm_append_comm).dropL
  refine wpIn_loop_ghost (fun n a w => ∃ t : σ, μ t = n ∧ Inv t ∧ AS N (E t) (H t) (S t) a w) (μ s0) ⟨s0, rfl, h0, (hE.ae s.ae).as hst⟩ ?_
  rintro n a w ⟨t, rfl, ht, has⟩
  refine wpIn_mono (round t ht a w has) fun ex a' w' hq => ?_
  cases ex with
  | normal =>
    obtain ⟨s', h1, h2, h3⟩ := hq
    exact ⟨μ s', h2, s', rfl, h1, h3⟩
  | exit id => exact hq
  | goto l => exact hq
  | ret => exact hq
  | panic ch => exact hq
  | outgrown => exact hq

/-- The end of a round. -/
theorem X_round {σ : Type} {Inv : σ → Prop} {μ : σ → Nat} {E : σ → Env} {H : σ → PHeap} {S : σ → List HP} {m : Nat} (s' : σ) (h1 : Inv s') (h2 : μ s' < m) (hE : EnvLe e (E s')) (hH : H s' = h) (hS : Sub L (S s')) :
    X P N .normal (.inv (fun a w => ∃ s' : σ, Inv s' ∧ μ s' < m ∧ AS N (E s') (H s') (S s') a w) :: k) Q e h L := by
  intro a w st
  obtain ⟨Z, hz⟩ := hS.eq
  have hst : St (H s') (S s') w := by rw [hH]; exact ((st.st.perm hz).perm List.perm_append_comm).dropL
  exact ⟨s', h1, h2, (hE.ae st.ae).as hst⟩

/-- A loop that leaves alone what is owned. -/
theorem G_loopE {body : Code} {σ : Type} (Inv : σ → Prop) (μ : σ → Nat) (E : σ → Env) (s0 : σ) (h0 : Inv s0) (hE : EnvLe e (E s0))
    (round : ∀ s, Inv s → G P N body (.inv (fun a w => ∃ s' : σ, Inv s' ∧ μ s' < μ s ∧ AS N (E s') h L a w) :: k) Q (E s) h L) : G P N (.loop body) k Q e h L :=
  G_loop Inv μ E (fun _ => h) (fun _ => L) s0 h0 hE rfl inferInstance round
theorem X_roundE {σ : Type} {Inv : σ → Prop} {μ : σ → Nat} {E : σ → Env} {L' : List HP} {m : Nat} (s' : σ) (h1 : Inv s') (h2 : μ s' < m) (hE : EnvLe e (E s')) (hS : Sub L L') :
    X P N .normal (.inv (fun a w => ∃ s' : σ, Inv s' ∧ μ s' < m ∧ AS N (E s') h L' a w) :: k) Q e h L :=
  X_round (H := fun _ => h) (S := fun _ => L') s' h1 h2 hE rfl hS

/-- A part of what is owned is never changed from now on. -/
theorem G_freeze {c : Code} {x : HP} {R : List HP} (p : Pick L x R) (g : ∀ h', Hle h h' → Fz x h' → G P N c k Q e h' R) : G P N c k Q e h L := fun a w s => by
  obtain ⟨h', hl, hf, hs⟩ := (s.st.perm p.eq).freeze
  exact g h' hl hf a w (s.ae.as hs)
theorem X_freeze {ex : Exit} {x : HP} {R : List HP} (p : Pick L x R) (g : ∀ h', Hle h h' → Fz x h' → X P N ex k Q e h' R) : X P N ex k Q e h L := fun a w s => by
  obtain ⟨h', hl, hf, hs⟩ := (s.st.perm p.eq).freeze
  exact g h' hl hf a w (s.ae.as hs)
theorem GO_freeze {x : HP} {R : List HP} (p : Pick L x R) (g : ∀ h', Hle h h' → Fz x h' → GO P N ops l k Q e h' R) : GO P N ops l k Q e h L := fun a w s => by
  obtain ⟨h', hl, hf, hs⟩ := (s.st.perm p.eq).freeze
  exact g h' hl hf a w (s.ae.as hs)
end
end Go.Sl

/-
  More operations: structs by value, slices that grow, closures.
-/
namespace Go.Sl
set_option linter.unusedVariables false
set_option linter.unusedSimpArgs false
section
variable {P : Program} {N : NN} {k : List It} {Q : Post} {e : Env} {h h0 : PHeap} {L V M : List HP} {ops l : List Oper} {i : Nat}

class LenN (l : List Value) (n : outParam Nat) : Prop where
  eq : l.length = n
instance : LenN [] 0 := ⟨rfl⟩
instance {v : Value} {l : List Value} {n : Nat} [g : LenN l n] : LenN (v :: l) (n + 1) := ⟨by simp [g.eq]⟩

/-! ### Structs by value -/
instance {t f off n : Nat} {x : Operand} {ls ls' cs : List Value} [hx : Is (lkO e x) (some (.agg ls.toArray))] [hf : FTy P t f off true n] [hd : DropN ls off ls'] [ht : TakeN ls' n cs] : Soft P N V h e (.field t x f) True (.agg cs.toArray) :=
  ⟨fun _ _ d ty pos af g a w s _ => by
    obtain ⟨fs, fd, ft, h1, h2, h3, h4, hz⟩ := hf.eq
    obtain ⟨inf, dd, e1, e2, e3, e4⟩ := hz.eq
    have hagg : ∀ w, (isAgg ft).run P w = .ok true w := fun w => by unfold isAgg; rw [Sem.run_bind, run_underlying e3 w]; cases dd <;> simp_all
    have hex : ls.toArray.extract off (off + n) = cs.toArray := by
      rw [← ht.eq.1, ← hd.eq]; apply Array.ext'; simp [List.take_drop]
    simp only [execOp, s.eval hx.eq, Instr.field, Sem.run_bind, run_underlying h1, Result.andThen_ok, h2, asAgg, Sem.run_pure, part, h4, hagg, if_true, h3, sizeOf, typeInfo, run_program, e1, e2, hex]⟩
instance {t f off : Nat} {x : Operand} {ls : List Value} {v : Value} [hx : Is (lkO e x) (some (.agg ls.toArray))] [hf : FTy P t f off false 1] [hg : GetN ls off v] : Soft P N V h e (.field t x f) True v :=
  ⟨fun _ _ d ty pos af g a w s _ => by
    obtain ⟨fs, fd, ft, h1, h2, h3, h4, hz⟩ := hf.eq
    obtain ⟨inf, dd, e1, e2, e3, e4⟩ := hz.eq
    have hagg : ∀ w, (isAgg ft).run P w = .ok false w := fun w => by unfold isAgg; rw [Sem.run_bind, run_underlying e3 w]; cases dd <;> simp_all
    have hv : ls.toArray[off]? = some v := by simpa using hg.eq
    simp only [execOp, s.eval hx.eq, Instr.field, Sem.run_bind, run_underlying h1, Result.andThen_ok, h2, asAgg, Sem.run_pure, part, h4, hagg, h3, hv, Bool.false_eq_true, if_false]⟩

/-- The parts of a struct or an array laid into its cells. -/
class Fill (P : Program) (V : List HP) (h : PHeap) (e : Env) (place : Nat → Option (Nat × Nat)) (ps : List (Nat × Operand)) (cs : List Value) (cs' : outParam (List Value)) : Prop where
  eq : (∃ w, Cw V h w) → ∀ N a, AE N e a → Instr.fill place cs.toArray (ps.map fun (i, x) => (i, a.eval x)) = some cs'.toArray
instance {place : Nat → Option (Nat × Nat)} {cs : List Value} : Fill P V h e place [] cs cs := ⟨fun _ _ _ _ => rfl⟩
class PlaceAt (place : Nat → Option (Nat × Nat)) (f : Nat) (off n : outParam Nat) : Prop where
  eq : place f = some (off, n)
theorem foldl_putL' : ∀ (cs : List Value) (off j : Nat) (l : List Value), (cs.zipIdx j).foldl (fun ar (c, i) => ar.setIfInBounds (off + i) c) l.toArray = (putL l (off + j) cs).toArray
  | [], _, _, _ => by simp [putL]
  | c :: cs, off, j, l => by
    have := foldl_putL' cs off (j + 1) (l.set (off + j) c)
    simp only [List.zipIdx_cons, List.foldl_cons, List.setIfInBounds_toArray]
    rw [this, putL, show off + (j + 1) = off + j + 1 by omega]
theorem foldl_putL (cs : List Value) (off j : Nat) (l : List Value) : (cs.toArray.zipIdx j).foldl (fun ar (c, i) => ar.setIfInBounds (off + i) c) l.toArray = (putL l (off + j) cs).toArray := by
  rw [← Array.foldl_toList, Array.toList_zipIdx]; exact foldl_putL' cs off j l
instance {place : Nat → Option (Nat × Nat)} {f off n : Nat} {x : Operand} {v : Value} {ps : List (Nat × Operand)} {cs vs cs1 cs2 : List Value} [hp : PlaceAt place f off n] [hx : Is (lkO e x) (some v)] [hc : CellsOf V h v vs] [hl : LenN vs n] [hput : PutAt cs off vs True cs1] [r : Fill P V h e place ps cs1 cs2] :
    Fill P V h e place ((f, x) :: ps) cs cs2 := ⟨fun hw N a s => by
  have h1 := hput.eq trivial
  have hcv := hc.eq hw
  have hvl : vs.toArray.size = n := by simpa using hl.eq
  simp only [List.map_cons, Instr.fill, hp.eq, s.eval hx.eq, hcv]
  rw [if_neg (by rw [hvl]; have := h1.2; simp at hvl ⊢; omega)]
  have h3 := foldl_putL vs off 0 cs
  simp only [Nat.add_zero, h1.1] at h3
  rw [h3]
  exact r.eq hw N a s⟩

/-- Where the fields of a struct lie. -/
def fieldPlaces (P : Program) (t : TypeId) (f : Nat) : Option (Nat × Nat) :=
  match P.underlying t with
  | some (.struct fs) => (fs[f]?).bind fun fd => (P.info? fd.type).map fun i => (fd.offset, i.size)
  | _ => none
class StructT (P : Program) (t : TypeId) : Prop where
  all : ∃ fs, P.underlying t = some (.struct fs) ∧ (fs.all fun f => (P.info? f.type).isSome) = true
theorem StructT.eq {P : Program} {t : TypeId} (s : StructT P t) : ∃ fs, P.underlying t = some (.struct fs) ∧ ∀ f ∈ fs.toList, ∃ i, P.info? f.type = some i := by
  obtain ⟨fs, h1, h2⟩ := s.all
  exact ⟨fs, h1, fun f hf => Option.isSome_iff_exists.1 ((Array.all_eq_true_iff_forall_mem.1 h2) f (by simpa using hf))⟩
instance {t f off n : Nat} {agg : Bool} [hf : FTy P t f off agg n] : PlaceAt (fieldPlaces P t) f off n := ⟨by
  obtain ⟨fs, fd, ft, h1, h2, h3, h4, hz⟩ := hf.eq
  obtain ⟨inf, dd, e1, e2, _, _⟩ := hz.eq
  simp [fieldPlaces, h1, h2, h3, h4, e1, e2]⟩
theorem mapM_places {P : Program} {w : World} (G : Field → Sem (Nat × Nat)) (hG : ∀ f i w, P.info? f.type = some i → (G f).run P w = .ok (f.offset, i.size) w) : ∀ (fs : List Field) (acc : Array (Nat × Nat)), (∀ f ∈ fs, ∃ i, P.info? f.type = some i) →
    (fs.foldlM (fun acc f => acc.push <$> G f) acc : Sem (Array (Nat × Nat))).run P w = .ok (acc ++ (fs.map fun f => (f.offset, ((P.info? f.type).map (·.size)).getD 0)).toArray) w
  | [], acc, _ => by simp
  | f :: fs, acc, h => by
    obtain ⟨i, hi⟩ := h f (by simp)
    have ih := mapM_places (w := w) G hG fs (acc.push (f.offset, i.size)) (fun g hg => h g (by simp [hg]))
    have h1 : (acc.push <$> G f : Sem (Array (Nat × Nat))).run P w = .ok (acc.push (f.offset, i.size)) w := by
      rw [Sem.run_map, hG f i w hi]; rfl
    rw [List.foldlM_cons, Sem.run_bind, h1, Result.andThen_ok, ih]
    simp [hi]
instance {t : Nat} {ps : List (Nat × Operand)} {zs cs : List Value} [ht : StructT P t] [hz : ZeroT P t (.agg zs.toArray)] [hf : Fill P V h e (fieldPlaces P t) ps zs cs] : Soft P N V h e (.build t ps.toArray) True (.agg cs.toArray) :=
  ⟨fun _ hw d ty pos af g a w s _ => by
    obtain ⟨fs, h1, h2⟩ := ht.eq
    obtain ⟨inf, e1, e2⟩ := hz.eq
    have hzr : ∀ w, (zeroValue t).run P w = .ok (.agg zs.toArray) w := fun w => by simp [zeroValue, typeInfo, e1, e2]
    have hpl : ∀ w, ((fs.mapM fun f => do pure (f.offset, ← sizeOf f.type)) : Sem (Array (Nat × Nat))).run P w = .ok (fs.toList.map fun f => (f.offset, ((P.info? f.type).map (·.size)).getD 0)).toArray w := fun w => by
      rw [Array.mapM_eq_foldlM, ← Array.foldlM_toList]
      have := mapM_places (P := P) (w := w) (fun f => do pure (f.offset, ← sizeOf f.type)) (fun f i w hi => by simp [sizeOf, typeInfo, hi]) fs.toList #[] h2
      rw [this]; simp
    have hfl := hf.eq hw N a s
    have hplace : (fun x => (fs.toList.map fun f => (f.offset, ((P.info? f.type).map (·.size)).getD 0)).toArray[x]?) = fieldPlaces P t := by
      funext x
      simp only [fieldPlaces, h1, List.getElem?_toArray, List.getElem?_map, Array.getElem?_toList]
      cases hx : fs[x]? with
      | none => rfl
      | some fd =>
        obtain ⟨i, hi⟩ := h2 fd (by simp; exact Array.mem_of_getElem? hx)
        simp [hi]
    simp only [execOp, Instr.build, Sem.run_bind, hzr, Result.andThen_ok, Value.cells, run_underlying h1, hpl, hplace]
    simp only [List.map_toArray, hfl, Sem.run_pure, Result.andThen_ok]⟩

/-! ### Indexes of values -/
instance {t len el n : Nat} {kk : IntKind} {j : Int} {x y : Operand} {ls : List Value} {s : Prop} {v : Value} [hx : Is (lkO e x) (some (.agg ls.toArray))] [hy : Is (lkO e y) (some (.int kk j))] [ha : ArrT P t len el] [hz : TySz P el false 1] [hn : ToN j n] [hg : GetAt ls n s v] :
    Soft P N V h e (.index t x y) (0 ≤ j ∧ j < len ∧ s) v := ⟨fun hs _ d ty pos af g a w se _ => by
  obtain ⟨inf, dd, e1, e2, e3, e4⟩ := hz.eq
  have hagg : ∀ w, (isAgg el).run P w = .ok false w := fun w => by unfold isAgg; rw [Sem.run_bind, run_underlying e3 w]; cases dd <;> simp_all
  have hv := hg.eq hs.2.2
  simp [execOp, se.eval hx.eq, se.eval hy.eq, Instr.index, asIntOf, underlying, ha.eq, hs.1, hs.2.1, sizeOf, typeInfo, e1, e2, part, hagg, hn.eq, hv]⟩
def bAt (s : ByteArray) (k : Nat) : Int := ((s.data.getD k 0).toNat : Int)
instance {t n : Nat} {kk : IntKind} {j : Int} {x y : Operand} {s : ByteArray} [hx : Is (lkO e x) (some (.string s))] [hy : Is (lkO e y) (some (.int kk j))] [ha : StrT P t] [hn : ToN j n] :
    Soft P N V h e (.index t x y) (0 ≤ j ∧ j < s.size) (.int .u8 (bAt s n)) := ⟨fun hs _ d ty pos af g a w se _ => by
  have hlt : n < s.size := by rw [← hn.eq]; omega
  have hget : s[j.toNat]? = some (s.data.getD n 0) := by
    rw [hn.eq]
    have hd : n < s.data.size := hlt
    have h2 : s.data.getD n 0 = s.data[n] := by rw [Array.getD, dif_pos hd]; rfl
    rw [h2]
    simp only [getElem?_def, hlt, dite_true]; rfl
  simp only [execOp, se.eval hx.eq, se.eval hy.eq, Instr.index, asIntOf, Sem.run_bind, Sem.run_pure, Result.andThen_ok, run_underlying ha.eq, hs.1, if_true, hget, bAt]⟩

/-! ### Conversions of numbers -/
instance {s t : TypeId} {x : Operand} {kk kd : IntKind} {n : Int} [hx : Is (lkO e x) (some (.int kk n))] [hs : HasT P s] [ht : IntT P t kd] : Soft P N V h e (.convert s t x) True (.int kd (kd.wrap n)) := ⟨fun _ _ d ty pos af g a w se _ => by
  obtain ⟨d1, h1⟩ := hs.eq
  simp [execOp, se.eval hx.eq, convert, underlying, h1, ht.eq, Conv.intToInt]⟩

/-! ### Closures -/
instance {fn : Fn} {xs ys : List Operand} {vs us : List Value} [h1 : ArgsOf e xs vs] [h2 : ArgsOf e ys us] : Soft P N V h e (.makeFunc fn xs.toArray ys.toArray) True (.func fn vs.toArray us.toArray) := ⟨fun _ _ d ty pos af g a w se _ => by
  have e1 := h1.eq N a se
  have e2 := h2.eq N a se
  simp [execOp, Instr.makeFunc, e1, e2]⟩
class AppV (a b : List Value) (c : outParam (List Value)) : Prop where
  eq : a ++ b = c
instance {b : List Value} : AppV [] b b := ⟨rfl⟩
instance {x : Value} {a b c : List Value} [r : AppV a b c] : AppV (x :: a) b (x :: c) := ⟨by rw [List.cons_append, r.eq]⟩
section
variable {d : Option Nat} {ty : TypeId} {pos : String} {af : Array Edge} {g : Option (Nat × Bool)} {C : Env → PHeap → List HP → Prop}
theorem hard_callF {n : FuncId} {f : Operand} {xs : List Operand} {ts : Array TypeId} {F U vs as : List Value} {Lp : List HP} {T : Kont → Prop} (hf : lkO e f = some (.func (.func n) F.toArray U.toArray)) (hargs : ∀ a, AE N e a → xs.map a.eval = vs) (happ : F ++ vs ++ U = as) (hcf : CallF P n) (hd : DstOk N d)
    (hp : L.Perm (Lp ++ M)) (hspec : Spec P n as h Lp T) (hT : T (fun v h' L' => C (putR d v e) h' (L' ++ M))) : HardS P N ⟨d, .call { callee := .value f, args := xs.toArray, argTypes := ts }, ty, pos, af, g⟩ e h L C := by
  intro a w s st
  have hr : (execOp a.eval ⟨d, .call { callee := .value f, args := xs.toArray, argTypes := ts }, ty, pos, af, g⟩).run P w = .ok (.enter n as.toArray) w := by
    rw [← happ]
    simp [execOp, resolve, s.eval hf, hargs a s, Deferred.ofValue, invoke, hcf.eq]
  unfold Oper.wp
  rw [hr]
  refine ⟨?_, trivial⟩
  refine (hspec _ M w hT (st.perm hp)).mono fun en w' hk => ?_
  obtain ⟨v, h', L', rfl, hle, hK, hst⟩ := hk
  exact ⟨_, h', _, hd.eq e a v s, hle, hst, hK⟩
instance (priority := low) go_callFV {n : FuncId} {f : Operand} {xs : List Operand} {ts : Array TypeId} {F U vs as bs : List Value} {s : Prop} {v : Value} [hf : Is (lkO e f) (some (.func (.func n) F.toArray U.toArray))] [ha : ArgsOf e xs vs] [h1 : AppV F vs bs] [h2 : AppV bs U as] [hcf : CallF P n] [hc : CallV P n as h s v] [hd : DstOk N d] :
    Step (GO1 P N ops ⟨d, .call { callee := .value f, args := xs.toArray, argTypes := ts }, ty, pos, af, g⟩ l k Q e h L) (Side s (GOr P N ops l k Q d v e h [] L)) :=
  ⟨fun hk => GO1_hard (hard_callF (M := L) (Lp := []) hf.eq (ha.eq N) (by rw [h1.eq, h2.eq]) hcf hd (.refl _) (hc.spec hk.side) hk.rest)⟩
instance (priority := low) go_callFT {n : FuncId} {f : Operand} {xs : List Operand} {ts : Array TypeId} {F U vs as bs : List Value} {s : Prop} {T : Kont → Prop} [hf : Is (lkO e f) (some (.func (.func n) F.toArray U.toArray))] [ha : ArgsOf e xs vs] [h1 : AppV F vs bs] [h2 : AppV bs U as] [hcf : CallF P n] [hc : CallT P n as h L s M T] [hd : DstOk N d] :
    Step (GO1 P N ops ⟨d, .call { callee := .value f, args := xs.toArray, argTypes := ts }, ty, pos, af, g⟩ l k Q e h L) (Side s (T (fun v h' L' => GOr P N ops l k Q d v e h' L' M))) :=
  ⟨fun hk => by obtain ⟨Lp, hp, hs⟩ := hc.spec hk.side; exact GO1_hard (hard_callF hf.eq (ha.eq N) (by rw [h1.eq, h2.eq]) hcf hd hp hs hk.rest)⟩
instance (priority := low) gd_callFT {n : FuncId} {f : Operand} {xs : List Operand} {ts : Array TypeId} {F U vs as bs : List Value} {s : Prop} {T : Kont → Prop} [hf : Is (lkO e f) (some (.func (.func n) F.toArray U.toArray))] [ha : ArgsOf e xs vs] [h1 : AppV F vs bs] [h2 : AppV bs U as] [hcf : CallF P n] [hc : CallT P n as h L s M T] [hd : DstOk N d] :
    Step (GD1 P N ops V h0 i ⟨d, .call { callee := .value f, args := xs.toArray, argTypes := ts }, ty, pos, af, g⟩ l k Q e h L) (Side s (T (fun v h' L' => GDr P N ops V h0 i l k Q d v e h' L' M))) :=
  ⟨fun hk => by obtain ⟨Lp, hp, hs⟩ := hc.spec hk.side; exact GD1_hard rfl (hard_callF hf.eq (ha.eq N) (by rw [h1.eq, h2.eq]) hcf hd hp hs hk.rest)⟩
end
end
end Go.Sl

/-
  Slices that are made and grow.
-/
namespace Go.Sl
set_option linter.unusedVariables false
set_option linter.unusedSimpArgs false

/-- A slice that is owned: it begins at its block's first cell, or has no room at all. -/
def slo {α : Type} (enc : α → List Value) (k : Nat) (v : Value) (xs : List α) : HP := fun bs =>
  (∀ x ∈ xs, (enc x).length = k ∧ ∀ u ∈ enc x, u.oneCell' = true) ∧ (((∃ a, v = .slice a 0 0) ∧ xs = [] ∧ bs = []) ∨
    ∃ b cap post T, v = .slice (some ⟨b, 0, none⟩) xs.length cap ∧ xs.length ≤ cap ∧ bs = [(b, .cells (xs.flatMap enc ++ post).toArray T (0, 0))] ∧ post.length = (cap - xs.length) * k)
theorem slo_slc {α : Type} {enc : α → List Value} {k : Nat} {v : Value} {xs : List α} {bs : List Chunk} (hs : slo enc k v xs bs) : slc enc k v xs bs := by
  obtain ⟨h1, h2⟩ := hs
  refine ⟨fun x hx => (h1 x hx).1, ?_⟩
  rcases h2 with ⟨ha, hx, hb⟩ | ⟨b, cap, post, T, hv, hc, hb, hp⟩
  · exact .inl ⟨ha, hx, hb⟩
  · exact .inr ⟨b, 0, cap, [], post, T, (0, 0), hv, rfl, hc, by simpa using hb⟩
theorem Own.slo_slc {α : Type} {enc : α → List Value} {k : Nat} {v : Value} {xs : List α} {w : World} (o : Own (slo enc k v xs) w) : Own (slc enc k v xs) w := by
  obtain ⟨bs, h1, h2⟩ := o; exact ⟨bs, Sl.slo_slc h1, h2⟩
theorem Fz.slo {α : Type} {enc : α → List Value} {k : Nat} {v : Value} {xs : List α} {h : PHeap} (f : Fz (slo enc k v xs) h) : FSl h v enc k xs := ⟨by
  obtain ⟨bs, h1, h2⟩ := f; exact ⟨bs, slo_slc h1, h2⟩⟩
theorem Fz.slc {α : Type} {enc : α → List Value} {k : Nat} {v : Value} {xs : List α} {h : PHeap} (f : Fz (slc enc k v xs) h) : FSl h v enc k xs := ⟨f⟩
theorem FSl.mono {α : Type} {enc : α → List Value} {k : Nat} {v : Value} {xs : List α} {h h' : PHeap} (hl : Hle h h') (f : FSl h v enc k xs) : FSl h' v enc k xs := ⟨f.fz.mono hl⟩
theorem Pt.mono {h h' : PHeap} {b : Nat} {o : Obj} (hl : Hle h h') (p : Pt h b o) : Pt h' b o := ⟨hl _ _ p.eq⟩
theorem Fz.blk {h : PHeap} {b : Nat} {o : Obj} (f : Fz (blk b o) h) : Pt h b o := ⟨by
  obtain ⟨bs, rfl, hb⟩ := f; exact hb (b, o) (by simp)⟩
instance {α : Type} {V : List HP} {h : PHeap} {v : Value} {enc : α → List Value} {k : Nat} {xs : List α} : Rds (slo enc k v xs :: V) h v enc k xs := ⟨fun _ c => (Own.ofMem List.mem_cons_self c).slo_slc⟩

section
variable {P : Program} {N : NN} {k : List It} {Q : Post} {e : Env} {h h0 : PHeap} {L V M : List HP} {ops l : List Oper} {i : Nat}

/-- Cells read as elements. -/
class Mk {α : Type} (enc : α → List Value) (cs : List Value) (y : outParam α) : Prop where
  eq : enc y = cs
class Dec {α : Type} (enc : α → List Value) (k : Nat) (cs : List Value) (ys : outParam (List α)) : Prop where
  eq : ys.flatMap enc = cs ∧ ∀ y ∈ ys, (enc y).length = k
instance {α : Type} {enc : α → List Value} {k : Nat} : Dec enc k [] [] := ⟨by simp⟩
instance {α : Type} {enc : α → List Value} {k : Nat} {v : Value} {cs c1 c2 : List Value} {y : α} {ys : List α} [h1 : TakeN (v :: cs) k c1] [h2 : DropN (v :: cs) k c2] [h3 : Mk enc c1 y] [h4 : Dec enc k c2 ys] : Dec enc k (v :: cs) (y :: ys) := ⟨by
  refine ⟨?_, ?_⟩
  · rw [List.flatMap_cons, h3.eq, h4.eq.1, ← h1.eq.1, ← h2.eq, List.take_append_drop]
  · intro z hz
    rcases List.mem_cons.1 hz with rfl | hz
    · rw [h3.eq]; exact h1.eq.2
    · exact h4.eq.2 z hz⟩

abbrev encI : Int → List Value := fun n => [vI n]
abbrev encS : ByteArray → List Value := fun s => [.string s]
abbrev encV : Value → List Value := fun v => [v]
instance {n : Int} : Mk encI [vI n] n := ⟨rfl⟩
instance {n : ByteArray} : Mk encS [.string n] n := ⟨rfl⟩
instance {n : Value} : Mk encV [n] n := ⟨rfl⟩

/-! ### A slice written out -/
class RepN (n : Nat) (z : List Value) (cs : outParam (List Value)) : Prop where
  eq : (List.replicate n z).flatten = cs
instance {z : List Value} : RepN 0 z [] := ⟨rfl⟩
class AppN (a b : List Value) (c : outParam (List Value)) : Prop where
  eq : a ++ b = c
instance {b : List Value} : AppN [] b b := ⟨rfl⟩
instance {x : Value} {a b c : List Value} [r : AppN a b c] : AppN (x :: a) b (x :: c) := ⟨by rw [List.cons_append, r.eq]⟩
instance {n : Nat} {z cs cs' : List Value} [r : RepN n z cs] [a : AppN z cs cs'] : RepN (n + 1) z cs' := ⟨by rw [List.replicate_succ, List.flatten_cons, r.eq, a.eq]⟩
instance {f sz m : Nat} [hm : MulN f sz m] : PlaceAt (fun i => some (i * sz, sz)) f m sz := ⟨by simp [hm.eq]⟩

theorem range_cells (z : List Value) (n : Nat) (hz : 0 < z.length) : ((Array.range (n * z.length)).map (fun i => z.toArray[i % z.toArray.size]!)).toList = (List.replicate n z).flatten := by
  apply List.ext_getElem?
  intro j
  simp only [Array.toList_map, Array.toList_range, List.getElem?_map, List.size_toArray]
  by_cases hj : j < n * z.length
  · rw [List.getElem?_range hj]
    have hmod : j % z.length < z.length := Nat.mod_lt _ hz
    have : (List.replicate n z).flatten[j]? = z[j % z.length]? := by
      clear hmod
      induction n generalizing j with
      | zero => simp at hj
      | succ n ih =>
        rw [List.replicate_succ, List.flatten_cons]
        by_cases hlt : j < z.length
        · rw [List.getElem?_append_left hlt, Nat.mod_eq_of_lt hlt]
        · rw [List.getElem?_append_right (by omega), ih (j - z.length) (by rw [Nat.add_mul] at hj; omega)]
          rw [← Nat.mod_eq_sub_mod (by omega)]
    rw [this, List.getElem?_eq_getElem hmod]
    simp [hmod]
  · rw [List.getElem?_eq_none (by simpa using hj), List.getElem?_eq_none (by simpa [List.length_flatten] using hj)]
    rfl

section
variable {d : Nat} {ty : TypeId} {pos : String} {af : Array Edge} {g : Option (Nat × Bool)} {C : Env → PHeap → List HP → Prop}
theorem hard_buildSlice {t el n sz : Nat} {agg : Bool} {z : Value} {ps : List (Nat × Operand)} {zs cs0 cs : List Value} [ht : SliT P t el] [hs : TySz P el agg sz] [hz : ZeroT P el z] [hzc : CellsOf L h z zs] [hl : LenN zs sz] [hr : RepN n zs cs0] [hf : Fill P L h e (fun i => some (i * sz, sz)) ps cs0 cs] [hN : InN N d]
    (hsz : 0 < n * sz ∧ n * sz ≤ 16777216) (hk : ∀ b, C ((d, .slice (some ⟨b, 0, none⟩) n n) :: e) h (blk b (.cells cs.toArray el (0, 0)) :: L)) : HardS P N ⟨some d, .buildSlice t n ps.toArray, ty, pos, af, g⟩ e h L C := by
  intro a w s st
  have hcw : ∃ w, Cw L h w := ⟨w, Cw.self st⟩
  obtain ⟨inf, dd, e1, e2, e3, e4⟩ := hs.eq
  obtain ⟨inf', e5, e6⟩ := hz.eq
  rw [e1] at e5; cases e5
  have hfl := hf.eq hcw N a s
  have hzl : zs.length = sz := hl.eq
  have hcells : (Array.range (n * sz)).map (fun i => zs.toArray[i % zs.toArray.size]!) = cs0.toArray := by
    apply Array.ext'
    have : 0 < sz := Nat.pos_of_ne_zero fun e => by rw [e] at hsz; omega
    rw [← hzl, range_cells zs n (by omega), hr.eq]
  have hr : (execOp a.eval ⟨some d, .buildSlice t n ps.toArray, ty, pos, af, g⟩).run P w = .ok (.value (.slice (some ⟨w.heap.size, 0, none⟩) n n)) { w with heap := w.heap.push (.cells cs.toArray el) } := by
    have hnb : ¬ n * sz > 2 ^ 24 := by have := hsz.2; omega
    simp only [execOp, Instr.buildSlice, Sem.run_bind, run_underlying ht.eq, Result.andThen_ok, sizeOf, typeInfo, run_program, e1, Sem.run_pure, e2, Sem.run_ite]
    rw [if_neg hnb]
    have h0 : ¬ n * sz = 0 := by omega
    simp only [h0, if_false, zeroValue, typeInfo, Sem.run_bind, run_program, Result.andThen_ok, e1, Sem.run_pure, e6, hzc.eq hcw, hcells]
    simp only [List.map_toArray, hfl, newRow, Sem.run_bind, run_newObj, Result.andThen_ok, Sem.run_pure]
  unfold Oper.wp
  rw [hr]
  exact ⟨⟨_, h, _, s.put hN.eq, Hle.refl h, st.new (x := blk w.heap.size (.cells cs.toArray el (0, 0))) _ rfl, hk _⟩, trivial⟩
instance go_buildSlice {t el n sz : Nat} {agg : Bool} {z : Value} {ps : List (Nat × Operand)} {zs cs0 cs : List Value} [ht : SliT P t el] [hs : TySz P el agg sz] [hz : ZeroT P el z] [hzc : CellsOf L h z zs] [hl : LenN zs sz] [hr : RepN n zs cs0] [hf : Fill P L h e (fun i => some (i * sz, sz)) ps cs0 cs] [hN : InN N d] :
    Step (GO1 P N ops ⟨some d, .buildSlice t n ps.toArray, ty, pos, af, g⟩ l k Q e h L) (Side (0 < n * sz ∧ n * sz ≤ 16777216) (New fun b => GO P N ops l k Q ((d, .slice (some ⟨b, 0, none⟩) n n) :: e) h (blk b (.cells cs.toArray el (0, 0)) :: L))) := ⟨fun hk => GO1_hard (hard_buildSlice hk.side hk.rest.all)⟩
instance gd_buildSlice {t el n sz : Nat} {agg : Bool} {z : Value} {ps : List (Nat × Operand)} {zs cs0 cs : List Value} [ht : SliT P t el] [hs : TySz P el agg sz] [hz : ZeroT P el z] [hzc : CellsOf L h z zs] [hl : LenN zs sz] [hr : RepN n zs cs0] [hf : Fill P L h e (fun i => some (i * sz, sz)) ps cs0 cs] [hN : InN N d] :
    Step (GD1 P N ops V h0 i ⟨some d, .buildSlice t n ps.toArray, ty, pos, af, g⟩ l k Q e h L) (Side (0 < n * sz ∧ n * sz ≤ 16777216) (New fun b => GDk P N ops V h0 i l k Q ((d, .slice (some ⟨b, 0, none⟩) n n) :: e) h (blk b (.cells cs.toArray el (0, 0)) :: L))) := ⟨fun hk => GD1_hard rfl (hard_buildSlice hk.side hk.rest.all)⟩
end
end
end Go.Sl

/-
  append, on slices that are owned.
-/
namespace Go.Sl
set_option linter.unusedVariables false
set_option linter.unusedSimpArgs false

/-- What is known of the elements of a slice that grows. -/
class ElT (P : Program) (el : TypeId) (sz : outParam Nat) : Prop where
  eq : ∃ i z, P.info? el = some i ∧ i.size = sz ∧ i.zero = some z ∧ z.cells.size = sz ∧ i.bytes ≤ 4096 ∧ 0 < sz
class ArgT (P : Program) (t : TypeId) : Prop where
  eq : (∃ el, P.underlying t = some (.slice el)) ∨ P.underlying t = some .string
instance {P : Program} {t el : TypeId} [s : SliT P t el] : ArgT P t := ⟨.inl ⟨_, s.eq⟩⟩
instance {P : Program} {t : TypeId} [s : StrT P t] : ArgT P t := ⟨.inr s.eq⟩

theorem growBy_le (n : Nat) : ∀ (r c : Nat), c ≤ 2 * n + 192 → c < n ∨ c ≤ 2 * n + 192 → Builtin.growBy n r c ≤ 2 * n + 192
  | 0, c, h, _ => h
  | r + 1, c, h, _ => by
    unfold Builtin.growBy
    split
    · exact h
    · exact growBy_le n r _ (by omega) (.inr (by omega))
theorem nextslicecap_le (n c : Nat) (h : c < n) : Builtin.nextslicecap n c ≤ 2 * n + 192 := by
  unfold Builtin.nextslicecap
  split
  · omega
  · split
    · omega
    · exact growBy_le n 4 c (by omega) (.inl h)

/-- What a source of cells tells. -/
def Source (P : Program) (w : World) (sz : Nat) (u : Value) (m : Nat) (cs : List Value) : Prop :=
  (∀ w', (∃ y, w' = w ∨ w' = { w with drawn := y }) → (Builtin.lenOf u).run P w' = .ok m w') ∧ (∀ y, (Builtin.firstCells sz m u).run P { w with drawn := y } = .ok cs.toArray { w with drawn := y }) ∧ cs.length = m * sz

theorem firstCells_run {P : Program} {w : World} {sz m b o c : Nat} {pre cs post : List Value} {T : TypeId} {fr : Nat × Nat} (hb : w.heap[b]? = some (.cells (pre ++ (cs ++ post)).toArray T fr)) (ho : pre.length = o) (hl : cs.length = m * sz) :
    (Builtin.firstCells sz m (.slice (some ⟨b, o, none⟩) m c)).run P w = .ok cs.toArray w := by
  have := run_loadCells_list (P := P) w ⟨b, o, none⟩ cs (fun j v hj => by
    rw [Addr.add_mid]
    simp only [World.cell?, hb]
    simp only [Option.isSome_none, Bool.false_eq_true, if_false, List.getElem?_toArray]
    rw [List.getElem?_append_right (by omega), List.getElem?_append_left (by have := (List.getElem?_eq_some_iff.1 hj).1; omega)]
    rw [← ho]; simpa using hj)
  rw [hl] at this
  simpa [Builtin.firstCells] using this
theorem source_slc {P : Program} {w : World} {α : Type} {enc : α → List Value} {sz : Nat} {u : Value} {ys : List α} (o : Own (slc enc sz u ys) w) : Source P w sz u ys.length (ys.flatMap enc) := by
  obtain ⟨bs, ⟨he, h1⟩, hb⟩ := o
  have hlen : (ys.flatMap enc).length = ys.length * sz := by
    clear h1 hb
    induction ys with
    | nil => simp
    | cons y ys ih => rw [List.flatMap_cons, List.length_append, he y (by simp), ih (fun z hz => he z (by simp [hz])), List.length_cons, Nat.add_mul]; omega
  rcases h1 with ⟨⟨a, rfl⟩, rfl, rfl⟩ | ⟨b, off, cap, pre, post, T, fr, rfl, hp, hcap, rfl⟩
  · refine ⟨fun w' _ => by simp [Builtin.lenOf], fun y => ?_, by simp⟩
    cases a <;> simp [Builtin.firstCells, loadCells, loadCellsFrom]
  · refine ⟨fun w' _ => by simp [Builtin.lenOf], fun y => ?_, hlen⟩
    exact firstCells_run (hb (b, .cells (pre ++ (ys.flatMap enc ++ post)).toArray T fr) (by simp)) hp hlen
theorem source_blk {P : Program} {w : World} {sz b m c : Nat} {cs : List Value} {T : TypeId} {fr : Nat × Nat} (hb : w.heap[b]? = some (.cells cs.toArray T fr)) (hl : cs.length = m * sz) : Source P w sz (.slice (some ⟨b, 0, none⟩) m c) m cs :=
  ⟨fun w' _ => by simp [Builtin.lenOf], fun y => firstCells_run (pre := []) (post := []) (by simpa using hb) rfl hl, hl⟩

theorem putL_mid : ∀ (A B post : List Value), B.length ≤ post.length → putL (A ++ post) A.length B = A ++ (B ++ post.drop B.length)
  | A, [], post, _ => by simp [putL]
  | A, v :: B, [], h => by simp at h
  | A, v :: B, p :: post, h => by
    have := putL_mid (A ++ [v]) B post (by simpa using h)
    simp only [List.length_append, List.length_cons, List.length_nil, Nat.zero_add, List.append_assoc, List.singleton_append] at this
    rw [putL]
    have hset : (A ++ p :: post).set A.length v = A ++ v :: post := by simp
    rw [hset, this]
    simp
theorem flat_len {α : Type} {enc : α → List Value} {k : Nat} : ∀ {xs : List α}, (∀ x ∈ xs, (enc x).length = k) → (xs.flatMap enc).length = xs.length * k
  | [], _ => by simp
  | x :: xs, he => by rw [List.flatMap_cons, List.length_append, he x (by simp), flat_len (fun z hz => he z (by simp [hz])), List.length_cons, Nat.add_mul]; omega

section
variable {P : Program} {N : NN} {k : List It} {Q : Post} {e : Env} {h h0 : PHeap} {L V M : List HP} {ops l : List Oper} {i : Nat}

theorem run_append {t1 t2 el sz : Nat} [ht : SliT P t1 el] [he : ElT P el sz] [ha : ArgT P t2] {ty : TypeId} {α : Type} {enc : α → List Value} {v u : Value} {xs ys : List α} {w : World} {R : List HP} (hst : St h (slo enc sz v xs :: R) w)
    (hsrc : Source P w sz u ys.length (ys.flatMap enc)) (hone : ∀ y ∈ ys, (enc y).length = sz ∧ ∀ x ∈ enc y, x.oneCell' = true) (hn : xs.length + ys.length ≤ 4294967296) :
    ∃ v' w', (Builtin.append_ #[t1, t2] ty #[v, u]).run P w = .ok v' w' ∧ St h (slo enc sz v' (xs ++ ys) :: R) w' := by
  obtain ⟨inf, z, e1, e2, e3, e4, e5, e6⟩ := he.eq
  obtain ⟨bs, ⟨b1, b2, rfl, ⟨hx1, hx2⟩, hd⟩, s0⟩ := hst
  have hxl : (xs.flatMap enc).length = xs.length * sz := flat_len fun x hx => (hx1 x hx).1
  have hall : ∀ x ∈ xs ++ ys, (enc x).length = sz ∧ ∀ u ∈ enc x, u.oneCell' = true := fun x hx => by
    rcases List.mem_append.1 hx with hx | hx
    · exact hx1 x hx
    · exact hone x hx
  obtain ⟨hs1, hs2, hs3⟩ := hsrc
  have hlen := hs1 w ⟨0, .inl rfl⟩
  have hm : ∃ dd, (∀ w, (Sem.run P (underlying t2) w) = .ok dd w) ∧ ((∃ el, dd = .slice el) ∨ dd = .string) := by
    rcases ha.eq with ⟨el2, h2⟩ | h2
    · exact ⟨_, fun w => run_underlying h2 w, .inl ⟨_, rfl⟩⟩
    · exact ⟨_, fun w => run_underlying h2 w, .inr rfl⟩
  obtain ⟨dd, hm, hdd⟩ := hm
  -- the part that both ways share
  have grow : ∀ (vl vc : Nat) (base : Option Addr), v = .slice base vl vc → vl = xs.length → xs.length + ys.length > vc →
      (∀ y, (Builtin.firstCells sz xs.length (.slice base vl vc)).run P { w with drawn := y } = .ok (xs.flatMap enc).toArray { w with drawn := y }) →
      ∃ v' w', (Builtin.append_ #[t1, t2] ty #[v, u]).run P w = .ok v' w' ∧ St h (slo enc sz v' (xs ++ ys) :: R) w' := by
    rintro vl vc base rfl rfl hgt hold
    have hnc := nextslicecap_le (xs.length + ys.length) vc hgt
    have hby : ¬ Builtin.nextslicecap (xs.length + ys.length) vc * inf.bytes > 2 ^ 48 := by
      have : Builtin.nextslicecap (xs.length + ys.length) vc * inf.bytes ≤ 8589934784 * 4096 := Nat.mul_le_mul (by omega) e5
      omega
    let need := xs.length + ys.length
    let C := (Question.appendCap need vc el).cut (w.tape w.drawn (.appendCap need vc el))
    have hC : need ≤ C := by simp only [C, Question.cut]; omega
    let w1 : World := { w with drawn := w.drawn + 1 }
    have hz : ∀ w, (zeroValue el).run P w = .ok z w := fun w => by simp [zeroValue, typeInfo, e1, e3]
    have hsz : ∀ w, (sizeOf el).run P w = .ok sz w := fun w => by simp [sizeOf, typeInfo, e1, e2]
    have hti : ∀ w, (typeInfo el).run P w = .ok inf w := fun w => by simp [typeInfo, e1]
    have hrest : Builtin.zeroCells z.cells (C - need) = (Builtin.zeroCells z.cells (C - need)).toList.toArray := by simp
    have hforced : (Question.appendCap need vc el).forced = false := rfl
    have hnle : ¬ xs.length + ys.length ≤ vc := by omega
    have hbig : ¬ ((↑(xs.length + ys.length) : Int) > IntKind.i64.max ∧ (False ∨ inf.bytes = 0)) := by
      intro hc
      have : IntKind.i64.max = 9223372036854775807 := by decide
      omega
    refine ⟨.slice (some ⟨w.heap.size, 0, none⟩) need C, { w1 with heap := w1.heap.push (.cells (xs.flatMap enc ++ (ys.flatMap enc ++ (Builtin.zeroCells z.cells (C - need)).toList)).toArray el) }, ?_, ?_⟩
    · have o1 := hold (w.drawn + 1)
      have o2 := hs2 (w.drawn + 1)
      have hlo : ∀ w', (∃ y, w' = w ∨ w' = { w with drawn := y }) → (Builtin.lenOf u).run P w' = .ok ys.length w' := hs1
      rcases hdd with ⟨el2, rfl⟩ | rfl
      all_goals
        simp only [Builtin.append_, List.getElem?_toArray, List.getElem?_cons_zero, List.getElem?_cons_succ, Sem.run_bind, run_underlying ht.eq, Result.andThen_ok, hsz, hm, Sem.run_pure, Bool.false_eq_true, if_false, hlen, Sem.run_ite, hnle, hti, hbig, hby, run_choose]
        have hf : (Question.appendCap (xs.length + ys.length) vc el).forced = false := rfl
        simp only [hf, Bool.false_eq_true, if_false, Result.andThen_ok, run_askRoom, o1, Bool.not_false, if_true, o2, hz, newRow, Sem.run_bind, run_newObj, Sem.run_pure]
        simp [w1, C, need]
        refine congrArg (fun x => w.heap.push (.cells x el)) (Array.ext' ?_)
        simp [List.append_assoc]
    · have hxc : ∀ x, Builtin.zeroCells z.cells x = (Builtin.zeroCells z.cells x).toList.toArray := by simp
      have hs' : St h R w1 := (St.drop (x := slo enc sz (.slice base xs.length vc) xs) ⟨b1 ++ b2, ⟨b1, b2, rfl, ⟨hx1, hx2⟩, hd⟩, s0⟩).heap rfl
      refine hs'.new _ ⟨hall, .inr ⟨w.heap.size, C, (Builtin.zeroCells z.cells (C - need)).toList, el, by simp [need], by simpa [need] using hC, ?_, ?_⟩⟩
      · simp [w1, List.append_assoc]
      · simp [size_zeroCells, e4, need]
  rcases hx2 with ⟨⟨a, rfl⟩, rfl, rfl⟩ | ⟨b, cap, post, T, rfl, hcap, rfl, hpost⟩
  · by_cases hy : ys.length = 0
    · have hy0 : ys = [] := List.eq_nil_of_length_eq_zero hy
      subst hy0
      refine ⟨.slice a 0 0, w, ?_, ⟨[] ++ b2, ⟨[], b2, rfl, ⟨by simp, .inl ⟨⟨a, rfl⟩, by simp, rfl⟩⟩, hd⟩, s0⟩⟩
      have hsz : ∀ w, (sizeOf el).run P w = .ok sz w := fun w => by simp [sizeOf, typeInfo, e1, e2]
      have o2 := hs2 w.drawn
      simp only [List.length_nil, List.flatMap_nil] at o2 hlen
      rcases hdd with ⟨el2, rfl⟩ | rfl
      all_goals
        simp only [Builtin.append_, List.getElem?_toArray, List.getElem?_cons_zero, List.getElem?_cons_succ, Sem.run_bind, run_underlying ht.eq, Result.andThen_ok, hsz, hm, Sem.run_pure, Bool.false_eq_true, if_false, hlen, Sem.run_ite, Nat.add_zero, Nat.le_refl, if_true, Bool.not_false, o2]
        cases a <;> simp [storeCells]
    · refine grow 0 0 a rfl rfl (by simp; omega) (fun y => ?_)
      cases a <;> simp [Builtin.firstCells, loadCells, loadCellsFrom]
  · have hb := (s0.own (b, .cells (xs.flatMap enc ++ post).toArray T (0, 0)) (by simp)).1
    simp only at hb
    by_cases hroom : xs.length + ys.length ≤ cap
    · have hml : xs.length * sz + (ys.flatMap enc).length ≤ (xs.flatMap enc ++ post).length := by
        rw [List.length_append, hxl, hpost, hs3, ← Nat.add_mul, ← Nat.add_mul]; exact Nat.mul_le_mul_right _ (by omega)
      have h1y : ∀ v ∈ ys.flatMap enc, v.oneCell' = true := fun v hv => by
        obtain ⟨y, hy, hv⟩ := List.mem_flatMap.1 hv
        exact (hone y hy).2 v hv
      have hst := run_storeCells_cells (P := P) b (xs.length * sz) (ys.flatMap enc) 0 w (fun j hj => by
        have hlt : xs.length * sz + 0 + j < (xs.flatMap enc ++ post).length := by omega
        simp only [World.cell?, hb, Option.isSome_none, Bool.false_eq_true, if_false, List.getElem?_toArray]
        rw [List.getElem?_eq_getElem hlt]; rfl) (fun j hj => by simp [World.frozen?, hb]) h1y
      simp only [Nat.add_zero] at hst
      have hw := setCells_heap (ys.flatMap enc) (xs.length * sz) (xs.flatMap enc ++ post) w hb
      have hput : putL (xs.flatMap enc ++ post) (xs.length * sz) (ys.flatMap enc) = (xs ++ ys).flatMap enc ++ post.drop (ys.length * sz) := by
        rw [← hxl, putL_mid _ _ _ (by rw [List.length_append, hxl] at hml; omega), List.flatMap_append, List.append_assoc, hs3]
      rw [hput] at hw
      have o2 := hs2 w.drawn
      refine ⟨.slice (some ⟨b, 0, none⟩) (xs.length + ys.length) cap, w.setCells b (xs.length * sz) (ys.flatMap enc), ?_, ?_⟩
      · have hsz : ∀ w, (sizeOf el).run P w = .ok sz w := fun w => by simp [sizeOf, typeInfo, e1, e2]
        have hst' : (storeCells ((⟨b, 0, none⟩ : Addr).add (xs.length * sz)) (ys.flatMap enc)).run P w = .ok () (w.setCells b (xs.length * sz) (ys.flatMap enc)) := by
          rw [Addr.add_mid, Nat.zero_add]; exact hst
        rcases hdd with ⟨el2, rfl⟩ | rfl
        all_goals
          simp only [Builtin.append_, List.getElem?_toArray, List.getElem?_cons_zero, List.getElem?_cons_succ, Sem.run_bind, run_underlying ht.eq, Result.andThen_ok, hsz, hm, Sem.run_pure, Bool.false_eq_true, if_false, hlen, Sem.run_ite, hroom, if_true, Bool.not_false, o2, hst']
      · refine St.put (x := blk b (.cells (xs.flatMap enc ++ post).toArray T (0, 0))) ⟨_, ⟨_, b2, rfl, rfl, hd⟩, s0⟩ (strm_setCells _ _ _ _) ?_
        rintro bs rfl _
        refine ⟨[(b, .cells ((xs ++ ys).flatMap enc ++ post.drop (ys.length * sz)).toArray T (0, 0))], ⟨hall, .inr ⟨b, cap, post.drop (ys.length * sz), T, by simp, by simpa using hroom, rfl, ?_⟩⟩, rfl, ?_, ?_⟩
        · rw [List.length_drop, hpost, List.length_append, ← Nat.sub_mul]; congr 1; omega
        · intro c hc
          have : c = (b, .cells ((xs ++ ys).flatMap enc ++ post.drop (ys.length * sz)).toArray T (0, 0)) := by simpa using hc
          subst this; exact hw.1
        · intro b' hb'; exact hw.2 b' (by simpa using hb')
    · exact grow xs.length cap _ rfl rfl (by omega) (fun y => firstCells_run (pre := []) (post := post) (by simpa using hb) rfl hxl)
end
end Go.Sl

/-
  append, make and slicing as steps.
-/
namespace Go.Sl
set_option linter.unusedVariables false
set_option linter.unusedSimpArgs false

/-- For each slice that a growth may have made. -/
structure NewS (p : Option Addr → Nat → Prop) : Prop where
  all : ∀ a c, p a c

class EncOne {α : Type} (enc : α → List Value) : Prop where
  eq : ∀ y, ∀ u ∈ enc y, u.oneCell' = true
instance : EncOne encI := ⟨fun y u hu => by simp at hu; subst hu; rfl⟩
instance : EncOne encS := ⟨fun y u hu => by simp at hu; subst hu; rfl⟩

class PickO (L : List HP) (v : Value) (α : outParam Type) (enc : outParam (α → List Value)) (sz : outParam Nat) (xs : outParam (List α)) (R : outParam (List HP)) : Prop where
  eq : L.Perm (slo enc sz v xs :: R)
instance {v : Value} {α : Type} {enc : α → List Value} {sz : Nat} {xs : List α} {L : List HP} : PickO (slo enc sz v xs :: L) v α enc sz xs L := ⟨.refl _⟩
instance (priority := low) {v : Value} {α : Type} {enc : α → List Value} {sz : Nat} {xs : List α} {L R : List HP} {x : HP} [p : PickO L v α enc sz xs R] : PickO (x :: L) v α enc sz xs (x :: R) := ⟨(List.Perm.cons x p.eq).trans (.swap _ _ _)⟩

class Src (P : Program) (L : List HP) (h : PHeap) {α : Type} (enc : α → List Value) (sz : Nat) (u : Value) (ys : outParam (List α)) : Prop where
  eq : ∀ w, Cw L h w → Source P w sz u ys.length (ys.flatMap enc) ∧ ∀ y ∈ ys, (enc y).length = sz ∧ ∀ x ∈ enc y, x.oneCell' = true
instance {P : Program} {L : List HP} {h : PHeap} {α : Type} {enc : α → List Value} {sz : Nat} {u : Value} {ys : List α} [ho : EncOne enc] [r : Rds L h u enc sz ys] : Src P L h enc sz u ys := ⟨fun w c => by
  have o := r.rd w c
  refine ⟨source_slc o, fun y hy => ⟨?_, ho.eq y⟩⟩
  obtain ⟨bs, ⟨h1, _⟩, _⟩ := o
  exact h1 y hy⟩
instance (priority := low) src_blk {P : Program} {L : List HP} {h : PHeap} {α : Type} {enc : α → List Value} {sz b m c : Nat} {cs : List Value} {T : TypeId} {ys : List α} [o : OwnB L b cs T] [h1 : AllOne L h cs] [d : Dec enc sz cs ys] [hl : Is ys.length m] : Src P L h enc sz (.slice (some ⟨b, 0, none⟩) m c) ys := ⟨fun w cw => by
  obtain ⟨bs, hbs, hb⟩ := Own.ofMem o.eq cw
  have hb := hb (b, .cells cs.toArray T (0, 0)) (by rw [hbs]; simp)
  have hone := h1.eq ⟨w, cw⟩
  have hlen : cs.length = ys.length * sz := by rw [← d.eq.1]; exact flat_len d.eq.2
  refine ⟨?_, fun y hy => ⟨d.eq.2 y hy, fun x hx => hone x ?_⟩⟩
  · rw [d.eq.1, ← hl.eq]; exact source_blk hb hlen
  · rw [← d.eq.1]; exact List.mem_flatMap.2 ⟨y, hy, hx⟩⟩

class SuccN (n : Nat) (m : outParam Nat) : Prop where
  eq : n + 1 = m
instance (priority := low) {n : Nat} : SuccN n (n + 1) := ⟨rfl⟩
instance : SuccN 0 1 := ⟨rfl⟩
instance : SuccN 1 2 := ⟨rfl⟩
instance : SuccN 2 3 := ⟨rfl⟩
instance : SuccN 3 4 := ⟨rfl⟩
instance : SuccN 4 5 := ⟨rfl⟩
instance : SuccN 5 6 := ⟨rfl⟩
instance : SuccN 6 7 := ⟨rfl⟩
instance : SuccN 7 8 := ⟨rfl⟩
instance : SuccN 8 9 := ⟨rfl⟩
class LenL {α : Type} (l : List α) (n : outParam Nat) : Prop where
  eq : l.length = n
instance (priority := low) {α : Type} {l : List α} : LenL l l.length := ⟨rfl⟩
instance {α : Type} : LenL ([] : List α) 0 := ⟨rfl⟩
instance {α : Type} {x : α} {l : List α} {n m : Nat} [g : LenL l n] [s : SuccN n m] : LenL (x :: l) m := ⟨by rw [List.length_cons, g.eq, s.eq]⟩
section
variable {P : Program} {N : NN} {k : List It} {Q : Post} {e : Env} {h h0 : PHeap} {L V M : List HP} {ops l : List Oper} {i : Nat}
section
variable {d : Nat} {ty : TypeId} {pos : String} {af : Array Edge} {g : Option (Nat × Bool)} {C : Env → PHeap → List HP → Prop}
theorem slo_form {α : Type} {enc : α → List Value} {sz : Nat} {v : Value} {xs : List α} {R : List HP} {w : World} (s : St h (slo enc sz v xs :: R) w) : ∃ a c, v = .slice a xs.length c := by
  obtain ⟨bs, ⟨b1, b2, rfl, ⟨_, h2⟩, _⟩, _⟩ := s
  rcases h2 with ⟨⟨a, rfl⟩, rfl, _⟩ | ⟨b, cap, post, T, rfl, _⟩
  · exact ⟨a, 0, rfl⟩
  · exact ⟨_, _, rfl⟩
theorem hard_append {x y : Operand} {t1 t2 el sz : Nat} {v u : Value} {α : Type} {enc : α → List Value} {xs ys : List α} {R : List HP} [hx : Is (lkO e x) (some v)] [hy : Is (lkO e y) (some u)] [ht : SliT P t1 el] [he : ElT P el sz] [ha : ArgT P t2] [hp : PickO L v α enc sz xs R] [hs : Src P L h enc sz u ys] {m : Nat} [hm : LenL ys m] [hN : InN N d]
    (hn : xs.length + m ≤ 4294967296) (hk : ∀ a c, C ((d, .slice a (xs.length + m) c) :: e) h (slo enc sz (.slice a (xs.length + m) c) (xs ++ ys) :: R)) : HardS P N ⟨some d, .call { callee := .builtin .append, args := #[x, y], argTypes := #[t1, t2] }, ty, pos, af, g⟩ e h L C := by
  intro a w s st
  have hm := hm.eq
  subst hm
  obtain ⟨h1, h2⟩ := hs.eq w (Cw.self st)
  obtain ⟨v', w', hr, hst⟩ := run_append (P := P) (t1 := t1) (t2 := t2) (ty := ty) (st.perm hp.eq) h1 h2 hn
  obtain ⟨a', c', rfl⟩ := slo_form hst
  rw [List.length_append] at hr hst
  have hr1 : (execOp a.eval ⟨some d, .call { callee := .builtin .append, args := #[x, y], argTypes := #[t1, t2] }, ty, pos, af, g⟩).run P w = .ok (.value (.slice a' (xs.length + ys.length) c')) w' := by
    simp only [execOp, resolve, Sem.run_bind, Sem.run_pure, Result.andThen_ok, invoke, builtin]
    simp only [List.map_toArray, List.map_cons, List.map_nil, s.eval hx.eq, s.eval hy.eq, hr, Result.andThen_ok]
  unfold Oper.wp
  rw [hr1]
  exact ⟨⟨_, h, _, s.put hN.eq, Hle.refl h, hst, hk a' c'⟩, trivial⟩
instance go_append {x y : Operand} {t1 t2 el sz : Nat} {v u : Value} {α : Type} {enc : α → List Value} {xs ys : List α} {R : List HP} [hx : Is (lkO e x) (some v)] [hy : Is (lkO e y) (some u)] [ht : SliT P t1 el] [he : ElT P el sz] [ha : ArgT P t2] [hp : PickO L v α enc sz xs R] [hs : Src P L h enc sz u ys] {m : Nat} [hm : LenL ys m] [hN : InN N d] :
    Step (GO1 P N ops ⟨some d, .call { callee := .builtin .append, args := #[x, y], argTypes := #[t1, t2] }, ty, pos, af, g⟩ l k Q e h L)
      (Side (xs.length + m ≤ 4294967296) (NewS fun a c => GO P N ops l k Q ((d, .slice a (xs.length + m) c) :: e) h (slo enc sz (.slice a (xs.length + m) c) (xs ++ ys) :: R))) := ⟨fun hk => GO1_hard (hard_append hk.side hk.rest.all)⟩
instance gd_append {x y : Operand} {t1 t2 el sz : Nat} {v u : Value} {α : Type} {enc : α → List Value} {xs ys : List α} {R : List HP} [hx : Is (lkO e x) (some v)] [hy : Is (lkO e y) (some u)] [ht : SliT P t1 el] [he : ElT P el sz] [ha : ArgT P t2] [hp : PickO L v α enc sz xs R] [hs : Src P L h enc sz u ys] {m : Nat} [hm : LenL ys m] [hN : InN N d] :
    Step (GD1 P N ops V h0 i ⟨some d, .call { callee := .builtin .append, args := #[x, y], argTypes := #[t1, t2] }, ty, pos, af, g⟩ l k Q e h L)
      (Side (xs.length + m ≤ 4294967296) (NewS fun a c => GDk P N ops V h0 i l k Q ((d, .slice a (xs.length + m) c) :: e) h (slo enc sz (.slice a (xs.length + m) c) (xs ++ ys) :: R))) := ⟨fun hk => GD1_hard rfl (hard_append hk.side hk.rest.all)⟩
end

/-- The empty slice owns nothing. -/
theorem St.nil {α : Type} (enc : α → List Value) (sz : Nat) (a : Option Addr) {w : World} (s : St h L w) : St h (slo enc sz (.slice a 0 0) [] :: L) w := by
  obtain ⟨bs, hd, s0⟩ := s
  exact ⟨[] ++ bs, ⟨[], bs, rfl, ⟨by simp, .inl ⟨⟨a, rfl⟩, rfl, rfl⟩⟩, hd⟩, s0⟩
theorem G_nil {α : Type} (enc : α → List Value) (sz : Nat) (a : Option Addr) {c : Code} (g : G P N c k Q e h (slo enc sz (.slice a 0 0) [] :: L)) : G P N c k Q e h L := fun ac w s => g ac w (s.ae.as (s.st.nil enc sz a))
theorem GO_nil {α : Type} (enc : α → List Value) (sz : Nat) (a : Option Addr) (g : GO P N ops l k Q e h (slo enc sz (.slice a 0 0) [] :: L)) : GO P N ops l k Q e h L := fun ac w s => g ac w (s.ae.as (s.st.nil enc sz a))
theorem GO1_nil {α : Type} (enc : α → List Value) (sz : Nat) (a : Option Addr) {o : Oper} (g : GO1 P N ops o l k Q e h (slo enc sz (.slice a 0 0) [] :: L)) : GO1 P N ops o l k Q e h L := fun ac w s => g ac w (s.ae.as (s.st.nil enc sz a))
theorem X_nilO {α : Type} (enc : α → List Value) (sz : Nat) (a : Option Addr) {x : Exit} (g : X P N x k Q e h (slo enc sz (.slice a 0 0) [] :: L)) : X P N x k Q e h L := fun ac w s => g ac w (s.ae.as (s.st.nil enc sz a))

/-! ### s[:0:0] -/
def baseOf : Value → Option Addr
  | .slice a _ _ => a
  | _ => none
instance {x : Operand} {t el : Nat} {u : Value} {agg : Bool} {sz : Nat} {α : Type} {enc : α → List Value} {kk : Nat} {xs : List α} [hx : Is (lkO e x) (some u)] [ht : SliT P t el] [hz : TySz P el agg sz] [hr : Rds V h u enc kk xs] :
    Soft P N V h e (.slice t x none (some (.const (vI 0))) (some (.const (vI 0)))) True (.slice (baseOf u) 0 0) := ⟨fun _ hw d ty pos af g a w s _ => by
  obtain ⟨w0, hw⟩ := hw
  obtain ⟨inf, dd, e1, e2, _, _⟩ := hz.eq
  have hs : ∀ w, (sizeOf el).run P w = .ok sz w := fun w => by simp [sizeOf, typeInfo, e1, e2]
  have hform : ∃ a n c, u = .slice a n c := by
    rcases (hr.rd w0 hw).slc_pure with ⟨⟨a, rfl⟩, _⟩ | ⟨b, o, c, rfl⟩
    · exact ⟨_, _, _, rfl⟩
    · exact ⟨_, _, _, rfl⟩
  obtain ⟨a0, n, c, rfl⟩ := hform
  have hk0 : a.eval (.const (vI 0)) = vI 0 := rfl
  simp [execOp, s.eval hx.eq, Instr.sliceAt, Instr.slice, underlying, ht.eq, Instr.sliceBounds, Instr.sliceBound, hk0, asIntOf, hs, baseOf]⟩

/-! ### make -/
def mk0 (zs : List Value) (v : Value) (n : Nat) : HP := fun bs => ∃ b T, v = .slice (some ⟨b, 0, none⟩) n n ∧ bs = [(b, .cells ((List.replicate n zs).flatten).toArray T (0, 0))]
theorem mk0_slo {α : Type} {enc : α → List Value} {zs : List Value} {y : α} {v : Value} {n : Nat} (hy : enc y = zs) (h1 : ∀ u ∈ zs, u.oneCell' = true) {bs : List Chunk} (hm : mk0 zs v n bs) : slo enc zs.length v (List.replicate n y) bs := by
  obtain ⟨b, T, rfl, rfl⟩ := hm
  refine ⟨fun x hx => ?_, .inr ⟨b, n, [], T, by simp, by simp, ?_, by simp⟩⟩
  · obtain ⟨_, rfl⟩ := List.mem_replicate.1 hx
    exact ⟨by rw [hy], by rw [hy]; exact h1⟩
  · simp [List.flatMap_replicate, hy]
section
variable {d : Nat} {ty : TypeId} {pos : String} {af : Array Edge} {g : Option (Nat × Bool)} {C : Env → PHeap → List HP → Prop}
theorem hard_makeSlice0 {x y : Operand} {t el sz : Nat} {n : Int} {z : Value} {zs : List Value} [hx : Is (lkO e x) (some (vI n))] [hy : Is (lkO e y) (some (vI n))] [ht : SliT P t el] [he : ElT P el sz] [hz : ZeroT P el z] [hc : CellsOf L h z zs] [hN : InN N d]
    (hn : 0 ≤ n ∧ n ≤ 4294967296) (hk : ∀ b, C ((d, .slice (some ⟨b, 0, none⟩) n.toNat n.toNat) :: e) h (mk0 zs (.slice (some ⟨b, 0, none⟩) n.toNat n.toNat) n.toNat :: L)) : HardS P N ⟨some d, .makeSlice t x y, ty, pos, af, g⟩ e h L C := by
  intro a w s st
  obtain ⟨inf, z', e1, e2, e3, e4, e5, e6⟩ := he.eq
  obtain ⟨inf', e7, e8⟩ := hz.eq
  rw [e1] at e7; cases e7
  rw [e3] at e8; cases e8
  have hcs := hc.eq ⟨w, Cw.self st⟩
  have hzl : zs.length = sz := by rw [hcs] at e4; simpa using e4
  have hti : ∀ w, (typeInfo el).run P w = .ok inf w := fun w => by simp [typeInfo, e1]
  have hw : IntKind.i64.wrap n = n := wrap_i64 ⟨by omega, by omega⟩
  have hlarge : ¬ (inf.bytes : Int) * n > 2 ^ 48 := by
    have : (inf.bytes : Int) * n ≤ 4096 * 4294967296 := Int.mul_le_mul (by omega) hn.2 hn.1 (by omega)
    omega
  have hcells : (Array.range (n.toNat * sz)).map (fun i => zs.toArray[i % zs.toArray.size]!) = ((List.replicate n.toNat zs).flatten).toArray := by
    apply Array.ext'
    rw [← hzl, range_cells zs n.toNat (by omega)]
  have hr : (execOp a.eval ⟨some d, .makeSlice t x y, ty, pos, af, g⟩).run P w = .ok (.value (.slice (some ⟨w.heap.size, 0, none⟩) n.toNat n.toNat)) { w with heap := w.heap.push (.cells ((List.replicate n.toNat zs).flatten).toArray el) } := by
    have hneg : ¬ n < 0 := by omega
    simp only [execOp, s.eval hx.eq, s.eval hy.eq, Instr.makeSlice, Sem.run_bind, run_underlying ht.eq, Result.andThen_ok, asInt, asIntOf, Sem.run_pure, hti, hw]
    have hl : decide ((2 : Int) ^ 48 < (inf.bytes : Int) * n) = false := by simpa using hlarge
    have hd0 : decide (n < 0) = false := by simpa using hneg
    have hd1 : decide (n < n) = false := by simp
    simp only [gt_iff_lt, hl, hd0, hd1, Bool.or_self, Bool.false_eq_true, if_false, Sem.run_bind, run_askRoom, Result.andThen_ok]
    have hsz : ∀ w, (sizeOf el).run P w = .ok sz w := fun w => by simp [sizeOf, typeInfo, e1, e2]
    by_cases h0 : n.toNat * sz = 0
    · have : n.toNat = 0 := by rcases Nat.mul_eq_zero.1 h0 with h | h <;> omega
      simp only [hsz, Result.andThen_ok, h0, if_true, Sem.run_pure]
      have hr0 : ∀ (f : Nat → Value), Array.map f (Array.range 0) = #[] := fun f => by apply Array.ext'; simp
      simp [this, newRow, hr0]
    · simp only [hsz, Result.andThen_ok, h0, if_false, zeroValue, Sem.run_bind, hti, e3, Sem.run_pure, hcs, hcells, newRow, run_newObj]
  unfold Oper.wp
  rw [hr]
  exact ⟨⟨_, h, _, s.put hN.eq, Hle.refl h, st.new (x := mk0 zs (.slice (some ⟨w.heap.size, 0, none⟩) n.toNat n.toNat) n.toNat) _ ⟨_, _, rfl, rfl⟩, hk _⟩, trivial⟩
theorem hard_makeSlice {x y : Operand} {t el sz m : Nat} {n : Int} {z : Value} {zs : List Value} [hx : Is (lkO e x) (some (vI n))] [hy : Is (lkO e y) (some (vI n))] [hm : ToN n m] [ht : SliT P t el] [he : ElT P el sz] [hz : ZeroT P el z] [hc : CellsOf L h z zs] [hN : InN N d]
    (hn : 0 ≤ n ∧ n ≤ 4294967296) (hk : ∀ b, C ((d, .slice (some ⟨b, 0, none⟩) m m) :: e) h (mk0 zs (.slice (some ⟨b, 0, none⟩) m m) m :: L)) : HardS P N ⟨some d, .makeSlice t x y, ty, pos, af, g⟩ e h L C := by
  have := hm.eq
  subst this
  exact hard_makeSlice0 hn hk
instance go_makeSlice {x y : Operand} {t el sz m : Nat} {n : Int} {z : Value} {zs : List Value} [hx : Is (lkO e x) (some (vI n))] [hy : Is (lkO e y) (some (vI n))] [hm : ToN n m] [ht : SliT P t el] [he : ElT P el sz] [hz : ZeroT P el z] [hc : CellsOf L h z zs] [hN : InN N d] :
    Step (GO1 P N ops ⟨some d, .makeSlice t x y, ty, pos, af, g⟩ l k Q e h L) (Side (0 ≤ n ∧ n ≤ 4294967296) (New fun b => GO P N ops l k Q ((d, .slice (some ⟨b, 0, none⟩) m m) :: e) h (mk0 zs (.slice (some ⟨b, 0, none⟩) m m) m :: L))) := ⟨fun hk => GO1_hard (hard_makeSlice hk.side hk.rest.all)⟩
instance gd_makeSlice {x y : Operand} {t el sz m : Nat} {n : Int} {z : Value} {zs : List Value} [hx : Is (lkO e x) (some (vI n))] [hy : Is (lkO e y) (some (vI n))] [hm : ToN n m] [ht : SliT P t el] [he : ElT P el sz] [hz : ZeroT P el z] [hc : CellsOf L h z zs] [hN : InN N d] :
    Step (GD1 P N ops V h0 i ⟨some d, .makeSlice t x y, ty, pos, af, g⟩ l k Q e h L) (Side (0 ≤ n ∧ n ≤ 4294967296) (New fun b => GDk P N ops V h0 i l k Q ((d, .slice (some ⟨b, 0, none⟩) m m) :: e) h (mk0 zs (.slice (some ⟨b, 0, none⟩) m m) m :: L))) := ⟨fun hk => GD1_hard rfl (hard_makeSlice hk.side hk.rest.all)⟩
end

/-! ### Ends -/
theorem Fin.val {h0 : PHeap} {K : Kont} {v v' : Value} {L L' R : List HP} (hT : K v h L') (hv : v' = v) (hl : Hle h0 h) [s : SubR L L' R] : Fin h0 h K v' L R := ⟨hl, L', hv ▸ hT, s⟩
theorem Fin.dec {h0 : PHeap} {K : Kont} {p q : Prop} [Decidable p] [Decidable q] {L L' R : List HP} (hT : K (.bool (decide p)) h L') (hv : q ↔ p) (hl : Hle h0 h) [s : SubR L L' R] : Fin h0 h K (.bool (decide q)) L R := .val hT (by simp [hv]) hl
theorem Fin.tt {h0 : PHeap} {K : Kont} {p : Prop} [Decidable p] {L L' R : List HP} (hT : K (.bool (decide p)) h L') (hv : p) (hl : Hle h0 h) [s : SubR L L' R] : Fin h0 h K (.bool true) L R := .val hT (by simp [hv]) hl
theorem Fin.ff {h0 : PHeap} {K : Kont} {p : Prop} [Decidable p] {L L' R : List HP} (hT : K (.bool (decide p)) h L') (hv : ¬ p) (hl : Hle h0 h) [s : SubR L L' R] : Fin h0 h K (.bool false) L R := .val hT (by simp [hv]) hl

/-! ### What is owned, told otherwise -/
theorem St.conv {x y : HP} {R : List HP} {w : World} (hxy : ∀ bs, x bs → y bs) (s : St h (x :: R) w) : St h (y :: R) w := by
  obtain ⟨bs, ⟨b1, b2, rfl, hx, hd⟩, s0⟩ := s
  exact ⟨b1 ++ b2, ⟨b1, b2, rfl, hxy _ hx, hd⟩, s0⟩
theorem G_conv {x y : HP} {L' : List HP} {c : Code} (hxy : ∀ bs, x bs → y bs) [r : Rep L x y L'] (g : G P N c k Q e h L') : G P N c k Q e h L := fun a w s => by
  obtain ⟨R, p1, p2⟩ := r.eq
  exact g a w (s.ae.as (((s.st.perm p1).conv hxy).perm p2.symm))
theorem GO_conv {x y : HP} {L' : List HP} (hxy : ∀ bs, x bs → y bs) [r : Rep L x y L'] (g : GO P N ops l k Q e h L') : GO P N ops l k Q e h L := fun a w s => by
  obtain ⟨R, p1, p2⟩ := r.eq
  exact g a w (s.ae.as (((s.st.perm p1).conv hxy).perm p2.symm))
theorem X_conv {x y : HP} {L' : List HP} {ex : Exit} (hxy : ∀ bs, x bs → y bs) [r : Rep L x y L'] (g : X P N ex k Q e h L') : X P N ex k Q e h L := fun a w s => by
  obtain ⟨R, p1, p2⟩ := r.eq
  exact g a w (s.ae.as (((s.st.perm p1).conv hxy).perm p2.symm))
end
end Go.Sl
