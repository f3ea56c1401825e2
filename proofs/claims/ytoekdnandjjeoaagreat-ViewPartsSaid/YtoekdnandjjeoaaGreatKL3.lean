/-
  Facts that the proof is made of (L3).
-/
import Derived.Test.YtoekdnandjjeoaaGreatKL2
import Derived.RangeFuncRecord
import Derived.Laws.StructEq
/-
  More steps: an empty slice written out, growth from nothing, tests against nil, least and greatest, what a callee is handed without a name.
-/
namespace Go.Sl
set_option linter.unusedVariables false
set_option linter.unusedSimpArgs false
section
variable {P : Program} {N : NN} {k : List It} {Q : Post} {e : Env} {h h0 : PHeap} {L V M : List HP} {ops l : List Oper} {i : Nat}

/-! ### A list of parts without a name -/
theorem Cw.app {V R : List HP} {h : PHeap} {w : World} (c : Cw (V ++ R) h w) : Cw V h w := by
  obtain ⟨Z, h', l, s⟩ := c
  exact ⟨R ++ Z, h', l, by rw [← List.append_assoc]; exact s⟩
theorem Cw.appR {V R : List HP} {h : PHeap} {w : World} (c : Cw (V ++ R) h w) : Cw R h w := by
  obtain ⟨Z, h', l, s⟩ := c
  exact ⟨V ++ Z, h', l, s.perm (by rw [List.append_assoc]; exact List.perm_append_comm_assoc _ _ _)⟩
instance (priority := low) {Lp R : List HP} : AppL Lp R (Lp ++ R) := ⟨rfl⟩
instance {b : Nat} {o : Obj} {V R : List HP} {h : PHeap} [r : Rdb V h b o] : Rdb (V ++ R) h b o := ⟨fun w c => r.rd w c.app⟩
instance {α : Type} {V R : List HP} {h : PHeap} {v : Value} {enc : α → List Value} {k : Nat} {xs : List α} [r : Rds V h v enc k xs] : Rds (V ++ R) h v enc k xs := ⟨fun w c => r.rd w c.app⟩
instance subR_app {L R : List HP} : SubR (L ++ R) L R := ⟨⟨[], by simp⟩⟩
instance (priority := low) subR_drop {x : HP} {L L' R : List HP} [s : SubR L L' R] : SubR (x :: L) L' R := ⟨x :: s.eq.choose, by
  have := s.eq.choose_spec
  refine (List.Perm.cons x this).trans ?_
  rw [← List.append_assoc, ← List.append_assoc]
  exact List.perm_middle.symm⟩

/-! ### An empty slice written out -/
section
variable {d : Nat} {ty : TypeId} {pos : String} {af : Array Edge} {g : Option (Nat × Bool)} {C : Env → PHeap → List HP → Prop}
theorem hard_buildSlice0 {t el : Nat} {agg : Bool} {sz : Nat} [ht : SliT P t el] [hs : TySz P el agg sz] [hN : InN N d]
    (hk : ∀ b, C ((d, .slice (some ⟨b, 0, none⟩) 0 0) :: e) h L) : HardS P N ⟨some d, .buildSlice t 0 #[], ty, pos, af, g⟩ e h L C := by
  intro a w s st
  obtain ⟨inf, dd, e1, e2, e3, e4⟩ := hs.eq
  have hr0 : ∀ (f : Nat → Value), Array.map f (Array.range 0) = #[] := fun f => by apply Array.ext'; simp
  have hr : (execOp a.eval ⟨some d, .buildSlice t 0 #[], ty, pos, af, g⟩).run P w = .ok (.value (.slice (some ⟨w.heap.size, 0, none⟩) 0 0)) { w with heap := w.heap.push (.cells #[] el) } := by
    simp [execOp, Instr.buildSlice, run_underlying ht.eq, sizeOf, typeInfo, e1, Instr.fill, newRow, hr0]
  unfold Oper.wp
  rw [hr]
  exact ⟨⟨_, h, _, s.put hN.eq, Hle.refl h, (st.new (x := blk w.heap.size (.cells #[] el (0, 0))) _ rfl).drop, hk _⟩, trivial⟩
instance go_buildSlice0 {t el : Nat} {agg : Bool} {sz : Nat} [ht : SliT P t el] [hs : TySz P el agg sz] [hN : InN N d] :
    Step (GO1 P N ops ⟨some d, .buildSlice t 0 #[], ty, pos, af, g⟩ l k Q e h L) (New fun b => GO P N ops l k Q ((d, .slice (some ⟨b, 0, none⟩) 0 0) :: e) h L) := ⟨fun hk => GO1_hard (hard_buildSlice0 hk.all)⟩
instance gd_buildSlice0 {t el : Nat} {agg : Bool} {sz : Nat} [ht : SliT P t el] [hs : TySz P el agg sz] [hN : InN N d] :
    Step (GD1 P N ops V h0 i ⟨some d, .buildSlice t 0 #[], ty, pos, af, g⟩ l k Q e h L) (New fun b => GDk P N ops V h0 i l k Q ((d, .slice (some ⟨b, 0, none⟩) 0 0) :: e) h L) := ⟨fun hk => GD1_hard rfl (hard_buildSlice0 hk.all)⟩

/-! ### Growth from nothing -/
theorem hard_append0 {x y : Operand} {t1 t2 el sz : Nat} {a0 : Option Addr} {u : Value} {α : Type} {enc : α → List Value} {ys : List α} [hx : Is (lkO e x) (some (.slice a0 0 0))] [hy : Is (lkO e y) (some u)] [ht : SliT P t1 el] [he : ElT P el sz] [ha : ArgT P t2] [hr : Rds L h u enc sz ys] [ho : EncOne enc] [hN : InN N d]
    (hn : ys.length ≤ 4294967296) (hk : ∀ a c, C ((d, .slice a ys.length c) :: e) h (slo enc sz (.slice a ys.length c) ys :: L)) : HardS P N ⟨some d, .call { callee := .builtin .append, args := #[x, y], argTypes := #[t1, t2] }, ty, pos, af, g⟩ e h L C := by
  intro a w s st
  have hn' : ([] : List α).length + ys.length ≤ 4294967296 := by simpa using hn
  have st' := st.nil enc sz a0
  have := hard_append (P := P) (N := N) (d := d) (ty := ty) (pos := pos) (af := af) (g := g) (C := C) (x := x) (y := y) (t1 := t1) (t2 := t2) (v := .slice a0 0 0) (u := u) (enc := enc) (xs := []) (ys := ys) (m := ys.length) (L := slo enc sz (.slice a0 0 0) [] :: L) (R := L) (e := e) (h := h) hn'
    (by simpa using hk) a w s st'
  exact this
instance (priority := low) go_append0 {x y : Operand} {t1 t2 el sz : Nat} {a0 : Option Addr} {u : Value} {α : Type} {enc : α → List Value} {ys : List α} [hx : Is (lkO e x) (some (.slice a0 0 0))] [hy : Is (lkO e y) (some u)] [ht : SliT P t1 el] [he : ElT P el sz] [ha : ArgT P t2] [hr : Rds L h u enc sz ys] [ho : EncOne enc] [hN : InN N d] :
    Step (GO1 P N ops ⟨some d, .call { callee := .builtin .append, args := #[x, y], argTypes := #[t1, t2] }, ty, pos, af, g⟩ l k Q e h L)
      (Side (ys.length ≤ 4294967296) (NewS fun a c => GO P N ops l k Q ((d, .slice a ys.length c) :: e) h (slo enc sz (.slice a ys.length c) ys :: L))) := ⟨fun hk => GO1_hard (hard_append0 hk.side hk.rest.all)⟩
instance (priority := low) gd_append0 {x y : Operand} {t1 t2 el sz : Nat} {a0 : Option Addr} {u : Value} {α : Type} {enc : α → List Value} {ys : List α} [hx : Is (lkO e x) (some (.slice a0 0 0))] [hy : Is (lkO e y) (some u)] [ht : SliT P t1 el] [he : ElT P el sz] [ha : ArgT P t2] [hr : Rds L h u enc sz ys] [ho : EncOne enc] [hN : InN N d] :
    Step (GD1 P N ops V h0 i ⟨some d, .call { callee := .builtin .append, args := #[x, y], argTypes := #[t1, t2] }, ty, pos, af, g⟩ l k Q e h L)
      (Side (ys.length ≤ 4294967296) (NewS fun a c => GDk P N ops V h0 i l k Q ((d, .slice a ys.length c) :: e) h (slo enc sz (.slice a ys.length c) ys :: L))) := ⟨fun hk => GD1_hard rfl (hard_append0 hk.side hk.rest.all)⟩
end

/-! ### A slice against nil -/
def isNilV : Value → Bool
  | .slice none _ _ => true
  | _ => false
theorem FSl.nil {α : Type} {enc : α → List Value} {k : Nat} {v : Value} {xs : List α} (f : FSl h v enc k xs) (hn : isNilV v = true) : xs = [] := by
  obtain ⟨bs, ⟨_, h2⟩, _⟩ := f.fz
  rcases h2 with ⟨_, hx, _⟩ | ⟨b, off, cap, pre, post, T, fr, rfl, _⟩
  · exact hx
  · cases hn
theorem run_eqnilIn {t el : Nat} [ht : SliT P t el] (a : Option Addr) (n c dd : Nat) (w : World) : (Op.equalIn (dd + 1) t (.slice a n c) (.slice none 0 0)).run P w = .ok a.isNone w := by
  have hu := run_underlying (P := P) ht.eq
  cases a <;> simp [Op.equalIn, hu]
theorem run_eqnil {t el : Nat} [ht : SliT P t el] (a : Option Addr) (n c : Nat) (w : World) : (Op.equal t (.slice a n c) (.slice none 0 0)).run P w = .ok a.isNone w := run_eqnilIn a n c 9999 w
theorem beq_slice {t el ty' : Nat} [ht : SliT P t el] {a b : Operand} {ρ : Operand → Value} {x : Option Addr} {n c : Nat} {d : Option Tmp} {ty : TypeId} {pos : String} {af : Array Edge} {g : Option (Nat × Bool)} (ha : ρ a = .slice x n c) (hb : ρ b = .slice none 0 0) (w : World) :
    (execOp ρ ⟨d, .binOp .eql t a b ty', ty, pos, af, g⟩).run P w = .ok (.value (.bool x.isNone)) w := by
  simp [execOp, ha, hb, eqGuard, binOp, run_eqnil]
theorem bne_slice {t el ty' : Nat} [ht : SliT P t el] {a b : Operand} {ρ : Operand → Value} {x : Option Addr} {n c : Nat} {d : Option Tmp} {ty : TypeId} {pos : String} {af : Array Edge} {g : Option (Nat × Bool)} (ha : ρ a = .slice x n c) (hb : ρ b = .slice none 0 0) (w : World) :
    (execOp ρ ⟨d, .binOp .neq t a b ty', ty, pos, af, g⟩).run P w = .ok (.value (.bool !x.isNone)) w := by
  simp [execOp, ha, hb, eqGuard, binOp, run_eqnil]
theorem slice_form {V : List HP} {h : PHeap} {u : Value} {α : Type} {enc : α → List Value} {k : Nat} {xs : List α} (r : Rds V h u enc k xs) (c : ∃ w, Cw V h w) : ∃ a n c, u = .slice a n c := by
  obtain ⟨w, c⟩ := c
  rcases (r.rd w c).slc_pure with ⟨⟨a, rfl⟩, _⟩ | ⟨_, _, _, rfl⟩ <;> exact ⟨_, _, _, rfl⟩
instance {a b : Operand} {t el ty' : TypeId} {u : Value} {α : Type} {enc : α → List Value} {k : Nat} {xs : List α} [ht : SliT P t el] [ha : Is (lkO e a) (some u)] [hb : Is (lkO e b) (some (.slice none 0 0))] [hr : Rds V h u enc k xs] : Soft P N V h e (.binOp .eql t a b ty') True (.bool (isNilV u)) := ⟨fun _ hw d ty pos af g ac w se _ => by
  obtain ⟨x, n, c, rfl⟩ := slice_form hr hw
  rw [beq_slice (se.eval ha.eq) (se.eval hb.eq)]
  cases x <;> rfl⟩

/-! ### Two ways at a Bool without a form -/
instance (priority := 50) g_cond_splitB {t : Nat} {x y : Code} {b : Bool} [hv : Is (lk e t) (some (.bool b))] :
    Step (G P N (.cond (.tmp t) x y) k Q e h L) (Ways (b = true → G P N x k Q e h L) (b = false → G P N y k Q e h L)) :=
  ⟨fun g => g_cond_bool hv.eq g.yes g.no⟩

/-! ### A callee that looks at what is owned and leaves it as it is -/
class CallX (P : Program) (n : FuncId) (vs : List Value) (h : PHeap) (L : List HP) (s : outParam Prop) (T : outParam (Kont → Prop)) : Prop where
  spec : s → Spec P n vs h L (fun K => T (fun v h' X => K v h' (X ++ L)))
instance subR_appnil {L L' R : List HP} [s : SubR L L' R] : SubR L ([] ++ L') R := s
instance subR_appcons {x : HP} {X L M L' R : List HP} [p : Pick L x M] [s : SubR M (X ++ L') R] : SubR L ((x :: X) ++ L') R := ⟨s.eq.choose, p.eq.trans (List.Perm.cons x s.eq.choose_spec)⟩
section
variable {d : Option Nat} {ty : TypeId} {pos : String} {af : Array Edge} {g : Option (Nat × Bool)} {C : Env → PHeap → List HP → Prop}
instance (priority := low) go_callX {n : FuncId} {f : Operand} {xs : List Operand} {ts : Array TypeId} {vs : List Value} {s : Prop} {T : Kont → Prop} [hf : Is (lkO e f) (some (.func (.func n) #[] #[]))] [ha : ArgsOf e xs vs] [hcf : CallF P n] [hc : CallX P n vs h L s T] [hd : DstOk N d] :
    Step (GO1 P N ops ⟨d, .call { callee := .value f, args := xs.toArray, argTypes := ts }, ty, pos, af, g⟩ l k Q e h L) (Side s (T (fun v h' X => GOr P N ops l k Q d v e h' X L))) :=
  ⟨fun hk => GO1_hard (hard_call (M := []) (Lp := L) hf.eq (ha.eq N) hcf hd (by simp) (hc.spec hk.side) (by
    simp only [List.append_nil]; exact hk.rest))⟩
instance (priority := low) gd_callX {n : FuncId} {f : Operand} {xs : List Operand} {ts : Array TypeId} {vs : List Value} {s : Prop} {T : Kont → Prop} [hf : Is (lkO e f) (some (.func (.func n) #[] #[]))] [ha : ArgsOf e xs vs] [hcf : CallF P n] [hc : CallX P n vs h L s T] [hd : DstOk N d] :
    Step (GD1 P N ops V h0 i ⟨d, .call { callee := .value f, args := xs.toArray, argTypes := ts }, ty, pos, af, g⟩ l k Q e h L) (Side s (T (fun v h' X => GDr P N ops V h0 i l k Q d v e h' X L))) :=
  ⟨fun hk => GD1_hard rfl (hard_call (M := []) (Lp := L) hf.eq (ha.eq N) hcf hd (by simp) (hc.spec hk.side) (by
    simp only [List.append_nil]; exact hk.rest))⟩
end

/-! ### Least and greatest -/
instance {x y : Operand} {ts : Array TypeId} {m n : Int} [hx : Is (lkO e x) (some (vI m))] [hy : Is (lkO e y) (some (vI n))] : Soft P N V h e (.call { callee := .builtin .min, args := #[x, y], argTypes := ts }) True (vI (min m n)) := ⟨fun _ _ d ty pos af g a w se _ => by
  have h1 : (if n < m then n else m) = min m n := by split <;> omega
  simp [execOp, resolve, invoke, builtin, Builtin.min_, Builtin.min2, se.eval hx.eq, se.eval hy.eq, h1]⟩
instance {x y : Operand} {ts : Array TypeId} {m n : Int} [hx : Is (lkO e x) (some (vI m))] [hy : Is (lkO e y) (some (vI n))] : Soft P N V h e (.call { callee := .builtin .max, args := #[x, y], argTypes := ts }) True (vI (max m n)) := ⟨fun _ _ d ty pos af g a w se _ => by
  have h1 : (if m < n then n else m) = max m n := by split <;> omega
  simp [execOp, resolve, invoke, builtin, Builtin.max_, Builtin.max2, se.eval hx.eq, se.eval hy.eq, h1]⟩
end
end Go.Sl

/-
  Maps by texts.
-/
namespace Go.Sl
set_option linter.unusedVariables false
set_option linter.unusedSimpArgs false
/-- A map at block b, its entries in the order in which they came. -/
def mapO (b : Nat) (m : List (ByteArray × Value)) : HP := fun bs => ∃ es clock, bs = [(b, .map es clock)] ∧ es.toList.map (fun e => (e.key, e.val)) = m.map (fun p => (Value.string p.1, p.2))
class MapT (P : Program) (t : TypeId) (key el : outParam Nat) : Prop where
  eq : P.underlying t = some (.map key el)
class RdM (V : List HP) (h : PHeap) (b : Nat) (m : outParam (List (ByteArray × Value))) : Prop where
  rd : ∀ w, Cw V h w → Own (mapO b m) w
class FMap (h : PHeap) (b : Nat) (m : outParam (List (ByteArray × Value))) : Prop where
  fz : Fz (mapO b m) h
instance {b : Nat} {m : List (ByteArray × Value)} {V : List HP} {h : PHeap} : RdM (mapO b m :: V) h b m := ⟨fun _ c => Own.ofMem List.mem_cons_self c⟩
instance {x : HP} {b : Nat} {m : List (ByteArray × Value)} {V : List HP} {h : PHeap} [r : RdM V h b m] : RdM (x :: V) h b m := ⟨fun w c => r.rd w c.tail⟩
instance {b : Nat} {m : List (ByteArray × Value)} {V R : List HP} {h : PHeap} [r : RdM V h b m] : RdM (V ++ R) h b m := ⟨fun w c => r.rd w c.app⟩
instance (priority := low) {b : Nat} {m : List (ByteArray × Value)} {V : List HP} {h : PHeap} [r : FMap h b m] : RdM V h b m := ⟨fun _ c => Own.ofFz r.fz c⟩

def mget (m : List (ByteArray × Value)) (s : ByteArray) : Option Value := (m.find? (fun p => decide (p.1 = s))).map (·.2)
def mhas (m : List (ByteArray × Value)) (s : ByteArray) : Bool := (mget m s).isSome

theorem findNow_map {s : ByteArray} : ∀ (es : List MapEntry) (m : List (ByteArray × Value)) (i : Nat), es.map (fun e => (e.key, e.val)) = m.map (fun p => (Value.string p.1, p.2)) →
    ∃ r, Instr.findNow .string (.string s) es i = some r ∧ r.map (·.2) = mget m s ∧ ∀ j v, r = some (j, v) → i ≤ j
  | [], [], i, _ => ⟨none, rfl, rfl, fun _ _ h => by cases h⟩
  | [], p :: m, _, h => by simp at h
  | e :: es, [], _, h => by simp at h
  | e :: es, p :: m, i, h => by
    simp only [List.map_cons, List.cons.injEq, Prod.mk.injEq] at h
    obtain ⟨⟨hk, hv⟩, ht⟩ := h
    simp only [Instr.findNow, hk, Instr.sameNow]
    have hb : (s == p.1) = decide (p.1 = s) := by
      by_cases he : p.1 = s
      · subst he
        have : (p.1 == p.1) = true := by
          cases hp : p.1 with
          | mk d => show (d == d) = true; simp
        simp [this]
      · have : (s == p.1) = false := by
          cases hs : s with
          | mk d =>
            cases hp : p.1 with
            | mk d' =>
              show (d == d') = false
              rw [beq_eq_false_iff_ne]
              intro hd; exact he (by rw [hs, hp, hd])
        simp [this, he]
    rw [hb]
    by_cases he : p.1 = s
    · simp only [he, decide_true]
      exact ⟨_, rfl, by simp [mget, List.find?_cons, he, hv], fun j v h => by cases h; exact Nat.le_refl _⟩
    · simp only [he, decide_false]
      obtain ⟨r, h1, h2, h3⟩ := findNow_map (s := s) es m (i + 1) ht
      refine ⟨r, h1, ?_, fun j v hr => by have := h3 j v hr; omega⟩
      rw [h2]; simp [mget, List.find?_cons, he]

section
variable {P : Program} {N : NN} {k : List It} {Q : Post} {e : Env} {h h0 : PHeap} {L V M : List HP} {ops l : List Oper} {i : Nat}
theorem checkKey_str {key : TypeId} [hk : StrT P key] (em : Bool) (n : Nat) (s : ByteArray) (w : World) : (Instr.checkKey em (n + 1) key (.string s)).run P w = .ok () w := by
  simp [Instr.checkKey, run_underlying hk.eq]
theorem findKey_str {key : TypeId} [hk : StrT P key] {s : ByteArray} {es : List MapEntry} {m : List (ByteArray × Value)} (hm : es.map (fun e => (e.key, e.val)) = m.map (fun p => (Value.string p.1, p.2))) (w : World) : ∃ r, (Instr.findKey key (.string s) es).run P w = .ok r w ∧ r.map (·.2) = mget m s := by
  obtain ⟨r, h1, h2, _⟩ := findNow_map (s := s) es m 0 hm
  exact ⟨r, by simp [Instr.findKey, run_underlying hk.eq, h1], h2⟩
instance {x y : Operand} {t key el b : Nat} {s : ByteArray} {z : Value} {m : List (ByteArray × Value)} [hx : Is (lkO e x) (some (.map (some b)))] [hy : Is (lkO e y) (some (.string s))] [ht : MapT P t key el] [hk : StrT P key] [hz : ZeroT P el z] [hr : RdM V h b m] :
    Soft P N V h e (.lookup t x y true) True (.tuple [(mget m s).getD z, .bool (mhas m s)].toArray) := ⟨fun _ _ d ty pos af g a w se hw => by
  obtain ⟨bs, ⟨es, clock, rfl, hm⟩, hb⟩ := hr.rd w (hw rfl)
  have hb := hb (b, .map es clock) (by simp)
  simp only at hb
  obtain ⟨r, h1, h2⟩ := findKey_str (P := P) (key := key) (s := s) hm w
  obtain ⟨inf, e1, e2⟩ := hz.eq
  have hzr : ∀ w, (zeroValue el).run P w = .ok z w := fun w => by simp [zeroValue, typeInfo, e1, e2]
  have hg : (getObj b).run P w = .ok (.map es clock) w := by simp [getObj, Sem.run, hb]
  have hc := checkKey_str (P := P) (key := key) es.isEmpty 9999 s w
  simp only [execOp, se.eval hx.eq, se.eval hy.eq, Instr.lookup, Sem.run_bind, run_underlying ht.eq, Result.andThen_ok, hg, Sem.run_pure, hc, h1]
  cases r with
  | none =>
    simp only [Option.map_none] at h2
    simp [hzr, ← h2, mhas]
  | some p =>
    simp only [Option.map_some] at h2
    simp [← h2, mhas]⟩

section
variable {d : Option Nat} {ty : TypeId} {pos : String} {af : Array Edge} {g : Option (Nat × Bool)} {C : Env → PHeap → List HP → Prop}
theorem hard_makeMap {d : Nat} {t : Nat} [hN : InN N d] (hk : ∀ b, C ((d, .map (some b)) :: e) h (mapO b [] :: L)) : HardS P N ⟨some d, .makeMap t none, ty, pos, af, g⟩ e h L C := by
  intro a w s st
  have hr : (execOp a.eval ⟨some d, .makeMap t none, ty, pos, af, g⟩).run P w = .ok (.value (.map (some w.heap.size))) { w with heap := w.heap.push (.map #[] 0) } := by
    simp [execOp, Instr.makeMap]
  unfold Oper.wp
  rw [hr]
  exact ⟨⟨_, h, _, s.put hN.eq, Hle.refl h, st.new (x := mapO w.heap.size []) _ ⟨#[], 0, rfl, rfl⟩, hk _⟩, trivial⟩
instance go_makeMap {d t : Nat} [hN : InN N d] : Step (GO1 P N ops ⟨some d, .makeMap t none, ty, pos, af, g⟩ l k Q e h L) (New fun b => GO P N ops l k Q ((d, .map (some b)) :: e) h (mapO b [] :: L)) := ⟨fun hk => GO1_hard (hard_makeMap hk.all)⟩
instance gd_makeMap {d t : Nat} [hN : InN N d] : Step (GD1 P N ops V h0 i ⟨some d, .makeMap t none, ty, pos, af, g⟩ l k Q e h L) (New fun b => GDk P N ops V h0 i l k Q ((d, .map (some b)) :: e) h (mapO b [] :: L)) := ⟨fun hk => GD1_hard rfl (hard_makeMap hk.all)⟩

class PickM (L : List HP) (b : Nat) (m : outParam (List (ByteArray × Value))) (mk : outParam (List (ByteArray × Value) → List HP)) : Prop where
  eq : ∃ R, L.Perm (mapO b m :: R) ∧ ∀ m', (mk m').Perm (mapO b m' :: R)
instance {b : Nat} {m : List (ByteArray × Value)} {L : List HP} : PickM (mapO b m :: L) b m (fun m' => mapO b m' :: L) := ⟨⟨L, .refl _, fun _ => .refl _⟩⟩
instance {x : HP} {b : Nat} {m : List (ByteArray × Value)} {L : List HP} {mk : List (ByteArray × Value) → List HP} [p : PickM L b m mk] : PickM (x :: L) b m (fun m' => x :: mk m') := ⟨by
  obtain ⟨R, h1, h2⟩ := p.eq
  exact ⟨x :: R, (List.Perm.cons x h1).trans (.swap _ _ _), fun m' => (List.Perm.cons x (h2 m')).trans (.swap _ _ _)⟩⟩
/-- A key that is not there yet. -/
theorem hard_mapNew {x y z : Operand} {t key el b : Nat} {s : ByteArray} {v : Value} {m : List (ByteArray × Value)} {mk : List (ByteArray × Value) → List HP} [hx : Is (lkO e x) (some (.map (some b)))] [hy : Is (lkO e y) (some (.string s))] [hv : Is (lkO e z) (some v)] [ht : MapT P t key el] [hk : StrT P key] [hp : PickM L b m mk]
    (hno : mhas m s = false) (hk' : C e h (mk (m ++ [(s, v)]))) : HardS P N ⟨none, .mapUpdate t x y z, ty, pos, af, g⟩ e h L C := by
  intro a w se st
  obtain ⟨R, p1, p2⟩ := hp.eq
  have st1 := st.perm p1
  obtain ⟨bs, ⟨b1, b2, rfl, ⟨es, clock, rfl, hm⟩, hd⟩, s0⟩ := st1
  have hb := (s0.own (b, .map es clock) (by simp)).1
  simp only at hb
  obtain ⟨r, h1, h2⟩ := findKey_str (P := P) (key := key) (s := s) hm w
  have hr0 : r = none := by
    cases r with
    | none => rfl
    | some p => simp [mhas, ← h2] at hno
  subst hr0
  have hlt := lt_of_heap hb
  have hg : (getObj b).run P w = .ok (.map es clock) w := by simp [getObj, Sem.run, hb]
  have hc := checkKey_str (P := P) (key := key) false 9999 s w
  let w' : World := { w with heap := w.heap.setIfInBounds b (.map (es.push { key := .string s, val := v, born := clock }) (clock + 1)) }
  have hset : (setObj b (.map (es.push { key := .string s, val := v, born := clock }) (clock + 1))).run P w = .ok () w' := by simp [setObj, Sem.run, hb, w']
  have hr1 : (execOp a.eval ⟨none, .mapUpdate t x y z, ty, pos, af, g⟩).run P w = .ok .skip w' := by
    simp only [execOp, se.eval hx.eq, se.eval hy.eq, se.eval hv.eq, Instr.mapUpdate, Sem.run_bind, run_underlying ht.eq, Result.andThen_ok, hg, hc, h1, hset, Sem.run_pure]
  unfold Oper.wp
  rw [hr1]
  refine ⟨⟨e, h, _, se, Hle.refl h, ?_, hk'⟩, trivial⟩
  refine (St.put (w' := w') (x := mapO b m) (x' := mapO b (m ++ [(s, v)])) ⟨_, ⟨_, b2, rfl, ⟨es, clock, rfl, hm⟩, hd⟩, s0⟩ rfl ?_).perm (p2 _).symm
  rintro bs ⟨es', clock', rfl, hm'⟩ hh
  have hes := hh (b, .map es' clock') (by simp)
  simp only [hb, Option.some.injEq, Obj.map.injEq] at hes
  obtain ⟨rfl, rfl⟩ := hes
  refine ⟨[(b, .map (es.push { key := .string s, val := v, born := clock }) (clock + 1))], ⟨_, _, rfl, by simp [hm]⟩, rfl, ?_, ?_⟩
  · intro c hc
    have : c = (b, .map (es.push { key := .string s, val := v, born := clock }) (clock + 1)) := by simpa using hc
    subst this
    simp [w', hlt]
  · intro b' hb'
    have hne : b ≠ b' := fun e => hb' (by simp [e])
    simp [w', Array.getElem?_setIfInBounds_ne hne]
instance go_mapNew {x y z : Operand} {t key el b : Nat} {s : ByteArray} {v : Value} {m : List (ByteArray × Value)} {mk : List (ByteArray × Value) → List HP} [hx : Is (lkO e x) (some (.map (some b)))] [hy : Is (lkO e y) (some (.string s))] [hv : Is (lkO e z) (some v)] [ht : MapT P t key el] [hk : StrT P key] [hp : PickM L b m mk] :
    Step (GO1 P N ops ⟨none, .mapUpdate t x y z, ty, pos, af, g⟩ l k Q e h L) (Side (mhas m s = false) (GO P N ops l k Q e h (mk (m ++ [(s, v)])))) := ⟨fun hk => GO1_hard (hard_mapNew hk.side hk.rest)⟩
instance gd_mapNew {x y z : Operand} {t key el b : Nat} {s : ByteArray} {v : Value} {m : List (ByteArray × Value)} {mk : List (ByteArray × Value) → List HP} [hx : Is (lkO e x) (some (.map (some b)))] [hy : Is (lkO e y) (some (.string s))] [hv : Is (lkO e z) (some v)] [ht : MapT P t key el] [hk : StrT P key] [hp : PickM L b m mk] :
    Step (GD1 P N ops V h0 i ⟨none, .mapUpdate t x y z, ty, pos, af, g⟩ l k Q e h L) (Side (mhas m s = false) (GDk P N ops V h0 i l k Q e h (mk (m ++ [(s, v)])))) := ⟨fun hk => GD1_hard rfl (hard_mapNew hk.side hk.rest)⟩
end
end
end Go.Sl

/-
  Stores into elements of owned slices; facts that stay when more is frozen; closures that look; orders of parts.
-/
namespace Go.Sl
set_option linter.unusedVariables false
set_option linter.unusedSimpArgs false

/-! ### More is frozen -/
class Le (h : outParam PHeap) (h' : PHeap) : Prop where
  le : Hle h h'
instance (priority := low) {h h' : PHeap} {α : Type} {v : Value} {enc : α → List Value} {k : Nat} {xs : List α} [l : Le h h'] [f : FSl h v enc k xs] : FSl h' v enc k xs := FSl.mono l.le f
instance (priority := low) {h h' : PHeap} {b : Nat} {o : Obj} [l : Le h h'] [f : Pt h b o] : Pt h' b o := Pt.mono l.le f
instance (priority := low) {h h' : PHeap} {b : Nat} {m : List (ByteArray × Value)} [l : Le h h'] [f : FMap h b m] : FMap h' b m := ⟨f.fz.mono l.le⟩
theorem Fz.map {h : PHeap} {b : Nat} {m : List (ByteArray × Value)} (f : Fz (mapO b m) h) : FMap h b m := ⟨f⟩

section
variable {P : Program} {N : NN} {k : List It} {Q : Post} {e : Env} {h h0 : PHeap} {L V M : List HP} {ops l : List Oper} {i : Nat}
theorem G_perm {L' : List HP} {c : Code} (p : L.Perm L') (g : G P N c k Q e h L') : G P N c k Q e h L := fun a w s => g a w (s.ae.as (s.st.perm p))
theorem X_perm {L' : List HP} {x : Exit} (p : L.Perm L') (g : X P N x k Q e h L') : X P N x k Q e h L := fun a w s => g a w (s.ae.as (s.st.perm p))
/-- Something that a part tells. -/
theorem G_know {p : Prop} {x : HP} {R : List HP} {c : Code} (pk : Pick L x R) (hp : ∀ bs, x bs → p) (g : p → G P N c k Q e h L) : G P N c k Q e h L := fun a w s => by
  obtain ⟨bs, ⟨b1, b2, rfl, hx, hd⟩, s0⟩ := s.st.perm pk.eq
  exact g (hp _ hx) a w s
theorem X_know {p : Prop} {x : HP} {R : List HP} {c : Exit} (pk : Pick L x R) (hp : ∀ bs, x bs → p) (g : p → X P N c k Q e h L) : X P N c k Q e h L := fun a w s => by
  obtain ⟨bs, ⟨b1, b2, rfl, hx, hd⟩, s0⟩ := s.st.perm pk.eq
  exact g (hp _ hx) a w s

/-! ### Elements that are stored -/
theorem flat_put {α : Type} [Inhabited α] {enc : α → List Value} {k : Nat} {y : α} {f : Nat} {vs : List Value} : ∀ {xs : List α} {j : Nat} {post : List Value}, (∀ x ∈ xs, (enc x).length = k) → j < xs.length → f + vs.length ≤ k → putL (enc (xs[j]!)) f vs = enc y →
    putL (xs.flatMap enc ++ post) (j * k + f) vs = (xs.set j y).flatMap enc ++ post := by
  have happ : ∀ (vs a b : List Value) (o : Nat), o + vs.length ≤ a.length → putL (a ++ b) o vs = putL a o vs ++ b := by
    intro vs
    induction vs with
    | nil => intro a b o _; rfl
    | cons v vs ih =>
      intro a b o ho
      simp only [List.length_cons] at ho
      simp only [putL]
      rw [List.set_append_left _ _ (by omega), ih _ _ _ (by simp; omega)]
  have hskip : ∀ (vs a b : List Value) (o : Nat), putL (a ++ b) (a.length + o) vs = a ++ putL b o vs := by
    intro vs
    induction vs with
    | nil => intro a b o; rfl
    | cons v vs ih =>
      intro a b o
      simp only [putL]
      rw [List.set_append_right _ _ (by omega), show a.length + o - a.length = o by omega, Nat.add_assoc, ih]
  intro xs
  induction xs with
  | nil => intro j post _ hj; simp at hj
  | cons x xs ih =>
    intro j post he hj hf hy
    have hx := he x (by simp)
    cases j with
    | zero =>
      simp only [List.flatMap_cons, List.set_cons_zero, List.append_assoc, Nat.zero_mul, Nat.zero_add]
      rw [happ _ _ _ _ (by omega)]
      have : putL (enc x) f vs = enc y := by simpa using hy
      rw [this]
    | succ j =>
      simp only [List.flatMap_cons, List.set_cons_succ, List.append_assoc]
      rw [show (j + 1) * k + f = (enc x).length + (j * k + f) by rw [hx, Nat.add_mul]; omega, hskip]
      rw [ih (fun z hz => he z (List.mem_cons_of_mem _ hz)) (by simpa using hj) hf (by simpa using hy)]

class RepS (L : List HP) (v : Value) {α : outParam Type} (enc : outParam (α → List Value)) (sz : outParam Nat) (xs : outParam (List α)) (mk : outParam (List α → List HP)) : Prop where
  eq : ∃ R, L.Perm (slo enc sz v xs :: R) ∧ ∀ ys, (mk ys).Perm (slo enc sz v ys :: R)
instance {v : Value} {α : Type} {enc : α → List Value} {sz : Nat} {xs : List α} {L : List HP} : RepS (slo enc sz v xs :: L) v enc sz xs (fun ys => slo enc sz v ys :: L) := ⟨⟨L, .refl _, fun _ => .refl _⟩⟩
instance (priority := low) {x : HP} {v : Value} {α : Type} {enc : α → List Value} {sz : Nat} {xs : List α} {L : List HP} {mk : List α → List HP} [p : RepS L v enc sz xs mk] : RepS (x :: L) v enc sz xs (fun ys => x :: mk ys) := ⟨by
  obtain ⟨R, h1, h2⟩ := p.eq
  exact ⟨x :: R, (List.Perm.cons x h1).trans (.swap _ _ _), fun m' => (List.Perm.cons x (h2 m')).trans (.swap _ _ _)⟩⟩
section
variable {d : Nat} {ty : TypeId} {pos : String} {af : Array Edge} {g : Option (Nat × Bool)} {C : Env → PHeap → List HP → Prop}
theorem hard_storeEl {T n m kk j f : Nat} {agg : Bool} {x y : Operand} {u v : Value} {α : Type} [Inhabited α] {enc : α → List Value} {xs : List α} {x' : α} {cs ls ls' : List Value} {s : Prop} {mk : List α → List HP} [hz : TySz P T agg n] [hx : Is (lkO e x) (some (.pointer (some (elA u m))))] [hy : Is (lkO e y) (some v)] [hr : RepS L u enc kk xs mk] [he : ElAt m kk j f] [hc : CellsOf L h v cs] [h1 : AllOne L h cs]
    [hl : Lit (enc (xs[j]!)) ls] [hp : PutAt ls f cs s ls'] [hm : Mk enc ls' x'] [ho : EncOne enc] (hs : j < xs.length ∧ s ∧ cs.length = n) (hk : C e h (mk (xs.set j x'))) : HardS P N ⟨none, .store T x y, ty, pos, af, g⟩ e h L C := by
  intro a w se st
  obtain ⟨hj, hs, hn⟩ := hs
  obtain ⟨e1, e2⟩ := hp.eq hs
  have hcw : ∃ w, Cw L h w := ⟨w, Cw.self st⟩
  obtain ⟨R, p1, p2⟩ := hr.eq
  have st1 := st.perm p1
  obtain ⟨bs, ⟨b1, b2, rfl, ⟨hA, hB⟩, hd⟩, s0⟩ := st1
  rcases hB with ⟨_, hx0, _⟩ | ⟨b, cap, post, E, rfl, hcap, rfl, hpost⟩
  · subst hx0; simp at hj
  have hb := (s0.own (b, .cells (xs.flatMap enc ++ post).toArray E (0, 0)) (by simp)).1
  simp only at hb
  have hlen : ∀ z ∈ xs, (enc z).length = kk := fun z hz => (hA z hz).1
  have hkk : ls.length = kk := by rw [← hl.eq]; exact hlen _ (by rw [getElem!_pos xs j hj]; exact List.getElem_mem hj)
  have hput : putL (xs.flatMap enc ++ post) (j * kk + f) cs = (xs.set j x').flatMap enc ++ post := flat_put hlen hj (by omega) (by rw [hl.eq, e1, hm.eq])
  have hfl : (xs.flatMap enc).length = xs.length * kk := flat_len hlen
  have hle : j * kk + f + cs.length ≤ (xs.flatMap enc ++ post).length := by
    rw [List.length_append, hfl]
    have : (j + 1) * kk ≤ xs.length * kk := Nat.mul_le_mul_right _ hj
    rw [Nat.add_mul] at this; omega
  have hrun := run_storeAt (P := P) (T := T) (o := j * kk + f) (hc.eq hcw) (h1.eq hcw) hn hb hle
  have hw := setCells_heap cs (j * kk + f) _ w hb
  rw [hput] at hw
  have hptr : a.eval x = .pointer (some ⟨b, j * kk + f, none⟩) := by rw [se.eval hx.eq, he.eq]; simp [elA]
  have hr1 : (execOp a.eval ⟨none, .store T x y, ty, pos, af, g⟩).run P w = .ok .skip (w.setCells b (j * kk + f) cs) := by
    simp [execOp, hptr, se.eval hy.eq, hrun]
  unfold Oper.wp
  rw [hr1]
  refine ⟨⟨e, h, _, se, Hle.refl h, ?_, hk⟩, trivial⟩
  have st2 : St h (slo enc kk (.slice (some ⟨b, 0, none⟩) xs.length cap) xs :: R) w := st.perm p1
  refine (St.put st2 (x' := slo enc kk (.slice (some ⟨b, 0, none⟩) xs.length cap) (xs.set j x')) (strm_setCells _ _ _ _) ?_).perm (p2 _).symm
  rintro bs ⟨hA', hB'⟩ hbs
  rcases hB' with ⟨⟨_, hv0⟩, _, _⟩ | ⟨b', cap', post', E', hv, hcap', rfl, hpost'⟩
  · simp only [Value.slice.injEq] at hv0; omega
  cases hv
  have hb' := hbs (b, .cells (xs.flatMap enc ++ post').toArray E' (0, 0)) (by simp)
  simp only [hb, Option.some.injEq, Obj.cells.injEq] at hb'
  obtain ⟨hcc, rfl, _⟩ := hb'
  refine ⟨[(b, .cells ((xs.set j x').flatMap enc ++ post).toArray E (0, 0))], ⟨fun z hz => ?_, .inr ⟨b, cap, post, E, by simp, by simpa using hcap, rfl, by simpa using hpost⟩⟩, rfl, ?_, ?_⟩
  · rcases List.mem_or_eq_of_mem_set hz with hz | rfl
    · exact hA z hz
    · refine ⟨?_, ho.eq _⟩
      rw [hm.eq, ← e1, putL_length, hkk]
  · intro c hc
    have : c = (b, .cells ((xs.set j x').flatMap enc ++ post).toArray E (0, 0)) := by simpa using hc
    subst this; exact hw.1
  · intro b' hb'
    exact hw.2 b' (by simpa using hb')
instance go_storeEl {T n m kk j f : Nat} {agg : Bool} {x y : Operand} {u v : Value} {α : Type} [Inhabited α] {enc : α → List Value} {xs : List α} {x' : α} {cs ls ls' : List Value} {s : Prop} {mk : List α → List HP} [hz : TySz P T agg n] [hx : Is (lkO e x) (some (.pointer (some (elA u m))))] [hy : Is (lkO e y) (some v)] [hr : RepS L u enc kk xs mk] [he : ElAt m kk j f] [hc : CellsOf L h v cs] [h1 : AllOne L h cs]
    [hl : Lit (enc (xs[j]!)) ls] [hp : PutAt ls f cs s ls'] [hm : Mk enc ls' x'] [ho : EncOne enc] :
    Step (GO1 P N ops ⟨none, .store T x y, ty, pos, af, g⟩ l k Q e h L) (Side (j < xs.length ∧ s ∧ cs.length = n) (GO P N ops l k Q e h (mk (xs.set j x')))) := ⟨fun hk => GO1_hard (hard_storeEl hk.side hk.rest)⟩
instance gd_storeEl {T n m kk j f : Nat} {agg : Bool} {x y : Operand} {u v : Value} {α : Type} [Inhabited α] {enc : α → List Value} {xs : List α} {x' : α} {cs ls ls' : List Value} {s : Prop} {mk : List α → List HP} [hz : TySz P T agg n] [hx : Is (lkO e x) (some (.pointer (some (elA u m))))] [hy : Is (lkO e y) (some v)] [hr : RepS L u enc kk xs mk] [he : ElAt m kk j f] [hc : CellsOf L h v cs] [h1 : AllOne L h cs]
    [hl : Lit (enc (xs[j]!)) ls] [hp : PutAt ls f cs s ls'] [hm : Mk enc ls' x'] [ho : EncOne enc] :
    Step (GD1 P N ops V h0 i ⟨none, .store T x y, ty, pos, af, g⟩ l k Q e h L) (Side (j < xs.length ∧ s ∧ cs.length = n) (GDk P N ops V h0 i l k Q e h (mk (xs.set j x')))) := ⟨fun hk => GD1_hard rfl (hard_storeEl hk.side hk.rest)⟩
end

/-! ### Closures that are called -/
section
variable {d : Option Nat} {ty : TypeId} {pos : String} {af : Array Edge} {g : Option (Nat × Bool)}
instance (priority := low) go_callFX {n : FuncId} {f : Operand} {xs : List Operand} {ts : Array TypeId} {F U vs as bs : List Value} {s : Prop} {T : Kont → Prop} [hf : Is (lkO e f) (some (.func (.func n) F.toArray U.toArray))] [ha : ArgsOf e xs vs] [h1 : AppV F vs bs] [h2 : AppV bs U as] [hcf : CallF P n] [hc : CallX P n as h L s T] [hd : DstOk N d] :
    Step (GO1 P N ops ⟨d, .call { callee := .value f, args := xs.toArray, argTypes := ts }, ty, pos, af, g⟩ l k Q e h L) (Side s (T (fun v h' X => GOr P N ops l k Q d v e h' X L))) :=
  ⟨fun hk => GO1_hard (hard_callF (M := []) (Lp := L) hf.eq (ha.eq N) (by rw [h1.eq, h2.eq]) hcf hd (by simp) (hc.spec hk.side) (by
    simp only [List.append_nil]; exact hk.rest))⟩
instance (priority := low) gd_callFV {n : FuncId} {f : Operand} {xs : List Operand} {ts : Array TypeId} {F U vs as bs : List Value} {s : Prop} {v : Value} [hf : Is (lkO e f) (some (.func (.func n) F.toArray U.toArray))] [ha : ArgsOf e xs vs] [h1 : AppV F vs bs] [h2 : AppV bs U as] [hcf : CallF P n] [hc : CallV P n as h s v] [hd : DstOk N d] :
    Step (GD1 P N ops V h0 i ⟨d, .call { callee := .value f, args := xs.toArray, argTypes := ts }, ty, pos, af, g⟩ l k Q e h L) (Side s (GDr P N ops V h0 i l k Q d v e h [] L)) :=
  ⟨fun hk => GD1_hard rfl (hard_callF (M := L) (Lp := []) hf.eq (ha.eq N) (by rw [h1.eq, h2.eq]) hcf hd (.refl _) (hc.spec hk.side) hk.rest)⟩
end
end
end Go.Sl

/-
  Regions that draw their order and have several hard operations that do not wait for one another: all their orders are walked.
-/
namespace Go.Sl
set_option linter.unusedVariables false
set_option linter.unusedSimpArgs false
section
variable {P : Program} {C : World → Prop} {need : Nat → Bool}
def nextSoft (ops : Array Oper) (listed : Array Bool) : Option Nat := (Region.ready .any ops listed).find? (softAt ops)
def wpSched (P : Program) (ops : Array Oper) (C : World → Prop) (need : Nat → Bool) (F : Act → World → Prop) : Nat → Array Bool → Act → World → Prop
  | 0, listed, a, w => Region.ready .any ops listed = [] ∧ F a w
  | fuel + 1, listed, a, w =>
    match nextSoft ops listed with
    | some m => ∃ o v, ops[m]? = some o ∧ Yc P ops C o v a ∧ wpSched P ops C need F fuel (listed.setIfInBounds m true) (a.put o.dst v) w
    | none => (Region.ready .any ops listed = [] → F a w) ∧
      ∀ j ∈ Region.ready .any ops listed, ∃ o, ops[j]? = some o ∧ hardOp P ops o (fun a' w' => (need j = true → C w') ∧ wpSched P ops C need F fuel (listed.setIfInBounds j true) a' w') a w
def leftLook (ops : Array Oper) (listed : Array Bool) : Bool := (List.range ops.size).any fun i => !listed.getD i true && looksAt ops i
def schedOK (ops : Array Oper) (need : Nat → Bool) : Nat → Array Bool → Bool
  | 0, _ => true
  | fuel + 1, listed =>
    match nextSoft ops listed with
    | some m => (List.range ops.size).all (fun j => j == m || listed.getD j true || waitsAt ops j m || (apartAt ops m j && (!looksAt ops m || softAt ops j || need j))) && schedOK ops need fuel (listed.setIfInBounds m true)
    | none => (Region.ready .any ops listed).all fun j => (need j || !leftLook ops (listed.setIfInBounds j true)) && schedOK ops need fuel (listed.setIfInBounds j true)

theorem leftLook_mono {ops : Array Oper} {listed : Array Bool} {m : Nat} (h : leftLook ops (listed.setIfInBounds m true) = true) : leftLook ops listed = true := by
  unfold leftLook at *
  rw [List.any_eq_true] at *
  obtain ⟨i, hi, h2⟩ := h
  refine ⟨i, hi, ?_⟩
  simp only [Bool.and_eq_true, Bool.not_eq_true'] at *
  refine ⟨?_, h2.2⟩
  by_cases e : m = i
  · subst e
    have := h2.1
    rcases Nat.lt_or_ge m listed.size with h' | h'
    · simp [h'] at this
    · simp [Array.getElem?_eq_none h'] at this
  · have := h2.1; rwa [getD_set_ne true e] at this

theorem sched_sound {ops : Array Oper} {F : Act → World → Prop} (hsel : ∀ (j : Nat) (o : Oper), ops[j]? = some o → choosy o.op = false) :
    ∀ (fuel : Nat) (listed : Array Bool) (a : Act) (w : World), schedOK ops need fuel listed = true → (leftLook ops listed = true → C w) →
      wpSched P ops C need F fuel listed a w → wpAnyC P ops C (fun j => softAt ops j || need j) F fuel listed a w
  | 0, listed, a, w, _, _, h => h
  | fuel + 1, listed, a, w, hp, hw, h => by
    unfold schedOK at hp
    unfold wpSched at h
    cases hn : nextSoft ops listed with
    | some m =>
      simp only [hn, Bool.and_eq_true] at hp h
      obtain ⟨h2, h3⟩ := hp
      obtain ⟨om, v, hom, hy, h⟩ := h
      have hready : m ∈ Region.ready .any ops listed := List.mem_of_find?_eq_some hn
      have hsoft : softAt ops m = true := List.find?_some hn
      obtain ⟨hun, _⟩ := mem_ready.1 hready
      have hlt : m < ops.size := (Array.getElem?_eq_some_iff.1 hom).1
      have hlook : looks om.op = true → C w := fun hl => hw (by
        unfold leftLook; rw [List.any_eq_true]
        refine ⟨m, List.mem_range.2 hlt, ?_⟩
        simp only [Bool.and_eq_true, Bool.not_eq_true']
        exact ⟨by simpa using hun, by simp [looksAt, hom, hl]⟩)
      refine wpAnyC_first (keep := fun j => softAt ops j || need j) hsel hom (by simp [hsoft]) fuel listed a w ?_ hready hy hlook
        (sched_sound hsel fuel _ _ _ h3 (fun hany => hw (leftLook_mono hany)) h)
      intro j oj hj hjm hun hnw
      have := List.all_eq_true.1 h2 j (List.mem_range.2 (Array.getElem?_eq_some_iff.1 hj).1)
      simp only [Bool.or_eq_true, beq_iff_eq, hjm, hun, hnw, Bool.and_eq_true, Bool.not_eq_true', false_or] at this
      simp only [Bool.false_eq_true, false_or] at this
      obtain ⟨ha, hb⟩ := this
      refine ⟨by simpa [apartAt, hom, hj] using ha, fun hl => ?_⟩
      simp only [looksAt, hom, hl, Bool.true_eq_false, false_or] at hb
      simpa using hb
    | none =>
      simp only [hn] at hp h
      refine ⟨h.1, fun j hj => ?_⟩
      obtain ⟨o, ho, hh⟩ := h.2 j hj
      have hp' := List.all_eq_true.1 hp j hj
      simp only [Bool.and_eq_true, Bool.or_eq_true, Bool.not_eq_true'] at hp'
      have hns : softAt ops j = false := by
        have := List.find?_eq_none.1 hn j hj
        simpa using this
      refine ⟨o, ho, hardOp_mono (fun u w' hk => ⟨fun hkeep hc => ?_, sched_sound hsel fuel _ _ _ hp'.2 (fun hany => ?_) hk.2⟩) hh⟩
      · simp only [hns, Bool.false_or] at hkeep; exact hk.1 hkeep
      · rcases hp'.1 with h1 | h1
        · exact hk.1 h1
        · rw [h1] at hany; cases hany
def manyOK (ops : Array Oper) : Bool := ops.all (fun o => !choosy o.op) && schedOK ops (needs ops) ops.size (Array.replicate ops.size false)
theorem wp_many {ro : Option Nat} {ops : Array Oper} {id : Nat} {Q : Post} {a : Act} {w : World} (hm : P.follows .mixedOrders = true) (hok : manyOK ops = true) (hCw : C { w with drawn := w.drawn + 1 })
    (h : wpSched P ops C (needs ops) (fun a w => Q .normal a w) ops.size (Array.replicate ops.size false) a { w with drawn := w.drawn + 1 }) : (Code.region id ops true).wpIn (Fat ro) 0 P Q a w := by
  unfold manyOK at hok
  rw [Bool.and_eq_true] at hok
  refine wpIn_region_any hm (wpAny_of_C (F := fun a w => Q .normal a w) (fun _ _ h => h) _ _ _ _ (sched_sound ?_ _ _ _ _ hok.2 (fun _ => hCw) h))
  intro j o hj
  have := (Array.all_eq_true_iff_forall_mem.1 hok.1) o (Array.mem_of_getElem? hj)
  simpa using this
end

section
variable {P : Program} {N : NN} {k : List It} {Q : Post} {e : Env} {h h0 : PHeap} {L V M : List HP} {ops : List Oper} {fuel : Nat} {li : Array Bool}
def GS (P : Program) (N : NN) (ops : List Oper) (V : List HP) (h0 : PHeap) (fuel : Nat) (li : Array Bool) (k : List It) (Q : Post) (e : Env) (h : PHeap) (L : List HP) : Prop :=
  Hle h0 h → (∃ w, Cw V h0 w) → ∀ a w, AS N e h L a w → wpSched P ops.toArray (Cw V h0) (needs ops.toArray) (fun a w => cQ N.ro P k Q .normal a w) fuel li a w
theorem GDraw_many {id : Nat} [hm : Mixed P] (hok : manyOK ops.toArray = true) (g : GS P N ops L h ops.length (Array.replicate ops.length false) k Q e h L) : GDraw P N id ops k Q e h L := by
  intro a w s
  have hs : St h L { w with drawn := w.drawn + 1 } := s.st.heap rfl
  have hc : Cw L h { w with drawn := w.drawn + 1 } := Cw.self hs
  exact wp_many (C := Cw L h) hm.eq hok hc (g (Hle.refl h) ⟨_, hc⟩ a _ (s.ae.as hs))
@[reducible] def atL : List Oper → Nat → Option Oper
  | [], _ => none
  | o :: _, 0 => some o
  | _ :: r, n + 1 => atL r n
theorem atL_eq : ∀ {ops : List Oper} {m : Nat}, atL ops m = ops[m]?
  | [], _ => rfl
  | _ :: _, 0 => rfl
  | _ :: r, n + 1 => by simpa using atL_eq (ops := r) (m := n)
/-- The soft operation m. -/
def GSs (P : Program) (N : NN) (ops : List Oper) (V : List HP) (h0 : PHeap) (fuel : Nat) (li : Array Bool) (m : Nat) (o : Oper) (k : List It) (Q : Post) (e : Env) (h : PHeap) (L : List HP) : Prop :=
  Hle h0 h → (∃ w, Cw V h0 w) → ∀ a w, AS N e h L a w → Region.wanted o (yielded ops.toArray a.tmps) = true → ∃ v, Yc P ops.toArray (Cw V h0) o v a ∧ wpSched P ops.toArray (Cw V h0) (needs ops.toArray) (fun a w => cQ N.ro P k Q .normal a w) fuel (li.setIfInBounds m true) (a.put o.dst v) w
theorem GS_soft (m : Nat) {d : Option Tmp} {op : Op} {ty : TypeId} {pos : String} {af : Array Edge} (hn : nextSoft ops.toArray li = some m) (ho : atL ops m = some ⟨d, op, ty, pos, af, none⟩) (g : GSs P N ops V h0 fuel li m ⟨d, op, ty, pos, af, none⟩ k Q e h L) : GS P N ops V h0 (fuel + 1) li k Q e h L := by
  intro hl hc a w s
  unfold wpSched
  simp only [hn]
  obtain ⟨v, h1, h2⟩ := g hl hc a w s rfl
  exact ⟨_, v, by rw [atL_eq] at ho; simpa using ho, h1, h2⟩
instance gss_soft {d m : Nat} {op : Op} {ty : TypeId} {pos : String} {af : Array Edge} {g : Option (Nat × Bool)} {s : Prop} {v : Value} [hs : Soft P N V h0 e op s v] [hN : InN N d] :
    Step (GSs P N ops V h0 fuel li m ⟨some d, op, ty, pos, af, g⟩ k Q e h L) (Side s (GS P N ops V h0 fuel (li.setIfInBounds m true) k Q ((d, v) :: e) h L)) :=
  ⟨fun hg hl hc a w se hw => ⟨v, .inl ⟨hw, fun w' hw' => hs.run hg.side hc (some d) ty pos af g a w' se.ae hw'⟩, hg.rest hl hc _ w ((se.ae.put hN.eq).as se.st)⟩⟩
/-- The hard operation j. -/
def GSh (P : Program) (N : NN) (ops : List Oper) (V : List HP) (h0 : PHeap) (fuel : Nat) (li : Array Bool) (k : List It) (Q : Post) (e : Env) (h : PHeap) (L : List HP) (j : Nat) : Prop :=
  ∃ o, atL ops j = some o ∧ (Hle h0 h → (∃ w, Cw V h0 w) → ∀ a w, AS N e h L a w → hardOp P ops.toArray o (fun a' w' => (needs ops.toArray j = true → Cw V h0 w') ∧ wpSched P ops.toArray (Cw V h0) (needs ops.toArray) (fun a w => cQ N.ro P k Q .normal a w) fuel (li.setIfInBounds j true) a' w') a w)
@[reducible] def AllJ : List Nat → (Nat → Prop) → Prop
  | [], _ => True
  | j :: r, p => p j ∧ AllJ r p
theorem AllJ_mem : ∀ {js : List Nat} {p : Nat → Prop}, AllJ js p → ∀ j ∈ js, p j
  | [], _, _, j, h => by cases h
  | i :: r, p, ⟨h1, h2⟩, j, h => by
    rcases List.mem_cons.1 h with rfl | h
    · exact h1
    · exact AllJ_mem h2 j h
theorem GS_hard (js : List Nat) (hn : (nextSoft ops.toArray li, Region.ready .any ops.toArray li, js.isEmpty) = (none, js, false)) (g : AllJ js (GSh P N ops V h0 fuel li k Q e h L)) : GS P N ops V h0 (fuel + 1) li k Q e h L := by
  intro hl hc a w s
  simp only [Prod.mk.injEq] at hn
  obtain ⟨h1, h2, h3⟩ := hn
  unfold wpSched
  simp only [h1, h2]
  refine ⟨fun h => (by rw [h] at h3; cases h3), fun j hj => ?_⟩
  obtain ⟨o, ho, hh⟩ := AllJ_mem g j hj
  exact ⟨o, by rw [atL_eq] at ho; simpa using ho, hh hl hc a w s⟩
theorem GS_hardS (js : List Nat) (hn : ((nextSoft ops.toArray li).isNone && !(Region.ready .any ops.toArray li).isEmpty && (Region.ready .any ops.toArray li).all (js.contains ·)) = true) (g : AllJ js (fun j => (Region.ready .any ops.toArray li).contains j = true → GSh P N ops V h0 fuel li k Q e h L j)) : GS P N ops V h0 (fuel + 1) li k Q e h L := by
  intro hl hc a w s
  simp only [Bool.and_eq_true, Option.isNone_iff_eq_none, Bool.not_eq_true'] at hn
  obtain ⟨⟨h1, h2⟩, h3⟩ := hn
  unfold wpSched
  simp only [h1]
  refine ⟨fun h => (by rw [h] at h2; cases h2), fun j hj => ?_⟩
  have hm := List.all_eq_true.1 h3 j hj
  obtain ⟨o, ho, hh⟩ := AllJ_mem g j (by simpa using hm) (by simpa using hj)
  exact ⟨o, by rw [atL_eq] at ho; simpa using ho, hh hl hc a w s⟩
theorem GS_app {d : Nat} {v : Value} {X M LL : List HP} [r : AppL X M LL] (hs : Sub LL V) (g : GS P N ops V h0 fuel li k Q ((d, v) :: e) h LL) : Sub (X ++ M) V ∧ GS P N ops V h0 fuel li k Q (putR (some d) v e) h (X ++ M) := by
  rw [r.eq]; exact ⟨hs, g⟩
theorem GS_end (hn : Region.ready .any ops.toArray li = []) (g : X P N .normal k Q e h L) : GS P N ops V h0 fuel li k Q e h L := by
  intro hl hc a w s
  cases fuel with
  | zero => exact ⟨hn, g a w s⟩
  | succ fuel =>
    unfold wpSched
    have : nextSoft ops.toArray li = none := by simp [nextSoft, hn]
    simp only [this, hn]
    exact ⟨fun _ => g a w s, fun j hj => (by cases hj)⟩
theorem GSh_of {j : Nat} {d : Option Tmp} {op : Op} {ty : TypeId} {pos : String} {af : Array Edge} (ho : atL ops j = some ⟨d, op, ty, pos, af, none⟩)
    (hh : HardS P N ⟨d, op, ty, pos, af, none⟩ e h L (fun e' h' L' => (Sub L' V) ∧ GS P N ops V h0 fuel (li.setIfInBounds j true) k Q e' h' L')) : GSh P N ops V h0 fuel li k Q e h L j := by
  refine ⟨_, ho, fun hl hc a w s => ?_⟩
  unfold hardOp
  rw [if_pos (show Region.wanted (⟨d, op, ty, pos, af, none⟩ : Oper) (yielded ops.toArray a.tmps) = true from rfl)]
  obtain ⟨h1, h2⟩ := hh a w s.ae s.st
  refine ⟨Oper.wp_mono (fun a' w' hk => ?_) h1, h2⟩
  obtain ⟨e', h', L', h3, h4, h5, h6, h7⟩ := hk
  refine ⟨fun _ => ?_, h7 (hl.trans h4) hc a' w' (h3.as h5)⟩
  obtain ⟨Z, hz⟩ := h6.eq
  exact ⟨Z, _, hl.trans h4, h5.perm hz⟩
/-- A call that makes new parts. -/
theorem hard_callV' {C : Env → PHeap → List HP → Prop} {d : Option Nat} {ty : TypeId} {pos : String} {af : Array Edge} {g : Option (Nat × Bool)} {n : FuncId} {f : Operand} {xs : List Operand} {ts : Array TypeId} {vs : List Value} {s : Prop} {T : Kont → Prop} [hf : Is (lkO e f) (some (.func (.func n) #[] #[]))] [ha : ArgsOf e xs vs] [hcf : CallF P n] [hc : CallX P n vs h L s T] [hd : DstOk N d]
    (hs : s) (hT : T (fun v h' X => C (putR d v e) h' (X ++ L))) : HardS P N ⟨d, .call { callee := .value f, args := xs.toArray, argTypes := ts }, ty, pos, af, g⟩ e h L C :=
  hard_call (M := []) (Lp := L) hf.eq (ha.eq N) hcf hd (by simp) (hc.spec hs) (by simpa using hT)
theorem hard_callT' {C : Env → PHeap → List HP → Prop} {d : Option Nat} {ty : TypeId} {pos : String} {af : Array Edge} {g : Option (Nat × Bool)} {n : FuncId} {f : Operand} {xs : List Operand} {ts : Array TypeId} {vs : List Value} {s : Prop} {T : Kont → Prop} [hf : Is (lkO e f) (some (.func (.func n) #[] #[]))] [ha : ArgsOf e xs vs] [hcf : CallF P n] [hc : CallT P n vs h L s M T] [hd : DstOk N d]
    (hs : s) (hT : T (fun v h' X => C (putR d v e) h' (X ++ M))) : HardS P N ⟨d, .call { callee := .value f, args := xs.toArray, argTypes := ts }, ty, pos, af, g⟩ e h L C := by
  obtain ⟨Lp, hp, hsp⟩ := hc.spec hs
  exact hard_call hf.eq (ha.eq N) hcf hd hp hsp hT
/-- A region that draws its order, and changes one slice while other things are looked at. -/
theorem GDraw_O {l : List Oper} (v : Value) {α : Type} {enc : α → List Value} {sz : Nat} {xs : List α} {R : List HP} {id : Nat} [hm : Mixed P] [hp : PickO L v α enc sz xs R] (hok : drawOK l.toArray = true) (g : GD P N l R h 0 l k Q e h L) : GDraw P N id l k Q e h L :=
  G_draw R hm.eq hok (hp.eq.trans (by simpa using List.perm_append_comm (l₁ := [slo enc sz v xs]) (l₂ := R))) g
theorem GDraw_M {l : List Oper} (b : Nat) {m : List (ByteArray × Value)} {mk : List (ByteArray × Value) → List HP} (R : List HP) {id : Nat} [hm : Mixed P] (hp : L.Perm (mapO b m :: R)) (hok : drawOK l.toArray = true) (g : GD P N l R h 0 l k Q e h L) : GDraw P N id l k Q e h L :=
  G_draw R hm.eq hok (hp.trans (by simpa using List.perm_append_comm (l₁ := [mapO b m]) (l₂ := R))) g
class PickB (L : List HP) (b : Nat) (o : outParam Obj) (R : outParam (List HP)) : Prop where
  eq : L.Perm (blk b o :: R)
instance {b : Nat} {o : Obj} {L : List HP} : PickB (blk b o :: L) b o L := ⟨.refl _⟩
instance (priority := low) {b : Nat} {o : Obj} {L R : List HP} {x : HP} [p : PickB L b o R] : PickB (x :: L) b o (x :: R) := ⟨(List.Perm.cons x p.eq).trans (.swap _ _ _)⟩
theorem G_freezeB {c : Code} (b : Nat) {o : Obj} {R : List HP} [p : PickB L b o R] (g : ∀ h', Le h h' → Pt h' b o → G P N c k Q e h' R) : G P N c k Q e h L := G_freeze ⟨p.eq⟩ fun h' hl f => g h' ⟨hl⟩ f.blk
theorem X_freezeB {c : Exit} (b : Nat) {o : Obj} {R : List HP} [p : PickB L b o R] (g : ∀ h', Le h h' → Pt h' b o → X P N c k Q e h' R) : X P N c k Q e h L := X_freeze ⟨p.eq⟩ fun h' hl f => g h' ⟨hl⟩ f.blk
theorem G_freezeS {c : Code} (v : Value) {α : Type} {enc : α → List Value} {sz : Nat} {xs : List α} {R : List HP} [p : PickO L v α enc sz xs R] (g : ∀ h', Le h h' → FSl h' v enc sz xs → G P N c k Q e h' R) : G P N c k Q e h L := G_freeze ⟨p.eq⟩ fun h' hl f => g h' ⟨hl⟩ f.slo
theorem X_freezeS {c : Exit} (v : Value) {α : Type} {enc : α → List Value} {sz : Nat} {xs : List α} {R : List HP} [p : PickO L v α enc sz xs R] (g : ∀ h', Le h h' → FSl h' v enc sz xs → X P N c k Q e h' R) : X P N c k Q e h L := X_freeze ⟨p.eq⟩ fun h' hl f => g h' ⟨hl⟩ f.slo
theorem GO_freezeS {l : List Oper} (v : Value) {α : Type} {enc : α → List Value} {sz : Nat} {xs : List α} {R : List HP} [p : PickO L v α enc sz xs R] (g : ∀ h', Le h h' → FSl h' v enc sz xs → GO P N ops l k Q e h' R) : GO P N ops l k Q e h L := GO_freeze ⟨p.eq⟩ fun h' hl f => g h' ⟨hl⟩ f.slo
class PickMp (L : List HP) (b : Nat) (m : outParam (List (ByteArray × Value))) (R : outParam (List HP)) : Prop where
  eq : L.Perm (mapO b m :: R)
instance {b : Nat} {m : List (ByteArray × Value)} {L : List HP} : PickMp (mapO b m :: L) b m L := ⟨.refl _⟩
instance (priority := low) {b : Nat} {m : List (ByteArray × Value)} {L R : List HP} {x : HP} [p : PickMp L b m R] : PickMp (x :: L) b m (x :: R) := ⟨(List.Perm.cons x p.eq).trans (.swap _ _ _)⟩
theorem X_freezeM {c : Exit} (b : Nat) {m : List (ByteArray × Value)} {R : List HP} [p : PickMp L b m R] (g : ∀ h', Le h h' → FMap h' b m → X P N c k Q e h' R) : X P N c k Q e h L := X_freeze ⟨p.eq⟩ fun h' hl f => g h' ⟨hl⟩ f.map
theorem G_freezeM {c : Code} (b : Nat) {m : List (ByteArray × Value)} {R : List HP} [p : PickMp L b m R] (g : ∀ h', Le h h' → FMap h' b m → G P N c k Q e h' R) : G P N c k Q e h L := G_freeze ⟨p.eq⟩ fun h' hl f => g h' ⟨hl⟩ f.map
/-! ### A call that gives back a list of parts without a name -/
section
variable {l : List Oper} {i : Nat}
instance (priority := 10) gor_tail {LL : List HP} {d : Nat} {v : Value} [r : AppL M L LL] : Step (GOr P N ops l k Q (some d) v e h L M) (GO P N ops l k Q ((d, v) :: e) h LL) := ⟨fun g => GO.perm (by rw [← r.eq]; exact List.perm_append_comm) g⟩
instance (priority := 10) gor_tail' {LL : List HP} {v : Value} [r : AppL M L LL] : Step (GOr P N ops l k Q none v e h L M) (GO P N ops l k Q e h LL) := ⟨fun g => GO.perm (by rw [← r.eq]; exact List.perm_append_comm) g⟩
instance (priority := 10) gdr_tail {LL : List HP} {d : Nat} {v : Value} [r : AppL M L LL] : Step (GDr P N ops V h0 i l k Q (some d) v e h L M) (GDk P N ops V h0 i l k Q ((d, v) :: e) h LL) := ⟨fun g => GDk.perm (by rw [← r.eq]; exact List.perm_append_comm) g⟩
instance (priority := 10) gdr_tail' {LL : List HP} {v : Value} [r : AppL M L LL] : Step (GDr P N ops V h0 i l k Q none v e h L M) (GDk P N ops V h0 i l k Q e h LL) := ⟨fun g => GDk.perm (by rw [← r.eq]; exact List.perm_append_comm) g⟩
end
/-- Behind a region that may end in several orders one goes on once. -/
theorem GDraw_cut {σ : Type} {id : Nat} {l : List Oper} (E : σ → Env) (S : σ → List HP) (g1 : GDraw P N id l (.inv (fun a w => ∃ s : σ, AS N (E s) h (S s) a w) :: k) Q e h L) (g2 : ∀ s, X P N .normal k Q (E s) h (S s)) : GDraw P N id l k Q e h L := by
  intro a w s
  refine wpIn_mono (g1 a w s) fun ex a' w' hq => ?_
  cases ex with
  | normal => obtain ⟨t, ht⟩ := hq; exact g2 t a' w' ht
  | exit id => exact hq
  | goto l => exact hq
  | ret => exact hq
  | panic ch => exact hq
  | outgrown => exact hq
theorem X_cut {σ : Type} {E : σ → Env} {S : σ → List HP} (s : σ) (hS : Sub L (S s)) (hE : EnvLe e (E s)) : X P N .normal (.inv (fun a w => ∃ s : σ, AS N (E s) h (S s) a w) :: k) Q e h L := by
  intro a w st
  obtain ⟨Z, hz⟩ := hS.eq
  exact ⟨s, (hE.ae st.ae).as ((st.st.perm hz).perm List.perm_append_comm).dropL⟩
theorem sub_head {x : HP} {L V : List HP} (s : Sub L V) : Sub (x :: L) (x :: V) := ⟨by
  obtain ⟨Z, hz⟩ := s.eq
  exact ⟨Z, List.Perm.cons x hz⟩⟩
end
end Go.Sl

/-
  Slices of slices.
-/
namespace Go.Sl
set_option linter.unusedVariables false
set_option linter.unusedSimpArgs false
def subTo : Value → Nat → Value
  | .slice a n c, i => .slice a (min i n) c
  | v, _ => v
theorem FSl.subTo {α : Type} {h : PHeap} {u : Value} {enc : α → List Value} {k : Nat} {xs : List α} (f : FSl h u enc k xs) (i : Nat) : FSl h (Sl.subTo u i) enc k (xs.take i) := ⟨by
  obtain ⟨bs, ⟨h1, h2⟩, hb⟩ := f.fz
  refine ⟨bs, ⟨fun x hx => h1 x (List.mem_of_mem_take hx), ?_⟩, hb⟩
  rcases h2 with ⟨⟨a, rfl⟩, rfl, rfl⟩ | ⟨b, off, cap, pre, post, T, fr, rfl, hp, hcap, rfl⟩
  · exact .inl ⟨⟨a, by simp [Sl.subTo]⟩, by simp, rfl⟩
  · refine .inr ⟨b, off, cap, pre, (xs.drop i).flatMap enc ++ post, T, fr, by simp [Sl.subTo, List.length_take], hp, by rw [List.length_take]; omega, ?_⟩
    rw [← List.append_assoc ((xs.take i).flatMap enc), ← List.flatMap_append, List.take_append_drop]⟩
instance {α : Type} {h : PHeap} {u : Value} {enc : α → List Value} {k : Nat} {xs : List α} {i : Nat} [f : FSl h u enc k xs] : FSl h (subTo u i) enc k (xs.take i) := f.subTo i
section
variable {P : Program} {N : NN} {e : Env} {h : PHeap} {V : List HP}
instance {x y : Operand} {t el n : Nat} {j : Int} {u : Value} {agg : Bool} {sz : Nat} {α : Type} {enc : α → List Value} {kk : Nat} {xs : List α} [hx : Is (lkO e x) (some u)] [hy : Is (lkO e y) (some (vI j))] [hn : ToN j n] [ht : SliT P t el] [hz : TySz P el agg sz] [hr : Rds V h u enc kk xs] :
    Soft P N V h e (.slice t x none (some y) none) (0 ≤ j ∧ j ≤ xs.length) (subTo u n) := ⟨fun hs hw d ty pos af g a w s _ => by
  obtain ⟨w0, hw⟩ := hw
  obtain ⟨inf, dd, e1, e2, _, _⟩ := hz.eq
  have hsz : ∀ w, (sizeOf el).run P w = .ok sz w := fun w => by simp [sizeOf, typeInfo, e1, e2]
  have hn := hn.eq
  subst hn
  obtain ⟨bs, ⟨_, h2⟩, _⟩ := hr.rd w0 hw
  rcases h2 with ⟨⟨a0, rfl⟩, rfl, _⟩ | ⟨b, off, cap, pre, post, T, fr, rfl, hp, hcap, _⟩
  · have : j = 0 := by simp at hs; omega
    subst this
    simp [execOp, s.eval hx.eq, s.eval hy.eq, Instr.sliceAt, Instr.slice, underlying, ht.eq, Instr.sliceBounds, Instr.sliceBound, asIntOf, hsz, subTo]
  · have hj : j ≤ (cap : Int) := by omega
    have hmin : min j.toNat xs.length = j.toNat := by omega
    simp [execOp, s.eval hx.eq, s.eval hy.eq, Instr.sliceAt, Instr.slice, underlying, ht.eq, Instr.sliceBounds, Instr.sliceBound, asIntOf, hsz, subTo, hs.1, hj, Addr.add_mid, hmin]⟩
end
end Go.Sl

/-
  Ranges over functions: a round, a call of yield, the loop, the end of a function that holds one.
-/
namespace Go.Sl
set_option linter.unusedVariables false
set_option linter.unusedSimpArgs false
/-- What a call of yield comes to. -/
def YSpec (P : Program) (l : Nat) (vs : List Value) (h : PHeap) (Lp : List HP) (T : Kont → Prop) : Prop :=
  ∀ (K : Kont) (R : List HP) (w : World), T K → St h (Lp ++ R) w → ∃ r : Loop, w.heap[l]? = some (.loop r) ∧ vs.toArray.size = r.params.size ∧
    RoundIn Fence.wide 0 P l r.fn ((r.params.zip vs.toArray).foldl (fun tmps (t, a) => tmps.setIfInBounds t a) r.tmps) r.assign r.body w (fin h K R)
class CallY (P : Program) (l : Nat) (vs : List Value) (h : PHeap) (L : List HP) (s : outParam Prop) (M : outParam (List HP)) (T : outParam (Kont → Prop)) : Prop where
  spec : s → ∃ Lp, L.Perm (Lp ++ M) ∧ YSpec P l vs h Lp T
section
variable {P : Program} {N : NN} {k : List It} {Q : Post} {e : Env} {h h0 : PHeap} {L V M : List HP} {ops l : List Oper} {i : Nat}
instance (priority := low) go_yield {d : Option Nat} {ty : TypeId} {pos : String} {af : Array Edge} {g : Option (Nat × Bool)} {lp : Nat} {f : Operand} {xs : List Operand} {ts : Array TypeId} {vs : List Value} {s : Prop} {T : Kont → Prop} [hf : Is (lkO e f) (some (.func (.yield lp) #[] #[]))] [ha : ArgsOf e xs vs] [hc : CallY P lp vs h L s M T] [hd : DstOk N d] :
    Step (GO1 P N ops ⟨d, .call { callee := .value f, args := xs.toArray, argTypes := ts }, ty, pos, af, g⟩ l k Q e h L) (Side s (T (fun v h' L' => GOr P N ops l k Q d v e h' L' M))) := ⟨fun hk a w se => by
  obtain ⟨Lp, hp, hs⟩ := hc.spec hk.side
  obtain ⟨r, h1, h2, h3⟩ := hs _ M w hk.rest (se.st.perm hp)
  have hr : (execOp a.eval ⟨d, .call { callee := .value f, args := xs.toArray, argTypes := ts }, ty, pos, af, g⟩).run P w = .ok (.round lp r.fn ((r.params.zip vs.toArray).foldl (fun tmps (t, a) => tmps.setIfInBounds t a) r.tmps) r.assign r.body) w := by
    have hy := run_yield (P := P) h1 h2
    simp only [execOp, resolve, Sem.run_bind]
    have hev := se.ae.eval hf.eq
    have hargs := ha.eq N a se.ae
    simp only [hev, Deferred.ofValue, List.map_toArray, hargs, Sem.run_pure, Result.andThen_ok, invoke]
    simpa using hy
  refine ⟨fun _ _ => trivial, ?_⟩
  rw [Oper.semAt_eq _ _ _ (fun c hc => by cases hc), hr]
  refine ⟨fun h => (by cases h), ?_⟩
  have h4 : RoundIn (Fat N.ro) (0 - 1) P lp r.fn ((r.params.zip vs.toArray).foldl (fun tmps (t, a) => tmps.setIfInBounds t a) r.tmps) r.assign r.body w (fin h (fun v h' L' => GOr P N ops l k Q d v e h' L' M) M) := h3
  refine h4.mono fun en w' hfin => ?_
  obtain ⟨v, h', L', rfl, hle, hK, hst⟩ := hfin
  exact hK _ w' ((hd.eq e a v se.ae).as hst)⟩

/-! ### A round -/
def BR (P : Program) (l : Nat) (body : Code) (R : Ending → World → Prop) : Act → World → Prop := fun a₁ w₁ => ∃ w₂, (Instr.beginRound l).run P w₁ = .ok () w₂ ∧ body.wpIn (Fat (some l)) 0 P (roundPost P l R) a₁ w₂
theorem yspec_of {N0 lp p : Nat} {r : Loop} {v : Value} {Lp : List HP} {T : Kont → Prop} (hp : p < N0) (hps : r.params = #[p]) (hae : AE ⟨N0, [], none⟩ e ⟨r.tmps, []⟩)
    (g : ∀ (K : Kont) (R : List HP), T K → G P ⟨N0, [], some lp⟩ r.assign [.inv (BR P lp r.body (fin h K R))] (fun _ _ _ => False) ((p, v) :: e) h (blk lp (.loop r) :: (Lp ++ R))) : YSpec P lp [v] h (blk lp (.loop r) :: Lp) T := by
  intro K R w hT st
  have hb : w.heap[lp]? = some (.loop r) := by
    obtain ⟨bs, ⟨b1, b2, rfl, hx, _⟩, s0⟩ := st
    subst hx
    exact (s0.own (lp, .loop r) (by simp)).1
  refine ⟨r, hb, by rw [hps]; simp, ?_⟩
  have he : ((r.params.zip [v].toArray).foldl (fun tmps (t, a) => tmps.setIfInBounds t a) r.tmps) = r.tmps.setIfInBounds p v := by rw [hps]; simp
  rw [he]
  refine roundIn_of_wpIn trivial ?_
  have h1 := AE.put (v := v) (d := p) (N := ⟨N0, [], none⟩) hp hae
  exact g K R hT ⟨r.tmps.setIfInBounds p v, []⟩ w ⟨h1.sz, rfl, h1.ev, st⟩
theorem St.putB {w : World} {b : Nat} {o o' : Obj} (s : St h (blk b o :: L) w) : St h (blk b o' :: L) (w.putObj b o') := by
  refine St.put (w' := w.putObj b o') s rfl ?_
  rintro bs rfl hh
  have hb := hh (b, o) (by simp)
  exact ⟨_, rfl, rfl, fun c hc => by
    have : c = (b, o') := by simpa using hc
    subst this; exact World.putObj_heap_same (lt_of_heap hb), fun b' hb' => World.putObj_heap_other (by intro h; exact hb' (by simp [h]))⟩
theorem heap_of {w : World} {b : Nat} {o : Obj} (s : St h (blk b o :: L) w) : w.heap[b]? = some o := by
  obtain ⟨bs, ⟨b1, b2, rfl, hx, _⟩, s0⟩ := s
  subst hx
  exact (s0.own (b, o) (by simp)).1
theorem X_begin {lp : Nat} {r : Loop} {body : Code} {R : Ending → World → Prop} {L' : List HP} (hp : L.Perm (blk lp (.loop r) :: L')) (hr : r.state = .ready)
    (g : G P N body [] (roundPost P lp R) e h (blk lp (.loop { r with state := .busy }) :: L')) (hro : N.ro = some lp) : X P N .normal [.inv (BR P lp body R)] (fun _ _ _ => False) e h L := by
  intro a w s
  have st := s.st.perm hp
  have := g a _ (s.ae.as (st.putB (o' := .loop { r with state := .busy })))
  rw [hro] at this
  exact ⟨_, run_beginRound (heap_of st) hr, this⟩
theorem X_roundEnd {lp : Nat} {r : Loop} {K : Kont} {Rf L' : List HP} (hp : L.Perm (blk lp (.loop r) :: (L' ++ Rf))) (hle : Hle h0 h)
    (hK : K (.bool true) h (blk lp (.loop { r with state := .ready, pending := none }) :: L')) : X P N .normal [] (roundPost P lp (fin h0 K Rf)) e h L := by
  intro a w s
  have st := s.st.perm hp
  exact ⟨_, _, run_endRound none (heap_of st), _, h, _, rfl, hle, hK, st.putB⟩

/-! ### The loop -/
abbrev markOf (D : Nat) : Deferred := { target := .collected D, args := #[] }
structure RecOk (N0 : Nat) (e : Env) (p : Nat) (assign body : Code) (r : Loop) : Prop where
  st : r.state = .ready
  pe : r.pending = none
  ps : r.params = #[p]
  as : r.assign = assign
  bo : r.body = body
  ae : AE ⟨N0, [], none⟩ e ⟨r.tmps, []⟩
theorem G_range {N0 p fk : Nat} {g : Operand} {assign body : Code} {caps : List Value} (hg : lkO e g = some (.func (.func fk) #[] caps.toArray)) (hcf : CallF P fk) (T : Nat → Nat → Loop → Kont → Prop)
    (spec : ∀ l D r, RecOk N0 e p assign body r → Spec P fk (.func (.yield l) #[] #[] :: caps) h (blk l (.loop r) :: blk D (.deferred (some [])) :: L) (T l D r))
    (cont : ∀ l D r, RecOk N0 e p assign body r → T l D r (fun _ h' L' => ∃ L2, L'.Perm (blk l (.loop r) :: L2) ∧ X P ⟨N0, [markOf D], none⟩ .normal k Q e h' L2)) : G P ⟨N0, [], none⟩ (.rangeFunc g #[p] assign body) k Q e h L := by
  intro a w s
  refine wpIn_rangeFunc fun fn _ => ?_
  have hen := run_enterLoop_outer (P := P) (w := w) fn a.tmps #[p] assign body
  have hrec : RecOk N0 e p assign body { state := .ready, pending := none, fn, tmps := a.tmps, params := #[p], assign, body, defers := w.heap.size } := ⟨rfl, rfl, rfl, rfl, rfl, ⟨s.sz, rfl, s.ev⟩⟩
  have st1 : St h (blk w.heap.size (.deferred (some [])) :: L) (w.alloc (.deferred (some []))) := s.st.new (x := blk w.heap.size (.deferred (some []))) _ rfl
  have st2 : St h (blk (w.heap.size + 1) (.loop { state := .ready, pending := none, fn, tmps := a.tmps, params := #[p], assign, body, defers := w.heap.size }) :: blk w.heap.size (.deferred (some [])) :: L) ((w.alloc (.deferred (some []))).alloc (.loop { state := .ready, pending := none, fn, tmps := a.tmps, params := #[p], assign, body, defers := w.heap.size })) := by
    have := st1.new (x := blk (w.alloc (.deferred (some []))).heap.size (.loop { state := .ready, pending := none, fn, tmps := a.tmps, params := #[p], assign, body, defers := w.heap.size })) _ rfl
    rw [World.size_alloc] at this
    exact this
  have hsp := spec (w.heap.size + 1) w.heap.size _ hrec _ [] _ (cont (w.heap.size + 1) w.heap.size _ hrec) (by simpa using st2)
  have hev := s.ae.eval hg
  refine ⟨w.heap.size + 1, [markOf w.heap.size], (w.alloc (.deferred (some []))).alloc (.loop { state := .ready, pending := none, fn, tmps := a.tmps, params := #[p], assign, body, defers := w.heap.size }), ⟨.fn (.func fk) caps.toArray, #[.func (.yield (w.heap.size + 1)) #[] #[]]⟩,
    (w.alloc (.deferred (some []))).alloc (.loop { state := .ready, pending := none, fn, tmps := a.tmps, params := #[p], assign, body, defers := w.heap.size }), fk, (.func (.yield (w.heap.size + 1)) #[] #[] :: caps).toArray,
    (w.alloc (.deferred (some []))).alloc (.loop { state := .ready, pending := none, fn, tmps := a.tmps, params := #[p], assign, body, defers := w.heap.size }), hen, ?_, fun _ _ => trivial, ?_, fun h => (by cases h), callsIn_of ?_⟩
  · simp [resolve, rangeCall, hev, Deferred.ofValue, show ∀ v, a.eval (.const v) = v from fun _ => rfl]
  · simp [invoke, hcf.eq]
  · refine hsp.mono fun en w' hfin => ?_
    obtain ⟨v, h', L', rfl, hle, ⟨L2, hp2, hX⟩, hst⟩ := hfin
    have st3 := (by simpa using hst : St h' L' w').perm hp2
    refine ⟨none, w'.putObj (w.heap.size + 1) (.loop { state := .exhausted, pending := none, fn, tmps := a.tmps, params := #[p], assign, body, defers := w.heap.size }), ?_, ?_⟩
    · exact run_endLoop (heap_of st3) (by simp)
    · have := st3.putB (o' := .loop { state := .exhausted, pending := none, fn, tmps := a.tmps, params := #[p], assign, body, defers := w.heap.size })
      exact hX _ _ ⟨s.sz, by simp [s.df], s.ev, this.drop⟩

/-! ### The end of a function that holds such a loop -/
def endQM (P : Program) (rs : List ResultVar) (F : Ending → World → Prop) : Post
  | .normal, a, w | .ret, a, w => (a.defers = [] ∧ ∃ v, (resultsL rs a.tmps).run P w = .ok v w ∧ F (.returned v) w) ∨
      ∃ D, a.defers = [markOf D] ∧ w.heap[D]? = some (.deferred (some [])) ∧ ∃ v, (resultsL rs a.tmps).run P (w.putObj D (.deferred none)) = .ok v (w.putObj D (.deferred none)) ∧ F (.returned v) (w.putObj D (.deferred none))
  | _, _, _ => False
theorem spec_enterM {f : FuncId} {args : List Value} {h : PHeap} {Lp : List HP} {T : Kont → Prop} {fn : Func} {c : Code} {rs : List ResultVar} {N0 : Nat} {e : Env} (hf : P.funcs[f]? = some fn) (hb : fn.body = some c) (hN : fn.ntmps = N0) (hr : fn.results = rs.toArray)
    (hle : args.length ≤ N0) [he : EnvOf 0 args e] {LL : List HP → List HP} [ha : ∀ R, AppL Lp R (LL R)] (g : ∀ (K : Kont) (R : List HP), T K → G P ⟨N0, [], none⟩ c [] (endQM P rs (fin h K R)) e h (LL R)) : Spec P f args h Lp T := by
  intro K R w hT hst
  rw [(ha R).eq] at hst
  refine (callsIn_wide (n := 0)).1 (callsIn_of_wp_marks hf hb trivial ?_)
  have := g K R hT { tmps := args.toArray ++ Array.replicate (fn.ntmps - args.toArray.size) undef, defers := [] } w ⟨by simp; omega, rfl, fun i v hi => ?_, hst⟩
  · refine wpIn_mono this fun ex a w' hq => ?_
    have hres : ∀ tm, results fn tm = resultsL rs tm := fun tm => by unfold results resultsL; rw [hr]; rfl
    have key : ((a.defers = [] ∧ ∃ v, (resultsL rs a.tmps).run P w' = .ok v w' ∧ fin h K R (.returned v) w') ∨
      ∃ D, a.defers = [markOf D] ∧ w'.heap[D]? = some (.deferred (some [])) ∧ ∃ v, (resultsL rs a.tmps).run P (w'.putObj D (.deferred none)) = .ok v (w'.putObj D (.deferred none)) ∧ fin h K R (.returned v) (w'.putObj D (.deferred none))) →
      LeavesInM Fence.wide 0 P fn a.tmps (fin h K R) a.defers .returning w' := by
      rintro (⟨h1, v, h2, h3⟩ | ⟨D, h1, h2, v, h3, h4⟩)
      · rw [h1]; exact ⟨v, by rw [hres]; exact h2, h3⟩
      · rw [h1]
        refine ⟨by simp, .inl ⟨D, _, rfl, run_takeDeferred h2, v, by rw [hres]; exact h3, h4⟩⟩
    cases ex <;> simp only [cQ, endQM] at hq <;> simp only [bodyPostM] <;> first | exact key hq | exact hq.elim
  · obtain ⟨_, h2⟩ := he.eq i v hi
    simp only [Nat.sub_zero] at h2
    obtain ⟨hlt, h3⟩ := List.getElem?_eq_some_iff.1 h2
    simp [Array.getElem?_append_left, hlt, h3]
section
variable {N0 D : Nat} {R : List HP} {K : Kont} {rs : List ResultVar} {vs : List Value} {v : Value}
theorem fin_of {w : World} {L' : List HP} (hle : Hle h0 h) (hK : K v h L') (hsub : SubR L L' R) (st : St h L w) : fin h0 K R (.returned v) w := by
  obtain ⟨Z, hp⟩ := hsub.eq
  refine ⟨v, h, L', rfl, hle, hK, ?_⟩
  exact (st.perm (hp.trans (show (L' ++ (R ++ Z)).Perm (Z ++ (L' ++ R)) by rw [← List.append_assoc]; exact List.perm_append_comm))).dropL
theorem X_finM {L' : List HP} (hp : PickB L D (.deferred (some [])) L') (hr : ResL P L' h e rs vs) (ho : OneOr vs v) (f : Fin h0 h K v L' R) {a : Act} {w : World} (s : AS ⟨N0, [markOf D], none⟩ e h L a w) :
    ∃ D, a.defers = [markOf D] ∧ w.heap[D]? = some (.deferred (some [])) ∧ ∃ v, (resultsL rs a.tmps).run P (w.putObj D (.deferred none)) = .ok v (w.putObj D (.deferred none)) ∧ fin h0 K R (.returned v) (w.putObj D (.deferred none)) := by
  have st := s.st.perm hp.eq
  have st' : St h L' (w.putObj D (.deferred none)) := (st.putB (o' := .deferred none)).drop
  obtain ⟨hle, L2, hK, hsub⟩ := f.ok
  refine ⟨D, s.df, heap_of st, v, ?_, fin_of hle hK hsub st'⟩
  have := hr.run _ a (w.putObj D (.deferred none)) s.ae (Cw.self st') #[]
  unfold resultsL
  rw [Sem.run_bind]
  have hm : (rs.toArray.mapM (resVal a.tmps) : Sem (Array Value)) = rs.foldlM (resF a.tmps) #[] := by
    rw [Array.mapM_eq_foldlM]; simp only [List.foldlM_toArray]; rfl
  rw [hm, this]
  simp only [Result.andThen_ok, Sem.run_pure]
  have := ho.eq
  simpa using this
instance xm_ret {L' : List HP} [hp : PickB L D (.deferred (some [])) L'] [hr : ResL P L' h e rs vs] [ho : OneOr vs v] : Step (X P ⟨N0, [markOf D], none⟩ .ret [] (endQM P rs (fin h0 K R)) e h L) (Fin h0 h K v L' R) := ⟨fun f a w s => .inr (X_finM hp hr ho f s)⟩
instance xm_end {L' : List HP} [hp : PickB L D (.deferred (some [])) L'] [hr : ResL P L' h e rs vs] [ho : OneOr vs v] : Step (X P ⟨N0, [markOf D], none⟩ .normal [] (endQM P rs (fin h0 K R)) e h L) (Fin h0 h K v L' R) := ⟨fun f a w s => .inr (X_finM hp hr ho f s)⟩
instance xm_ret0 [hr : ResL P L h e rs vs] [ho : OneOr vs v] : Step (X P ⟨N0, [], none⟩ .ret [] (endQM P rs (fin h0 K R)) e h L) (Fin h0 h K v L R) := ⟨fun f a w s => .inl (X_fin hr ho f s)⟩
instance xm_end0 [hr : ResL P L h e rs vs] [ho : OneOr vs v] : Step (X P ⟨N0, [], none⟩ .normal [] (endQM P rs (fin h0 K R)) e h L) (Fin h0 h K v L R) := ⟨fun f a w s => .inl (X_fin hr ho f s)⟩
end
end
end Go.Sl

/-
  Structs and arrays that are compared.
-/
namespace Go.Sl
set_option linter.unusedVariables false
set_option linter.unusedSimpArgs false
/-- Two values are held against each other. -/
class EqV (P : Program) (k : Nat) (t : TypeId) (x y : Value) (p : outParam Prop) : Prop where
  run : ∀ d w, ∃ r : Bool, (Op.equalIn (d + k) t x y).run P w = .ok r w ∧ (r = true ↔ p)
class PartAt (P : Program) (t : TypeId) (l : List Value) (o : Nat) (v : outParam Value) : Prop where
  run : ∀ w, (part t l.toArray o).run P w = .ok v w
class EqFs (P : Program) (k : Nat) (xs ys : List Value) (l : List (TypeId × Nat)) (p : outParam Prop) : Prop where
  run : ∀ d w (fs : List Field), fs.map (fun f => (f.type, f.offset)) = l → (∀ f ∈ fs, f.name ≠ "_") → ∃ r : Bool, (Op.eqFields (d + k) xs.toArray ys.toArray fs).run P w = .ok r w ∧ (r = true ↔ p)
class EqIs (P : Program) (k : Nat) (e : TypeId) (c : Nat) (xs ys : List Value) (is : List Nat) (p : outParam Prop) : Prop where
  run : ∀ d w, ∃ r : Bool, (Op.eqItems (d + k) e c xs.toArray ys.toArray is).run P w = .ok r w ∧ (r = true ↔ p)
/-- The fields of a struct that can be compared. -/
class FieldsT (P : Program) (t : TypeId) (l : outParam (List (TypeId × Nat))) : Prop where
  eq : ∃ fs, P.underlying t = some (.struct fs) ∧ fs.toList.map (fun f => (f.type, f.offset)) = l ∧ (fs.toList.all fun f => f.name != "_") = true ∧ P.stoodInHeld t = false ∧ P.eqGuardType P.depth t = false
class RangeL (n : Nat) (l : outParam (List Nat)) : Prop where
  eq : List.range n = l
instance : RangeL 1 [0] := ⟨rfl⟩
instance : RangeL 2 [0, 1] := ⟨rfl⟩
instance : RangeL 3 [0, 1, 2] := ⟨rfl⟩
instance : RangeL 4 [0, 1, 2, 3] := ⟨rfl⟩
section
variable {P : Program}
instance {t : TypeId} {l l' cs : List Value} {o n : Nat} [hz : TySz P t true n] [hd : DropN l o l'] [ht : TakeN l' n cs] : PartAt P t l o (.agg cs.toArray) := ⟨fun w => by
  obtain ⟨inf, dd, e1, e2, e3, e4⟩ := hz.eq
  have hagg : ∀ w, (isAgg t).run P w = .ok true w := fun w => by unfold isAgg; rw [Sem.run_bind, run_underlying e3 w]; cases dd <;> simp_all
  have hex : l.toArray.extract o (o + n) = cs.toArray := by
    rw [← ht.eq.1, ← hd.eq]; apply Array.ext'; simp [List.take_drop]
  simp only [part, Sem.run_bind, hagg, Result.andThen_ok, if_true, sizeOf, typeInfo, run_program, e1, Sem.run_pure, e2, hex]⟩
instance {t : TypeId} {l : List Value} {o : Nat} {v : Value} [hz : TySz P t false 1] [hg : GetN l o v] : PartAt P t l o v := ⟨fun w => by
  obtain ⟨inf, dd, e1, e2, e3, e4⟩ := hz.eq
  have hagg : ∀ w, (isAgg t).run P w = .ok false w := fun w => by unfold isAgg; rw [Sem.run_bind, run_underlying e3 w]; cases dd <;> simp_all
  have hv : l.toArray[o]? = some v := by simpa using hg.eq
  simp only [part, Sem.run_bind, hagg, Result.andThen_ok, hv, Bool.false_eq_true, if_false, Sem.run_pure]⟩
instance {k : Nat} {t : TypeId} {q : IntKind} {a b : Int} [h : IntT P t q] : EqV P (k + 1) t (.int q a) (.int q b) (a = b) := ⟨fun d w => ⟨_, run_equalIn_int w (d + k) t q q a b h.eq, by simp⟩⟩
class BoolT (P : Program) (t : TypeId) : Prop where
  eq : P.underlying t = some .bool
instance {k : Nat} {t : TypeId} {a b : Bool} [h : BoolT P t] : EqV P (k + 1) t (.bool a) (.bool b) (a = b) := ⟨fun d w => ⟨_, run_equalIn_bool' w (d + k) t a b h.eq, by simp⟩⟩
instance {k : Nat} {t : TypeId} {a b : ByteArray} [h : StrT P t] : EqV P (k + 1) t (.string a) (.string b) (a = b) := ⟨fun d w => ⟨_, run_equalIn_string w (d + k) t a b h.eq, by rw [str_beq]; simp⟩⟩
instance {k : Nat} {xs ys : List Value} : EqFs P k xs ys [] True := ⟨fun d w fs h _ => by
  have : fs = [] := by cases fs with | nil => rfl | cons f fs => simp at h
  subst this
  exact ⟨true, by simp [Op.eqFields], by simp⟩⟩
instance {k : Nat} {xs ys : List Value} {t : TypeId} {o : Nat} {l : List (TypeId × Nat)} {a b : Value} {p q : Prop} [h1 : PartAt P t xs o a] [h2 : PartAt P t ys o b] [h3 : EqV P k t a b p] [h4 : EqFs P k xs ys l q] : EqFs P k xs ys ((t, o) :: l) (p ∧ q) := ⟨fun d w fs h hn => by
  cases fs with
  | nil => simp at h
  | cons f fs =>
    simp only [List.map_cons, List.cons.injEq, Prod.mk.injEq] at h
    obtain ⟨⟨rfl, rfl⟩, h⟩ := h
    obtain ⟨r, e1, e2⟩ := h3.run d w
    obtain ⟨r', e3, e4⟩ := h4.run d w fs h (fun g hg => hn g (by simp [hg]))
    simp only [Op.eqFields, hn f (by simp), ne_eq, not_false_eq_true, if_true, Sem.run_bind, h1.run, h2.run, Result.andThen_ok, e1]
    cases r with
    | false => exact ⟨false, by simp, by simp; intro hp; exact absurd (e2.2 hp) (by simp)⟩
    | true => exact ⟨r', by simpa using e3, by rw [e4]; exact ⟨fun hq => ⟨e2.1 rfl, hq⟩, fun hq => hq.2⟩⟩⟩
instance {k : Nat} {e : TypeId} {c : Nat} {xs ys : List Value} : EqIs P k e c xs ys [] True := ⟨fun d w => ⟨true, by simp [Op.eqItems], by simp⟩⟩
instance {k : Nat} {e : TypeId} {c i m : Nat} {xs ys : List Value} {is : List Nat} {a b : Value} {p q : Prop} [hm : MulN i c m] [h1 : PartAt P e xs m a] [h2 : PartAt P e ys m b] [h3 : EqV P k e a b p] [h4 : EqIs P k e c xs ys is q] : EqIs P k e c xs ys (i :: is) (p ∧ q) := ⟨fun d w => by
  obtain ⟨r, e1, e2⟩ := h3.run d w
  obtain ⟨r', e3, e4⟩ := h4.run d w
  simp only [Op.eqItems, hm.eq, Sem.run_bind, h1.run, h2.run, Result.andThen_ok, e1]
  cases r with
  | false => exact ⟨false, by simp, by simp; intro hp; exact absurd (e2.2 hp) (by simp)⟩
  | true => exact ⟨r', by simpa using e3, by rw [e4]; exact ⟨fun hq => ⟨e2.1 rfl, hq⟩, fun hq => hq.2⟩⟩⟩
instance {k : Nat} {t : TypeId} {xs ys : List Value} {l : List (TypeId × Nat)} {p : Prop} [h : FieldsT P t l] [h1 : EqFs P k xs ys l p] : EqV P (k + 1) t (.agg xs.toArray) (.agg ys.toArray) p := ⟨fun d w => by
  obtain ⟨fs, e1, e2, e3, e4, _⟩ := h.eq
  have hf : P.fieldsOf t = fs := by simp [Program.fieldsOf, e1]
  have := run_equalIn_struct w (d + k) t xs.toArray ys.toArray (by rw [hf]; exact e1) e4
  rw [hf] at this
  obtain ⟨r, r1, r2⟩ := h1.run d w fs.toList e2 (fun f hf => by have := List.all_eq_true.1 e3 f hf; simpa using this)
  exact ⟨r, by rw [show d + (k + 1) = d + k + 1 from rfl, this]; exact r1, r2⟩⟩
instance {k : Nat} {t e n c : Nat} {agg : Bool} {xs ys : List Value} {is : List Nat} {p : Prop} [h : ArrT P t n e] [hz : TySz P e agg c] [hr : RangeL n is] [h1 : EqIs P k e c xs ys is p] : EqV P (k + 1) t (.agg xs.toArray) (.agg ys.toArray) p := ⟨fun d w => by
  obtain ⟨inf, dd, e1, e2, _, _⟩ := hz.eq
  have hc : P.cellsOf e = c := by simp [Program.cellsOf, e1, e2]
  have := run_equalIn_array w (d + k) xs.toArray ys.toArray h.eq e1
  rw [hc, hr.eq] at this
  obtain ⟨r, r1, r2⟩ := h1.run d w
  exact ⟨r, by rw [show d + (k + 1) = d + k + 1 from rfl, this]; exact r1, r2⟩⟩
variable {N : NN} {V : List HP} {h : PHeap} {e : Env}
theorem bool_dec {r : Bool} {p : Prop} [Decidable p] (h : r = true ↔ p) : r = decide p := by
  by_cases hp : p
  · rw [h.2 hp]; simp [hp]
  · cases r with
    | false => simp [hp]
    | true => exact absurd (h.1 rfl) hp
instance {a b : Operand} {t ty' : TypeId} {xs ys : List Value} {l : List (TypeId × Nat)} {p : Prop} [ha : Is (lkO e a) (some (.agg xs.toArray))] [hb : Is (lkO e b) (some (.agg ys.toArray))] [hf : FieldsT P t l] [he : EqV P 6 t (.agg xs.toArray) (.agg ys.toArray) p] [hp : Decidable p] :
    Soft P N V h e (.binOp .eql t a b ty') True (.bool (decide p)) := ⟨fun _ _ d ty pos af g ac w se _ => by
  obtain ⟨fs, _, _, _, _, hg⟩ := hf.eq
  obtain ⟨r, e1, e2⟩ := he.run 9994 w
  simp only [execOp, se.eval ha.eq, se.eval hb.eq, Sem.run_bind, run_eqGuard_agg w _ t a b _ _ hg, Result.andThen_ok, run_eql_struct]
  rw [show (10000 : Nat) = 9994 + 6 from rfl, e1]
  simp [bool_dec e2]⟩
instance {a b : Operand} {t ty' : TypeId} {xs ys : List Value} {l : List (TypeId × Nat)} {p : Prop} [ha : Is (lkO e a) (some (.agg xs.toArray))] [hb : Is (lkO e b) (some (.agg ys.toArray))] [hf : FieldsT P t l] [he : EqV P 6 t (.agg xs.toArray) (.agg ys.toArray) p] [hp : Decidable p] :
    Soft P N V h e (.binOp .neq t a b ty') True (.bool (decide (¬ p))) := ⟨fun _ _ d ty pos af g ac w se _ => by
  obtain ⟨fs, _, _, _, _, hg⟩ := hf.eq
  obtain ⟨r, e1, e2⟩ := he.run 9994 w
  simp only [execOp, se.eval ha.eq, se.eval hb.eq, Sem.run_bind, run_eqGuard_agg w _ t a b _ _ hg, Result.andThen_ok, run_neq_struct]
  rw [show (10000 : Nat) = 9994 + 6 from rfl, e1]
  simp [bool_dec e2]⟩
end
/-! ### What is owned, told otherwise, ahead of an operation -/
section
variable {P : Program} {N : NN} {k : List It} {Q : Post} {e : Env} {h h0 : PHeap} {L V : List HP} {ops l : List Oper} {i : Nat}
theorem GO1_conv {x y : HP} {L' : List HP} {o : Oper} (hxy : ∀ bs, x bs → y bs) [r : Rep L x y L'] (g : GO1 P N ops o l k Q e h L') : GO1 P N ops o l k Q e h L := fun a w s => by
  obtain ⟨R, p1, p2⟩ := r.eq
  exact g a w (s.ae.as (((s.st.perm p1).conv hxy).perm p2.symm))
theorem GD1_conv {x y : HP} {L' : List HP} {o : Oper} (hxy : ∀ bs, x bs → y bs) [r : Rep L x y L'] (g : GD1 P N ops V h0 i o l k Q e h L') : GD1 P N ops V h0 i o l k Q e h L := fun hl hc a w s => by
  obtain ⟨R, p1, p2⟩ := r.eq
  exact g hl hc a w (s.ae.as (((s.st.perm p1).conv hxy).perm p2.symm))
theorem GO1_fz {o : Oper} {x : HP} {R : List HP} (p : Pick L x R) (g : ∀ h', Hle h h' → Fz x h' → GO1 P N ops o l k Q e h' R) : GO1 P N ops o l k Q e h L := fun a w s => by
  obtain ⟨h', hl, hf, hs⟩ := (s.st.perm p.eq).freeze
  exact g h' hl hf a w (s.ae.as hs)
theorem GO1_frS {o : Oper} (v : Value) {α : Type} {enc : α → List Value} {sz : Nat} {xs : List α} {R : List HP} [p : PickO L v α enc sz xs R] (g : ∀ h', Le h h' → FSl h' v enc sz xs → GO1 P N ops o l k Q e h' R) : GO1 P N ops o l k Q e h L := GO1_fz ⟨p.eq⟩ fun h' hl f => g h' ⟨hl⟩ f.slo
theorem blk_slo {α : Type} {enc : α → List Value} {kk b T : Nat} {cs : List Value} {ys : List α} [d : Dec enc kk cs ys] [o : EncOne enc] (bs : List Chunk) (hb : blk b (.cells cs.toArray T (0, 0)) bs) : slo enc kk (.slice (some ⟨b, 0, none⟩) ys.length ys.length) ys bs :=
  ⟨fun y hy => ⟨d.eq.2 y hy, o.eq y⟩, .inr ⟨b, ys.length, [], T, rfl, Nat.le_refl _, by
    have : bs = [(b, .cells cs.toArray T (0, 0))] := hb
    rw [this, d.eq.1]; simp, by simp⟩⟩
class PickC (L : List HP) (b : Nat) (cs : outParam (List Value)) (T : outParam Nat) (R : outParam (List HP)) : Prop where
  eq : L.Perm (blk b (.cells cs.toArray T (0, 0)) :: R)
instance {b T : Nat} {cs : List Value} {L : List HP} : PickC (blk b (.cells cs.toArray T (0, 0)) :: L) b cs T L := ⟨.refl _⟩
instance (priority := low) {b T : Nat} {cs : List Value} {L R : List HP} {x : HP} [p : PickC L b cs T R] : PickC (x :: L) b cs T (x :: R) := ⟨(List.Perm.cons x p.eq).trans (.swap _ _ _)⟩
theorem own_st {α : Type} {enc : α → List Value} {kk b T : Nat} {cs : List Value} {ys : List α} {R : List HP} {w : World} (p : PickC L b cs T R) (d : Dec enc kk cs ys) (o : EncOne enc) (s : St h L w) : St h (slo enc kk (.slice (some ⟨b, 0, none⟩) ys.length ys.length) ys :: R) w := (s.perm p.eq).conv (blk_slo)
theorem GO1_own (b : Nat) {α : Type} (enc : α → List Value) (ys : List α) {kk T : Nat} {cs : List Value} {R : List HP} {o : Oper} [p : PickC L b cs T R] [d : Dec enc kk cs ys] [oo : EncOne enc] (g : GO1 P N ops o l k Q e h (slo enc kk (.slice (some ⟨b, 0, none⟩) ys.length ys.length) ys :: R)) : GO1 P N ops o l k Q e h L :=
  fun a w s => g a w (s.ae.as (own_st p d oo s.st))
theorem GD1_own (b : Nat) {α : Type} (enc : α → List Value) (ys : List α) {kk T : Nat} {cs : List Value} {R : List HP} {o : Oper} [p : PickC L b cs T R] [d : Dec enc kk cs ys] [oo : EncOne enc] (g : GD1 P N ops V h0 i o l k Q e h (slo enc kk (.slice (some ⟨b, 0, none⟩) ys.length ys.length) ys :: R)) : GD1 P N ops V h0 i o l k Q e h L :=
  fun hl hc a w s => g hl hc a w (s.ae.as (own_st p d oo s.st))
theorem G_own (b : Nat) {α : Type} (enc : α → List Value) (ys : List α) {kk T : Nat} {cs : List Value} {R : List HP} {c : Code} [p : PickC L b cs T R] [d : Dec enc kk cs ys] [oo : EncOne enc] (g : G P N c k Q e h (slo enc kk (.slice (some ⟨b, 0, none⟩) ys.length ys.length) ys :: R)) : G P N c k Q e h L :=
  fun a w s => g a w (s.ae.as (own_st p d oo s.st))
theorem X_own (b : Nat) {α : Type} (enc : α → List Value) (ys : List α) {kk T : Nat} {cs : List Value} {R : List HP} {c : Exit} [p : PickC L b cs T R] [d : Dec enc kk cs ys] [oo : EncOne enc] (g : X P N c k Q e h (slo enc kk (.slice (some ⟨b, 0, none⟩) ys.length ys.length) ys :: R)) : X P N c k Q e h L :=
  fun a w s => g a w (s.ae.as (own_st p d oo s.st))
/-- The fields of a struct: type, place, cells; how many cells there are. -/
class FieldsL (P : Program) (t : TypeId) (l : outParam (List (TypeId × Nat × Nat))) (n : outParam Nat) : Prop where
  eq : ∃ fs, P.underlying t = some (.struct fs) ∧ fs.toList.map (fun f => (f.type, f.offset, P.cellsOf f.type)) = l ∧ P.cellsOf t = n
end
end Go.Sl
