/-
  Facts that the proof is made of (F3).
-/
import Derived.Test.YtoekdnandjjeoaaGreatKF2
import Derived.Test.YtoekdnandjjeoaaGreatKP2
import Derived.Test.YtoekdnandjjeoaaGreatKC3
/-
  The document's spaces: what lies in memory; the tables that are made once.
-/
namespace Go.Sl
open Go.Proofs
set_option linter.unusedVariables false
set_option linter.unusedSimpArgs false
set_option maxRecDepth 10000
set_option synthInstance.maxSize 2000
set_option synthInstance.maxHeartbeats 200000
set_option maxHeartbeats 1000000
abbrev encB : Bool → List Value := fun b => [.bool b]
instance : EncOne encB := ⟨fun y u hu => by simp at hu; subst hu; rfl⟩
instance {b : Bool} : Mk encB [.bool b] b := ⟨rfl⟩
abbrev SV := Option Addr × Nat × Nat
@[reducible] def encSV (x : SV) : List Value := [.slice x.1 x.2.1 x.2.2]
instance : EncOne encSV := ⟨fun y u hu => by simp at hu; subst hu; rfl⟩
instance {a : Option Addr} {n c : Nat} : Mk encSV [.slice a n c] (a, n, c) := ⟨rfl⟩
def rankL (nodes : List Nd) (n : Nat) : List Int := (List.range n).map fun (k : Nat) => (mkTree nodes).rankF k
def rowL (nodes : List Nd) (k n : Nat) : List Bool := (List.range n).map fun (j : Nat) => decide (withinF nodes k j)
theorem rankL_succ (nodes : List Nd) (n : Nat) : rankL nodes (n + 1) = rankL nodes n ++ [(mkTree nodes).rankF n] := by unfold rankL; rw [List.range_succ, List.map_append]; rfl
theorem rowL_succ (nodes : List Nd) (k n : Nat) : rowL nodes k (n + 1) = rowL nodes k n ++ [decide (withinF nodes k n)] := by unfold rowL; rw [List.range_succ, List.map_append]; rfl
theorem rankL_len (nodes : List Nd) (n : Nat) : (rankL nodes n).length = n := by simp [rankL]
theorem rowL_len (nodes : List Nd) (k n : Nat) : (rowL nodes k n).length = n := by simp [rowL]
theorem rankL_get {nodes : List Nd} {n k : Nat} (h : k < n) : (rankL nodes n)[k]! = (mkTree nodes).rankF k := by
  rw [getElem!_pos _ k (by rw [rankL_len]; exact h)]; simp [rankL]
theorem rowL_get {nodes : List Nd} {k n j : Nat} (h : j < n) : (rowL nodes k n)[j]! = decide (withinF nodes k j) := by
  rw [getElem!_pos _ j (by rw [rowL_len]; exact h)]; simp [rowL]
/-- One dimension's rows of a table. -/
def RowsOk (h : PHeap) (v : Value) (nodes : List Nd) : Prop := ∃ rows, FSl h v encV 1 rows ∧ rows.length = nodes.length ∧ ∀ k < rows.length, FSl h (rows[k]!) encB 1 (rowL nodes k nodes.length)
theorem RowsOk.mono {h h' : PHeap} {v : Value} {nodes : List Nd} (hl : Hle h h') (r : RowsOk h v nodes) : RowsOk h' v nodes := by
  obtain ⟨rows, h1, h2, h3⟩ := r
  exact ⟨rows, FSl.mono hl h1, h2, fun k hk => FSl.mono hl (h3 k hk)⟩
/-- The tables of the first n dimensions. -/
structure TabTo (h : PHeap) (C : Cat) (n : Nat) (lvs rvs ivs : List Value) : Prop where
  ll : lvs.length = n
  rl : rvs.length = n
  il : ivs.length = n
  all : ∀ i < n, FSl h (lvs[i]!) encI 1 (mkTree (C.dims[i]!).2).leaves ∧ FSl h (rvs[i]!) encI 1 (rankL (C.dims[i]!).2 (C.dims[i]!).2.length) ∧ RowsOk h (ivs[i]!) (C.dims[i]!).2
theorem TabTo.mono {h h' : PHeap} {C : Cat} {n : Nat} {lvs rvs ivs : List Value} (hl : Hle h h') (t : TabTo h C n lvs rvs ivs) : TabTo h' C n lvs rvs ivs :=
  ⟨t.ll, t.rl, t.il, fun i hi => ⟨FSl.mono hl (t.all i hi).1, FSl.mono hl (t.all i hi).2.1, (t.all i hi).2.2.mono hl⟩⟩
theorem get_snoc {xs : List Value} {v : Value} {n i : Nat} (h : xs.length = n) (hi : i < n + 1) : (xs ++ [v])[i]! = if i < n then xs[i]! else v := by
  rw [getElem!_pos _ i (by simp; omega)]
  split
  · rw [List.getElem_append_left (by omega), getElem!_pos xs i (by omega)]
  · rw [List.getElem_append_right (by omega)]; simp [show i - xs.length = 0 by omega]
theorem TabTo.snoc {h : PHeap} {C : Cat} {n : Nat} {lvs rvs ivs : List Value} {lv rv iv : Value} (t : TabTo h C n lvs rvs ivs) (h1 : FSl h lv encI 1 (mkTree (C.dims[n]!).2).leaves) (h2 : FSl h rv encI 1 (rankL (C.dims[n]!).2 (C.dims[n]!).2.length)) (h3 : RowsOk h iv (C.dims[n]!).2) :
    TabTo h C (n + 1) (lvs ++ [lv]) (rvs ++ [rv]) (ivs ++ [iv]) := ⟨by simp [t.ll], by simp [t.rl], by simp [t.il], fun i hi => by
  rw [get_snoc t.ll hi, get_snoc t.rl hi, get_snoc t.il hi]
  split
  · rename_i hlt; exact t.all i hlt
  · have : i = n := by omega
    subst this; exact ⟨h1, h2, h3⟩⟩
/-- The tables, as they lie when they are made. -/
class RTab (h : PHeap) (C : Cat) (lv rv iv : Value) : Prop where
  out : ∃ lvs rvs ivs, FSl h lv encV 1 lvs ∧ FSl h rv encV 1 rvs ∧ FSl h iv encV 1 ivs ∧ TabTo h C C.dims.length lvs rvs ivs
theorem RTab.mono {h h' : PHeap} {C : Cat} {lv rv iv : Value} (hl : Hle h h') (t : RTab h C lv rv iv) : RTab h' C lv rv iv := ⟨by
  obtain ⟨lvs, rvs, ivs, h1, h2, h3, h4⟩ := t.out
  exact ⟨lvs, rvs, ivs, FSl.mono hl h1, FSl.mono hl h2, FSl.mono hl h3, h4.mono hl⟩⟩
/-- Tables that are made, or not. -/
def TabOr (h : PHeap) (C : Cat) (lv rv iv : Value) : Prop := (lv = .slice none 0 0 ∧ rv = .slice none 0 0 ∧ iv = .slice none 0 0) ∨ RTab h C lv rv iv
/-- The leaves of cells that were asked for. -/
def UndOk (h : PHeap) (C : Cat) (kn : Bool) (us : List SV) (ks : List Bool) : Prop :=
  (kn = false ∧ ks = [] ∧ us = []) ∨ (ks.length = (cellsF C C.dims.length).toNat ∧ us.length = ks.length ∧ ∀ n < ks.length, ks[n]! = true → (us[n]!).2.1 = (underAt C n).length ∧ FSl h (.slice (us[n]!).1 (us[n]!).2.1 (us[n]!).2.2) encI 1 (underAt C n))
theorem UndOk.mono {h h' : PHeap} {C : Cat} {kn : Bool} {us : List SV} {ks : List Bool} (hl : Hle h h') (u : UndOk h C kn us ks) : UndOk h' C kn us ks := by
  rcases u with u | ⟨h1, h2, h3⟩
  · exact .inl u
  · exact .inr ⟨h1, h2, fun n hn hk => ⟨(h3 n hn hk).1, FSl.mono hl (h3 n hn hk).2⟩⟩
structure RspOk (h : PHeap) (C : Cat) (kn : Bool) (db : Nat) (lv rv iv : Value) (us : List SV) (ks : List Bool) : Prop where
  rd : IsRD h db C
  ok : OkCat C
  tab : TabOr h C lv rv iv
  und : UndOk h C kn us ks
theorem RspOk.mono {h h' : PHeap} {C : Cat} {kn : Bool} {db : Nat} {lv rv iv : Value} {us : List SV} {ks : List Bool} (hl : Hle h h') (r : RspOk h C kn db lv rv iv us ks) : RspOk h' C kn db lv rv iv us ks :=
  ⟨r.rd.mono hl, r.ok, r.tab.imp id (·.mono hl), r.und.mono hl⟩
abbrev rspB (b db : Nat) (lv rv iv uv kv : Value) : HP := blk b (.cells [.pointer (some ⟨db, 0, none⟩), lv, rv, iv, uv, kv].toArray 133 (0, 0))
/-- A space of the document's at block b. -/
def rsp (h : PHeap) (b : Nat) (C : Cat) (kn : Bool) : HP := fun bs => ∃ db lv rv iv ua uc ka kc us ks b1 b2 b3, bs = b1 ++ (b2 ++ b3) ∧ RspOk h C kn db lv rv iv us ks ∧
  rspB b db lv rv iv (.slice ua us.length uc) (.slice ka ks.length kc) b1 ∧ slo encSV 1 (.slice ua us.length uc) us b2 ∧ slo encB 1 (.slice ka ks.length kc) ks b3
theorem rsp_mono {h h' : PHeap} {b : Nat} {C : Cat} {kn : Bool} (hl : Hle h h') : ∀ bs, rsp h b C kn bs → rsp h' b C kn bs := by
  rintro bs ⟨db, lv, rv, iv, ua, uc, ka, kc, us, ks, b1, b2, b3, e, h1, h2⟩
  exact ⟨db, lv, rv, iv, ua, uc, ka, kc, us, ks, b1, b2, b3, e, h1.mono hl, h2⟩
theorem St.rspOut {h : PHeap} {b : Nat} {C : Cat} {kn : Bool} {L : List HP} {w : World} (s : St h (rsp h b C kn :: L) w) : ∃ db lv rv iv ua uc ka kc us ks, RspOk h C kn db lv rv iv us ks ∧
    St h (rspB b db lv rv iv (.slice ua us.length uc) (.slice ka ks.length kc) :: slo encSV 1 (.slice ua us.length uc) us :: slo encB 1 (.slice ka ks.length kc) ks :: L) w := by
  obtain ⟨bs, ⟨b1, b2, rfl, ⟨db, lv, rv, iv, ua, uc, ka, kc, us, ks, c1, c2, c3, rfl, h1, h2, h3, h4⟩, hd⟩, s0⟩ := s
  exact ⟨db, lv, rv, iv, ua, uc, ka, kc, us, ks, h1, c1 ++ (c2 ++ (c3 ++ b2)), ⟨c1, _, rfl, h2, c2, _, rfl, h3, c3, b2, rfl, h4, hd⟩, by simpa using s0⟩
theorem St.rspIn {h : PHeap} {b : Nat} {C : Cat} {kn : Bool} {L : List HP} {w : World} {db : Nat} {lv rv iv : Value} {ua ka : Option Addr} {uc kc : Nat} {us : List SV} {ks : List Bool} (r : RspOk h C kn db lv rv iv us ks)
    (s : St h (rspB b db lv rv iv (.slice ua us.length uc) (.slice ka ks.length kc) :: slo encSV 1 (.slice ua us.length uc) us :: slo encB 1 (.slice ka ks.length kc) ks :: L) w) : St h (rsp h b C kn :: L) w := by
  obtain ⟨bs, ⟨c1, _, rfl, h2, c2, _, rfl, h3, c3, b2, rfl, h4, hd⟩, s0⟩ := s
  exact ⟨(c1 ++ (c2 ++ c3)) ++ b2, ⟨c1 ++ (c2 ++ c3), b2, rfl, ⟨db, lv, rv, iv, ua, uc, ka, kc, us, ks, c1, c2, c3, rfl, r, h2, h3, h4⟩, hd⟩, by simpa using s0⟩
/-- A space of the document's at block b, its tables made. -/
def rspP (h : PHeap) (b : Nat) (C : Cat) (kn : Bool) : HP := fun bs => ∃ db lv rv iv ua uc ka kc us ks b1 b2 b3, bs = b1 ++ (b2 ++ b3) ∧ (RspOk h C kn db lv rv iv us ks ∧ RTab h C lv rv iv) ∧
  rspB b db lv rv iv (.slice ua us.length uc) (.slice ka ks.length kc) b1 ∧ slo encSV 1 (.slice ua us.length uc) us b2 ∧ slo encB 1 (.slice ka ks.length kc) ks b3
theorem rspP_rsp {h h' : PHeap} {b : Nat} {C : Cat} {kn : Bool} (hl : Hle h h') : ∀ bs, rspP h b C kn bs → rsp h' b C kn bs := by
  rintro bs ⟨db, lv, rv, iv, ua, uc, ka, kc, us, ks, b1, b2, b3, e, h1, h2⟩
  exact ⟨db, lv, rv, iv, ua, uc, ka, kc, us, ks, b1, b2, b3, e, h1.1.mono hl, h2⟩
theorem rspP_mono {h h' : PHeap} {b : Nat} {C : Cat} {kn : Bool} (hl : Hle h h') : ∀ bs, rspP h b C kn bs → rspP h' b C kn bs := by
  rintro bs ⟨db, lv, rv, iv, ua, uc, ka, kc, us, ks, b1, b2, b3, e, h1, h2⟩
  exact ⟨db, lv, rv, iv, ua, uc, ka, kc, us, ks, b1, b2, b3, e, ⟨h1.1.mono hl, h1.2.mono hl⟩, h2⟩
theorem St.rspPOut {h : PHeap} {b : Nat} {C : Cat} {kn : Bool} {L : List HP} {w : World} (s : St h (rspP h b C kn :: L) w) : ∃ db lv rv iv ua uc ka kc us ks, RspOk h C kn db lv rv iv us ks ∧ RTab h C lv rv iv ∧
    St h (rspB b db lv rv iv (.slice ua us.length uc) (.slice ka ks.length kc) :: slo encSV 1 (.slice ua us.length uc) us :: slo encB 1 (.slice ka ks.length kc) ks :: L) w := by
  obtain ⟨bs, ⟨b1, b2, rfl, ⟨db, lv, rv, iv, ua, uc, ka, kc, us, ks, c1, c2, c3, rfl, h1, h2, h3, h4⟩, hd⟩, s0⟩ := s
  exact ⟨db, lv, rv, iv, ua, uc, ka, kc, us, ks, h1.1, h1.2, c1 ++ (c2 ++ (c3 ++ b2)), ⟨c1, _, rfl, h2, c2, _, rfl, h3, c3, b2, rfl, h4, hd⟩, by simpa using s0⟩
theorem St.rspPIn {h : PHeap} {b : Nat} {C : Cat} {kn : Bool} {L : List HP} {w : World} {db : Nat} {lv rv iv : Value} {ua ka : Option Addr} {uc kc : Nat} {us : List SV} {ks : List Bool} (r : RspOk h C kn db lv rv iv us ks) (hR : RTab h C lv rv iv)
    (s : St h (rspB b db lv rv iv (.slice ua us.length uc) (.slice ka ks.length kc) :: slo encSV 1 (.slice ua us.length uc) us :: slo encB 1 (.slice ka ks.length kc) ks :: L) w) : St h (rspP h b C kn :: L) w := by
  obtain ⟨bs, ⟨c1, _, rfl, h2, c2, _, rfl, h3, c3, b2, rfl, h4, hd⟩, s0⟩ := s
  exact ⟨(c1 ++ (c2 ++ c3)) ++ b2, ⟨c1 ++ (c2 ++ c3), b2, rfl, ⟨db, lv, rv, iv, ua, uc, ka, kc, us, ks, c1, c2, c3, rfl, ⟨r, hR⟩, h2, h3, h4⟩, hd⟩, by simpa using s0⟩
class PickR (L : List HP) (b : Nat) (h0 : outParam PHeap) (C : outParam Cat) (kn : outParam Bool) (R : outParam (List HP)) : Prop where
  eq : ∃ x, L.Perm (x :: R) ∧ ∀ h', Hle h0 h' → ∀ bs, x bs → rsp h' b C kn bs
instance {b : Nat} {h0 : PHeap} {C : Cat} {kn : Bool} {L : List HP} : PickR (rsp h0 b C kn :: L) b h0 C kn L := ⟨_, .refl _, fun _ hl => rsp_mono hl⟩
instance {b : Nat} {h0 : PHeap} {C : Cat} {kn : Bool} {L : List HP} : PickR (rspP h0 b C kn :: L) b h0 C kn L := ⟨_, .refl _, fun _ hl => rspP_rsp hl⟩
instance (priority := low) {b : Nat} {h0 : PHeap} {C : Cat} {kn : Bool} {L R : List HP} {x : HP} [p : PickR L b h0 C kn R] : PickR (x :: L) b h0 C kn (x :: R) := ⟨by
  obtain ⟨y, h1, h2⟩ := p.eq
  exact ⟨y, (List.Perm.cons x h1).trans (.swap _ _ _), h2⟩⟩
theorem pick_st {h h0 : PHeap} {b : Nat} {C : Cat} {kn : Bool} {L R : List HP} {w : World} (p : PickR L b h0 C kn R) (l : LeT h0 h) (s : St h L w) : St h (rsp h b C kn :: R) w := by
  obtain ⟨x, h1, h2⟩ := p.eq
  exact (s.perm h1).conv (h2 h l.le)
class PickP (L : List HP) (b : Nat) (h0 : outParam PHeap) (C : outParam Cat) (kn : outParam Bool) (R : outParam (List HP)) : Prop where
  eq : L.Perm (rspP h0 b C kn :: R)
instance {b : Nat} {h0 : PHeap} {C : Cat} {kn : Bool} {L : List HP} : PickP (rspP h0 b C kn :: L) b h0 C kn L := ⟨.refl _⟩
instance (priority := low) {b : Nat} {h0 : PHeap} {C : Cat} {kn : Bool} {L R : List HP} {x : HP} [p : PickP L b h0 C kn R] : PickP (x :: L) b h0 C kn (x :: R) := ⟨(List.Perm.cons x p.eq).trans (.swap _ _ _)⟩
theorem pickP_st {h h0 : PHeap} {b : Nat} {C : Cat} {kn : Bool} {L R : List HP} {w : World} (p : PickP L b h0 C kn R) (l : LeT h0 h) (s : St h L w) : St h (rspP h b C kn :: R) w := (s.perm p.eq).conv (rspP_mono l.le)
section
variable {P : Program} {N : NN} {k : List It} {Q : Post} {e : Env} {h h0 : PHeap} {L V R : List HP} {ops l : List Oper} {i b : Nat} {C : Cat} {kn : Bool}
theorem G_rsp {c : Code} (b : Nat) [p : PickR L b h0 C kn R] [hl : LeT h0 h] (g : ∀ db lv rv iv ua uc ka kc us ks, RspOk h C kn db lv rv iv us ks →
    G P N c k Q e h (rspB b db lv rv iv (.slice ua us.length uc) (.slice ka ks.length kc) :: slo encSV 1 (.slice ua us.length uc) us :: slo encB 1 (.slice ka ks.length kc) ks :: R)) : G P N c k Q e h L := fun a w s => by
  obtain ⟨db, lv, rv, iv, ua, uc, ka, kc, us, ks, h1, st⟩ := (pick_st p hl s.st).rspOut
  exact g db lv rv iv ua uc ka kc us ks h1 a w (s.ae.as st)
theorem GO1_rsp {o : Oper} (b : Nat) [p : PickR L b h0 C kn R] [hl : LeT h0 h] (g : ∀ db lv rv iv ua uc ka kc us ks, RspOk h C kn db lv rv iv us ks →
    GO1 P N ops o l k Q e h (rspB b db lv rv iv (.slice ua us.length uc) (.slice ka ks.length kc) :: slo encSV 1 (.slice ua us.length uc) us :: slo encB 1 (.slice ka ks.length kc) ks :: R)) : GO1 P N ops o l k Q e h L := fun a w s => by
  obtain ⟨db, lv, rv, iv, ua, uc, ka, kc, us, ks, h1, st⟩ := (pick_st p hl s.st).rspOut
  exact g db lv rv iv ua uc ka kc us ks h1 a w (s.ae.as st)
theorem G_rspP {c : Code} (b : Nat) [p : PickP L b h0 C kn R] [hl : LeT h0 h] (g : ∀ db lv rv iv ua uc ka kc us ks, RspOk h C kn db lv rv iv us ks → RTab h C lv rv iv →
    G P N c k Q e h (rspB b db lv rv iv (.slice ua us.length uc) (.slice ka ks.length kc) :: slo encSV 1 (.slice ua us.length uc) us :: slo encB 1 (.slice ka ks.length kc) ks :: R)) : G P N c k Q e h L := fun a w s => by
  obtain ⟨db, lv, rv, iv, ua, uc, ka, kc, us, ks, h1, h2, st⟩ := (pickP_st p hl s.st).rspPOut
  exact g db lv rv iv ua uc ka kc us ks h1 h2 a w (s.ae.as st)
theorem GO1_rspP {o : Oper} (b : Nat) [p : PickP L b h0 C kn R] [hl : LeT h0 h] (g : ∀ db lv rv iv ua uc ka kc us ks, RspOk h C kn db lv rv iv us ks → RTab h C lv rv iv →
    GO1 P N ops o l k Q e h (rspB b db lv rv iv (.slice ua us.length uc) (.slice ka ks.length kc) :: slo encSV 1 (.slice ua us.length uc) us :: slo encB 1 (.slice ka ks.length kc) ks :: R)) : GO1 P N ops o l k Q e h L := fun a w s => by
  obtain ⟨db, lv, rv, iv, ua, uc, ka, kc, us, ks, h1, h2, st⟩ := (pickP_st p hl s.st).rspPOut
  exact g db lv rv iv ua uc ka kc us ks h1 h2 a w (s.ae.as st)
class Pick3 (L : List HP) (b : Nat) (db : outParam Nat) (lv rv iv : outParam Value) (ua : outParam (Option Addr)) (uc : outParam Nat) (ka : outParam (Option Addr)) (kc : outParam Nat) (us : outParam (List SV)) (ks : outParam (List Bool)) (R : outParam (List HP)) : Prop where
  eq : L.Perm (rspB b db lv rv iv (.slice ua us.length uc) (.slice ka ks.length kc) :: slo encSV 1 (.slice ua us.length uc) us :: slo encB 1 (.slice ka ks.length kc) ks :: R)
instance {db un kn : Nat} {lv rv iv : Value} {ua ka : Option Addr} {uc kc : Nat} {us : List SV} {ks : List Bool} {R1 R2 R3 : List HP} {T : Nat} [p1 : PickC L b [.pointer (some ⟨db, 0, none⟩), lv, rv, iv, .slice ua un uc, .slice ka kn kc] T R1] [hT : Is T 133]
    [p2 : PickO R1 (.slice ua un uc) SV encSV 1 us R2] [p3 : PickO R2 (.slice ka kn kc) Bool encB 1 ks R3] [e1 : Is us.length un] [e2 : Is ks.length kn] : Pick3 L b db lv rv iv ua uc ka kc us ks R3 := ⟨by
  have := e1.eq
  have := e2.eq
  have := hT.eq
  subst_vars
  exact p1.eq.trans (List.Perm.cons _ (p2.eq.trans (List.Perm.cons _ p3.eq)))⟩
theorem G_rspIn {c : Code} (b : Nat) {db : Nat} {lv rv iv : Value} {ua ka : Option Addr} {uc kc : Nat} {us : List SV} {ks : List Bool} [p : Pick3 L b db lv rv iv ua uc ka kc us ks R] (r : RspOk h C kn db lv rv iv us ks) (g : G P N c k Q e h (rsp h b C kn :: R)) : G P N c k Q e h L :=
  fun a w s => g a w (s.ae.as (St.rspIn r (s.st.perm p.eq)))
theorem X_rspIn {c : Exit} (b : Nat) {db : Nat} {lv rv iv : Value} {ua ka : Option Addr} {uc kc : Nat} {us : List SV} {ks : List Bool} [p : Pick3 L b db lv rv iv ua uc ka kc us ks R] (r : RspOk h C kn db lv rv iv us ks) (g : X P N c k Q e h (rsp h b C kn :: R)) : X P N c k Q e h L :=
  fun a w s => g a w (s.ae.as (St.rspIn r (s.st.perm p.eq)))
theorem G_rspPIn {c : Code} (b : Nat) {db : Nat} {lv rv iv : Value} {ua ka : Option Addr} {uc kc : Nat} {us : List SV} {ks : List Bool} [p : Pick3 L b db lv rv iv ua uc ka kc us ks R] (r : RspOk h C kn db lv rv iv us ks) (hR : RTab h C lv rv iv) (g : G P N c k Q e h (rspP h b C kn :: R)) : G P N c k Q e h L :=
  fun a w s => g a w (s.ae.as (St.rspPIn r hR (s.st.perm p.eq)))
theorem X_rspPIn {c : Exit} (b : Nat) {db : Nat} {lv rv iv : Value} {ua ka : Option Addr} {uc kc : Nat} {us : List SV} {ks : List Bool} [p : Pick3 L b db lv rv iv ua uc ka kc us ks R] (r : RspOk h C kn db lv rv iv us ks) (hR : RTab h C lv rv iv) (g : X P N c k Q e h (rspP h b C kn :: R)) : X P N c k Q e h L :=
  fun a w s => g a w (s.ae.as (St.rspPIn r hR (s.st.perm p.eq)))
theorem GO1_rspIn {o : Oper} (b : Nat) {db : Nat} {lv rv iv : Value} {ua ka : Option Addr} {uc kc : Nat} {us : List SV} {ks : List Bool} [p : Pick3 L b db lv rv iv ua uc ka kc us ks R] (r : RspOk h C kn db lv rv iv us ks) (g : GO1 P N ops o l k Q e h (rsp h b C kn :: R)) : GO1 P N ops o l k Q e h L :=
  fun a w s => g a w (s.ae.as (St.rspIn r (s.st.perm p.eq)))
theorem spec_rsp {f : FuncId} {vs : List Value} {T : Kont → Prop} [p : PickR L b h0 C kn R] [hl : LeT h0 h] (s : Spec P f vs h [rsp h b C kn] T) : ∃ Lp, L.Perm (Lp ++ R) ∧ Spec P f vs h Lp T :=
  by
  obtain ⟨x, h1, h2⟩ := p.eq
  exact ⟨[x], h1, fun K R' w hT st => s K R' w hT (St.conv (h2 h hl.le) st)⟩
instance {n : Nat} : ToN ((n : Int) + 1 - 1) n := ⟨by omega⟩
end
end Go.Sl

/-
  The document's spaces: the tables are made.
-/
namespace Go.Sl
open Go.Proofs
set_option linter.unusedVariables false
set_option linter.unusedSimpArgs false
set_option maxRecDepth 10000
set_option synthInstance.maxSize 2000
set_option synthInstance.maxHeartbeats 200000
set_option maxHeartbeats 1000000
section
variable {h : PHeap} {b : Nat} {C : Cat} {kn : Bool}
theorem prepare_spec : Spec Tryz.prog 98 [.pointer (some ⟨b, 0, none⟩)] h [rsp h b C kn]
    (fun K => ∀ h' db lv rv iv ua uc ka kc us ks, Le h h' → RspOk h' C kn db lv rv iv us ks → RTab h' C lv rv iv →
      K (.tuple ([] : List Value).toArray) h' [rspB b db lv rv iv (.slice ua us.length uc) (.slice ka ks.length kc), slo encSV 1 (.slice ua us.length uc) us, slo encB 1 (.slice ka ks.length kc) ks]) := by
  refine spec_enter Tryz.func98 rfl Tryz.ntmps98 Tryz.results98 (by simp) fun K R hT => ?_
  refine G_rsp b fun db lv rv iv ua uc ka kc us ks hok => ?_
  obtain ⟨dv, mv, tv, ds, tbs, ty, fr, d1, d2, d3, d4, d5, d6, d7⟩ := hok.rd.out
  have ok := hok.ok
  have hd := ok.dims
  rcases hok.tab with ⟨rfl, rfl, rfl⟩ | hR
  rotate_left
  · obtain ⟨lvs, rvs, ivs, t1, t2, t3, t4⟩ := hR.out
    have htl := t4.ll
    have hfin := hT h db lv rv iv ua uc ka kc us ks ⟨Hle.refl h⟩ hok hR
    repeat (first | refine Step.imp ?_ | refine Side.mk (by first | exact True.intro | omega | exact ⟨trivial, rfl⟩ | exact ⟨by omega, trivial, rfl⟩ | exact ⟨by omega, rfl⟩ | exact ⟨by omega, by omega, rfl⟩ | (simp only [List.length_cons, List.length_nil, List.length_append]; done) | (simp only [List.length_cons, List.length_nil, List.length_append]; omega) | decide +kernel) ?_ | refine GDraw_one (by decide +kernel) ?_ | refine New.mk fun _ => ?_ | refine NewS.mk fun _ _ => ?_)
    refine ⟨fun _ => ?_, fun hne => absurd (by omega) hne⟩
    repeat (first | refine Step.imp ?_ | refine Side.mk (by first | exact True.intro | omega | exact ⟨trivial, rfl⟩ | exact ⟨by omega, trivial, rfl⟩ | exact ⟨by omega, rfl⟩ | exact ⟨by omega, by omega, rfl⟩ | (simp only [List.length_cons, List.length_nil, List.length_append]; done) | (simp only [List.length_cons, List.length_nil, List.length_append]; omega) | decide +kernel) ?_ | refine GDraw_one (by decide +kernel) ?_ | refine New.mk fun _ => ?_ | refine NewS.mk fun _ _ => ?_)
    exact Fin.val hfin rfl (Hle.refl _)
  repeat (first | refine Step.imp ?_ | refine Side.mk (by first | exact True.intro | omega | exact ⟨trivial, rfl⟩ | exact ⟨by omega, trivial, rfl⟩ | exact ⟨by omega, rfl⟩ | exact ⟨by omega, by omega, rfl⟩ | (simp only [List.length_cons, List.length_nil, List.length_append]; done) | (simp only [List.length_cons, List.length_nil, List.length_append]; omega) | decide +kernel) ?_ | refine GDraw_one (by decide +kernel) ?_ | refine New.mk fun _ => ?_ | refine NewS.mk fun _ _ => ?_)
  refine ⟨fun he => absurd he (by omega), fun _ => ?_⟩
  repeat (first | refine Step.imp ?_ | refine Side.mk (by first | exact True.intro | omega | exact ⟨trivial, rfl⟩ | exact ⟨by omega, trivial, rfl⟩ | exact ⟨by omega, rfl⟩ | exact ⟨by omega, by omega, rfl⟩ | (simp only [List.length_cons, List.length_nil, List.length_append]; done) | (simp only [List.length_cons, List.length_nil, List.length_append]; omega) | decide +kernel) ?_ | refine GDraw_one (by decide +kernel) ?_ | refine New.mk fun _ => ?_ | refine NewS.mk fun _ _ => ?_)
  refine G_nil encV 1 none ?_
  refine G_nil encV 1 none ?_
  refine G_nil encV 1 none ?_
  refine G_loop (σ := Nat × PHeap × (Option Addr × Nat) × (Option Addr × Nat) × (Option Addr × Nat) × List Value × List Value × List Value) (fun s => s.1 ≤ C.dims.length ∧ Hle h s.2.1 ∧ TabTo s.2.1 C s.1 s.2.2.2.2.2.1 s.2.2.2.2.2.2.1 s.2.2.2.2.2.2.2) (fun s => C.dims.length - s.1)
    (fun s => [(2, vI s.1), (0, .pointer (some ⟨b, 0, none⟩))]) (fun s => s.2.1)
    (fun s => slo encV 1 (.slice s.2.2.1.1 s.2.2.2.2.2.1.length s.2.2.1.2) s.2.2.2.2.2.1 :: slo encV 1 (.slice s.2.2.2.1.1 s.2.2.2.2.2.2.1.length s.2.2.2.1.2) s.2.2.2.2.2.2.1 :: slo encV 1 (.slice s.2.2.2.2.1.1 s.2.2.2.2.2.2.2.length s.2.2.2.2.1.2) s.2.2.2.2.2.2.2 ::
      rspB b db (.slice s.2.2.1.1 s.2.2.2.2.2.1.length s.2.2.1.2) (.slice s.2.2.2.1.1 s.2.2.2.2.2.2.1.length s.2.2.2.1.2) (.slice s.2.2.2.2.1.1 s.2.2.2.2.2.2.2.length s.2.2.2.2.1.2) (.slice ua us.length uc) (.slice ka ks.length kc) ::
      slo encSV 1 (.slice ua us.length uc) us :: slo encB 1 (.slice ka ks.length kc) ks :: R)
    (0, h, (none, 0), (none, 0), (none, 0), [], [], []) ⟨by omega, Hle.refl h, ⟨rfl, rfl, rfl, fun i hi => by omega⟩⟩ ⟨rfl, rfl, trivial⟩ rfl inferInstance ?_
  rintro ⟨i, h2, ⟨la, lc⟩, ⟨ra, rc⟩, ⟨ia, ic⟩, lvs, rvs, ivs⟩ ⟨hi, hl2, htab⟩
  simp only at hi hl2 htab ⊢
  have e1 := htab.ll
  have e2 := htab.rl
  have e3 := htab.il
  haveI le2 : Le h h2 := ⟨hl2⟩
  repeat (first | refine Step.imp ?_ | refine Side.mk (by first | exact True.intro | omega | exact ⟨trivial, rfl⟩ | exact ⟨by omega, trivial, rfl⟩ | exact ⟨by omega, rfl⟩ | exact ⟨by omega, by omega, rfl⟩ | (simp only [List.length_cons, List.length_nil, List.length_append]; done) | (simp only [List.length_cons, List.length_nil, List.length_append]; omega) | decide +kernel) ?_ | refine GDraw_one (by decide +kernel) ?_ | refine New.mk fun _ => ?_ | refine NewS.mk fun _ _ => ?_)
  refine ⟨fun hlt => ?_, fun hge => ?_⟩
  · have hIT := (d7 i (by omega)).mono hl2
    haveI hokt : OkT (C.dims[i]!).2 := ⟨(ok.trees i (by omega)).2⟩
    have hsm := tree_small (ok.trees i (by omega)).2
    obtain ⟨nodes, hnodes⟩ : ∃ nodes, nodes = (C.dims[i]!).2 := ⟨_, rfl⟩
    rw [← hnodes] at hIT hokt hsm
    have hIT' := hIT
    obtain ⟨tnv, tty, tfr, t1, t2⟩ := hIT'.out
    repeat (first | refine Step.imp ?_ | refine Side.mk (by first | exact True.intro | omega | exact ⟨trivial, rfl⟩ | exact ⟨by omega, trivial, rfl⟩ | exact ⟨by omega, rfl⟩ | exact ⟨by omega, by omega, rfl⟩ | (simp only [List.length_cons, List.length_nil, List.length_append]; done) | (simp only [List.length_cons, List.length_nil, List.length_append]; omega) | decide +kernel) ?_ | refine GDraw_one (by decide +kernel) ?_ | refine New.mk fun _ => ?_ | refine NewS.mk fun _ _ => ?_)
    intro va vc
    repeat (first | refine Step.imp ?_ | refine Side.mk (by first | exact True.intro | omega | exact ⟨trivial, rfl⟩ | exact ⟨by omega, trivial, rfl⟩ | exact ⟨by omega, rfl⟩ | exact ⟨by omega, by omega, rfl⟩ | (simp only [List.length_cons, List.length_nil, List.length_append]; done) | (simp only [List.length_cons, List.length_nil, List.length_append]; omega) | decide +kernel) ?_ | refine GDraw_one (by decide +kernel) ?_ | refine New.mk fun _ => ?_ | refine NewS.mk fun _ _ => ?_)
    rename_i b1 la1 lc1
    refine G_nil encI 1 none ?_
    refine G_nil encV 1 none ?_
    refine G_loop (σ := Nat × PHeap × (Option Addr × Nat) × (Option Addr × Nat) × List Value) (fun s => s.1 ≤ nodes.length ∧ Hle h2 s.2.1 ∧ s.2.2.2.2.length = s.1 ∧ ∀ k < s.1, FSl s.2.1 (s.2.2.2.2[k]!) encB 1 (rowL nodes k nodes.length)) (fun s => nodes.length - s.1)
      (fun s => [(6, vI s.1), (4, .slice s.2.2.1.1 (rankL nodes s.1).length s.2.2.1.2), (5, .slice s.2.2.2.1.1 s.2.2.2.2.length s.2.2.2.1.2), (3, .pointer (some ⟨tbs[i]!, 0, none⟩)), (2, vI i), (0, .pointer (some ⟨b, 0, none⟩))]) (fun s => s.2.1)
      (fun s => slo encI 1 (.slice s.2.2.1.1 (rankL nodes s.1).length s.2.2.1.2) (rankL nodes s.1) :: slo encV 1 (.slice s.2.2.2.1.1 s.2.2.2.2.length s.2.2.2.1.2) s.2.2.2.2 :: slo encI 1 (.slice va (mkTree nodes).leaves.length vc) (mkTree nodes).leaves ::
        slo encV 1 (.slice la1 (lvs.length + 1) lc1) (lvs ++ [.slice va (mkTree nodes).leaves.length vc]) :: slo encV 1 (.slice ra rvs.length rc) rvs :: slo encV 1 (.slice ia ivs.length ic) ivs ::
        rspB b db (.slice la1 (lvs.length + 1) lc1) (.slice ra rvs.length rc) (.slice ia ivs.length ic) (.slice ua us.length uc) (.slice ka ks.length kc) :: slo encSV 1 (.slice ua us.length uc) us :: slo encB 1 (.slice ka ks.length kc) ks :: R)
      (0, h2, (none, 0), (none, 0), []) ⟨by omega, Hle.refl h2, rfl, fun k hk => by omega⟩ ⟨rfl, rfl, rfl, rfl, rfl, rfl, trivial⟩ rfl ?_ ?_
    · simp only [rankL, List.range_zero, List.map_nil, List.length_nil]
      infer_instance
    rintro ⟨k, h3, ⟨pa, pc⟩, ⟨qa, qc⟩, rows⟩ ⟨hk, hl3, hrl, hrows⟩
    simp only at hk hl3 hrl hrows ⊢
    haveI le3 : Le h2 h3 := ⟨hl3⟩
    have hkl := rankL_len nodes k
    repeat (first | refine Step.imp ?_ | refine Side.mk (by first | exact True.intro | omega | exact ⟨trivial, rfl⟩ | exact ⟨by omega, trivial, rfl⟩ | exact ⟨by omega, rfl⟩ | exact ⟨by omega, by omega, rfl⟩ | (simp only [List.length_cons, List.length_nil, List.length_append]; done) | (simp only [List.length_cons, List.length_nil, List.length_append]; omega) | decide +kernel) ?_ | refine GDraw_one (by decide +kernel) ?_ | refine New.mk fun _ => ?_ | refine NewS.mk fun _ _ => ?_)
    refine ⟨fun hklt => ?_, fun hkge => ?_⟩
    · have hks := rankL_succ nodes k
      repeat (first | refine Step.imp ?_ | refine Side.mk (by first | exact True.intro | omega | exact ⟨trivial, rfl⟩ | exact ⟨by omega, trivial, rfl⟩ | exact ⟨by omega, rfl⟩ | exact ⟨by omega, by omega, rfl⟩ | (simp only [List.length_cons, List.length_nil, List.length_append]; done) | (simp only [List.length_cons, List.length_nil, List.length_append]; omega) | decide +kernel) ?_ | refine GDraw_one (by decide +kernel) ?_ | refine New.mk fun _ => ?_ | refine NewS.mk fun _ _ => ?_)
      rename_i b2 pa1 pc1
      refine G_nil encB 1 none ?_
      refine G_loop (σ := Nat × Option Addr × Nat) (fun s => s.1 ≤ nodes.length) (fun s => nodes.length - s.1)
        (fun s => [(8, vI s.1), (7, .slice s.2.1 (rowL nodes k s.1).length s.2.2), (6, vI k), (4, .slice pa1 ((rankL nodes k).length + 1) pc1), (5, .slice qa rows.length qc), (3, .pointer (some ⟨tbs[i]!, 0, none⟩)), (2, vI i), (0, .pointer (some ⟨b, 0, none⟩))]) (fun _ => h3)
        (fun s => slo encB 1 (.slice s.2.1 (rowL nodes k s.1).length s.2.2) (rowL nodes k s.1) :: slo encI 1 (.slice pa1 ((rankL nodes k).length + 1) pc1) (rankL nodes k ++ [(mkTree nodes).rankF k]) :: slo encV 1 (.slice qa rows.length qc) rows :: slo encI 1 (.slice va (mkTree nodes).leaves.length vc) (mkTree nodes).leaves ::
          slo encV 1 (.slice la1 (lvs.length + 1) lc1) (lvs ++ [.slice va (mkTree nodes).leaves.length vc]) :: slo encV 1 (.slice ra rvs.length rc) rvs :: slo encV 1 (.slice ia ivs.length ic) ivs ::
          rspB b db (.slice la1 (lvs.length + 1) lc1) (.slice ra rvs.length rc) (.slice ia ivs.length ic) (.slice ua us.length uc) (.slice ka ks.length kc) :: slo encSV 1 (.slice ua us.length uc) us :: slo encB 1 (.slice ka ks.length kc) ks :: R)
        (0, none, 0) (by omega) ⟨rfl, rfl, rfl, rfl, rfl, rfl, rfl, rfl, trivial⟩ rfl ?_ ?_
      · simp only [rowL, List.range_zero, List.map_nil, List.length_nil]
        infer_instance
      rintro ⟨j, wa, wc⟩ hj
      simp only at hj ⊢
      have hjl := rowL_len nodes k j
      repeat (first | refine Step.imp ?_ | refine Side.mk (by first | exact True.intro | omega | exact ⟨trivial, rfl⟩ | exact ⟨by omega, trivial, rfl⟩ | exact ⟨by omega, rfl⟩ | exact ⟨by omega, by omega, rfl⟩ | (simp only [List.length_cons, List.length_nil, List.length_append]; done) | (simp only [List.length_cons, List.length_nil, List.length_append]; omega) | decide +kernel) ?_ | refine GDraw_one (by decide +kernel) ?_ | refine New.mk fun _ => ?_ | refine NewS.mk fun _ _ => ?_)
      refine ⟨fun hjlt => ?_, fun hjge => ?_⟩
      · have hjs := rowL_succ nodes k j
        repeat (first | refine Step.imp ?_ | refine Side.mk (by first | exact True.intro | omega | exact ⟨trivial, rfl⟩ | exact ⟨by omega, trivial, rfl⟩ | exact ⟨by omega, rfl⟩ | exact ⟨by omega, by omega, rfl⟩ | (simp only [List.length_cons, List.length_nil, List.length_append]; done) | (simp only [List.length_cons, List.length_nil, List.length_append]; omega) | decide +kernel) ?_ | refine GDraw_one (by decide +kernel) ?_ | refine New.mk fun _ => ?_ | refine NewS.mk fun _ _ => ?_)
        rename_i b3 wa1 wc1
        refine X_round (j + 1, wa1, wc1) ?_ ?_ ?_ ?_ ?_
        · show j + 1 ≤ nodes.length
          omega
        · show nodes.length - (j + 1) < nodes.length - j
          omega
        · refine ⟨rfl, ?_, rfl, rfl, rfl, rfl, rfl, rfl, trivial⟩
          rw [hjs, List.length_append]; rfl
        · rfl
        · simp only [hjs, List.length_append, List.length_cons, List.length_nil, Nat.zero_add]
          infer_instance
      · have hj2 : j = nodes.length := by omega
        subst hj2
        refine G_freezeS (.slice wa (rowL nodes k nodes.length).length wc) fun h4 le4 f4 => ?_
        repeat (first | refine Step.imp ?_ | refine Side.mk (by first | exact True.intro | omega | exact ⟨trivial, rfl⟩ | exact ⟨by omega, trivial, rfl⟩ | exact ⟨by omega, rfl⟩ | exact ⟨by omega, by omega, rfl⟩ | (simp only [List.length_cons, List.length_nil, List.length_append]; done) | (simp only [List.length_cons, List.length_nil, List.length_append]; omega) | decide +kernel) ?_ | refine GDraw_one (by decide +kernel) ?_ | refine New.mk fun _ => ?_ | refine NewS.mk fun _ _ => ?_)
        rename_i b3 qa1 qc1
        refine X_round (k + 1, h4, (pa1, pc1), (qa1, qc1), rows ++ [.slice wa (rowL nodes k nodes.length).length wc]) ?_ ?_ ?_ ?_ ?_
        · refine ⟨by show k + 1 ≤ nodes.length; omega, hl3.trans le4.le, by simp [hrl], fun m hm => ?_⟩
          have hm : m < k + 1 := hm
          show FSl h4 ((rows ++ [.slice wa (rowL nodes k nodes.length).length wc])[m]!) encB 1 _
          rw [get_snoc hrl hm]
          split
          · rename_i hmk; exact FSl.mono le4.le (hrows m hmk)
          · have : m = k := by omega
            subst this; exact f4
        · show nodes.length - (k + 1) < nodes.length - k
          omega
        · refine ⟨rfl, ?_, ?_, rfl, rfl, rfl, trivial⟩
          · rw [hks, List.length_append]; rfl
          · rw [List.length_append]; rfl
        · rfl
        · simp only [hks, List.length_append, List.length_cons, List.length_nil, Nat.zero_add]
          infer_instance
    · have hk2 : k = nodes.length := by omega
      subst hk2
      refine G_freezeS (.slice pa (rankL nodes nodes.length).length pc) fun h4 le4 f4 => ?_
      refine G_freezeS (.slice qa rows.length qc) fun h5 le5 f5 => ?_
      refine G_freezeS (.slice va (mkTree nodes).leaves.length vc) fun h6 le6 f6 => ?_
      have hl6 : Hle h2 h6 := hl3.trans (le4.le.trans (le5.le.trans le6.le))
      have hl36 : Hle h3 h6 := le4.le.trans (le5.le.trans le6.le)
      repeat (first | refine Step.imp ?_ | refine Side.mk (by first | exact True.intro | omega | exact ⟨trivial, rfl⟩ | exact ⟨by omega, trivial, rfl⟩ | exact ⟨by omega, rfl⟩ | exact ⟨by omega, by omega, rfl⟩ | (simp only [List.length_cons, List.length_nil, List.length_append]; done) | (simp only [List.length_cons, List.length_nil, List.length_append]; omega) | decide +kernel) ?_ | refine GDraw_one (by decide +kernel) ?_ | refine New.mk fun _ => ?_ | refine NewS.mk fun _ _ => ?_)
      rename_i b2 ra1 rc1 b3 ia1 ic1
      refine X_round (i + 1, h6, (la1, lc1), (ra1, rc1), (ia1, ic1), lvs ++ [.slice va (mkTree nodes).leaves.length vc], rvs ++ [.slice pa (rankL nodes nodes.length).length pc], ivs ++ [.slice qa rows.length qc]) ?_ ?_ ?_ ?_ ?_
      · refine ⟨by show i + 1 ≤ C.dims.length; omega, hl2.trans hl6, (htab.mono hl6).snoc ?_ ?_ ?_⟩
        · rw [← hnodes]; exact f6
        · rw [← hnodes]; exact FSl.mono (le5.le.trans le6.le) f4
        · rw [← hnodes]; exact ⟨rows, FSl.mono le6.le f5, hrl, fun m hm => FSl.mono hl36 (hrows m (by omega))⟩
      · show C.dims.length - (i + 1) < C.dims.length - i
        omega
      · exact ⟨rfl, rfl, trivial⟩
      · rfl
      · simp only [List.length_append, List.length_cons, List.length_nil, Nat.zero_add]
        infer_instance
  · have hi2 : i = C.dims.length := by omega
    subst hi2
    refine G_freezeS (.slice la lvs.length lc) fun h4 le4 f4 => ?_
    refine G_freezeS (.slice ra rvs.length rc) fun h5 le5 f5 => ?_
    refine G_freezeS (.slice ia ivs.length ic) fun h6 le6 f6 => ?_
    have hl6 : Hle h2 h6 := le4.le.trans (le5.le.trans le6.le)
    have hR : RTab h6 C (.slice la lvs.length lc) (.slice ra rvs.length rc) (.slice ia ivs.length ic) := ⟨lvs, rvs, ivs, FSl.mono (le5.le.trans le6.le) f4, FSl.mono le6.le f5, f6, htab.mono hl6⟩
    have hfin := hT h6 db _ _ _ ua uc ka kc us ks ⟨hl2.trans hl6⟩ ⟨hok.rd.mono (hl2.trans hl6), ok, .inr hR, hok.und.mono (hl2.trans hl6)⟩ hR
    repeat (first | refine Step.imp ?_ | refine Side.mk (by first | exact True.intro | omega | exact ⟨trivial, rfl⟩ | exact ⟨by omega, trivial, rfl⟩ | exact ⟨by omega, rfl⟩ | exact ⟨by omega, by omega, rfl⟩ | (simp only [List.length_cons, List.length_nil, List.length_append]; done) | (simp only [List.length_cons, List.length_nil, List.length_append]; omega) | decide +kernel) ?_ | refine GDraw_one (by decide +kernel) ?_ | refine New.mk fun _ => ?_ | refine NewS.mk fun _ _ => ?_)
    exact Fin.val hfin rfl (hl2.trans hl6)
end
end Go.Sl

/-
  The document's spaces: how many there are; numbers of cells and leaves.
-/
namespace Go.Sl
open Go.Proofs
set_option linter.unusedVariables false
set_option linter.unusedSimpArgs false
set_option maxRecDepth 10000
set_option synthInstance.maxSize 2000
set_option synthInstance.maxHeartbeats 200000
set_option maxHeartbeats 1000000
section
variable {h h0 : PHeap} {b : Nat} {C : Cat} {kn : Bool}
instance prepare_call {L R : List HP} [p : PickR L b h0 C kn R] [hl : LeT h0 h] : CallT Tryz.prog 98 [.pointer (some ⟨b, 0, none⟩)] h L True R
    (fun K => ∀ h' db lv rv iv ua uc ka kc us ks, Le h h' → RspOk h' C kn db lv rv iv us ks → RTab h' C lv rv iv →
      K (.tuple ([] : List Value).toArray) h' [rspB b db lv rv iv (.slice ua us.length uc) (.slice ka ks.length kc), slo encSV 1 (.slice ua us.length uc) us, slo encB 1 (.slice ka ks.length kc) ks]) := ⟨fun _ => spec_rsp prepare_spec⟩
theorem leaves_step {C : Cat} (ok : OkCat C) {k : Nat} (hk : k < C.dims.length) : 0 ≤ leavesF C k * ((mkTree (C.dims[k]!).2).leaves.length : Int) ∧ leavesF C k * ((mkTree (C.dims[k]!).2).leaves.length : Int) ≤ 4294967296 := leaves_bound ok (k + 1) (by omega)
theorem cells_step {C : Cat} (ok : OkCat C) {k : Nat} (hk : k < C.dims.length) : 0 ≤ cellsF C k * ((C.dims[k]!).2.length : Int) ∧ cellsF C k * ((C.dims[k]!).2.length : Int) ≤ 4294967296 := cells_bound ok (k + 1) (by omega)
theorem rleaves_spec : Spec Tryz.prog 52 [.pointer (some ⟨b, 0, none⟩)] h [rsp h b C kn] (fun K => ∀ h', Le h h' → K (vI (leavesF C C.dims.length)) h' [rspP h' b C kn]) := by
  refine spec_enter Tryz.func52 rfl Tryz.ntmps52 Tryz.results52 (by simp) fun K R hT => ?_
  haveI : LeT h h := ⟨Hle.refl h⟩
  repeat (first | refine Step.imp ?_ | refine Side.mk (by first | exact True.intro | omega | exact ⟨trivial, rfl⟩ | exact ⟨by omega, trivial, rfl⟩ | exact ⟨by omega, rfl⟩ | exact ⟨by omega, by omega, rfl⟩ | (simp only [List.length_cons, List.length_nil, List.length_append]; done) | (simp only [List.length_cons, List.length_nil, List.length_append]; omega) | decide +kernel) ?_ | refine GDraw_one (by decide +kernel) ?_ | refine New.mk fun _ => ?_ | refine NewS.mk fun _ _ => ?_)
  intro h1 db lv rv iv ua uc ka kc us ks le1 hok hR
  obtain ⟨dv, mv, tv, ds, tbs, ty, fr, d1, d2, d3, d4, d5, d6, d7⟩ := hok.rd.out
  obtain ⟨lvs, rvs, ivs, t1, t2, t3, t4⟩ := hR.out
  have htl := t4.ll
  have ok := hok.ok
  have hd := ok.dims
  repeat (first | refine Step.imp ?_ | refine Side.mk (by first | exact True.intro | omega | exact ⟨trivial, rfl⟩ | exact ⟨by omega, trivial, rfl⟩ | exact ⟨by omega, rfl⟩ | exact ⟨by omega, by omega, rfl⟩ | (simp only [List.length_cons, List.length_nil, List.length_append]; done) | (simp only [List.length_cons, List.length_nil, List.length_append]; omega) | decide +kernel) ?_ | refine GDraw_one (by decide +kernel) ?_ | refine New.mk fun _ => ?_ | refine NewS.mk fun _ _ => ?_)
  refine G_loopE (σ := Nat) (fun k => k ≤ C.dims.length) (fun k => C.dims.length - k) (fun k => [(4, vI k), (3, vI (leavesF C k)), (0, .pointer (some ⟨b, 0, none⟩))]) 0 (by omega) ⟨rfl, rfl, rfl, trivial⟩ fun k hk => ?_
  repeat (first | refine Step.imp ?_ | refine Side.mk (by first | exact True.intro | omega | exact ⟨trivial, rfl⟩ | exact ⟨by omega, trivial, rfl⟩ | exact ⟨by omega, rfl⟩ | exact ⟨by omega, by omega, rfl⟩ | (simp only [List.length_cons, List.length_nil, List.length_append]; done) | (simp only [List.length_cons, List.length_nil, List.length_append]; omega) | decide +kernel) ?_ | refine GDraw_one (by decide +kernel) ?_ | refine New.mk fun _ => ?_ | refine NewS.mk fun _ _ => ?_)
  refine ⟨fun hlt => ?_, fun hge => ?_⟩
  · have hlk := (t4.all k (by omega)).1
    have hst := leaves_step ok (k := k) (by omega)
    repeat (first | refine Step.imp ?_ | refine Side.mk (by first | exact True.intro | omega | exact ⟨trivial, rfl⟩ | exact ⟨by omega, trivial, rfl⟩ | exact ⟨by omega, rfl⟩ | exact ⟨by omega, by omega, rfl⟩ | (simp only [List.length_cons, List.length_nil, List.length_append]; done) | (simp only [List.length_cons, List.length_nil, List.length_append]; omega) | decide +kernel) ?_ | refine GDraw_one (by decide +kernel) ?_ | refine New.mk fun _ => ?_ | refine NewS.mk fun _ _ => ?_)
    exact X_roundE (k + 1) (by omega) (by omega) ⟨rfl, rfl, rfl, trivial⟩ inferInstance
  · have hk2 : k = C.dims.length := by omega
    subst hk2
    refine G_rspPIn b hok hR ?_
    have hfin := hT h1 le1
    repeat (first | refine Step.imp ?_ | refine Side.mk (by first | exact True.intro | omega | exact ⟨trivial, rfl⟩ | exact ⟨by omega, trivial, rfl⟩ | exact ⟨by omega, rfl⟩ | exact ⟨by omega, by omega, rfl⟩ | (simp only [List.length_cons, List.length_nil, List.length_append]; done) | (simp only [List.length_cons, List.length_nil, List.length_append]; omega) | decide +kernel) ?_ | refine GDraw_one (by decide +kernel) ?_ | refine New.mk fun _ => ?_ | refine NewS.mk fun _ _ => ?_)
    exact Fin.val hfin rfl le1.le
instance rsp_leaves {L R : List HP} [p : PickR L b h0 C kn R] [hl : LeT h0 h] : CallT Tryz.prog 52 [.pointer (some ⟨b, 0, none⟩)] h L True R (fun K => ∀ h', Le h h' → K (vI (leavesF C C.dims.length)) h' [rspP h' b C kn]) := ⟨fun _ => spec_rsp rleaves_spec⟩
theorem rcells_spec : Spec Tryz.prog 28 [.pointer (some ⟨b, 0, none⟩)] h [rsp h b C kn] (fun K => K (vI (cellsF C C.dims.length)) h [rsp h b C kn]) := by
  refine spec_enter Tryz.func28 rfl Tryz.ntmps28 Tryz.results28 (by simp) fun K R hT => ?_
  haveI : LeT h h := ⟨Hle.refl h⟩
  refine G_rsp b fun db lv rv iv ua uc ka kc us ks hok => ?_
  obtain ⟨dv, mv, tv, ds, tbs, ty, fr, d1, d2, d3, d4, d5, d6, d7⟩ := hok.rd.out
  have ok := hok.ok
  have hd := ok.dims
  repeat (first | refine Step.imp ?_ | refine Side.mk (by first | exact True.intro | omega | exact ⟨trivial, rfl⟩ | exact ⟨by omega, trivial, rfl⟩ | exact ⟨by omega, rfl⟩ | exact ⟨by omega, by omega, rfl⟩ | (simp only [List.length_cons, List.length_nil, List.length_append]; done) | (simp only [List.length_cons, List.length_nil, List.length_append]; omega) | decide +kernel) ?_ | refine GDraw_one (by decide +kernel) ?_ | refine New.mk fun _ => ?_ | refine NewS.mk fun _ _ => ?_)
  refine G_loopE (σ := Nat) (fun k => k ≤ C.dims.length) (fun k => C.dims.length - k) (fun k => [(4, vI k), (3, vI (cellsF C k)), (0, .pointer (some ⟨b, 0, none⟩))]) 0 (by omega) ⟨rfl, rfl, rfl, trivial⟩ fun k hk => ?_
  repeat (first | refine Step.imp ?_ | refine Side.mk (by first | exact True.intro | omega | exact ⟨trivial, rfl⟩ | exact ⟨by omega, trivial, rfl⟩ | exact ⟨by omega, rfl⟩ | exact ⟨by omega, by omega, rfl⟩ | (simp only [List.length_cons, List.length_nil, List.length_append]; done) | (simp only [List.length_cons, List.length_nil, List.length_append]; omega) | decide +kernel) ?_ | refine GDraw_one (by decide +kernel) ?_ | refine New.mk fun _ => ?_ | refine NewS.mk fun _ _ => ?_)
  refine ⟨fun hlt => ?_, fun hge => ?_⟩
  · obtain ⟨tnv, tty, tfr, t1, t2⟩ := (d7 k (by omega)).out
    have hst := cells_step ok (k := k) (by omega)
    repeat (first | refine Step.imp ?_ | refine Side.mk (by first | exact True.intro | omega | exact ⟨trivial, rfl⟩ | exact ⟨by omega, trivial, rfl⟩ | exact ⟨by omega, rfl⟩ | exact ⟨by omega, by omega, rfl⟩ | (simp only [List.length_cons, List.length_nil, List.length_append]; done) | (simp only [List.length_cons, List.length_nil, List.length_append]; omega) | decide +kernel) ?_ | refine GDraw_one (by decide +kernel) ?_ | refine New.mk fun _ => ?_ | refine NewS.mk fun _ _ => ?_)
    exact X_roundE (k + 1) (by omega) (by omega) ⟨rfl, rfl, rfl, trivial⟩ inferInstance
  · have hk2 : k = C.dims.length := by omega
    subst hk2
    refine G_rspIn b hok ?_
    repeat (first | refine Step.imp ?_ | refine Side.mk (by first | exact True.intro | omega | exact ⟨trivial, rfl⟩ | exact ⟨by omega, trivial, rfl⟩ | exact ⟨by omega, rfl⟩ | exact ⟨by omega, by omega, rfl⟩ | (simp only [List.length_cons, List.length_nil, List.length_append]; done) | (simp only [List.length_cons, List.length_nil, List.length_append]; omega) | decide +kernel) ?_ | refine GDraw_one (by decide +kernel) ?_ | refine New.mk fun _ => ?_ | refine NewS.mk fun _ _ => ?_)
    exact Fin.val hT rfl (Hle.refl _)
instance rsp_cells {L R : List HP} [p : PickR L b h0 C kn R] [hl : LeT h0 h] : CallT Tryz.prog 28 [.pointer (some ⟨b, 0, none⟩)] h L True R (fun K => K (vI (cellsF C C.dims.length)) h [rsp h b C kn]) := ⟨fun _ => spec_rsp rcells_spec⟩
theorem pack_bound {C : Cat} {m : Int} {p : Nat → Int} {d : Nat} {o : Nat → Int} (hm : 0 ≤ m ∧ m < C.meas.length) (hp : ∀ k < d, 0 ≤ p k ∧ p k < o k) (hB : ∀ k ≤ d, allF C o k ≤ 4294967296) : ∀ k < d, (0 ≤ packF m p o k * o k ∧ packF m p o k * o k ≤ 4294967296) ∧ 0 ≤ packF m p o k * o k + p k ∧ packF m p o k * o k + p k ≤ 4294967296 := fun k hk => by
  have h1 := pack_lt (C := C) hm hp k (by omega)
  have h2 := pack_lt (C := C) hm hp (k + 1) (by omega)
  have h3 := hB (k + 1) (by omega)
  have h4 := hp k hk
  simp only [packF] at h2
  have h5 : 0 ≤ packF m p o k * o k := Int.mul_nonneg h1.1 (by omega)
  omega
theorem rindex_spec {m a0 a1 a2 a3 : Int} : Spec Tryz.prog 102 [.pointer (some ⟨b, 0, none⟩), .agg [vI m, vI a0, vI a1, vI a2, vI a3].toArray] h [rsp h b C kn] (fun K => K (vI (indexF C m (get4 a0 a1 a2 a3))) h [rsp h b C kn]) := by
  refine spec_enter Tryz.func102 rfl Tryz.ntmps102 Tryz.results102 (by simp) fun K R hT => ?_
  haveI : LeT h h := ⟨Hle.refl h⟩
  refine G_rsp b fun db lv rv iv ua uc ka kc us ks hok => ?_
  have hRD := hok.rd
  obtain ⟨dv, mv, tv, ds, tbs, ty, fr, d1, d2, d3, d4, d5, d6, d7⟩ := hRD.out
  have ok := hok.ok
  have hd := ok.dims
  unfold indexF at hT
  repeat (first | refine Step.imp ?_ | refine Side.mk (by first | exact True.intro | omega | exact ⟨trivial, rfl⟩ | exact ⟨by omega, trivial, rfl⟩ | exact ⟨by omega, rfl⟩ | exact ⟨by omega, by omega, rfl⟩ | (simp only [List.length_cons, List.length_nil, List.length_append]; done) | (simp only [List.length_cons, List.length_nil, List.length_append]; omega) | decide +kernel) ?_ | refine GDraw_one (by decide +kernel) ?_ | refine New.mk fun _ => ?_ | refine NewS.mk fun _ _ => ?_)
  refine ⟨fun hno => ?_, fun hr => ?_⟩
  · rw [if_neg hno] at hT
    refine G_rspIn b hok ?_
    repeat (first | refine Step.imp ?_ | refine Side.mk (by first | exact True.intro | omega | exact ⟨trivial, rfl⟩ | exact ⟨by omega, trivial, rfl⟩ | exact ⟨by omega, rfl⟩ | exact ⟨by omega, by omega, rfl⟩ | (simp only [List.length_cons, List.length_nil, List.length_append]; done) | (simp only [List.length_cons, List.length_nil, List.length_append]; omega) | decide +kernel) ?_ | refine GDraw_one (by decide +kernel) ?_ | refine New.mk fun _ => ?_ | refine NewS.mk fun _ _ => ?_)
    exact Fin.val hT rfl (Hle.refl _)
  have hr := Decidable.not_not.1 hr
  rw [if_pos hr] at hT
  have hpb := pack_bound (C := C) (o := nodesN C) (d := C.dims.length) hr.1 (right_in hr hd.2) (fun k hk => by rw [all_cells]; exact (cells_bound ok k hk).2)
  repeat (first | refine Step.imp ?_ | refine Side.mk (by first | exact True.intro | omega | exact ⟨trivial, rfl⟩ | exact ⟨by omega, trivial, rfl⟩ | exact ⟨by omega, rfl⟩ | exact ⟨by omega, by omega, rfl⟩ | (simp only [List.length_cons, List.length_nil, List.length_append]; done) | (simp only [List.length_cons, List.length_nil, List.length_append]; omega) | decide +kernel) ?_ | refine GDraw_one (by decide +kernel) ?_ | refine New.mk fun _ => ?_ | refine NewS.mk fun _ _ => ?_)
  rename_i cb _
  refine G_loopE (σ := Nat) (fun k => k ≤ C.dims.length) (fun k => C.dims.length - k) (fun k => [(6, vI k), (5, vI (packF m (get4 a0 a1 a2 a3) (nodesN C) k)), (3, .pointer (some ⟨cb, 0, none⟩)), (0, .pointer (some ⟨b, 0, none⟩))]) 0 (by omega) ⟨rfl, rfl, rfl, rfl, trivial⟩ fun k hk => ?_
  repeat (first | refine Step.imp ?_ | refine Side.mk (by first | exact True.intro | omega | exact ⟨trivial, rfl⟩ | exact ⟨by omega, trivial, rfl⟩ | exact ⟨by omega, rfl⟩ | exact ⟨by omega, by omega, rfl⟩ | (simp only [List.length_cons, List.length_nil, List.length_append]; done) | (simp only [List.length_cons, List.length_nil, List.length_append]; omega) | decide +kernel) ?_ | refine GDraw_one (by decide +kernel) ?_ | refine New.mk fun _ => ?_ | refine NewS.mk fun _ _ => ?_)
  refine ⟨fun hlt => ?_, fun hge => ?_⟩
  · obtain ⟨tnv, tty, tfr, t1, t2⟩ := (d7 k (by omega)).out
    have hst := hpb k (by omega)
    rw [show nodesN C k = ((C.dims[k]!).2.length : Int) from rfl] at hst
    repeat (first | refine Step.imp ?_ | refine Side.mk (by first | exact True.intro | omega | exact ⟨trivial, rfl⟩ | exact ⟨by omega, trivial, rfl⟩ | exact ⟨by omega, rfl⟩ | exact ⟨by omega, by omega, rfl⟩ | (simp only [List.length_cons, List.length_nil, List.length_append]; done) | (simp only [List.length_cons, List.length_nil, List.length_append]; omega) | decide +kernel) ?_ | refine GDraw_one (by decide +kernel) ?_ | refine New.mk fun _ => ?_ | refine NewS.mk fun _ _ => ?_)
    exact X_roundE (k + 1) (by omega) (by omega) ⟨rfl, rfl, rfl, rfl, trivial⟩ inferInstance
  · have hk2 : k = C.dims.length := by omega
    subst hk2
    refine G_rspIn b hok ?_
    repeat (first | refine Step.imp ?_ | refine Side.mk (by first | exact True.intro | omega | exact ⟨trivial, rfl⟩ | exact ⟨by omega, trivial, rfl⟩ | exact ⟨by omega, rfl⟩ | exact ⟨by omega, by omega, rfl⟩ | (simp only [List.length_cons, List.length_nil, List.length_append]; done) | (simp only [List.length_cons, List.length_nil, List.length_append]; omega) | decide +kernel) ?_ | refine GDraw_one (by decide +kernel) ?_ | refine New.mk fun _ => ?_ | refine NewS.mk fun _ _ => ?_)
    exact Fin.val hT rfl (Hle.refl _)
instance rsp_index {L R : List HP} {m a0 a1 a2 a3 : Int} [p : PickR L b h0 C kn R] [hl : LeT h0 h] : CallT Tryz.prog 102 [.pointer (some ⟨b, 0, none⟩), .agg [vI m, vI a0, vI a1, vI a2, vI a3].toArray] h L True R (fun K => K (vI (indexF C m (get4 a0 a1 a2 a3))) h [rsp h b C kn]) := ⟨fun _ => spec_rsp rindex_spec⟩
theorem rank_neg {nodes : List Nd} (ht : treeErr nodes = none) {i : Int} : (mkTree nodes).rankF i < 0 ↔ ¬ (mkTree nodes).leafB i := by
  constructor
  · intro h hl; have := (rank_ok ht hl).1; omega
  · intro h; unfold Tr.rankF; rw [if_neg h]; omega
end
end Go.Sl
