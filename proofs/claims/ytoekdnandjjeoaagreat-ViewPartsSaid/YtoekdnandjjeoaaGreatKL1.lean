/-
  Facts that the proof is made of (L1).
-/
import Derived.Calls
import Derived.CallsIn
import Derived.OrdersIn
import Derived.RangeFuncIn
import Derived.RangeFuncLeaves
import Derived.Deep.LoopGhost
import Derived.Orders
import Derived.Tactics
import Derived.Deep.MidRow
import Derived.Laws.IdiomCopy
import Derived.ChangeKeysEq
import Derived.IntWalk
import Derived.Laws.Pointers
import Derived.Laws.Strings
/-
  A separation logic over the model's calculus of operations: what is owned (a list of parts of the heap), what is never changed any more (a heap in part), what the slots hold.
-/
namespace Go.Sl
set_option linter.unusedVariables false
set_option linter.unusedSimpArgs false

abbrev Chunk := Nat × Obj
/-- The tape, the system, what was written. -/
abbrev Strm := (Nat → Question → Nat) × Os × Array (Nat × ByteArray)
def strm (w : World) : Strm := (w.tape, w.os, w.output)
structure PHeap where
  m : Nat → Option Obj
  s : Strm
instance : CoeFun PHeap (fun _ => Nat → Option Obj) := ⟨PHeap.m⟩
abbrev HP := List Chunk → Prop
abbrev Env := List (Nat × Value)
abbrev Post := Exit → Act → World → Prop

/-- b1 for the first part, b2 for the next one, and so on. -/
def Den : List HP → List Chunk → Prop
  | [], bs => bs = []
  | P :: L, bs => ∃ b1 b2, bs = b1 ++ b2 ∧ P b1 ∧ Den L b2

structure St0 (h : PHeap) (bs : List Chunk) (w : World) : Prop where
  per : ∀ b o, h b = some o → w.heap[b]? = some o
  own : ∀ c ∈ bs, w.heap[c.1]? = some c.2 ∧ h c.1 = none
  nd : (bs.map (·.1)).Nodup
  sm : strm w = h.s

def St (h : PHeap) (L : List HP) (w : World) : Prop := ∃ bs, Den L bs ∧ St0 h bs w

structure Hle (h h' : PHeap) : Prop where
  le : ∀ b o, h b = some o → h' b = some o
  sm : h'.s = h.s
instance {h h' : PHeap} : CoeFun (Hle h h') (fun _ => ∀ b o, h b = some o → h' b = some o) := ⟨Hle.le⟩
theorem Hle.refl (h : PHeap) : Hle h h := ⟨fun _ _ x => x, rfl⟩
theorem Hle.trans {a b c : PHeap} (x : Hle a b) (y : Hle b c) : Hle a c := ⟨fun n o z => y n o (x n o z), y.sm.trans x.sm⟩

theorem St0.perm {h : PHeap} {bs bs' : List Chunk} {w : World} (p : bs.Perm bs') (s : St0 h bs w) : St0 h bs' w :=
  ⟨s.per, fun c hc => s.own c (p.mem_iff.2 hc), (p.map _).nodup_iff.1 s.nd, s.sm⟩

theorem Den.append {L M : List HP} : ∀ {bs}, Den (L ++ M) bs ↔ ∃ b1 b2, bs = b1 ++ b2 ∧ Den L b1 ∧ Den M b2 := by
  induction L with
  | nil => intro bs; simp only [List.nil_append, Den]; exact ⟨fun h => ⟨[], bs, rfl, rfl, h⟩, fun ⟨_, _, e, e1, h⟩ => by subst e1; subst e; exact h⟩
  | cons x L ih =>
    intro bs
    simp only [List.cons_append, Den, ih]
    constructor
    · rintro ⟨b1, b2, rfl, hx, c1, c2, rfl, hL, hM⟩
      exact ⟨b1 ++ c1, c2, by simp, ⟨b1, c1, rfl, hx, hL⟩, hM⟩
    · rintro ⟨b, c2, rfl, ⟨b1, c1, rfl, hx, hL⟩, hM⟩
      exact ⟨b1, c1 ++ c2, by simp, hx, c1, c2, rfl, hL, hM⟩

theorem Den.perm {L L' : List HP} (p : L.Perm L') : ∀ {bs}, Den L bs → ∃ bs', bs.Perm bs' ∧ Den L' bs' := by
  induction p with
  | nil => intro bs h; exact ⟨bs, .refl _, h⟩
  | cons x _ ih =>
    rintro bs ⟨b1, b2, rfl, hx, hd⟩
    obtain ⟨b2', hp, hd'⟩ := ih hd
    exact ⟨b1 ++ b2', List.Perm.append_left _ hp, b1, b2', rfl, hx, hd'⟩
  | swap x y l =>
    rintro bs ⟨b1, b2, rfl, hx, c1, c2, rfl, hy, hd⟩
    exact ⟨c1 ++ (b1 ++ c2), List.perm_append_comm_assoc _ _ _, c1, b1 ++ c2, rfl, hy, b1, c2, rfl, hx, hd⟩
  | trans _ _ ih1 ih2 =>
    intro bs h
    obtain ⟨b1, p1, h1⟩ := ih1 h
    obtain ⟨b2, p2, h2⟩ := ih2 h1
    exact ⟨b2, p1.trans p2, h2⟩

theorem St.perm {h : PHeap} {L L' : List HP} {w : World} (p : L.Perm L') (s : St h L w) : St h L' w := by
  obtain ⟨bs, hd, s0⟩ := s
  obtain ⟨bs', p', hd'⟩ := hd.perm p
  exact ⟨bs', hd', s0.perm p'⟩

theorem St.per {h : PHeap} {L : List HP} {w : World} (s : St h L w) {b : Nat} {o : Obj} (e : h b = some o) : w.heap[b]? = some o := by
  obtain ⟨_, _, s0⟩ := s; exact s0.per b o e

theorem St.drop {h : PHeap} {x : HP} {L : List HP} {w : World} (s : St h (x :: L) w) : St h L w := by
  obtain ⟨bs, ⟨b1, b2, rfl, _, hd⟩, s0⟩ := s
  refine ⟨b2, hd, s0.per, fun c hc => s0.own c (List.mem_append_right _ hc), ?_, s0.sm⟩
  have := s0.nd
  rw [List.map_append] at this
  exact (List.nodup_append.1 this).2.1

theorem St.dropL {h : PHeap} {M : List HP} : ∀ {L : List HP} {w : World}, St h (M ++ L) w → St h L w := by
  induction M with
  | nil => exact fun s => s
  | cons x M ih => exact fun s => ih s.drop

/-- What the blocks of a part are, once they are never changed any more. -/
def Fz (x : HP) (h : PHeap) : Prop := ∃ bs, x bs ∧ ∀ c ∈ bs, h c.1 = some c.2

theorem Fz.mono {x : HP} {h h' : PHeap} (l : Hle h h') (f : Fz x h) : Fz x h' := by
  obtain ⟨bs, hx, hb⟩ := f; exact ⟨bs, hx, fun c hc => l _ _ (hb c hc)⟩

theorem St.freeze {h : PHeap} {x : HP} {L : List HP} {w : World} (s : St h (x :: L) w) : ∃ h', Hle h h' ∧ Fz x h' ∧ St h' L w := by
  obtain ⟨bs, ⟨b1, b2, rfl, hx, hd⟩, s0⟩ := s
  have hnd := s0.nd
  rw [List.map_append, List.nodup_append] at hnd
  let h' : PHeap := ⟨fun b => match h b with | some o => some o | none => (b1.find? (fun c => c.1 == b)).map (·.2), h.s⟩
  have hle : Hle h h' := ⟨fun b o e => by simp only [h', e], rfl⟩
  have hb1 : ∀ c ∈ b1, h' c.1 = some c.2 := by
    intro c hc
    have hn := (s0.own c (List.mem_append_left _ hc)).2
    simp only [h', hn]
    have hsome : (b1.find? (fun d => d.1 == c.1)).isSome := by rw [List.find?_isSome]; exact ⟨c, hc, by simp⟩
    obtain ⟨d, hd'⟩ := Option.isSome_iff_exists.1 hsome
    have hdm := List.mem_of_find?_eq_some hd'
    have hdk : d.1 = c.1 := by simpa using List.find?_some hd'
    have h1 := (s0.own c (List.mem_append_left _ hc)).1
    have h2 := (s0.own d (List.mem_append_left _ hdm)).1
    rw [hdk, h1] at h2
    rw [hd']
    simpa using h2.symm
  refine ⟨h', hle, ⟨b1, hx, hb1⟩, b2, hd, ?_, ?_, hnd.2.1, s0.sm⟩
  · intro b o e
    cases hb : h b with
    | some o' => simp only [h', hb] at e; rw [← Option.some.inj e]; exact s0.per b o' hb
    | none =>
      simp only [h', hb] at e
      obtain ⟨c, hc, rfl⟩ := Option.map_eq_some_iff.1 e
      have hcm := List.mem_of_find?_eq_some hc
      have hck : c.1 = b := by simpa using List.find?_some hc
      rw [← hck]; exact (s0.own c (List.mem_append_left _ hcm)).1
  · intro c hc
    have hc' := s0.own c (List.mem_append_right _ hc)
    refine ⟨hc'.1, ?_⟩
    simp only [h', hc'.2]
    rw [Option.map_eq_none_iff, List.find?_eq_none]
    intro d hdm heq
    have hdk : d.1 = c.1 := by simpa using heq
    exact hnd.2.2 d.1 (List.mem_map_of_mem hdm) c.1 (List.mem_map_of_mem hc) hdk

/-- One block. -/
def blk (b : Nat) (o : Obj) : HP := fun bs => bs = [(b, o)]

theorem lt_of_heap {w : World} {b : Nat} {o : Obj} (e : w.heap[b]? = some o) : b < w.heap.size := (Array.getElem?_eq_some_iff.1 e).1

theorem St.new {h : PHeap} {L : List HP} {w : World} {x : HP} (o : Obj) (s : St h L w) (hx : x [(w.heap.size, o)]) :
    St h (x :: L) { w with heap := w.heap.push o } := by
  obtain ⟨bs, hd, s0⟩ := s
  have up : ∀ b o', w.heap[b]? = some o' → (w.heap.push o)[b]? = some o' := fun b o' e => by
    rw [Array.getElem?_push_lt (lt_of_heap e)]
    have := e
    rw [Array.getElem?_eq_getElem (lt_of_heap e)] at this
    exact this
  refine ⟨(w.heap.size, o) :: bs, ⟨[(w.heap.size, o)], bs, rfl, hx, hd⟩, fun b o' e => up b o' (s0.per b o' e), ?_, ?_, s0.sm⟩
  · intro c hc
    rcases List.mem_cons.1 hc with rfl | hc
    · refine ⟨by simp, ?_⟩
      cases he : h w.heap.size with
      | none => rfl
      | some o' => have := lt_of_heap (s0.per _ _ he); omega
    · exact ⟨up _ _ (s0.own c hc).1, (s0.own c hc).2⟩
  · rw [List.map_cons, List.nodup_cons]
    refine ⟨fun hm => ?_, s0.nd⟩
    obtain ⟨c, hc, he⟩ := List.mem_map.1 hm
    have := lt_of_heap (s0.own c hc).1
    simp only at he
    omega

/-- The same block with other contents, all else as it was. -/
theorem St.put {h : PHeap} {L : List HP} {w w' : World} {x x' : HP} (s : St h (x :: L) w) (hs : strm w' = strm w)
    (hx : ∀ bs, x bs → (∀ c ∈ bs, w.heap[c.1]? = some c.2) → ∃ bs', x' bs' ∧ bs'.map (·.1) = bs.map (·.1) ∧ (∀ c ∈ bs', w'.heap[c.1]? = some c.2) ∧ ∀ b, b ∉ bs.map (·.1) → w'.heap[b]? = w.heap[b]?) :
    St h (x' :: L) w' := by
  obtain ⟨bs, ⟨b1, b2, rfl, hb1, hd⟩, s0⟩ := s
  obtain ⟨b1', h1, h2, h3, h4⟩ := hx b1 hb1 (fun c hc => (s0.own c (List.mem_append_left _ hc)).1)
  have hnd := s0.nd
  rw [List.map_append, List.nodup_append] at hnd
  refine ⟨b1' ++ b2, ⟨b1', b2, rfl, h1, hd⟩, ?_, ?_, ?_, hs.trans s0.sm⟩
  · intro b o e
    rw [h4 b ?_]; exact s0.per b o e
    intro hm
    obtain ⟨c, hc, rfl⟩ := List.mem_map.1 hm
    have := (s0.own c (List.mem_append_left _ hc)).2
    rw [e] at this; cases this
  · intro c hc
    rcases List.mem_append.1 hc with hc | hc
    · refine ⟨h3 c hc, ?_⟩
      have : c.1 ∈ b1.map (·.1) := by rw [← h2]; exact List.mem_map_of_mem hc
      obtain ⟨d, hd', he⟩ := List.mem_map.1 this
      rw [← he]; exact (s0.own d (List.mem_append_left _ hd')).2
    · have hc' := s0.own c (List.mem_append_right _ hc)
      refine ⟨?_, hc'.2⟩
      rw [h4 c.1 ?_]; exact hc'.1
      intro hm
      exact hnd.2.2 c.1 hm c.1 (List.mem_map_of_mem hc) rfl
  · rw [List.map_append, h2, List.nodup_append]; exact hnd

/-- The world's heap alone is looked at. -/
theorem St.heap {h : PHeap} {L : List HP} {w w' : World} (s : St h L w) (e : w'.heap = w.heap) (hs : strm w' = strm w := by rfl) : St h L w' := by
  obtain ⟨bs, hd, s0⟩ := s
  exact ⟨bs, hd, fun b o x => by rw [e]; exact s0.per b o x, fun c hc => by rw [e]; exact s0.own c hc, s0.nd, hs.trans s0.sm⟩

/-- Worlds in which some parts, and what is never changed, are as they were. -/
def Cw (V : List HP) (h : PHeap) (w : World) : Prop := ∃ Z h', Hle h h' ∧ St h' (V ++ Z) w
theorem Cw.of {h : PHeap} {L V Z : List HP} {w : World} (p : L.Perm (V ++ Z)) (s : St h L w) : Cw V h w := ⟨Z, h, Hle.refl h, s.perm p⟩
theorem Cw.self {h : PHeap} {L : List HP} {w : World} (s : St h L w) : Cw L h w := ⟨[], h, Hle.refl h, by simpa using s⟩

/-- What a part tells of a world. -/
def Own (x : HP) (w : World) : Prop := ∃ bs, x bs ∧ ∀ c ∈ bs, w.heap[c.1]? = some c.2
theorem Own.ofMem {V : List HP} {h : PHeap} {w : World} {x : HP} (hm : x ∈ V) (c : Cw V h w) : Own x w := by
  obtain ⟨Z, h', _, s⟩ := c
  obtain ⟨l1, l2, rfl⟩ := List.append_of_mem hm
  have s' := s.perm (L' := x :: (l1 ++ l2 ++ Z)) (by simp)
  obtain ⟨bs, ⟨b1, b2, rfl, hb1, hd⟩, s0⟩ := s'
  exact ⟨b1, hb1, fun c hc => (s0.own c (List.mem_append_left _ hc)).1⟩
theorem Own.ofFz {V : List HP} {h : PHeap} {w : World} {x : HP} (f : Fz x h) (c : Cw V h w) : Own x w := by
  obtain ⟨Z, h', hl, s⟩ := c
  obtain ⟨bs, hx, hb⟩ := f
  exact ⟨bs, hx, fun c hc => s.per (hl _ _ (hb c hc))⟩

@[reducible] def lk : Env → Nat → Option Value
  | [], _ => none
  | (i, v) :: r, t => match Nat.beq i t with | true => some v | false => lk r t

class Is0 {α : Sort _} (a : α) (b : outParam α) : Prop where
  eq : a = b
instance {α : Sort _} (a : α) : Is0 a a := ⟨rfl⟩
/-- The slots of an activation, the marks among its deferred calls, the round that it is of. -/
structure NN where
  n : Nat
  d : List Deferred
  ro : Option Nat
class InN (N : NN) (d : Nat) : Prop where
  eq : d < N.n
instance {n d : Nat} {D : List Deferred} {ro : Option Nat} [h : Is0 (Nat.ble n d) false] : InN ⟨n, D, ro⟩ d := ⟨by
  rcases Nat.lt_or_ge d n with h' | h'
  · exact h'
  · have := h.eq; rw [Nat.ble_eq_true_of_le h'] at this; cases this⟩

structure AS (N : NN) (e : Env) (h : PHeap) (L : List HP) (a : Act) (w : World) : Prop where
  sz : a.tmps.size = N.n
  df : a.defers = N.d
  ev : ∀ i v, lk e i = some v → a.tmps[i]? = some v
  st : St h L w

/-- What a list of slots tells of an activation. -/
structure AE (N : NN) (e : Env) (a : Act) : Prop where
  sz : a.tmps.size = N.n
  df : a.defers = N.d
  ev : ∀ i v, lk e i = some v → a.tmps[i]? = some v
theorem AS.ae {N : NN} {e : Env} {h : PHeap} {L : List HP} {a : Act} {w : World} (s : AS N e h L a w) : AE N e a := ⟨s.sz, s.df, s.ev⟩
theorem AE.as {N : NN} {e : Env} {h : PHeap} {L : List HP} {a : Act} {w : World} (s : AE N e a) (t : St h L w) : AS N e h L a w := ⟨s.sz, s.df, s.ev, t⟩

theorem AE.put {N : NN} {e : Env} {a : Act} {d : Nat} {v : Value} (hdN : d < N.n) (s : AE N e a) : AE N ((d, v) :: e) (a.put (some d) v) := by
  refine ⟨by simp [Act.put, s.sz], s.df, fun i u hu => ?_⟩
  simp only [Act.put]
  unfold lk at hu
  split at hu
  · rename_i hb
    have : d = i := Nat.eq_of_beq_eq_true hb
    subst this
    rw [Array.getElem?_setIfInBounds_self_of_lt (by rw [s.sz]; exact hdN)]
    exact hu
  · rename_i hb
    have : d ≠ i := Nat.ne_of_beq_eq_false hb
    rw [Array.getElem?_setIfInBounds_ne this]
    exact s.ev i u hu
theorem AE.putNone {N : NN} {e : Env} {a : Act} {v : Value} (s : AE N e a) : AE N e (a.put none v) := s

/-- What an operand is. -/
@[reducible] def lkO (e : Env) : Operand → Option Value
  | .tmp t => lk e t
  | .const v => some v
  | .global g => some (.pointer (some ⟨g, 0, none⟩))
  | .func f => some (.func (.func f) #[] #[])
theorem AE.eval {N : NN} {e : Env} {a : Act} (s : AE N e a) {x : Operand} {v : Value} (h : lkO e x = some v) : a.eval x = v := by
  cases x with
  | tmp t =>
    have := s.ev t v h
    simp [Act.eval, this]
  | const u => exact Option.some.inj h
  | global g => exact Option.some.inj h
  | func f => exact Option.some.inj h

/-- Items of what comes behind. -/
inductive It where
  | code (c : Code)
  | blk (id : Nat)
  | inv (I : Act → World → Prop)

/-- All functions are let in; the code is a function's, or of a round. -/
abbrev Fat (ro : Option Nat) : Fence := { Fence.wide with round := ro }
def cQ (ro : Option Nat) (P : Program) : List It → Post → Post
  | [], Q => Q
  | .code c :: k, Q => Exit.then (fun a w => c.wpIn (Fat ro) 0 P (cQ ro P k Q) a w) (cQ ro P k Q)
  | .blk id :: k, Q => Exit.inBlock id (cQ ro P k Q)
  | .inv I :: k, Q => Exit.then I (cQ ro P k Q)
theorem wpIn_loop_ghost {F : Fence} {n : Nat} {P : Program} {Q : Post} {a : Act} {w : World} {c : Code} (I : Nat → Act → World → Prop) (n₀ : Nat) (h₀ : I n₀ a w)
    (round : ∀ n' a w, I n' a w → c.wpIn F n P (Exit.then (fun a' w' => ∃ m, m < n' ∧ I m a' w') Q) a w) : (Code.loop c).wpIn F n P Q a w := by
  refine wpIn_loop (fun a w => ∃ n, I n a w) (fun a w => leastOf (fun n => I n a w)) ⟨n₀, h₀⟩ ?_
  intro a w hI
  refine wpIn_mono (round _ a w (leastOf_spec hI).1) ?_
  intro e a' w' hq
  cases e with
  | normal =>
    obtain ⟨n', hlt, hI'⟩ := hq
    exact show (∃ n, I n a' w') ∧ leastOf (fun n => I n a' w') < leastOf (fun n => I n a w) from ⟨⟨n', hI'⟩, Nat.lt_of_le_of_lt ((leastOf_spec ⟨n', hI'⟩).2 n' hI') hlt⟩
  | exit id => exact hq
  | goto l => exact hq
  | ret => exact hq
  | panic ch => exact hq
  | outgrown => exact hq

/-! ### Operations in a round are as everywhere -/
theorem rowsIn_of {ro : Option Nat} {P : Program} {row : String} {args : Array Value} {w : World} {R : Value → World → Prop} (h : Rows P row args w R) : RowsIn (Fat ro) (0 - 1) P row args w R :=
  fun c cs _ => let ⟨v, w', r, s⟩ := h c cs; ⟨v, w', r, (stepsIn_wide (P := P)).2 s⟩
theorem callsIn_of {ro : Option Nat} {P : Program} {f : FuncId} {args : Array Value} {w : World} {R : Ending → World → Prop} (h : Calls P f args w R) : CallsIn (Fat ro) (0 - 1) P f args w R := (callsIn_wide (n := 0 - 1)).2 h
theorem uponIn_of {ro : Option Nat} {P : Program} {o : Oper} {a : Act} {K : Act → World → Prop} {Q : Post} {r : Result Next} (h : o.upon P a K Q r) : o.uponIn (Fat ro) 0 P a K Q r := by
  cases r with
  | halt x w' => cases x <;> simp only [Oper.upon, Oper.uponIn] at h ⊢ <;> exact h
  | ok n w' =>
    cases n <;> simp only [Oper.upon, Oper.uponIn] at h ⊢ <;>
      first
        | exact h
        | exact ⟨fun h => (by cases h), callsIn_of h⟩
        | exact ⟨fun h => (by cases h), rowsIn_of h⟩
        | exact h.elim
theorem opIn_of {ro : Option Nat} {P : Program} {o : Oper} {a : Act} {w : World} {K : Act → World → Prop} {Q : Post} (hd : ∀ c, o.op ≠ .defer c) (h : o.wp P a w K Q) : o.wpIn (Fat ro) 0 P a w K Q :=
  ⟨fun _ _ => trivial, by rw [Oper.semAt_eq _ _ _ hd]; exact uponIn_of h⟩

/-- The judgements: a code; how one leaves (normally, by an exit, by a return); operations of a region in their order. -/
def G (P : Program) (N : NN) (c : Code) (k : List It) (Q : Post) (e : Env) (h : PHeap) (L : List HP) : Prop :=
  ∀ a w, AS N e h L a w → c.wpIn (Fat N.ro) 0 P (cQ N.ro P k Q) a w
def X (P : Program) (N : NN) (x : Exit) (k : List It) (Q : Post) (e : Env) (h : PHeap) (L : List HP) : Prop :=
  ∀ a w, AS N e h L a w → cQ N.ro P k Q x a w

class Step (p : Prop) (q : outParam Prop) : Prop where
  imp : q → p
/-- A side condition, and what comes then. -/
structure Side (s q : Prop) : Prop where
  side : s
  rest : q
/-- For each new block. -/
structure New (p : Nat → Prop) : Prop where
  all : ∀ b, p b
/-- Two ways. -/
structure Ways (p q : Prop) : Prop where
  yes : p
  no : q
class Is {α : Sort _} (a : α) (b : outParam α) : Prop where
  eq : a = b
instance {α : Sort _} (a : α) : Is a a := ⟨rfl⟩

section code
variable {P : Program} {N : NN} {k : List It} {Q : Post} {e : Env} {h : PHeap} {L : List HP}
instance step_seq {c d : Code} : Step (G P N (.seq c d) k Q e h L) (G P N c (.code d :: k) Q e h L) := ⟨fun g a w s => wpIn_seq (g a w s)⟩
instance step_block {id : Nat} {c : Code} : Step (G P N (.block id c) k Q e h L) (G P N c (.blk id :: k) Q e h L) := ⟨fun g a w s => wpIn_block (g a w s)⟩
instance step_skip : Step (G P N .skip k Q e h L) (X P N .normal k Q e h L) := ⟨fun g a w s => wpIn_skip (g a w s)⟩
instance step_label {l : Nat} : Step (G P N (.label l) k Q e h L) (X P N .normal k Q e h L) := ⟨fun g a w s => wpIn_label (g a w s)⟩
instance step_exit {id : Nat} : Step (G P N (.exit id) k Q e h L) (X P N (.exit id) k Q e h L) := ⟨fun g a w s => wpIn_exit (g a w s)⟩
instance step_ret : Step (G P N .ret k Q e h L) (X P N .ret k Q e h L) := ⟨fun g a w s => wpIn_ret (g a w s)⟩
instance x_code {c : Code} : Step (X P N .normal (.code c :: k) Q e h L) (G P N c k Q e h L) := ⟨fun g a w s => g a w s⟩
instance x_blk {id : Nat} : Step (X P N .normal (.blk id :: k) Q e h L) (X P N .normal k Q e h L) := ⟨fun g a w s => g a w s⟩
instance x_ret_code {c : Code} : Step (X P N .ret (.code c :: k) Q e h L) (X P N .ret k Q e h L) := ⟨fun g a w s => g a w s⟩
instance x_ret_blk {id : Nat} : Step (X P N .ret (.blk id :: k) Q e h L) (X P N .ret k Q e h L) := ⟨fun g a w s => g a w s⟩
instance x_ret_inv {I : Act → World → Prop} : Step (X P N .ret (.inv I :: k) Q e h L) (X P N .ret k Q e h L) := ⟨fun g a w s => g a w s⟩
instance x_exit_code {id : Nat} {c : Code} : Step (X P N (.exit id) (.code c :: k) Q e h L) (X P N (.exit id) k Q e h L) := ⟨fun g a w s => g a w s⟩
instance x_exit_inv {id : Nat} {I : Act → World → Prop} : Step (X P N (.exit id) (.inv I :: k) Q e h L) (X P N (.exit id) k Q e h L) := ⟨fun g a w s => g a w s⟩
instance x_exit_same {id : Nat} : Step (X P N (.exit id) (.blk id :: k) Q e h L) (X P N .normal k Q e h L) :=
  ⟨fun g a w s => by show Exit.inBlock id (cQ N.ro P k Q) (.exit id) a w; simp only [Exit.inBlock, if_true]; exact g a w s⟩
instance (priority := low) x_exit_other {id id' : Nat} [hn : Is (Nat.beq id id') false] : Step (X P N (.exit id) (.blk id' :: k) Q e h L) (X P N (.exit id) k Q e h L) :=
  ⟨fun g a w s => by show Exit.inBlock id' (cQ N.ro P k Q) (.exit id) a w; simp only [Exit.inBlock]; rw [if_neg (Nat.ne_of_beq_eq_false hn.eq)]; exact g a w s⟩
theorem X_end (hq : ∀ a w, AS N e h L a w → Q .normal a w) : X P N .normal [] Q e h L := hq

instance g_cond_true {o : Operand} {x y : Code} [hc : Is (lkO e o) (some (.bool true))] : Step (G P N (.cond o x y) k Q e h L) (G P N x k Q e h L) :=
  ⟨fun g a w s => wpIn_cond_true (s.ae.eval hc.eq) (g a w s)⟩
instance g_cond_false {o : Operand} {x y : Code} [hc : Is (lkO e o) (some (.bool false))] : Step (G P N (.cond o x y) k Q e h L) (G P N y k Q e h L) :=
  ⟨fun g a w s => wpIn_cond_false (s.ae.eval hc.eq) (g a w s)⟩
theorem g_cond_dec {o : Operand} {x y : Code} {p : Prop} [Decidable p] (hc : lkO e o = some (.bool (decide p))) (g1 : p → G P N x k Q e h L) (g2 : ¬ p → G P N y k Q e h L) :
    G P N (.cond o x y) k Q e h L := fun a w s => by
  by_cases hp : p
  · exact wpIn_cond_true (by rw [s.ae.eval hc]; simp [hp]) (g1 hp a w s)
  · exact wpIn_cond_false (by rw [s.ae.eval hc]; simp [hp]) (g2 hp a w s)
theorem g_cond_bool {o : Operand} {x y : Code} {b : Bool} (hc : lkO e o = some (.bool b)) (g1 : b = true → G P N x k Q e h L) (g2 : b = false → G P N y k Q e h L) :
    G P N (.cond o x y) k Q e h L := fun a w s => by
  cases b with
  | true => exact wpIn_cond_true (s.ae.eval hc) (g1 rfl a w s)
  | false => exact wpIn_cond_false (s.ae.eval hc) (g2 rfl a w s)
end code
end Go.Sl

/-
  Regions that draw their order: one walk in the text's order serves every order.
-/
namespace Go.Sl
set_option linter.unusedVariables false
set_option linter.unusedSimpArgs false

/-- Operations that leave the world alone. -/
def soft : Op → Bool
  | .move _ | .assign _ | .pick .. | .build .. | .nilCheck _ | .binOp .. | .unOp .. | .convert .. | .makeInterface .. | .makeFunc .. | .fieldAddr .. | .field .. | .indexAddr .. | .index ..
  | .extract .. | .load .. | .lookup .. | .slice .. => true
  | .call { callee := .builtin b, .. } => match b with | .len | .cap | .min | .max => true | _ => false
  | _ => false
/-- Those among them that look at it. -/
def looks : Op → Bool
  | .load .. | .lookup .. => true
  | _ => false
def choosy : Op → Bool
  | .select .. => true
  | _ => false
theorem choosy_spec {op : Op} (h : choosy op = false) : ∀ cs b, op ≠ .select cs b := fun cs b e => by subst e; cases h

def noDefer : Result Next → Prop
  | .ok (.defer _) _ => False
  | _ => True

section
variable {P : Program} {ops : Array Oper} {C : World → Prop} {need : Nat → Bool}

def Yc (P : Program) (ops : Array Oper) (C : World → Prop) (o : Oper) (v : Value) (a : Act) : Prop :=
  (Region.wanted o (yielded ops a.tmps) = true ∧ ∀ w, (looks o.op = true → C w) → (execOp a.eval o).run P w = .ok (.value v) w) ∨
  (Region.wanted o (yielded ops a.tmps) = false ∧ v = undef)

def softAt (ops : Array Oper) (i : Nat) : Bool := match ops[i]? with | some o => soft o.op | none => false
def looksAt (ops : Array Oper) (i : Nat) : Bool := match ops[i]? with | some o => looks o.op | none => false
def apartAt (ops : Array Oper) (i j : Nat) : Bool := match ops[i]?, ops[j]? with | some x, some y => x.apart ops y | _, _ => false
def waitsAt (ops : Array Oper) (j i : Nat) : Bool := match ops[j]? with | some o => o.after.any fun e => Region.binds .any e && e.on == i | none => false

/-- A hard operation, that may not panic. -/
def hardOp (P : Program) (ops : Array Oper) (o : Oper) (K : Act → World → Prop) (a : Act) (w : World) : Prop :=
  if Region.wanted o (yielded ops a.tmps) then o.wp P a w K (fun _ _ _ => False) ∧ noDefer ((execOp a.eval o).run P w) else K (a.put o.dst undef) w

def wpLex (P : Program) (ops : Array Oper) (C : World → Prop) (need : Nat → Bool) (F : Act → World → Prop) : List Nat → Act → World → Prop
  | [], a, w => F a w
  | i :: r, a, w => ∃ o, ops[i]? = some o ∧
    if soft o.op then ∃ v, Yc P ops C o v a ∧ wpLex P ops C need F r (a.put o.dst v) w
    else hardOp P ops o (fun a' w' => (need i = true → C w') ∧ wpLex P ops C need F r a' w') a w

theorem hardOp_mono {o : Oper} {K K' : Act → World → Prop} {a : Act} {w : World} (h : ∀ u w', K (a.put o.dst u) w' → K' (a.put o.dst u) w') (hh : hardOp P ops o K a w) : hardOp P ops o K' a w := by
  unfold hardOp at *
  split
  · rename_i hw; rw [if_pos hw] at hh
    obtain ⟨hh, hn⟩ := hh
    refine ⟨?_, hn⟩
    unfold Oper.wp at *
    generalize (execOp a.eval o).run P w = r at *
    cases r with
    | halt x w' => cases x <;> exact hh
    | ok n w' =>
      cases n <;> simp only [Oper.upon] at hh ⊢ <;> first | exact hh | exact h _ _ hh | skip
      case defer d => exact hn.elim
      case enter f args => exact hh.mono fun e w'' he => by cases e <;> first | exact h _ _ he | exact he
      case row row args => exact hh.mono fun _ _ he => h _ _ he
  · rename_i hw; rw [if_neg hw] at hh; exact h _ _ hh

theorem hardOp_some {o : Oper} {K : Act → World → Prop} {a : Act} {w : World} (hh : hardOp P ops o K a w) : ∃ u w', K (a.put o.dst u) w' := by
  unfold hardOp at hh
  split at hh
  · obtain ⟨hh, hn⟩ := hh
    unfold Oper.wp at hh
    generalize (execOp a.eval o).run P w = r at *
    cases r with
    | halt x w' => cases x <;> exact hh.elim
    | ok n w' =>
      cases n <;> simp only [Oper.upon] at hh <;> try exact hh.elim
      case value u => exact ⟨u, w', hh⟩
      case skip => exact ⟨undef, w', hh⟩
      case defer d => exact hn.elim
      case enter f args =>
        obtain ⟨e, w'', fr, hR, _⟩ := hh []
        cases e with
        | returned v => exact ⟨v, w'', hR⟩
        | panicked c => exact hR.elim
        | outgrown => obtain ⟨_, _, hx⟩ := hR; exact hx.elim
      case row row args =>
        obtain ⟨v, w'', hR, _⟩ := hh default []
        exact ⟨v, w'', hR⟩
  · exact ⟨undef, w, hh⟩

/-- It makes no difference to a hard operation whether the value of an operation apart from it is in its slot already. -/
theorem hardOp_put {oi oj : Oper} {v : Value} (hap : oi.apart ops oj = true) (hsj : ∀ cs b, oj.op ≠ .select cs b) {K : Act → World → Prop} {a : Act} {w : World} :
    hardOp P ops oj K (a.put oi.dst v) w ↔ hardOp P ops oj (fun a' w' => K (a'.put oi.dst v) w') a w := by
  obtain ⟨h1, h2, h3⟩ := Oper.apart_spec hap
  have hcomm : ∀ u, (a.put oi.dst v).put oj.dst u = (a.put oj.dst u).put oi.dst v := fun u => Act.put_comm a v u h2
  unfold hardOp Oper.wp
  rw [wanted_put oj a oi.dst v h1, execOp_put oj hsj a oi.dst v h1]
  split
  · generalize (execOp a.eval oj).run P w = r
    cases r with
    | halt x w' => cases x <;> simp only [Oper.upon, noDefer]
    | ok n w' =>
      cases n <;> simp only [Oper.upon, noDefer, hcomm, and_false, and_true]
  · rw [hcomm]

theorem Yc.of_same {o : Oper} {v : Value} {a a' : Act} (hy : Yc P ops C o v a) (he : execOp a'.eval o = execOp a.eval o)
    (hw : Region.wanted o (yielded ops a'.tmps) = Region.wanted o (yielded ops a.tmps)) : Yc P ops C o v a' := by
  unfold Yc at *; rw [he, hw]; exact hy
theorem Yc.put_iff {oi oj : Oper} {v u : Value} {a : Act} (hap : oi.apart ops oj = true) (hsj : ∀ cs b, oj.op ≠ .select cs b) :
    Yc P ops C oj u (a.put oi.dst v) ↔ Yc P ops C oj u a := by
  obtain ⟨h1, h2, h3⟩ := Oper.apart_spec hap
  unfold Yc
  rw [wanted_put oj a oi.dst v h1, execOp_put oj hsj a oi.dst v h1]
theorem Yc.unique {o : Oper} {v v' : Value} {a : Act} (hC : ∃ w, C w) (h : Yc P ops C o v a) (h' : Yc P ops C o v' a) : v = v' := by
  obtain ⟨w, hw⟩ := hC
  rcases h with ⟨h1, h2⟩ | ⟨h1, rfl⟩ <;> rcases h' with ⟨h3, h4⟩ | ⟨h3, rfl⟩
  · have e1 := h2 w (fun _ => hw); have e2 := h4 w (fun _ => hw); rw [e1] at e2; injection e2 with e2; injection e2
  · rw [h1] at h3; cases h3
  · rw [h1] at h3; cases h3
  · rfl

theorem apart_symm {x y : Oper} (h : x.apart ops y = true) : y.apart ops x = true := by
  obtain ⟨h1, h2, h3⟩ := Oper.apart_spec h
  unfold Oper.apart
  rw [Bool.and_eq_true]
  constructor
  · split
    · rename_i d hd
      simp only [Bool.and_eq_true, Bool.not_eq_true', List.contains_eq_mem, decide_eq_false_iff_not, bne_iff_ne]
      exact ⟨h3 d hd, fun e => h2 d e hd⟩
    · rfl
  · split
    · rename_i d hd
      simp only [Bool.not_eq_true', List.contains_eq_mem, decide_eq_false_iff_not]
      exact h1 d hd
    · rfl

/-- A soft operation is pulled ahead of all those that it is apart from. -/
theorem wpLex_pull {F : Act → World → Prop} (hC : ∃ w, C w) (hsel : ∀ (j : Nat) (o : Oper), ops[j]? = some o → choosy o.op = false) {m : Nat} {om : Oper} (hm : ops[m]? = some om) (hs : soft om.op = true) :
    ∀ (pre post : List Nat) (a : Act) (w : World), (∀ j ∈ pre, apartAt ops m j = true) → wpLex P ops C need F (pre ++ m :: post) a w →
      ∃ v, Yc P ops C om v a ∧ wpLex P ops C need F (pre ++ post) (a.put om.dst v) w
  | [], post, a, w, _, h => by
    obtain ⟨o, ho, h⟩ := h
    rw [hm] at ho; cases ho
    rw [if_pos hs] at h; exact h
  | j :: pre, post, a, w, hap, h => by
    obtain ⟨oj, hj, h⟩ := h
    have hA : om.apart ops oj = true := by have := hap j List.mem_cons_self; simpa [apartAt, hm, hj] using this
    have hA' := apart_symm hA
    obtain ⟨_, hd, _⟩ := Oper.apart_spec hA
    have hap' : ∀ i ∈ pre, apartAt ops m i = true := fun i hi => hap i (List.mem_cons_of_mem _ hi)
    have sm := choosy_spec (hsel m om hm)
    have sj := choosy_spec (hsel j oj hj)
    by_cases hsj : soft oj.op = true
    · rw [if_pos hsj] at h
      obtain ⟨u, hu, h⟩ := h
      obtain ⟨v, hv, h⟩ := wpLex_pull hC hsel hm hs pre post _ w hap' h
      refine ⟨v, (Yc.put_iff hA' sm).1 hv, oj, hj, ?_⟩
      rw [if_pos hsj]
      refine ⟨u, (Yc.put_iff hA sj).2 hu, ?_⟩
      rw [Act.put_comm a v u hd]; exact h
    · rw [if_neg hsj] at h
      have key : ∀ u w', ((need j = true → C w') ∧ wpLex P ops C need F (pre ++ m :: post) (a.put oj.dst u) w') →
          ∃ v, Yc P ops C om v a ∧ ((need j = true → C w') ∧ wpLex P ops C need F (pre ++ post) ((a.put oj.dst u).put om.dst v) w') := by
        intro u w' ⟨hc, h⟩
        obtain ⟨v, hv, h⟩ := wpLex_pull hC hsel hm hs pre post _ w' hap' h
        exact ⟨v, (Yc.put_iff hA' sm).1 hv, hc, h⟩
      obtain ⟨u0, w0, h0⟩ := hardOp_some h
      obtain ⟨v, hv, _⟩ := key u0 w0 h0
      refine ⟨v, hv, oj, hj, ?_⟩
      rw [if_neg hsj]
      refine (hardOp_put hA sj).2 (hardOp_mono (fun u w' hk => ?_) h)
      obtain ⟨v', hv', hk'⟩ := key u w' hk
      rw [Yc.unique hC hv hv']; exact hk'

/-- Whatever order is picked from here on; what must stay as it was is told with it. -/
def wpAnyC (P : Program) (ops : Array Oper) (C : World → Prop) (keep : Nat → Bool) (F : Act → World → Prop) : Nat → Array Bool → Act → World → Prop
  | 0, listed, a, w => Region.ready .any ops listed = [] ∧ F a w
  | fuel + 1, listed, a, w =>
    (Region.ready .any ops listed = [] → F a w) ∧
    ∀ i ∈ Region.ready .any ops listed, ∃ o, ops[i]? = some o ∧ hardOp P ops o (fun a' w' => (keep i = true → C w → C w') ∧ wpAnyC P ops C keep F fuel (listed.setIfInBounds i true) a' w') a w

theorem notDefer_of {o : Oper} {K : Act → World → Prop} {a : Act} {w : World} (h1 : o.wp P a w K (fun _ _ _ => False)) (h2 : noDefer ((execOp a.eval o).run P w)) : ∀ c, o.op ≠ .defer c := by
  intro c hc
  unfold Oper.wp at h1
  have he : execOp a.eval o = (do pure (.defer (← resolve a.eval c o.type)) : Sem Next) := by
    cases o with
    | mk dst op ty pos af g => simp only at hc; subst hc; rfl
  rw [he, Sem.run_bind] at h1 h2
  generalize (resolve a.eval c o.type).run P w = r at *
  cases r with
  | ok d w' => simp only [Result.andThen_ok, Sem.run_pure] at h2; exact h2
  | halt x w' => cases x <;> simp only [Result.andThen, Oper.upon] at h1
theorem notDefer_val {o : Oper} {ρ : Operand → Value} {w w' : World} {v : Value} (h : (execOp ρ o).run P w = .ok (.value v) w') : ∀ c, o.op ≠ .defer c := by
  intro c hc
  have he : execOp ρ o = (do pure (.defer (← resolve ρ c o.type)) : Sem Next) := by
    cases o with
    | mk dst op ty pos af g => simp only at hc; subst hc; rfl
  rw [he, Sem.run_bind] at h
  generalize (resolve ρ c o.type).run P w = r at *
  cases r with
  | ok d w' => simp only [Result.andThen_ok, Sem.run_pure] at h; cases h
  | halt x w' => simp only [Result.andThen] at h; cases h
theorem wp_noPanic0 {o : Oper} {a : Act} {w : World} {K : Act → World → Prop} {Q : Post} (h : o.wp P a w K (fun _ _ _ => False)) : o.wp P a w K Q := by
  unfold Oper.wp at *
  generalize (execOp a.eval o).run P w = r at *
  cases r with
  | halt x w' => cases x <;> simp only [Oper.upon] at h
  | ok n w' =>
    cases n <;> simp only [Oper.upon] at h ⊢
    case enter f args =>
      refine h.mono (fun e w'' he => ?_)
      cases e with
      | returned v => exact he
      | panicked c => exact he.elim
      | outgrown => obtain ⟨_, _, hx⟩ := he; exact hx.elim
    all_goals exact h
theorem wpAny_of_C {ro : Option Nat} {keep : Nat → Bool} {F : Act → World → Prop} {Q : Post} (hQ : ∀ a w, F a w → Q .normal a w) : ∀ (fuel : Nat) (listed : Array Bool) (a : Act) (w : World),
    wpAnyC P ops C keep F fuel listed a w → wpAnyIn (Fat ro) 0 P .any ops Q fuel listed a w
  | 0, _, _, _, h => ⟨h.1, hQ _ _ h.2⟩
  | fuel + 1, listed, a, w, h => by
    refine ⟨fun h0 => hQ _ _ (h.1 h0), fun i hi => ?_⟩
    obtain ⟨o, ho, hh⟩ := h.2 i hi
    unfold wpOpIn
    simp only [ho]
    unfold hardOp at hh
    split
    · rename_i hw; rw [if_pos hw] at hh
      refine opIn_of (notDefer_of hh.1 hh.2) (Oper.wp_mono (fun a' w' hk => ?_) (wp_noPanic0 hh.1))
      exact wpAny_of_C hQ fuel _ _ _ hk.2
    · rename_i hw; rw [if_neg hw] at hh; exact ⟨fun _ _ => trivial, wpAny_of_C hQ fuel _ _ _ hh.2⟩

theorem Yc.hard {o : Oper} {v : Value} {a : Act} {w : World} {K : Act → World → Prop} (hy : Yc P ops C o v a) (hw : looks o.op = true → C w) (h : K (a.put o.dst v) w) : hardOp P ops o K a w := by
  unfold hardOp
  rcases hy with ⟨h1, h2⟩ | ⟨h1, rfl⟩
  · rw [if_pos h1]; unfold Oper.wp; rw [h2 w hw]; exact ⟨h, trivial⟩
  · rw [if_neg (by simp [h1])]; exact h

/-- An operation that may come up now may be taken first. -/
theorem wpAnyC_first {keep : Nat → Bool} {F : Act → World → Prop} (hsel : ∀ (j : Nat) (o : Oper), ops[j]? = some o → choosy o.op = false) {i : Nat} {oi : Oper} {v : Value} (hi : ops[i]? = some oi) (hk : keep i = true) :
    ∀ (fuel : Nat) (listed : Array Bool) (a : Act) (w : World),
      (∀ j oj, ops[j]? = some oj → j ≠ i → listed.getD j true = false → waitsAt ops j i = false → oi.apart ops oj = true ∧ (looks oi.op = true → keep j = true)) →
      i ∈ Region.ready .any ops listed → Yc P ops C oi v a → (looks oi.op = true → C w) →
      wpAnyC P ops C keep F fuel (listed.setIfInBounds i true) (a.put oi.dst v) w → wpAnyC P ops C keep F (fuel + 1) listed a w := by
  intro fuel
  induction fuel with
  | zero =>
    intro listed a w _ hr hy hw H
    refine ⟨fun h => (by rw [h] at hr; cases hr), fun j hj => ?_⟩
    by_cases hji : j = i
    · subst hji; exact ⟨oi, hi, hy.hard hw ⟨fun _ h => h, H⟩⟩
    · have := ready_mono hj hji
      rw [H.1] at this
      cases this
  | succ fuel ih =>
    intro listed a w hfree hr hy hw H
    refine ⟨fun h => (by rw [h] at hr; cases hr), fun j hj => ?_⟩
    by_cases hji : j = i
    · subst hji; exact ⟨oi, hi, hy.hard hw ⟨fun _ h => h, H⟩⟩
    · obtain ⟨oj, hoj, h1⟩ := H.2 j (ready_mono hj hji)
      obtain ⟨hjun, oj', hoj', hall⟩ := mem_ready.1 hj
      rw [hoj] at hoj'; cases hoj'
      have hnot : waitsAt ops j i = false := by
        unfold waitsAt
        simp only [hoj]
        rw [Bool.eq_false_iff]; intro hany
        obtain ⟨e, he, hbe⟩ := Array.any_eq_true'.1 hany
        revert hbe
        simp only [Bool.and_eq_true, beq_iff_eq]
        rintro ⟨hb, heq⟩
        have h1 := hall e he hb
        have h0 := (mem_ready.1 hr).1
        rw [heq] at h1
        rcases Nat.lt_or_ge i listed.size with h' | h'
        · simp [h'] at h0 h1; rw [h0] at h1; cases h1
        · simp [Array.getElem?_eq_none h'] at h1
      obtain ⟨hA, hkj⟩ := hfree j oj hoj hji hjun hnot
      have sj := choosy_spec (hsel j oj hoj)
      have si := choosy_spec (hsel i oi hi)
      refine ⟨oj, hoj, hardOp_mono (fun u w' hk => ?_) ((hardOp_put hA sj).1 h1)⟩
      obtain ⟨hkeep, h3⟩ := hk
      refine ⟨hkeep, ?_⟩
      refine ih (listed.setIfInBounds j true) _ w' ?_ (ready_mono hr (Ne.symm hji)) ((Yc.put_iff (apart_symm hA) si).2 hy) (fun hl => hkeep (hkj hl) (hw hl)) ?_
      · intro k ok hk' hki hun hno
        refine hfree k ok hk' hki ?_ hno
        by_cases hjk : j = k
        · subst hjk; exact hjun
        · rw [getD_set_ne true hjk] at hun; exact hun
      · rw [Array.setIfInBounds_comm _ _ hji]; exact h3

/-- The plan of the text's order: at each turn a soft operation that may come up is taken first, else the one that is alone. -/
def planB (ops : Array Oper) (need : Nat → Bool) : Nat → Array Bool → List Nat → Bool
  | 0, listed, rem => rem.isEmpty && (Region.ready .any ops listed).isEmpty
  | fuel + 1, listed, rem =>
    match rem.find? (fun m => softAt ops m && (Region.ready .any ops listed).contains m) with
    | some m =>
      (rem.takeWhile (fun j => !(j == m))).all (fun j => apartAt ops m j) &&
      (List.range ops.size).all (fun j => j == m || listed.getD j true || waitsAt ops j m || (apartAt ops m j && (!looksAt ops m || softAt ops j || need j))) &&
      planB ops need fuel (listed.setIfInBounds m true) (rem.erase m)
    | none =>
      match rem with
      | [] => false
      | j :: r => (Region.ready .any ops listed == [j]) && !softAt ops j && (need j || r.all (fun i => !looksAt ops i)) && planB ops need fuel (listed.setIfInBounds j true) r

theorem erase_split {m : Nat} : ∀ {l : List Nat}, m ∈ l → ∃ pre post, l = pre ++ m :: post ∧ l.erase m = pre ++ post ∧ pre = l.takeWhile (fun j => !(j == m))
  | [], h => by cases h
  | x :: l, h => by
    by_cases e : x = m
    · subst e; exact ⟨[], l, rfl, by simp, by simp⟩
    · obtain ⟨pre, post, h1, h2, h3⟩ := erase_split (l := l) (by simpa [Ne.symm e] using h)
      refine ⟨x :: pre, post, by rw [h1]; rfl, ?_, ?_⟩
      · rw [List.erase_cons_tail (by simpa using e), h2]; rfl
      · rw [List.takeWhile_cons_of_pos (by simpa using e), ← h3]

theorem planB_sound {F : Act → World → Prop} (hC : ∃ w, C w) (hsel : ∀ (j : Nat) (o : Oper), ops[j]? = some o → choosy o.op = false) :
    ∀ (fuel : Nat) (listed : Array Bool) (rem : List Nat) (a : Act) (w : World), planB ops need fuel listed rem = true → (rem.any (looksAt ops) = true → C w) →
      wpLex P ops C need F rem a w → wpAnyC P ops C (fun j => softAt ops j || need j) F fuel listed a w
  | 0, listed, rem, a, w, hp, _, h => by
    simp only [planB, Bool.and_eq_true, List.isEmpty_iff] at hp
    obtain ⟨rfl, hr⟩ := hp
    exact ⟨hr, h⟩
  | fuel + 1, listed, rem, a, w, hp, hw, h => by
    unfold planB at hp
    split at hp
    · rename_i m hm
      have hmem := List.mem_of_find?_eq_some hm
      have hprop := List.find?_some hm
      simp only [Bool.and_eq_true] at hprop hp
      obtain ⟨⟨h1, h2⟩, h3⟩ := hp
      obtain ⟨hsoft, hready⟩ := hprop
      have hready' : m ∈ Region.ready .any ops listed := by simpa using hready
      obtain ⟨_, om, hom, _⟩ := mem_ready.1 hready'
      have hs : soft om.op = true := by simpa [softAt, hom] using hsoft
      obtain ⟨pre, post, e1, e2, e3⟩ := erase_split hmem
      rw [e1] at h
      obtain ⟨v, hv, h'⟩ := wpLex_pull hC hsel hom hs pre post a w (by rw [e3]; simpa using h1) h
      rw [← e2] at h'
      have hlook : looks om.op = true → C w := fun hl => hw (List.any_eq_true.2 ⟨m, hmem, by simp [looksAt, hom, hl]⟩)
      refine wpAnyC_first (keep := fun j => softAt ops j || need j) hsel hom (by simp [hsoft]) fuel listed a w ?_ hready' hv hlook
        (planB_sound hC hsel fuel _ _ _ _ h3 (fun hany => hw ?_) h')
      · intro j oj hj hjm hun hnw
        have := List.all_eq_true.1 h2 j (List.mem_range.2 (Array.getElem?_eq_some_iff.1 hj).1)
        simp only [Bool.or_eq_true, beq_iff_eq, hjm, hun, hnw, Bool.and_eq_true, Bool.not_eq_true', false_or] at this
        simp only [Bool.false_eq_true, false_or] at this
        obtain ⟨ha, hb⟩ := this
        refine ⟨by simpa [apartAt, hom, hj] using ha, fun hl => ?_⟩
        simp only [looksAt, hom, hl, Bool.true_eq_false, false_or] at hb
        simpa using hb
      · obtain ⟨x, hx, hx2⟩ := List.any_eq_true.1 hany
        exact List.any_eq_true.2 ⟨x, List.mem_of_mem_erase hx, hx2⟩
    · split at hp
      · cases hp
      · rename_i j r _
        simp only [Bool.and_eq_true, beq_iff_eq, Bool.not_eq_true', Bool.or_eq_true] at hp
        obtain ⟨⟨⟨h1, h2⟩, h3⟩, h4⟩ := hp
        obtain ⟨o, ho, h⟩ := h
        have hs : ¬ soft o.op = true := by simpa [softAt, ho] using h2
        rw [if_neg hs] at h
        refine ⟨fun h0 => ?_, fun i hi => ?_⟩
        · rw [h1] at h0; cases h0
        rw [h1] at hi
        have hij : i = j := by simpa using hi
        subst hij
        refine ⟨o, ho, hardOp_mono (fun u w' hk => ⟨fun hkeep hc => ?_, planB_sound hC hsel fuel _ _ _ _ h4 (fun hany => ?_) hk.2⟩) h⟩
        · simp only [h2, Bool.false_or] at hkeep; exact hk.1 hkeep
        · rcases h3 with h3 | h3
          · exact hk.1 h3
          · exfalso
            obtain ⟨x, hx, hx2⟩ := List.any_eq_true.1 hany
            have := List.all_eq_true.1 h3 x hx
            rw [hx2] at this; cases this

/-- Which hard operations must leave as it was what soft ones look at: those for which one that looks does not wait. -/
def needs (ops : Array Oper) (j : Nat) : Bool := !softAt ops j && (List.range ops.size).any (fun m => looksAt ops m && !waitsAt ops j m)
def drawOK (ops : Array Oper) : Bool := ops.all (fun o => !choosy o.op) && planB ops (needs ops) ops.size (Array.replicate ops.size false) (List.range ops.size)

theorem wp_draw {ro : Option Nat} {id : Nat} {Q : Post} {a : Act} {w : World} (hm : P.follows .mixedOrders = true) (hok : drawOK ops = true) (hCw : C { w with drawn := w.drawn + 1 })
    (h : wpLex P ops C (needs ops) (fun a w => Q .normal a w) (List.range ops.size) a { w with drawn := w.drawn + 1 }) : (Code.region id ops true).wpIn (Fat ro) 0 P Q a w := by
  unfold drawOK at hok
  rw [Bool.and_eq_true] at hok
  refine wpIn_region_any hm (wpAny_of_C (F := fun a w => Q .normal a w) (fun _ _ h => h) _ _ _ _ (planB_sound ⟨_, hCw⟩ ?_ _ _ _ _ _ hok.2 (fun _ => hCw) h))
  intro j o hj
  have := (Array.all_eq_true_iff_forall_mem.1 hok.1) o (Array.mem_of_getElem? hj)
  simpa using this
end
end Go.Sl

/-
  The rules: operations of a region, one after another.
-/
namespace Go.Sl
set_option linter.unusedVariables false
set_option linter.unusedSimpArgs false

/-! ### Facts on types -/
class TySz (P : Program) (t : TypeId) (agg : outParam Bool) (n : outParam Nat) : Prop where
  eq : ∃ i d, P.info? t = some i ∧ i.size = n ∧ P.underlying t = some d ∧ d.isRow = agg
class FOff (P : Program) (t f : Nat) (off : outParam Nat) : Prop where
  eq : ∃ fs fd i, P.underlying t = some (.struct fs) ∧ fs[f]? = some fd ∧ fd.offset = off ∧ P.info? fd.type = some i ∧ i.size ≠ 0
class FTy (P : Program) (t f : Nat) (off : outParam Nat) (agg : outParam Bool) (n : outParam Nat) : Prop where
  eq : ∃ fs fd ft, P.underlying t = some (.struct fs) ∧ fs[f]? = some fd ∧ fd.offset = off ∧ fd.type = ft ∧ TySz P ft agg n
class ArrT (P : Program) (t : TypeId) (len el : outParam Nat) : Prop where
  eq : P.underlying t = some (.array len el)
class SliT (P : Program) (t : TypeId) (el : outParam Nat) : Prop where
  eq : P.underlying t = some (.slice el)
class PtrT (P : Program) (t : TypeId) : Prop where
  eq : ∃ el i, P.underlying t = some (.pointer el) ∧ P.info? el = some i ∧ i.size ≠ 0
class IntT (P : Program) (t : TypeId) (k : outParam IntKind) : Prop where
  eq : P.underlying t = some (.int k)
class HasT (P : Program) (t : TypeId) : Prop where
  eq : ∃ d, P.underlying t = some d
class ZeroT (P : Program) (t : TypeId) (v : outParam Value) : Prop where
  eq : ∃ i, P.info? t = some i ∧ i.zero = some v

abbrev vI (n : Int) : Value := .int .i64 n

/-! ### Lists -/
class GetN (l : List Value) (i : Nat) (v : outParam Value) : Prop where
  eq : l[i]? = some v
instance {v : Value} {l : List Value} : GetN (v :: l) 0 v := ⟨rfl⟩
instance {v x : Value} {l : List Value} {n : Nat} [g : GetN l n v] : GetN (x :: l) (n + 1) v := ⟨by simpa using g.eq⟩
class DropN (l : List Value) (i : Nat) (l' : outParam (List Value)) : Prop where
  eq : l.drop i = l'
instance {l : List Value} : DropN l 0 l := ⟨rfl⟩
instance {x : Value} {l l' : List Value} {n : Nat} [g : DropN l n l'] : DropN (x :: l) (n + 1) l' := ⟨by simpa using g.eq⟩
class TakeN (l : List Value) (i : Nat) (l' : outParam (List Value)) : Prop where
  eq : l.take i = l' ∧ l'.length = i
instance {l : List Value} : TakeN l 0 [] := ⟨by simp⟩
instance {x : Value} {l l' : List Value} {n : Nat} [g : TakeN l n l'] : TakeN (x :: l) (n + 1) (x :: l') := ⟨by simpa using g.eq⟩
class SetN (l : List Value) (i : Nat) (v : Value) (l' : outParam (List Value)) : Prop where
  eq : l.set i v = l' ∧ i < l.length
instance {x v : Value} {l : List Value} : SetN (x :: l) 0 v (v :: l) := ⟨by simp⟩
instance {x v : Value} {l l' : List Value} {n : Nat} [g : SetN l n v l'] : SetN (x :: l) (n + 1) v (x :: l') := ⟨by simpa using g.eq⟩
/-- A list as it is written out. -/
class Lit (l : List Value) (l' : outParam (List Value)) : Prop where
  eq : l = l'
instance : Lit [] [] := ⟨rfl⟩
instance {x : Value} {l l' : List Value} [g : Lit l l'] : Lit (x :: l) (x :: l') := ⟨by rw [g.eq]⟩

class AddN (a b : Nat) (c : outParam Nat) : Prop where
  eq : a + b = c
instance (priority := low) {a b : Nat} : AddN a b (a + b) := ⟨rfl⟩
instance {b : Nat} : AddN 0 b b := ⟨Nat.zero_add b⟩
instance {a : Nat} : AddN a 0 a := ⟨rfl⟩
class MulN (a b : Nat) (c : outParam Nat) : Prop where
  eq : a * b = c
instance (priority := low) {a b : Nat} : MulN a b (a * b) := ⟨rfl⟩
instance {a : Nat} : MulN a 1 a := ⟨Nat.mul_one a⟩
instance {b : Nat} : MulN 0 b 0 := ⟨Nat.zero_mul b⟩
class ToN (i : Int) (n : outParam Nat) : Prop where
  eq : i.toNat = n
instance (priority := low) {i : Int} : ToN i i.toNat := ⟨rfl⟩
instance {n : Nat} : ToN (n : Int) n := ⟨Int.toNat_natCast n⟩
instance : ToN 0 0 := ⟨rfl⟩
instance : ToN 1 1 := ⟨rfl⟩
instance : ToN 2 2 := ⟨rfl⟩
instance : ToN 3 3 := ⟨rfl⟩

/-! ### Blocks that are read -/
class Rdb (V : List HP) (h : PHeap) (b : Nat) (o : outParam Obj) : Prop where
  rd : ∀ w, Cw V h w → w.heap[b]? = some o
class Pt (h : PHeap) (b : Nat) (o : outParam Obj) : Prop where
  eq : h b = some o
theorem Cw.tail {x : HP} {V : List HP} {h : PHeap} {w : World} (c : Cw (x :: V) h w) : Cw V h w := by
  obtain ⟨Z, h', l, s⟩ := c
  exact ⟨Z, h', l, s.drop⟩
instance {b : Nat} {o : Obj} {V : List HP} {h : PHeap} : Rdb (blk b o :: V) h b o := ⟨fun w c => by
  obtain ⟨bs, rfl, hb⟩ := Own.ofMem (List.mem_cons_self (a := blk b o) (l := V)) c
  exact hb (b, o) (by simp)⟩
instance {x : HP} {b : Nat} {o : Obj} {V : List HP} {h : PHeap} [r : Rdb V h b o] : Rdb (x :: V) h b o := ⟨fun w c => r.rd w c.tail⟩
instance (priority := low) {b : Nat} {o : Obj} {V : List HP} {h : PHeap} [p : Pt h b o] : Rdb V h b o := ⟨fun w c => by
  obtain ⟨Z, h', l, s⟩ := c
  exact s.per (l _ _ p.eq)⟩

/-! ### Slices that are read -/
/-- The cells of a slice's elements, each of k cells. -/
def slc {α : Type} (enc : α → List Value) (k : Nat) (v : Value) (xs : List α) : HP := fun bs =>
  (∀ x ∈ xs, (enc x).length = k) ∧ (((∃ a, v = .slice a 0 0) ∧ xs = [] ∧ bs = []) ∨
    ∃ b off cap pre post T fr, v = .slice (some ⟨b, off, none⟩) xs.length cap ∧ pre.length = off ∧ xs.length ≤ cap ∧ bs = [(b, .cells (pre ++ (xs.flatMap enc ++ post)).toArray T fr)])
class Rds {α : outParam Type} (V : List HP) (h : PHeap) (v : Value) (enc : outParam (α → List Value)) (k : outParam Nat) (xs : outParam (List α)) : Prop where
  rd : ∀ w, Cw V h w → Own (slc enc k v xs) w
/-- A slice that is never changed. -/
class FSl {α : outParam Type} (h : PHeap) (v : Value) (enc : outParam (α → List Value)) (k : outParam Nat) (xs : outParam (List α)) : Prop where
  fz : Fz (slc enc k v xs) h
instance {α : Type} {x : HP} {V : List HP} {h : PHeap} {v : Value} {enc : α → List Value} {k : Nat} {xs : List α} [r : Rds V h v enc k xs] : Rds (x :: V) h v enc k xs := ⟨fun w c => r.rd w c.tail⟩
instance {α : Type} {V : List HP} {h : PHeap} {v : Value} {enc : α → List Value} {k : Nat} {xs : List α} : Rds (slc enc k v xs :: V) h v enc k xs := ⟨fun _ c => Own.ofMem List.mem_cons_self c⟩
instance (priority := low) {α : Type} {V : List HP} {h : PHeap} {v : Value} {enc : α → List Value} {k : Nat} {xs : List α} [p : FSl h v enc k xs] : Rds V h v enc k xs := ⟨fun _ c => Own.ofFz p.fz c⟩

def elA (v : Value) (n : Nat) : Addr := match v with | .slice (some a) _ _ => ⟨a.block, a.off + n, none⟩ | _ => ⟨0, n, none⟩

theorem flat_get {α : Type} [Inhabited α] {enc : α → List Value} {k : Nat} : ∀ {xs : List α} {post : List Value}, (∀ x ∈ xs, (enc x).length = k) → ∀ {j f : Nat}, j < xs.length → f < k →
    (xs.flatMap enc ++ post)[j * k + f]? = (enc (xs[j]!))[f]?
  | [], _, _, _, _, h, _ => by simp at h
  | x :: xs, post, he, 0, f, _, hf => by
    have := he x (by simp)
    simp [List.getElem?_append_left (show f < (enc x).length by omega)]
  | x :: xs, post, he, j + 1, f, hj, hf => by
    have hx := he x (by simp)
    have := flat_get (post := post) (fun y hy => he y (List.mem_cons_of_mem _ hy)) (j := j) (f := f) (by simpa using hj) hf
    rw [List.flatMap_cons, List.append_assoc, List.getElem?_append_right (by rw [hx, Nat.add_mul]; omega)]
    rw [show (j + 1) * k + f - (enc x).length = j * k + f by rw [hx, Nat.add_mul]; omega, this]
    simp

theorem Own.slc_pure {α : Type} {enc : α → List Value} {k : Nat} {v : Value} {xs : List α} {w : World} (o : Own (slc enc k v xs) w) :
    ((∃ a, v = .slice a 0 0) ∧ xs = []) ∨ ∃ b off cap, v = .slice (some ⟨b, off, none⟩) xs.length cap := by
  obtain ⟨bs, ⟨_, h⟩, _⟩ := o
  rcases h with ⟨h1, h2, _⟩ | ⟨b, off, cap, pre, post, T, fr, h1, _, _⟩
  · exact .inl ⟨h1, h2⟩
  · exact .inr ⟨b, off, cap, h1⟩
theorem Own.slc_get {α : Type} [Inhabited α] {enc : α → List Value} {k : Nat} {v : Value} {xs : List α} {w : World} (o : Own (slc enc k v xs) w) {j f : Nat} (hj : j < xs.length) (hf : f < k) :
    w.cell? (elA v (j * k + f)) = (enc (xs[j]!))[f]? := by
  obtain ⟨bs, ⟨he, h⟩, hb⟩ := o
  rcases h with ⟨_, h2, _⟩ | ⟨b, off, cap, pre, post, T, fr, rfl, hp, hcap, rfl⟩
  · subst h2; simp at hj
  · have := hb (b, .cells (pre ++ (xs.flatMap enc ++ post)).toArray T fr) (by simp)
    simp only at this
    simp only [elA, World.cell?, this]
    rw [← flat_get (post := post) he hj hf]
    simp only [Option.isSome_none, Bool.false_eq_true, if_false, List.getElem?_toArray]
    rw [List.getElem?_append_right (by omega)]
    congr 1; omega

/-! ### Soft operations -/
class Soft (P : Program) (N : NN) (V : List HP) (h : PHeap) (e : Env) (op : Op) (s : outParam Prop) (v : outParam Value) : Prop where
  run : s → (∃ w, Cw V h w) → ∀ (d : Option Tmp) (ty : TypeId) (pos : String) (af : Array Edge) (g : Option (Nat × Bool)) (a : Act) (w : World), AE N e a → (looks op = true → Cw V h w) →
    (execOp a.eval ⟨d, op, ty, pos, af, g⟩).run P w = .ok (.value v) w

section soft
variable {P : Program} {N : NN} {V : List HP} {h : PHeap} {e : Env}
instance {x : Operand} {v : Value} [hx : Is (lkO e x) (some v)] : Soft P N V h e (.move x) True v := ⟨fun _ _ d ty pos af g a w s _ => by
  simp only [execOp, s.eval hx.eq, Sem.run_pure]⟩
instance {x : Operand} {v : Value} [hx : Is (lkO e x) (some v)] : Soft P N V h e (.assign x) True v := ⟨fun _ _ d ty pos af g a w s _ => by
  simp only [execOp, s.eval hx.eq, Sem.run_pure]⟩
instance {c x y : Operand} {v : Value} [hc : Is (lkO e c) (some (.bool true))] [hx : Is (lkO e x) (some v)] : Soft P N V h e (.pick c x y) True v := ⟨fun _ _ d ty pos af g a w s _ => by
  simp [execOp, s.eval hc.eq, s.eval hx.eq, asBool]⟩
instance {c x y : Operand} {v : Value} [hc : Is (lkO e c) (some (.bool false))] [hx : Is (lkO e y) (some v)] : Soft P N V h e (.pick c x y) True v := ⟨fun _ _ d ty pos af g a w s _ => by
  simp [execOp, s.eval hc.eq, s.eval hx.eq, asBool]⟩
instance {x : Operand} {i : Nat} {l : List Value} {v : Value} [hx : Is (lkO e x) (some (.tuple l.toArray))] [hg : GetN l i v] : Soft P N V h e (.extract x i) True v := ⟨fun _ _ d ty pos af g a w s _ => by
  simp [execOp, s.eval hx.eq, Instr.extract, hg.eq]⟩
instance {x : Operand} {a0 : Addr} [hx : Is (lkO e x) (some (.pointer (some a0)))] : Soft P N V h e (.nilCheck x) True (.pointer (some a0)) := ⟨fun _ _ d ty pos af g a w s _ => by
  simp [execOp, s.eval hx.eq]⟩

theorem run_fieldAt {t f off : Nat} [ho : FOff P t f off] (b o : Nat) (w : World) : (Instr.fieldAt t (.pointer (some ⟨b, o, none⟩)) f).run P w = .ok (.pointer (some ⟨b, o + off, none⟩)) w := by
  obtain ⟨fs, fd, i, h1, h2, h3, h4, h5⟩ := ho.eq
  have hs : ∀ w, (sizeOf fd.type).run P w = .ok i.size w := fun w => by simp [sizeOf, typeInfo, h4]
  simp [Instr.fieldAt, underlying, h1, h2, Instr.sureAddr, fieldPlace, hs, h5, Addr.add_mid, h3]
instance {t f off b o o' : Nat} {x : Operand} [hx : Is (lkO e x) (some (.pointer (some ⟨b, o, none⟩)))] [ho : FOff P t f off] [ha : AddN o off o'] :
    Soft P N V h e (.fieldAddr t x f) True (.pointer (some ⟨b, o', none⟩)) := ⟨fun _ _ d ty pos af g a w s _ => by
  simp only [execOp, s.eval hx.eq, Sem.run_bind, run_fieldAt, Result.andThen_ok, Sem.run_pure, ha.eq]⟩
theorem elA_mk (u : Value) (n : Nat) : ∃ b o, ∀ m, elA u (n + m) = ⟨b, o + m, none⟩ := by
  unfold elA
  split
  · rename_i a _ _; exact ⟨a.block, a.off + n, fun m => by rw [Nat.add_assoc]⟩
  · exact ⟨0, n, fun _ => rfl⟩
instance {t f off n n' : Nat} {u : Value} {x : Operand} [hx : Is (lkO e x) (some (.pointer (some (elA u n))))] [ho : FOff P t f off] [ha : AddN n off n'] :
    Soft P N V h e (.fieldAddr t x f) True (.pointer (some (elA u n'))) := ⟨fun _ _ d ty pos af g a w s _ => by
  obtain ⟨b, o, hm⟩ := elA_mk u n
  have h0 := hm 0
  simp only [Nat.add_zero] at h0
  simp only [execOp, s.eval hx.eq, Sem.run_bind, h0, run_fieldAt, Result.andThen_ok, Sem.run_pure, ← ha.eq, hm]⟩

instance {t len el sz b o n m o' : Nat} {agg : Bool} {k : IntKind} {i : Int} {x y : Operand} [hx : Is (lkO e x) (some (.pointer (some ⟨b, o, none⟩)))] [hy : Is (lkO e y) (some (.int k i))]
    [ha : ArrT P t len el] [hz : TySz P el agg sz] [hn : ToN i n] [hm : MulN n sz m] [hp : AddN o m o'] : Soft P N V h e (.indexAddr t x y) (0 ≤ i ∧ i < len) (.pointer (some ⟨b, o', none⟩)) :=
  ⟨fun hr _ d ty pos af g a w s _ => by
    obtain ⟨inf, dd, h1, h2, _, _⟩ := hz.eq
    have hs : ∀ w, (sizeOf el).run P w = .ok sz w := fun w => by simp [sizeOf, typeInfo, h1, h2]
    simp [execOp, s.eval hx.eq, s.eval hy.eq, Instr.indexAt, asIntOf, underlying, ha.eq, Instr.sureAddr, hr, hs, Addr.add_mid, hn.eq, hm.eq, hp.eq]⟩
instance {t el sz n m : Nat} {agg : Bool} {kk : IntKind} {i : Int} {x y : Operand} {u : Value} {α : Type} {enc : α → List Value} {k : Nat} {xs : List α} [hx : Is (lkO e x) (some u)] [hy : Is (lkO e y) (some (.int kk i))]
    [ha : SliT P t el] [hz : TySz P el agg sz] [hr : Rds V h u enc k xs] [hn : ToN i n] [hm : MulN n sz m] : Soft P N V h e (.indexAddr t x y) (0 ≤ i ∧ i < xs.length) (.pointer (some (elA u m))) :=
  ⟨fun hi hw d ty pos af g a w s _ => by
    obtain ⟨inf, dd, h1, h2, _, _⟩ := hz.eq
    have hs : ∀ w, (sizeOf el).run P w = .ok sz w := fun w => by simp [sizeOf, typeInfo, h1, h2]
    obtain ⟨w0, hw⟩ := hw
    rcases (hr.rd w0 hw).slc_pure with ⟨_, rfl⟩ | ⟨b, o, cap, rfl⟩
    · simp at hi; omega
    · simp [execOp, s.eval hx.eq, s.eval hy.eq, Instr.indexAt, asIntOf, underlying, ha.eq, hi, hs, Addr.add_mid, hn.eq, hm.eq, elA]⟩
end soft
end Go.Sl

/-
  The rules: what is read, numbers and tests.
-/
namespace Go.Sl
set_option linter.unusedVariables false
set_option linter.unusedSimpArgs false
section soft
variable {P : Program} {N : NN} {V : List HP} {h : PHeap} {e : Env}

theorem cell_of {w : World} {b off : Nat} {l : List Value} {T : TypeId} {fr : Nat × Nat} {v : Value} (hb : w.heap[b]? = some (.cells l.toArray T fr)) (hl : l[off]? = some v) : w.cell? ⟨b, off, none⟩ = some v := by
  simp [World.cell?, hb, hl]
theorem run_loadVar_one {t : TypeId} [hz : TySz P t false 1] {w : World} {a : Addr} {v : Value} (hc : w.cell? a = some v) : (loadVar t a).run P w = .ok v w := by
  obtain ⟨i, d, h1, h2, h3, h4⟩ := hz.eq
  have hagg : (isAgg t).run P w = .ok false w := by
    unfold isAgg; rw [Sem.run_bind, run_underlying h3 w]; cases d <;> simp_all
  simp [loadVar, hagg, hc]
theorem run_loadVar_agg {t n : Nat} [hz : TySz P t true n] {w : World} {b o : Nat} {cs : List Value} (hn : cs.length = n) (hc : ∀ j v, cs[j]? = some v → w.cell? ⟨b, o + j, none⟩ = some v) : (loadVar t ⟨b, o, none⟩).run P w = .ok (.agg cs.toArray) w := by
  obtain ⟨i, d, h1, h2, h3, h4⟩ := hz.eq
  exact run_loadVar_mid w b o t cs d hc h3 h4 (by simp [h1, h2, hn])

/-- What a plain variable at a place of a list of cells is. -/
class GetAt (l : List Value) (o : Nat) (s : outParam Prop) (v : outParam Value) : Prop where
  eq : s → l[o]? = some v
instance {l : List Value} {o : Nat} {v : Value} [g : GetN l o v] : GetAt l o True v := ⟨fun _ => g.eq⟩

def get4 (a b c d : Int) (k : Nat) : Int := match k with | 0 => a | 1 => b | 2 => c | _ => d
theorem get4_eq {a b c d : Int} {l : List Value} {k : Nat} (hk : k < 4) : (vI a :: vI b :: vI c :: vI d :: l)[k]? = some (vI (get4 a b c d k)) := by
  match k, hk with
  | 0, _ => rfl
  | 1, _ => rfl
  | 2, _ => rfl
  | 3, _ => rfl
instance (priority := low) {l r : List Value} {o k : Nat} {x y z u : Int} [g : DropN l o (vI x :: vI y :: vI z :: vI u :: r)] : GetAt l (o + k) (k < 4) (vI (get4 x y z u k)) :=
  ⟨fun hk => by
    have := g.eq
    rw [← List.getElem?_drop, this, get4_eq hk]⟩
instance (priority := 10) {r : List Value} {k : Nat} {x y z u : Int} : GetAt (vI x :: vI y :: vI z :: vI u :: r) k (k < 4) (vI (get4 x y z u k)) := ⟨fun hk => get4_eq hk⟩

instance {t b o : Nat} {x : Operand} {l : List Value} {T : TypeId} {fr : Nat × Nat} {s : Prop} {v : Value} [hz : TySz P t false 1] [hx : Is (lkO e x) (some (.pointer (some ⟨b, o, none⟩)))] [hr : Rdb V h b (.cells l.toArray T fr)] [hg : GetAt l o s v] :
    Soft P N V h e (.load t x) s v := ⟨fun hs _ d ty pos af g a w se hw => by
  have hc := cell_of (hr.rd w (hw rfl)) (hg.eq hs)
  simp only [execOp, se.eval hx.eq, Sem.run_bind, Instr.loadAt, Instr.sureAddr, Sem.run_pure, Result.andThen_ok, run_loadVar_one hc]⟩
instance {t n b o : Nat} {x : Operand} {l l' cs : List Value} {T : TypeId} {fr : Nat × Nat} [hz : TySz P t true n] [hx : Is (lkO e x) (some (.pointer (some ⟨b, o, none⟩)))] [hr : Rdb V h b (.cells l.toArray T fr)] [hd : DropN l o l'] [ht : TakeN l' n cs] :
    Soft P N V h e (.load t x) True (.agg cs.toArray) := ⟨fun _ _ d ty pos af g a w se hw => by
  have hl : (loadVar t ⟨b, o, none⟩).run P w = .ok (.agg cs.toArray) w := by
    refine run_loadVar_agg ht.eq.2 fun j v hj => cell_of (hr.rd w (hw rfl)) ?_
    rw [← ht.eq.1, ← hd.eq] at hj
    rw [List.getElem?_take] at hj
    split at hj
    · rw [← hj, List.getElem?_drop]
    · cases hj
  simp only [execOp, se.eval hx.eq, Sem.run_bind, Instr.loadAt, Instr.sureAddr, Sem.run_pure, Result.andThen_ok, hl]⟩

/-- Where an element's field lies: of elements of k cells, the one of number j, its cell f. -/
class ElAt (n k : Nat) (j f : outParam Nat) : Prop where
  eq : n = j * k + f
instance (priority := low) {n : Nat} : ElAt n 1 n 0 := ⟨by simp⟩
instance (priority := low) {j k : Nat} : ElAt (j * k) k j 0 := ⟨rfl⟩
instance {j k f : Nat} : ElAt (j * k + f) k j f := ⟨rfl⟩

instance {t n k j f : Nat} {x : Operand} {u v : Value} {α : Type} [Inhabited α] {enc : α → List Value} {xs : List α} {cs : List Value} [hz : TySz P t false 1] [hx : Is (lkO e x) (some (.pointer (some (elA u n))))] [hr : Rds V h u enc k xs] [he : ElAt n k j f]
    [hl : Lit (enc (xs[j]!)) cs] [hg : GetN cs f v] : Soft P N V h e (.load t x) (j < xs.length ∧ f < k) v := ⟨fun hs _ d ty pos af g a w se hw => by
  have hc := (hr.rd w (hw rfl)).slc_get hs.1 hs.2
  rw [← he.eq, hl.eq, hg.eq] at hc
  simp only [execOp, se.eval hx.eq, Sem.run_bind, Instr.loadAt, Instr.sureAddr, Sem.run_pure, Result.andThen_ok, run_loadVar_one hc]⟩
instance {t n k j : Nat} {x : Operand} {u : Value} {α : Type} [Inhabited α] {enc : α → List Value} {xs : List α} {cs : List Value} [hz : TySz P t true k] [hx : Is (lkO e x) (some (.pointer (some (elA u n))))] [hr : Rds V h u enc k xs] [he : ElAt n k j 0]
    [hl : Lit (enc (xs[j]!)) cs] : Soft P N V h e (.load t x) (j < xs.length) (.agg cs.toArray) := ⟨fun hs _ d ty pos af g a w se hw => by
  have ho := hr.rd w (hw rfl)
  obtain ⟨b, o, hm⟩ := elA_mk u n
  have hlen : cs.length = k := by
    rw [← hl.eq]
    obtain ⟨bs, ⟨h1, _⟩, _⟩ := ho
    exact h1 _ (by rw [getElem!_pos xs j hs]; exact List.getElem_mem hs)
  have hl : (loadVar t ⟨b, o, none⟩).run P w = .ok (.agg cs.toArray) w := by
    refine run_loadVar_agg hlen fun i v hi => ?_
    have hik : i < k := by rw [← hlen]; exact (List.getElem?_eq_some_iff.1 hi).1
    rw [← hm i, he.eq, Nat.add_zero, ho.slc_get hs hik, hl.eq, hi]
  have h0 := hm 0
  simp only [Nat.add_zero] at h0
  simp only [execOp, se.eval hx.eq, Sem.run_bind, Instr.loadAt, Instr.sureAddr, Sem.run_pure, Result.andThen_ok, h0, hl]⟩

/-! ### Lengths -/
instance {x : Operand} {t el : Nat} {u : Value} {α : Type} {enc : α → List Value} {k : Nat} {xs : List α} [hx : Is (lkO e x) (some u)] [ht : SliT P t el] [hr : Rds V h u enc k xs] :
    Soft P N V h e (.call { callee := .builtin .len, args := #[x], argTypes := #[t] }) True (vI xs.length) := ⟨fun _ hw d ty pos af g a w se _ => by
  obtain ⟨w0, hw⟩ := hw
  rcases (hr.rd w0 hw).slc_pure with ⟨⟨a0, rfl⟩, rfl⟩ | ⟨b, o, cap, rfl⟩ <;>
    simp [execOp, se.eval hx.eq, resolve, invoke, builtin, Builtin.len_, underlying, ht.eq, goInt]⟩
instance {x : Operand} {t el n c : Nat} {a0 : Option Addr} [hx : Is (lkO e x) (some (.slice a0 n c))] [ht : SliT P t el] :
    Soft P N V h e (.call { callee := .builtin .len, args := #[x], argTypes := #[t] }) True (vI n) := ⟨fun _ _ d ty pos af g a w se _ => by
  simp [execOp, se.eval hx.eq, resolve, invoke, builtin, Builtin.len_, underlying, ht.eq, goInt]⟩
class StrT (P : Program) (t : TypeId) : Prop where
  eq : P.underlying t = some .string
instance {x : Operand} {t : Nat} {s : ByteArray} [hx : Is (lkO e x) (some (.string s))] [ht : StrT P t] :
    Soft P N V h e (.call { callee := .builtin .len, args := #[x], argTypes := #[t] }) True (vI s.size) := ⟨fun _ _ d ty pos af g a w se _ => by
  simp [execOp, se.eval hx.eq, resolve, invoke, builtin, Builtin.len_, underlying, ht.eq, goInt]⟩

/-! ### Numbers and tests -/
theorem wrap_i64 {n : Int} (h : -9223372036854775808 ≤ n ∧ n ≤ 9223372036854775807) : IntKind.i64.wrap n = n := IntWalk.i64_in n h
theorem run_int (op : BinOp) {k : IntKind} {x y : Int} {a b : Operand} {t ty' : TypeId} {ρ : Operand → Value} {d : Option Tmp} {ty : TypeId} {pos : String} {af : Array Edge} {g : Option (Nat × Bool)} (ha : ρ a = .int k x) (hb : ρ b = .int k y)
    {v : Value} (hv : ∀ w, (binOp op t (.int k x) (.int k y)).run P w = .ok v w) (w : World) : (execOp ρ ⟨d, .binOp op t a b ty', ty, pos, af, g⟩).run P w = .ok (.value v) w := by
  simp only [execOp, ha, hb]
  have hg : ∀ w, (eqGuard op t a b (.int k x) (.int k y)).run P w = .ok () w := fun w => by cases op <;> simp [eqGuard]
  simp only [Sem.run_bind, hg, Result.andThen_ok, hv, Sem.run_pure]

instance {a b : Operand} {t ty' : TypeId} {x y : Int} [ha : Is (lkO e a) (some (vI x))] [hb : Is (lkO e b) (some (vI y))] :
    Soft P N V h e (.binOp .add t a b ty') (-9223372036854775808 ≤ x + y ∧ x + y ≤ 9223372036854775807) (vI (x + y)) :=
  ⟨fun hs _ d ty pos af g ac w se _ => run_int .add (se.eval ha.eq) (se.eval hb.eq) (fun w => by simp [binOp, Op.intArith, wrap_i64 hs]) w⟩
instance {a b : Operand} {t ty' : TypeId} {x y : Int} [ha : Is (lkO e a) (some (vI x))] [hb : Is (lkO e b) (some (vI y))] :
    Soft P N V h e (.binOp .sub t a b ty') (-9223372036854775808 ≤ x - y ∧ x - y ≤ 9223372036854775807) (vI (x - y)) :=
  ⟨fun hs _ d ty pos af g ac w se _ => run_int .sub (se.eval ha.eq) (se.eval hb.eq) (fun w => by simp [binOp, Op.intArith, wrap_i64 hs]) w⟩
instance {a b : Operand} {t ty' : TypeId} {x y : Int} [ha : Is (lkO e a) (some (vI x))] [hb : Is (lkO e b) (some (vI y))] :
    Soft P N V h e (.binOp .mul t a b ty') (-9223372036854775808 ≤ x * y ∧ x * y ≤ 9223372036854775807) (vI (x * y)) :=
  ⟨fun hs _ d ty pos af g ac w se _ => run_int .mul (se.eval ha.eq) (se.eval hb.eq) (fun w => by simp [binOp, Op.intArith, wrap_i64 hs]) w⟩
instance {a b : Operand} {t ty' : TypeId} {x y : Int} [ha : Is (lkO e a) (some (vI x))] [hb : Is (lkO e b) (some (vI y))] :
    Soft P N V h e (.binOp .quo t a b ty') (0 ≤ x ∧ x ≤ 9223372036854775807 ∧ 0 < y) (vI (x / y)) :=
  ⟨fun hs _ d ty pos af g ac w se _ => run_int .quo (se.eval ha.eq) (se.eval hb.eq) (fun w => by
    have h0 : 0 ≤ x / y := Int.ediv_nonneg hs.1 (by omega)
    have h1 : x / y ≤ x := Int.ediv_le_self _ hs.1
    simp only [binOp, ne_eq, not_true_eq_false, if_false, Op.intDiv]
    rw [if_neg (by omega)]
    simp only [Sem.run_pure, Int.tdiv_eq_ediv_of_nonneg hs.1]
    rw [wrap_i64 ⟨by omega, by omega⟩]) w⟩
instance {a b : Operand} {t ty' : TypeId} {x y : Int} [ha : Is (lkO e a) (some (vI x))] [hb : Is (lkO e b) (some (vI y))] :
    Soft P N V h e (.binOp .rem t a b ty') (0 ≤ x ∧ 0 < y) (vI (x % y)) :=
  ⟨fun hs _ d ty pos af g ac w se _ => run_int .rem (se.eval ha.eq) (se.eval hb.eq) (fun w => by
    simp only [binOp, ne_eq, not_true_eq_false, if_false, Op.intDiv]
    rw [if_neg (by omega)]
    simp only [Sem.run_pure, Int.tmod_eq_emod_of_nonneg hs.1]) w⟩
instance {a b : Operand} {t ty' : TypeId} {k : IntKind} {x y : Int} [ha : Is (lkO e a) (some (.int k x))] [hb : Is (lkO e b) (some (.int k y))] : Soft P N V h e (.binOp .lss t a b ty') True (.bool (decide (x < y))) :=
  ⟨fun _ _ d ty pos af g ac w se _ => run_int .lss (se.eval ha.eq) (se.eval hb.eq) (fun w => by simp [binOp, Op.intCmp]) w⟩
instance {a b : Operand} {t ty' : TypeId} {k : IntKind} {x y : Int} [ha : Is (lkO e a) (some (.int k x))] [hb : Is (lkO e b) (some (.int k y))] : Soft P N V h e (.binOp .leq t a b ty') True (.bool (decide (x ≤ y))) :=
  ⟨fun _ _ d ty pos af g ac w se _ => run_int .leq (se.eval ha.eq) (se.eval hb.eq) (fun w => by simp [binOp, Op.intCmp]) w⟩
instance {a b : Operand} {t ty' : TypeId} {k : IntKind} {x y : Int} [ha : Is (lkO e a) (some (.int k x))] [hb : Is (lkO e b) (some (.int k y))] : Soft P N V h e (.binOp .gtr t a b ty') True (.bool (decide (y < x))) :=
  ⟨fun _ _ d ty pos af g ac w se _ => run_int .gtr (se.eval ha.eq) (se.eval hb.eq) (fun w => by simp [binOp, Op.intCmp]) w⟩
instance {a b : Operand} {t ty' : TypeId} {k : IntKind} {x y : Int} [ha : Is (lkO e a) (some (.int k x))] [hb : Is (lkO e b) (some (.int k y))] : Soft P N V h e (.binOp .geq t a b ty') True (.bool (decide (y ≤ x))) :=
  ⟨fun _ _ d ty pos af g ac w se _ => run_int .geq (se.eval ha.eq) (se.eval hb.eq) (fun w => by simp [binOp, Op.intCmp]) w⟩
instance {a b : Operand} {t ty' : TypeId} {k : IntKind} {x y : Int} [ha : Is (lkO e a) (some (.int k x))] [hb : Is (lkO e b) (some (.int k y))] : Soft P N V h e (.binOp .eql t a b ty') True (.bool (decide (x = y))) :=
  ⟨fun _ _ d ty pos af g ac w se _ => run_int .eql (se.eval ha.eq) (se.eval hb.eq) (fun w => by simp only [binOp, ne_eq, not_true_eq_false, if_false, Op.intCmp, Sem.run_pure]; rfl) w⟩
instance {a b : Operand} {t ty' : TypeId} {k : IntKind} {x y : Int} [ha : Is (lkO e a) (some (.int k x))] [hb : Is (lkO e b) (some (.int k y))] : Soft P N V h e (.binOp .neq t a b ty') True (.bool (decide (x ≠ y))) :=
  ⟨fun _ _ d ty pos af g ac w se _ => run_int .neq (se.eval ha.eq) (se.eval hb.eq) (fun w => by
    simp only [binOp, ne_eq, not_true_eq_false, if_false, Op.intCmp, Sem.run_pure, decide_not]; rfl) w⟩

theorem run_ptrnil {t : TypeId} [ht : PtrT P t] (p : Option Addr) (w : World) : (Op.equal t (.pointer p) (.pointer none)).run P w = .ok p.isNone w := by
  obtain ⟨el, i, h1, h2, h3⟩ := ht.eq
  have hp : P.underlying t = some (.pointer (P.pointee t)) := by simp [Program.pointee, h1]
  exact run_equal_pointer_nil w t p hp
instance {a b : Operand} {t ty' : TypeId} {x : Addr} [ht : PtrT P t] [ha : Is (lkO e a) (some (.pointer (some x)))] [hb : Is (lkO e b) (some (.pointer none))] : Soft P N V h e (.binOp .eql t a b ty') True (.bool false) :=
  ⟨fun _ _ d ty pos af g ac w se _ => by simp [execOp, se.eval ha.eq, se.eval hb.eq, eqGuard, binOp, run_ptrnil]⟩
instance {a b : Operand} {t ty' : TypeId} [ht : PtrT P t] [ha : Is (lkO e a) (some (.pointer none))] [hb : Is (lkO e b) (some (.pointer none))] : Soft P N V h e (.binOp .eql t a b ty') True (.bool true) :=
  ⟨fun _ _ d ty pos af g ac w se _ => by simp [execOp, se.eval ha.eq, se.eval hb.eq, eqGuard, binOp, run_ptrnil]⟩
instance {a b : Operand} {t ty' : TypeId} {x : Addr} [ht : PtrT P t] [ha : Is (lkO e a) (some (.pointer (some x)))] [hb : Is (lkO e b) (some (.pointer none))] : Soft P N V h e (.binOp .neq t a b ty') True (.bool true) :=
  ⟨fun _ _ d ty pos af g ac w se _ => by simp [execOp, se.eval ha.eq, se.eval hb.eq, eqGuard, binOp, run_ptrnil]⟩
instance {a b : Operand} {t ty' : TypeId} [ht : PtrT P t] [ha : Is (lkO e a) (some (.pointer none))] [hb : Is (lkO e b) (some (.pointer none))] : Soft P N V h e (.binOp .neq t a b ty') True (.bool false) :=
  ⟨fun _ _ d ty pos af g ac w se _ => by simp [execOp, se.eval ha.eq, se.eval hb.eq, eqGuard, binOp, run_ptrnil]⟩
instance {a b : Operand} {t ty' : TypeId} {p : Option Addr} [ht : PtrT P t] [ha : Is (lkO e a) (some (.pointer p))] [hb : Is (lkO e b) (some (.pointer none))] : Soft P N V h e (.binOp .eql t a b ty') True (.bool (decide (p = none))) :=
  ⟨fun _ _ d ty pos af g ac w se _ => by cases p <;> simp [execOp, se.eval ha.eq, se.eval hb.eq, eqGuard, binOp, run_ptrnil]⟩

theorem str_beq (x y : ByteArray) : (x.toList == y.toList) = decide (x = y) := by
  rw [ByteArray.toList_eq, ByteArray.toList_eq]
  by_cases hxy : x = y
  · simp [hxy]
  · have : x.data ≠ y.data := fun e => hxy (by cases x; cases y; congr)
    simp [hxy, this]
theorem run_str (op : BinOp) {x y : ByteArray} {a b : Operand} {t ty' : TypeId} {ρ : Operand → Value} {d : Option Tmp} {ty : TypeId} {pos : String} {af : Array Edge} {g : Option (Nat × Bool)} (ha : ρ a = .string x) (hb : ρ b = .string y)
    {v : Value} (hv : ∀ w, (binOp op t (.string x) (.string y)).run P w = .ok v w) (w : World) : (execOp ρ ⟨d, .binOp op t a b ty', ty, pos, af, g⟩).run P w = .ok (.value v) w := by
  simp only [execOp, ha, hb]
  have hg : ∀ w, (eqGuard op t a b (.string x) (.string y)).run P w = .ok () w := fun w => by cases op <;> simp [eqGuard]
  simp only [Sem.run_bind, hg, Result.andThen_ok, hv, Sem.run_pure]
instance {a b : Operand} {t ty' : TypeId} {x y : ByteArray} [ha : Is (lkO e a) (some (.string x))] [hb : Is (lkO e b) (some (.string y))] : Soft P N V h e (.binOp .eql t a b ty') True (.bool (decide (x = y))) :=
  ⟨fun _ _ d ty pos af g ac w se _ => run_str .eql (se.eval ha.eq) (se.eval hb.eq) (fun w => by simp only [binOp, Op.stringOp, str_beq, Sem.run_pure]) w⟩
instance {a b : Operand} {t ty' : TypeId} {x y : ByteArray} [ha : Is (lkO e a) (some (.string x))] [hb : Is (lkO e b) (some (.string y))] : Soft P N V h e (.binOp .neq t a b ty') True (.bool (decide (x ≠ y))) :=
  ⟨fun _ _ d ty pos af g ac w se _ => run_str .neq (se.eval ha.eq) (se.eval hb.eq) (fun w => by simp only [binOp, Op.stringOp, str_beq, Sem.run_pure, ne_eq, decide_not]) w⟩

instance (priority := low) {a : Operand} {t : TypeId} {b : Bool} [ha : Is (lkO e a) (some (.bool b))] : Soft P N V h e (.unOp .not t a) True (.bool (!b)) :=
  ⟨fun _ _ d ty pos af g ac w se _ => by simp [execOp, se.eval ha.eq, Op.unary]⟩
instance {a : Operand} {t : TypeId} {p : Prop} [Decidable p] [ha : Is (lkO e a) (some (.bool (decide p)))] : Soft P N V h e (.unOp .not t a) True (.bool (decide (¬ p))) :=
  ⟨fun _ _ d ty pos af g ac w se _ => by simp [execOp, se.eval ha.eq, Op.unary]⟩
instance {a : Operand} {t : TypeId} [ha : Is (lkO e a) (some (.bool true))] : Soft P N V h e (.unOp .not t a) True (.bool false) :=
  ⟨fun _ _ d ty pos af g ac w se _ => by simp [execOp, se.eval ha.eq, Op.unary]⟩
instance {a : Operand} {t : TypeId} [ha : Is (lkO e a) (some (.bool false))] : Soft P N V h e (.unOp .not t a) True (.bool true) :=
  ⟨fun _ _ d ty pos af g ac w se _ => by simp [execOp, se.eval ha.eq, Op.unary]⟩
end soft
end Go.Sl

/-
  The judgements over the operations of a region, in the text's order and where the order is drawn; calls; hard operations.
-/
namespace Go.Sl
set_option linter.unusedVariables false
set_option linter.unusedSimpArgs false

/-- Operations, one after another. -/
def wL (F : Fence) (P : Program) (ops : Array Oper) (Q : Post) : List Oper → Act → World → Prop
  | [], a, w => Q .normal a w
  | o :: rest, a, w => if Region.wanted o (yielded ops a.tmps) then o.wpIn F 0 P a w (wL F P ops Q rest) Q else wL F P ops Q rest (a.put o.dst undef) w
theorem wL_ops {ro : Option Nat} {P : Program} {ops : Array Oper} {Q : Post} (l : List Oper) : ∀ k, (∀ j, l[j]? = ops[k + j]?) → ∀ a w, wL (Fat ro) P ops Q l a w → wpOpsIn (Fat ro) 0 P ops Q (List.range' k l.length) a w := by
  induction l with
  | nil => intro k _ a w h; exact h
  | cons o l ih =>
    intro k h a w hw
    have h0 : ops[k]? = some o := by simpa using (h 0).symm
    have ih' := ih (k + 1) (fun j => by have := h (j + 1); simpa [Nat.add_assoc, Nat.add_comm 1 j] using this)
    simp only [List.length_cons, List.range'_succ, wpOpsIn, h0]
    unfold wL at hw
    split
    · rename_i hwt; rw [if_pos hwt] at hw; exact Oper.wpIn_mono ih' hw
    · rename_i hwt; rw [if_neg hwt] at hw; exact ⟨fun _ _ => trivial, ih' _ _ hw⟩
theorem wpIn_region_lit {ro : Option Nat} {P : Program} {Q : Post} {a : Act} {w : World} {id : Nat} {l : List Oper} (h : wL (Fat ro) P l.toArray Q l a w) : (Code.region id l.toArray false).wpIn (Fat ro) 0 P Q a w :=
  wpIn_region (by
    have := wL_ops l 0 (by simp) a w h
    rw [List.range_eq_range']; simpa using this)
/-- What is left of a region's operations. -/
def GO (P : Program) (N : NN) (ops : List Oper) (l : List Oper) (k : List It) (Q : Post) (e : Env) (h : PHeap) (L : List HP) : Prop :=
  ∀ a w, AS N e h L a w → wL (Fat N.ro) P ops.toArray (cQ N.ro P k Q) l a w
/-- The first of them is to be done. -/
def GO1 (P : Program) (N : NN) (ops : List Oper) (o : Oper) (l : List Oper) (k : List It) (Q : Post) (e : Env) (h : PHeap) (L : List HP) : Prop :=
  ∀ a w, AS N e h L a w → o.wpIn (Fat N.ro) 0 P a w (wL (Fat N.ro) P ops.toArray (cQ N.ro P k Q) l) (cQ N.ro P k Q)

/-- The same where the order is drawn: V is what soft operations look at, h0 the unchanged heap at the region's begin, i the number of the first operation that is left. -/
def GD (P : Program) (N : NN) (ops : List Oper) (V : List HP) (h0 : PHeap) (i : Nat) (l : List Oper) (k : List It) (Q : Post) (e : Env) (h : PHeap) (L : List HP) : Prop :=
  Hle h0 h → (∃ w, Cw V h0 w) → ∀ a w, AS N e h L a w → (∀ j, l[j]? = ops[i + j]?) → wpLex P ops.toArray (Cw V h0) (needs ops.toArray) (fun a w => cQ N.ro P k Q .normal a w) (List.range' i l.length) a w
def GD1 (P : Program) (N : NN) (ops : List Oper) (V : List HP) (h0 : PHeap) (i : Nat) (o : Oper) (l : List Oper) (k : List It) (Q : Post) (e : Env) (h : PHeap) (L : List HP) : Prop :=
  Hle h0 h → (∃ w, Cw V h0 w) → ∀ a w, AS N e h L a w → Region.wanted o (yielded ops.toArray a.tmps) = true → (∀ j, l[j]? = ops[i + 1 + j]?) → ops[i]? = some o →
    wpLex P ops.toArray (Cw V h0) (needs ops.toArray) (fun a w => cQ N.ro P k Q .normal a w) (i :: List.range' (i + 1) l.length) a w
/-- Behind a hard operation: what soft ones look at must be as it was, where it counts. -/
def GDk (P : Program) (N : NN) (ops : List Oper) (V : List HP) (h0 : PHeap) (i : Nat) (l : List Oper) (k : List It) (Q : Post) (e : Env) (h : PHeap) (L : List HP) : Prop :=
  (needs ops.toArray i = true → ∀ w, Hle h0 h → St h L w → Cw V h0 w) ∧ GD P N ops V h0 (i + 1) l k Q e h L

class SoftB (op : Op) : Prop where
  eq : soft op = true
instance {x : Operand} : SoftB (.move x) := ⟨rfl⟩
instance {x : Operand} : SoftB (.assign x) := ⟨rfl⟩
instance {x y z : Operand} : SoftB (.pick x y z) := ⟨rfl⟩
instance {t : TypeId} {ps : Array (Nat × Operand)} : SoftB (.build t ps) := ⟨rfl⟩
instance {x : Operand} : SoftB (.nilCheck x) := ⟨rfl⟩
instance {op : BinOp} {t t' : TypeId} {x y : Operand} : SoftB (.binOp op t x y t') := ⟨rfl⟩
instance {op : UnOp} {t : TypeId} {x : Operand} : SoftB (.unOp op t x) := ⟨rfl⟩
instance {s d : TypeId} {x : Operand} : SoftB (.convert s d x) := ⟨rfl⟩
instance {t : TypeId} {x : Operand} : SoftB (.makeInterface t x) := ⟨rfl⟩
instance {f : Fn} {a b : Array Operand} : SoftB (.makeFunc f a b) := ⟨rfl⟩
instance {t f : Nat} {x : Operand} : SoftB (.fieldAddr t x f) := ⟨rfl⟩
instance {t f : Nat} {x : Operand} : SoftB (.field t x f) := ⟨rfl⟩
instance {t : Nat} {x y : Operand} : SoftB (.indexAddr t x y) := ⟨rfl⟩
instance {t : Nat} {x y : Operand} : SoftB (.index t x y) := ⟨rfl⟩
instance {i : Nat} {x : Operand} : SoftB (.extract x i) := ⟨rfl⟩
instance {t : Nat} {x : Operand} : SoftB (.load t x) := ⟨rfl⟩
instance {t : Nat} {x y : Operand} {b : Bool} : SoftB (.lookup t x y b) := ⟨rfl⟩
instance {t : Nat} {x : Operand} {l h m : Option Operand} : SoftB (.slice t x l h m) := ⟨rfl⟩
instance {a : Array Operand} {t : Array TypeId} : SoftB (.call { callee := .builtin .len, args := a, argTypes := t }) := ⟨rfl⟩
instance {a : Array Operand} {t : Array TypeId} : SoftB (.call { callee := .builtin .cap, args := a, argTypes := t }) := ⟨rfl⟩
instance {a : Array Operand} {t : Array TypeId} : SoftB (.call { callee := .builtin .min, args := a, argTypes := t }) := ⟨rfl⟩
instance {a : Array Operand} {t : Array TypeId} : SoftB (.call { callee := .builtin .max, args := a, argTypes := t }) := ⟨rfl⟩
section
variable {P : Program} {N : NN} {k : List It} {Q : Post} {e : Env} {h h0 : PHeap} {L V : List HP} {ops l : List Oper} {i : Nat}

instance step_region {id : Nat} : Step (G P N (.region id l.toArray false) k Q e h L) (GO P N l l k Q e h L) := ⟨fun g a w s => wpIn_region_lit (g a w s)⟩
theorem G_draw {id : Nat} (V : List HP) {Z : List HP} (hm : P.follows .mixedOrders = true) (hok : drawOK l.toArray = true) (hp : L.Perm (V ++ Z)) (g : GD P N l V h 0 l k Q e h L) : G P N (.region id l.toArray true) k Q e h L := by
  intro a w s
  have hs : St h L { w with drawn := w.drawn + 1 } := s.st.heap rfl
  have hc : Cw V h { w with drawn := w.drawn + 1 } := Cw.of hp hs
  refine wp_draw (C := Cw V h) hm hok hc ?_
  have := g (Hle.refl h) ⟨_, hc⟩ a _ (s.ae.as hs) (fun j => by simp)
  simpa [List.range_eq_range'] using this
class Mixed (P : Program) : Prop where
  eq : P.follows .mixedOrders = true
/-- A region that draws its order, to be walked in one of several ways. -/
def GDraw (P : Program) (N : NN) (id : Nat) (l : List Oper) (k : List It) (Q : Post) (e : Env) (h : PHeap) (L : List HP) : Prop := G P N (.region id l.toArray true) k Q e h L
instance step_draw {id : Nat} : Step (G P N (.region id l.toArray true) k Q e h L) (GDraw P N id l k Q e h L) := ⟨fun g => g⟩
theorem GDraw_one {id : Nat} [hm : Mixed P] (hok : drawOK l.toArray = true) (g : GD P N l L h 0 l k Q e h L) : GDraw P N id l k Q e h L := G_draw (Z := []) L hm.eq hok (by simp) g

instance go_nil : Step (GO P N ops [] k Q e h L) (X P N .normal k Q e h L) := ⟨fun g a w s => g a w s⟩
instance gd_nil : Step (GD P N ops V h0 i [] k Q e h L) (X P N .normal k Q e h L) := ⟨fun g _ _ a w s _ => g a w s⟩

theorem GO_of_GO1 {o : Oper} (hw : ∀ a, AE N e a → Region.wanted o (yielded ops.toArray a.tmps) = true) (g : GO1 P N ops o l k Q e h L) : GO P N ops (o :: l) k Q e h L := by
  intro a w s
  unfold wL
  rw [if_pos (hw a s.ae)]
  exact g a w s
theorem GD_of_GD1 {o : Oper} (hw : ∀ a, AE N e a → Region.wanted o (yielded ops.toArray a.tmps) = true) (g : GD1 P N ops V h0 i o l k Q e h L) : GD P N ops V h0 i (o :: l) k Q e h L := by
  intro hl hc a w s hj
  have h1 : ops[i]? = some o := by have := hj 0; simpa using this.symm
  have h2 : ∀ j, l[j]? = ops[i + 1 + j]? := fun j => by have := hj (j + 1); rw [show i + 1 + j = i + (j + 1) by omega, ← this]; rfl
  rw [List.length_cons, List.range'_succ]
  exact g hl hc a w s (hw a s.ae) h2 h1

instance go_plain {d : Option Tmp} {op : Op} {ty : TypeId} {pos : String} {af : Array Edge} : Step (GO P N ops (⟨d, op, ty, pos, af, none⟩ :: l) k Q e h L) (GO1 P N ops ⟨d, op, ty, pos, af, none⟩ l k Q e h L) :=
  ⟨GO_of_GO1 fun _ _ => rfl⟩
instance gd_plain {d : Option Tmp} {op : Op} {ty : TypeId} {pos : String} {af : Array Edge} : Step (GD P N ops V h0 i (⟨d, op, ty, pos, af, none⟩ :: l) k Q e h L) (GD1 P N ops V h0 i ⟨d, op, ty, pos, af, none⟩ l k Q e h L) :=
  ⟨GD_of_GD1 fun _ _ => rfl⟩

@[reducible] def dstAt : List Oper → Nat → Option Nat
  | [], _ => none
  | o :: _, 0 => o.dst
  | _ :: r, n + 1 => dstAt r n
theorem dstAt_eq : ∀ {ops : List Oper} {j t : Nat}, dstAt ops j = some t → (ops.toArray[j]?).bind (·.dst) = some t
  | [], _, _, h => by cases h
  | o :: r, 0, t, h => by simpa using h
  | o :: r, n + 1, t, h => by have := dstAt_eq (ops := r) (j := n) h; simpa using this
theorem guard_is {j t : Nat} {b want : Bool} {a : Act} {d : Option Tmp} {op : Op} {ty : TypeId} {pos : String} {af : Array Edge} (hd : dstAt ops j = some t) (hv : lk e t = some (.bool b)) (s : AE N e a) :
    Region.wanted ⟨d, op, ty, pos, af, some (j, want)⟩ (yielded ops.toArray a.tmps) = (b == want) := by
  have h1 := s.ev t _ hv
  have h2 := dstAt_eq hd
  simp only [Region.wanted, yielded, h2, Option.bind_some, h1]
  cases b <;> cases want <;> rfl

section
variable {d : Option Tmp} {op : Op} {ty : TypeId} {pos : String} {af : Array Edge} {j t : Nat}
instance go_g_tt [hd : Is (dstAt ops j) (some t)] [hv : Is (lk e t) (some (.bool true))] : Step (GO P N ops (⟨d, op, ty, pos, af, some (j, true)⟩ :: l) k Q e h L) (GO1 P N ops ⟨d, op, ty, pos, af, some (j, true)⟩ l k Q e h L) :=
  ⟨GO_of_GO1 fun _ s => guard_is hd.eq hv.eq s⟩
instance go_g_ff [hd : Is (dstAt ops j) (some t)] [hv : Is (lk e t) (some (.bool false))] : Step (GO P N ops (⟨d, op, ty, pos, af, some (j, false)⟩ :: l) k Q e h L) (GO1 P N ops ⟨d, op, ty, pos, af, some (j, false)⟩ l k Q e h L) :=
  ⟨GO_of_GO1 fun _ s => guard_is hd.eq hv.eq s⟩
instance gd_g_tt [hd : Is (dstAt ops j) (some t)] [hv : Is (lk e t) (some (.bool true))] : Step (GD P N ops V h0 i (⟨d, op, ty, pos, af, some (j, true)⟩ :: l) k Q e h L) (GD1 P N ops V h0 i ⟨d, op, ty, pos, af, some (j, true)⟩ l k Q e h L) :=
  ⟨GD_of_GD1 fun _ s => guard_is hd.eq hv.eq s⟩
instance gd_g_ff [hd : Is (dstAt ops j) (some t)] [hv : Is (lk e t) (some (.bool false))] : Step (GD P N ops V h0 i (⟨d, op, ty, pos, af, some (j, false)⟩ :: l) k Q e h L) (GD1 P N ops V h0 i ⟨d, op, ty, pos, af, some (j, false)⟩ l k Q e h L) :=
  ⟨GD_of_GD1 fun _ s => guard_is hd.eq hv.eq s⟩
theorem GO_skip {o : Oper} {e' : Env} (hw : ∀ a, AE N e a → Region.wanted o (yielded ops.toArray a.tmps) = false) (he : ∀ a, AE N e a → AE N e' (a.put o.dst undef)) (g : GO P N ops l k Q e' h L) : GO P N ops (o :: l) k Q e h L := by
  intro a w s
  unfold wL
  rw [if_neg (by rw [hw a s.ae]; simp)]
  exact g _ w ((he a s.ae).as s.st)
theorem GD_skip {o : Oper} {e' : Env} (hw : ∀ a, AE N e a → Region.wanted o (yielded ops.toArray a.tmps) = false) (he : ∀ a, AE N e a → AE N e' (a.put o.dst undef)) (g : GDk P N ops V h0 i l k Q e' h L) : GD P N ops V h0 i (o :: l) k Q e h L := by
  intro hl hc a w s hj
  have h1 : ops[i]? = some o := by have := hj 0; simpa using this.symm
  have h2 : ∀ j, l[j]? = ops[i + 1 + j]? := fun j => by have := hj (j + 1); rw [show i + 1 + j = i + (j + 1) by omega, ← this]; rfl
  rw [List.length_cons, List.range'_succ]
  refine ⟨o, by simpa using h1, ?_⟩
  have hrest := g.2 hl hc _ w ((he a s.ae).as s.st) h2
  split
  · exact ⟨undef, .inr ⟨hw a s.ae, rfl⟩, hrest⟩
  · unfold hardOp
    rw [if_neg (by rw [hw a s.ae]; simp)]
    exact ⟨fun hn => g.1 hn w hl s.st, hrest⟩
theorem GD_skip_soft {o : Oper} {e' : Env} (hs : soft o.op = true) (hw : ∀ a, AE N e a → Region.wanted o (yielded ops.toArray a.tmps) = false) (he : ∀ a, AE N e a → AE N e' (a.put o.dst undef)) (g : GD P N ops V h0 (i + 1) l k Q e' h L) : GD P N ops V h0 i (o :: l) k Q e h L := by
  intro hl hc a w s hj
  have h1 : ops[i]? = some o := by have := hj 0; simpa using this.symm
  have h2 : ∀ j, l[j]? = ops[i + 1 + j]? := fun j => by have := hj (j + 1); rw [show i + 1 + j = i + (j + 1) by omega, ← this]; rfl
  rw [List.length_cons, List.range'_succ]
  refine ⟨o, by simpa using h1, ?_⟩
  rw [if_pos hs]
  exact ⟨undef, .inr ⟨hw a s.ae, rfl⟩, g hl hc _ w ((he a s.ae).as s.st) h2⟩

section
variable {d : Nat} {op : Op} {ty : TypeId} {pos : String} {af : Array Edge} {j t : Nat}
instance go_g_tf [hd : Is (dstAt ops j) (some t)] [hv : Is (lk e t) (some (.bool true))] [hN : InN N d] : Step (GO P N ops (⟨some d, op, ty, pos, af, some (j, false)⟩ :: l) k Q e h L) (GO P N ops l k Q ((d, undef) :: e) h L) :=
  ⟨GO_skip (fun _ s => guard_is hd.eq hv.eq s) (fun _ s => s.put hN.eq)⟩
instance go_g_ft [hd : Is (dstAt ops j) (some t)] [hv : Is (lk e t) (some (.bool false))] [hN : InN N d] : Step (GO P N ops (⟨some d, op, ty, pos, af, some (j, true)⟩ :: l) k Q e h L) (GO P N ops l k Q ((d, undef) :: e) h L) :=
  ⟨GO_skip (fun _ s => guard_is hd.eq hv.eq s) (fun _ s => s.put hN.eq)⟩
instance gd_g_tf [hd : Is (dstAt ops j) (some t)] [hv : Is (lk e t) (some (.bool true))] [hN : InN N d] [hs : SoftB op] : Step (GD P N ops V h0 i (⟨some d, op, ty, pos, af, some (j, false)⟩ :: l) k Q e h L) (GD P N ops V h0 (i + 1) l k Q ((d, undef) :: e) h L) :=
  ⟨GD_skip_soft hs.eq (fun _ s => guard_is hd.eq hv.eq s) (fun _ s => s.put hN.eq)⟩
instance gd_g_ft [hd : Is (dstAt ops j) (some t)] [hv : Is (lk e t) (some (.bool false))] [hN : InN N d] [hs : SoftB op] : Step (GD P N ops V h0 i (⟨some d, op, ty, pos, af, some (j, true)⟩ :: l) k Q e h L) (GD P N ops V h0 (i + 1) l k Q ((d, undef) :: e) h L) :=
  ⟨GD_skip_soft hs.eq (fun _ s => guard_is hd.eq hv.eq s) (fun _ s => s.put hN.eq)⟩
theorem guard_un {want : Bool} {a : Act} {d : Option Tmp} (hd : dstAt ops j = some t) (hv : lk e t = some undef) (s : AE N e a) :
    Region.wanted ⟨d, op, ty, pos, af, some (j, want)⟩ (yielded ops.toArray a.tmps) = false := by
  have h1 := s.ev t _ hv
  have h2 := dstAt_eq hd
  simp only [Region.wanted, yielded, h2, Option.bind_some, h1]
  cases want <;> rfl
instance go_g_un {b : Bool} [hd : Is (dstAt ops j) (some t)] [hv : Is (lk e t) (some undef)] [hN : InN N d] : Step (GO P N ops (⟨some d, op, ty, pos, af, some (j, b)⟩ :: l) k Q e h L) (GO P N ops l k Q ((d, undef) :: e) h L) :=
  ⟨GO_skip (fun _ s => guard_un hd.eq hv.eq s) (fun _ s => s.put hN.eq)⟩
instance gd_g_un {b : Bool} [hd : Is (dstAt ops j) (some t)] [hv : Is (lk e t) (some undef)] [hN : InN N d] [hs : SoftB op] : Step (GD P N ops V h0 i (⟨some d, op, ty, pos, af, some (j, b)⟩ :: l) k Q e h L) (GD P N ops V h0 (i + 1) l k Q ((d, undef) :: e) h L) :=
  ⟨GD_skip_soft hs.eq (fun _ s => guard_un hd.eq hv.eq s) (fun _ s => s.put hN.eq)⟩
instance (priority := low) gd_g_unh {b : Bool} [hd : Is (dstAt ops j) (some t)] [hv : Is (lk e t) (some undef)] [hN : InN N d] : Step (GD P N ops V h0 i (⟨some d, op, ty, pos, af, some (j, b)⟩ :: l) k Q e h L) (GDk P N ops V h0 i l k Q ((d, undef) :: e) h L) :=
  ⟨GD_skip (fun _ s => guard_un hd.eq hv.eq s) (fun _ s => s.put hN.eq)⟩
instance (priority := low) gd_g_tfh [hd : Is (dstAt ops j) (some t)] [hv : Is (lk e t) (some (.bool true))] [hN : InN N d] : Step (GD P N ops V h0 i (⟨some d, op, ty, pos, af, some (j, false)⟩ :: l) k Q e h L) (GDk P N ops V h0 i l k Q ((d, undef) :: e) h L) :=
  ⟨GD_skip (fun _ s => guard_is hd.eq hv.eq s) (fun _ s => s.put hN.eq)⟩
instance (priority := low) gd_g_fth [hd : Is (dstAt ops j) (some t)] [hv : Is (lk e t) (some (.bool false))] [hN : InN N d] : Step (GD P N ops V h0 i (⟨some d, op, ty, pos, af, some (j, true)⟩ :: l) k Q e h L) (GDk P N ops V h0 i l k Q ((d, undef) :: e) h L) :=
  ⟨GD_skip (fun _ s => guard_is hd.eq hv.eq s) (fun _ s => s.put hN.eq)⟩
end
end

/-! ### A slot's Bool is looked at: two ways -/
class Splits (J : Env → Prop) : Prop where
  mono : ∀ {e e' : Env}, (∀ N a, AE N e a → AE N e' a) → J e' → J e
theorem AE.look {a : Act} {t : Nat} {v : Value} (hv : lk e t = some v) (s : AE N e a) : AE N ((t, v) :: e) a := by
  refine ⟨s.sz, s.df, fun i u hu => ?_⟩
  unfold lk at hu
  split at hu
  · rename_i hb
    have := Nat.eq_of_beq_eq_true hb
    subst this; exact s.ev _ _ (hv.trans hu)
  · exact s.ev _ _ hu
instance {P : Program} {N : NN} {ops l : List Oper} {k : List It} {Q : Post} {h : PHeap} {L : List HP} : Splits (fun e => GO P N ops l k Q e h L) := ⟨fun he g a w s => g a w ((he N a s.ae).as s.st)⟩
instance {P : Program} {N : NN} {c : Code} {k : List It} {Q : Post} {h : PHeap} {L : List HP} : Splits (fun e => G P N c k Q e h L) := ⟨fun he g a w s => g a w ((he N a s.ae).as s.st)⟩
instance {P : Program} {N : NN} {ops l : List Oper} {V : List HP} {h0 : PHeap} {i : Nat} {k : List It} {Q : Post} {h : PHeap} {L : List HP} : Splits (fun e => GD P N ops V h0 i l k Q e h L) := ⟨fun he g hl hc a w s hj => g hl hc a w ((he N a s.ae).as s.st) hj⟩
theorem split_dec {J : Env → Prop} (hJ : Splits J) {p : Prop} [Decidable p] {t : Nat} (hv : lk e t = some (.bool (decide p))) (h1 : p → J ((t, .bool true) :: e)) (h2 : ¬ p → J ((t, .bool false) :: e)) : J e := by
  by_cases hp : p
  · exact hJ.mono (fun N a s => AE.look (by rw [hv]; simp [hp]) s) (h1 hp)
  · exact hJ.mono (fun N a s => AE.look (by rw [hv]; simp [hp]) s) (h2 hp)
theorem split_bool {J : Env → Prop} (hJ : Splits J) {b : Bool} {t : Nat} (hv : lk e t = some (.bool b)) (h1 : b = true → J ((t, .bool true) :: e)) (h2 : b = false → J ((t, .bool false) :: e)) : J e := by
  cases b with
  | true => exact hJ.mono (fun N a s => AE.look hv s) (h1 rfl)
  | false => exact hJ.mono (fun N a s => AE.look hv s) (h2 rfl)
instance (priority := low) go_g_split {j t : Nat} {d : Option Tmp} {op : Op} {ty : TypeId} {pos : String} {af : Array Edge} {b : Bool} {p : Prop} [Decidable p] [hd : Is (dstAt ops j) (some t)] [hv : Is (lk e t) (some (.bool (decide p)))] :
    Step (GO P N ops (⟨d, op, ty, pos, af, some (j, b)⟩ :: l) k Q e h L) (Ways (p → GO P N ops (⟨d, op, ty, pos, af, some (j, b)⟩ :: l) k Q ((t, .bool true) :: e) h L) (¬ p → GO P N ops (⟨d, op, ty, pos, af, some (j, b)⟩ :: l) k Q ((t, .bool false) :: e) h L)) :=
  ⟨fun g => split_dec (J := fun e => GO P N ops _ k Q e h L) inferInstance hv.eq g.yes g.no⟩
instance (priority := low) gd_g_split {j t : Nat} {d : Option Tmp} {op : Op} {ty : TypeId} {pos : String} {af : Array Edge} {b : Bool} {p : Prop} [Decidable p] [hd : Is (dstAt ops j) (some t)] [hv : Is (lk e t) (some (.bool (decide p)))] :
    Step (GD P N ops V h0 i (⟨d, op, ty, pos, af, some (j, b)⟩ :: l) k Q e h L) (Ways (p → GD P N ops V h0 i (⟨d, op, ty, pos, af, some (j, b)⟩ :: l) k Q ((t, .bool true) :: e) h L) (¬ p → GD P N ops V h0 i (⟨d, op, ty, pos, af, some (j, b)⟩ :: l) k Q ((t, .bool false) :: e) h L)) :=
  ⟨fun g => split_dec (J := fun e => GD P N ops V h0 i _ k Q e h L) inferInstance hv.eq g.yes g.no⟩
instance (priority := low) g_cond_split {t : Nat} {x y : Code} {p : Prop} [Decidable p] [hv : Is (lk e t) (some (.bool (decide p)))] :
    Step (G P N (.cond (.tmp t) x y) k Q e h L) (Ways (p → G P N x k Q e h L) (¬ p → G P N y k Q e h L)) :=
  ⟨fun g => g_cond_dec hv.eq g.yes g.no⟩

/-! ### Soft operations, done -/
section
variable {d : Nat} {op : Op} {ty : TypeId} {pos : String} {af : Array Edge} {g : Option (Nat × Bool)} {s : Prop} {v : Value}
instance go_soft [hs : Soft P N L h e op s v] [hN : InN N d] : Step (GO1 P N ops ⟨some d, op, ty, pos, af, g⟩ l k Q e h L) (Side s (GO P N ops l k Q ((d, v) :: e) h L)) := ⟨fun hg a w se => by
  have hc := Cw.self se.st
  have := hs.run hg.side ⟨w, hc⟩ (some d) ty pos af g a w se.ae (fun _ => hc)
  refine opIn_of (notDefer_val this) ?_
  unfold Oper.wp
  rw [this]
  exact hg.rest _ w ((se.ae.put hN.eq).as se.st)⟩
instance gd_soft [hs : Soft P N V h0 e op s v] [hN : InN N d] [ho : SoftB op] : Step (GD1 P N ops V h0 i ⟨some d, op, ty, pos, af, g⟩ l k Q e h L) (Side s (GD P N ops V h0 (i + 1) l k Q ((d, v) :: e) h L)) :=
  ⟨fun hg hl hc a w se hw h2 h1 => by
    refine ⟨_, by simpa using h1, ?_⟩
    rw [if_pos ho.eq]
    exact ⟨v, .inl ⟨hw, fun w' hw' => hs.run hg.side hc (some d) ty pos af g a w' se.ae hw'⟩, hg.rest hl hc _ w ((se.ae.put hN.eq).as se.st) h2⟩⟩
end

/-! ### Hard operations -/
def HardS (P : Program) (N : NN) (o : Oper) (e : Env) (h : PHeap) (L : List HP) (C : Env → PHeap → List HP → Prop) : Prop :=
  ∀ a w, AE N e a → St h L w → o.wp P a w (fun a' w' => ∃ e' h' L', AE N e' a' ∧ Hle h h' ∧ St h' L' w' ∧ C e' h' L') (fun _ _ _ => False) ∧ noDefer ((execOp a.eval o).run P w)

theorem GO1_hard {o : Oper} (hh : HardS P N o e h L (fun e' h' L' => GO P N ops l k Q e' h' L')) : GO1 P N ops o l k Q e h L := by
  intro a w s
  have hq := hh a w s.ae s.st
  refine opIn_of (notDefer_of hq.1 hq.2) (wp_noPanic0 (Oper.wp_mono (fun a' w' hk => ?_) hq.1))
  obtain ⟨e', h', L', h1, _, h2, h3⟩ := hk
  exact h3 a' w' (h1.as h2)
theorem GD1_hard {o : Oper} (ho : soft o.op = false) (hh : HardS P N o e h L (fun e' h' L' => GDk P N ops V h0 i l k Q e' h' L')) : GD1 P N ops V h0 i o l k Q e h L := by
  intro hl hc a w s hw h2 h1
  refine ⟨o, by simpa using h1, ?_⟩
  rw [if_neg (by simp [ho])]
  unfold hardOp
  rw [if_pos hw]
  obtain ⟨hh1, hh2⟩ := hh a w s.ae s.st
  refine ⟨Oper.wp_mono (fun a' w' hk => ?_) hh1, hh2⟩
  obtain ⟨e', h', L', h3, h4, h5, h6⟩ := hk
  exact ⟨fun hn => h6.1 hn w' (hl.trans h4) h5, h6.2 (hl.trans h4) hc a' w' (h3.as h5) h2⟩

/-- What soft operations look at is still there. -/
class Sub (L V : List HP) : Prop where
  eq : ∃ Z, L.Perm (V ++ Z)
class Pick (L : List HP) (x : HP) (R : outParam (List HP)) : Prop where
  eq : L.Perm (x :: R)
instance {x : HP} {R : List HP} : Pick (x :: R) x R := ⟨.refl _⟩
instance (priority := low) {x y : HP} {L R : List HP} [p : Pick L x R] : Pick (y :: L) x (y :: R) := ⟨(List.Perm.cons y p.eq).trans (.swap _ _ _)⟩
instance sub_self {L : List HP} : Sub L L := ⟨[], by simp⟩
instance sub_nil {L : List HP} : Sub L [] := ⟨L, by simp⟩
instance (priority := low) sub_cons {x : HP} {L R V : List HP} [p : Pick L x R] [s : Sub R V] : Sub L (x :: V) := ⟨s.eq.choose, p.eq.trans (List.Perm.cons x s.eq.choose_spec)⟩
instance (priority := low) sub_drop {x : HP} {L V : List HP} [s : Sub L V] : Sub (x :: L) V := ⟨x :: s.eq.choose, (List.Perm.cons x s.eq.choose_spec).trans (List.perm_middle.symm)⟩
instance gdk_sub [s : Sub L V] : Step (GDk P N ops V h0 i l k Q e h L) (GD P N ops V h0 (i + 1) l k Q e h L) :=
  ⟨fun g => ⟨fun _ _ hl st => by obtain ⟨Z, hz⟩ := s.eq; exact ⟨Z, _, hl, st.perm hz⟩, g⟩⟩
instance (priority := low) gdk_no : Step (GDk P N ops V h0 i l k Q e h L) (Side (needs ops.toArray i = false) (GD P N ops V h0 (i + 1) l k Q e h L)) :=
  ⟨fun g => ⟨fun hn => (by rw [g.side] at hn; cases hn), g.rest⟩⟩
end
end Go.Sl

/-
  Functions: what a call comes to; hard operations; loops; what is never changed from now on.
-/
namespace Go.Sl
set_option linter.unusedVariables false
set_option linter.unusedSimpArgs false

abbrev Kont := Value → PHeap → List HP → Prop
def fin (h : PHeap) (K : Kont) (R : List HP) : Ending → World → Prop := fun e w => ∃ v h' L', e = .returned v ∧ Hle h h' ∧ K v h' L' ∧ St h' (L' ++ R) w
/-- A function, called with what is owned in Lp: T says what must be shown of all that comes behind it. -/
def Spec (P : Program) (f : FuncId) (args : List Value) (h : PHeap) (Lp : List HP) (T : Kont → Prop) : Prop :=
  ∀ (K : Kont) (R : List HP) (w : World), T K → St h (Lp ++ R) w → Calls P f args.toArray w (fin h K R)

def resVal (tmps : Array Value) : ResultVar → Sem Value
  | .tmp t => pure (tmps.getD t undef)
  | .cell a t => do loadVar t (← asAddr (tmps.getD a undef))
def resF (tmps : Array Value) (acc : Array Value) (r : ResultVar) : Sem (Array Value) := do pure (acc.push (← resVal tmps r))
def resultsL (rs : List ResultVar) (tmps : Array Value) : Sem Value := do
  let vs ← rs.toArray.mapM (resVal tmps)
  pure (if h : vs.size = 1 then vs[0] else .tuple vs)
def endQ (P : Program) (rs : List ResultVar) (F : Ending → World → Prop) : Post
  | .normal, a, w | .ret, a, w => a.defers = [] ∧ ∃ v, (resultsL rs a.tmps).run P w = .ok v w ∧ F (.returned v) w
  | _, _, _ => False

class EnvOf (i : Nat) (args : List Value) (e : outParam Env) : Prop where
  eq : ∀ j v, lk e j = some v → i ≤ j ∧ args[j - i]? = some v
instance {i : Nat} : EnvOf i [] [] := ⟨fun _ _ h => by cases h⟩
instance {i : Nat} {v : Value} {l : List Value} {e : Env} [g : EnvOf (i + 1) l e] : EnvOf i (v :: l) ((i, v) :: e) := ⟨fun j u h => by
  unfold lk at h
  split at h
  · rename_i hb
    have := Nat.eq_of_beq_eq_true hb
    subst this
    exact ⟨Nat.le_refl _, by simpa using h⟩
  · obtain ⟨h1, h2⟩ := g.eq j u h
    refine ⟨by omega, ?_⟩
    rw [show j - i = (j - (i + 1)) + 1 by omega]
    simpa using h2⟩

class AppL (Lp R : List HP) (L : outParam (List HP)) : Prop where
  eq : Lp ++ R = L
instance {R : List HP} : AppL [] R R := ⟨rfl⟩
instance {x : HP} {l R L : List HP} [a : AppL l R L] : AppL (x :: l) R (x :: L) := ⟨by rw [List.cons_append, a.eq]⟩
theorem spec_enter {P : Program} {f : FuncId} {args : List Value} {h : PHeap} {Lp : List HP} {T : Kont → Prop} {fn : Func} {c : Code} {rs : List ResultVar} {N0 : Nat} {e : Env} (hf : P.funcs[f]? = some fn) (hb : fn.body = some c) (hN : fn.ntmps = N0) (hr : fn.results = rs.toArray)
    (hle : args.length ≤ N0) [he : EnvOf 0 args e] {LL : List HP → List HP} [ha : ∀ R, AppL Lp R (LL R)] (g : ∀ (K : Kont) (R : List HP), T K → G P ⟨N0, [], none⟩ c [] (endQ P rs (fin h K R)) e h (LL R)) : Spec P f args h Lp T := by
  intro K R w hT hst
  rw [(ha R).eq] at hst
  refine calls_of_wp hf hb ((wpIn_wide (n := 0)).1 ?_)
  have := g K R hT { tmps := args.toArray ++ Array.replicate (fn.ntmps - args.toArray.size) undef, defers := [] } w ⟨by simp; omega, rfl, fun i v hi => ?_, hst⟩
  · refine wpIn_mono this fun ex a w' hq => ?_
    have hres : ∀ tm, results fn tm = resultsL rs tm := fun tm => by unfold results resultsL; rw [hr]; rfl
    cases ex <;> simp only [cQ, endQ] at hq <;> simp only [bodyPost, hres] <;> first | exact hq | exact hq.elim
  · obtain ⟨_, h2⟩ := he.eq i v hi
    simp only [Nat.sub_zero] at h2
    obtain ⟨hlt, h3⟩ := List.getElem?_eq_some_iff.1 h2
    simp [Array.getElem?_append_left, hlt, h3]

/-! ### The end of a function -/
class ResL (P : Program) (V : List HP) (h : PHeap) (e : Env) (rs : List ResultVar) (vs : outParam (List Value)) : Prop where
  run : ∀ N a w, AE N e a → Cw V h w → ∀ acc : Array Value, (rs.foldlM (resF a.tmps) acc).run P w = .ok (acc ++ vs.toArray) w
instance {P : Program} {V : List HP} {h : PHeap} {e : Env} : ResL P V h e [] [] := ⟨fun _ _ _ _ _ _ => by simp⟩
instance {P : Program} {V : List HP} {h : PHeap} {e : Env} {t : Nat} {v : Value} {rs : List ResultVar} {vs : List Value} [hv : Is (lk e t) (some v)] [r : ResL P V h e rs vs] : ResL P V h e (.tmp t :: rs) (v :: vs) := ⟨fun N a w s c acc => by
  have h1 : a.tmps.getD t undef = v := by simp [s.ev t v hv.eq]
  have h2 := r.run N a w s c (acc.push v)
  have h3 : (resF a.tmps acc (.tmp t)).run P w = .ok (acc.push v) w := by simp only [resF, resVal, h1, Sem.run_bind, Sem.run_pure, Result.andThen_ok]
  rw [List.foldlM_cons, Sem.run_bind, h3, Result.andThen_ok, h2]
  simp⟩
instance {P : Program} {V : List HP} {h : PHeap} {e : Env} {t T b o : Nat} {l l' cs : List Value} {E : TypeId} {fr : Nat × Nat} {rs : List ResultVar} {vs : List Value} {n : Nat} [hz : TySz P T true n] [hv : Is (lk e t) (some (.pointer (some ⟨b, o, none⟩)))] [hb : Rdb V h b (.cells l.toArray E fr)] [hd : DropN l o l'] [ht : TakeN l' n cs]
    [r : ResL P V h e rs vs] : ResL P V h e (.cell t T :: rs) (.agg cs.toArray :: vs) := ⟨fun N a w s c acc => by
  have h1 : a.tmps.getD t undef = .pointer (some ⟨b, o, none⟩) := by simp [s.ev t _ hv.eq]
  have h2 := r.run N a w s c (acc.push (.agg cs.toArray))
  have hl : (loadVar T ⟨b, o, none⟩).run P w = .ok (.agg cs.toArray) w := by
    refine run_loadVar_agg ht.eq.2 fun j v hj => cell_of (hb.rd w c) ?_
    rw [← ht.eq.1, ← hd.eq] at hj
    rw [List.getElem?_take] at hj
    split at hj
    · rw [← hj, List.getElem?_drop]
    · cases hj
  have h3 : (resF a.tmps acc (.cell t T)).run P w = .ok (acc.push (.agg cs.toArray)) w := by simp only [resF, resVal, h1, asAddr, Sem.run_bind, Sem.run_pure, Result.andThen_ok, hl]
  rw [List.foldlM_cons, Sem.run_bind, h3, Result.andThen_ok, h2]
  simp⟩
instance {P : Program} {V : List HP} {h : PHeap} {e : Env} {t T b o : Nat} {l : List Value} {v : Value} {E : TypeId} {fr : Nat × Nat} {rs : List ResultVar} {vs : List Value} [hz : TySz P T false 1] [hv : Is (lk e t) (some (.pointer (some ⟨b, o, none⟩)))] [hb : Rdb V h b (.cells l.toArray E fr)] [hg : GetN l o v]
    [r : ResL P V h e rs vs] : ResL P V h e (.cell t T :: rs) (v :: vs) := ⟨fun N a w s c acc => by
  have h1 : a.tmps.getD t undef = .pointer (some ⟨b, o, none⟩) := by simp [s.ev t _ hv.eq]
  have h2 := r.run N a w s c (acc.push v)
  have hl := run_loadVar_one (P := P) (t := T) (cell_of (hb.rd w c) hg.eq)
  have h3 : (resF a.tmps acc (.cell t T)).run P w = .ok (acc.push v) w := by simp only [resF, resVal, h1, asAddr, Sem.run_bind, Sem.run_pure, Result.andThen_ok, hl]
  rw [List.foldlM_cons, Sem.run_bind, h3, Result.andThen_ok, h2]
  simp⟩
class OneOr (vs : List Value) (v : outParam Value) : Prop where
  eq : (if h : vs.toArray.size = 1 then vs.toArray[0] else Value.tuple vs.toArray) = v
instance {v : Value} : OneOr [v] v := ⟨by simp⟩
instance : OneOr [] (.tuple ([] : List Value).toArray) := ⟨by simp⟩
instance {a b : Value} {l : List Value} : OneOr (a :: b :: l) (.tuple (a :: b :: l).toArray) := ⟨by simp⟩

class TailOf (L R : List HP) : Prop where
  eq : ∃ Z, L.Perm (R ++ Z)
instance tail_self {R : List HP} : TailOf R R := ⟨[], by simp⟩
instance (priority := low) tail_drop {x : HP} {L R : List HP} [s : TailOf L R] : TailOf (x :: L) R := ⟨x :: s.eq.choose, (List.Perm.cons x s.eq.choose_spec).trans (List.perm_middle.symm)⟩
/-- L holds L', then R, and what is dropped. -/
class SubR (L L' R : List HP) : Prop where
  eq : ∃ Z, L.Perm (L' ++ (R ++ Z))
instance {L R : List HP} [t : TailOf L R] : SubR L [] R := ⟨by simpa using t.eq⟩
instance {x : HP} {L M L' R : List HP} [p : Pick L x M] [s : SubR M L' R] : SubR L (x :: L') R := ⟨s.eq.choose, p.eq.trans (List.Perm.cons x s.eq.choose_spec)⟩

/-- What is left to be shown at a function's end. -/
structure Fin (h0 h : PHeap) (K : Kont) (v : Value) (L R : List HP) : Prop where
  ok : Hle h0 h ∧ ∃ L', K v h L' ∧ SubR L L' R

section
variable {P : Program} {N0 : Nat} {e : Env} {h h0 : PHeap} {L R : List HP} {K : Kont} {rs : List ResultVar} {vs : List Value} {v : Value}
theorem X_fin (hr : ResL P L h e rs vs) (ho : OneOr vs v) (f : Fin h0 h K v L R) {a : Act} {w : World} (s : AS ⟨N0, [], none⟩ e h L a w) : a.defers = [] ∧ ∃ u, (resultsL rs a.tmps).run P w = .ok u w ∧ fin h0 K R (.returned u) w := by
  obtain ⟨hle, L', hK, hsub⟩ := f.ok
  obtain ⟨Z, hp⟩ := hsub.eq
  refine ⟨s.df, v, ?_, v, h, L', rfl, hle, hK, ?_⟩
  · have := hr.run _ a w s.ae (Cw.self s.st) #[]
    unfold resultsL
    rw [Sem.run_bind]
    have hm : (rs.toArray.mapM (resVal a.tmps) : Sem (Array Value)) = rs.foldlM (resF a.tmps) #[] := by
      rw [Array.mapM_eq_foldlM]; simp only [List.foldlM_toArray]; rfl
    rw [hm, this]
    simp only [Result.andThen_ok, Sem.run_pure]
    have := ho.eq
    simpa using this
  · have h1 := s.st.perm (hp.trans ((List.perm_append_comm_assoc _ _ _).trans (List.Perm.append_left _ List.perm_append_comm)))
    have h2 := s.st.perm (hp.trans (show (L' ++ (R ++ Z)).Perm (Z ++ (L' ++ R)) by rw [← List.append_assoc]; exact List.perm_append_comm))
    exact h2.dropL
instance x_fin_ret [hr : ResL P L h e rs vs] [ho : OneOr vs v] : Step (X P ⟨N0, [], none⟩ .ret [] (endQ P rs (fin h0 K R)) e h L) (Fin h0 h K v L R) := ⟨fun f a w s => X_fin hr ho f s⟩
instance x_fin_end [hr : ResL P L h e rs vs] [ho : OneOr vs v] : Step (X P ⟨N0, [], none⟩ .normal [] (endQ P rs (fin h0 K R)) e h L) (Fin h0 h K v L R) := ⟨fun f a w s => X_fin hr ho f s⟩
end
end Go.Sl
