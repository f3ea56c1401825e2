/-
  Facts that the proof is made of (N1).
-/
import Derived.Test.YtoekdnandjjeoaaGreatKF2
import Derived.Test.YtoekdnandjjeoaaGreatKC3
import Derived.Laws.Externs
/-
  The last operation of a plan: nothing is looked at behind it.
-/
namespace Go.Sl
open Go.Proofs
set_option linter.unusedVariables false
set_option linter.unusedSimpArgs false
set_option maxRecDepth 10000
set_option synthInstance.maxSize 2000
set_option synthInstance.maxHeartbeats 200000
set_option maxHeartbeats 1000000
section
variable {P : Program} {N : NN} {k : List It} {Q : Post} {e : Env} {h h0 : PHeap} {L V : List HP} {ops : List Oper}
instance {α : Type} {x : α} : Known (¬ (some x = none)) := ⟨by simp⟩
theorem GT_last {j : Nat} {o : Oper} [ho : Is (atL ops j) (some o)] [hg : GuardIs ops e o.guard true] (hn : needs ops.toArray j = false) (hh : HardS P N o e h L (fun e' h' L' => X P N .normal k Q e' h' L')) : GT P N ops V h0 (.h j .e .n) k Q e h L := fun hl hc a w s li fuel h1 h2 => by
  simp only [schOK, Bool.not_true, Bool.false_or, Bool.and_eq_true, Option.isNone_iff_eq_none, Bool.not_eq_true'] at h1
  obtain ⟨⟨⟨⟨h3, h4⟩, h5⟩, h6⟩, h7⟩ := h1
  simp only [Sch.depth] at h2
  obtain ⟨fuel, rfl⟩ : ∃ f, fuel = f + 1 := ⟨fuel - 1, by omega⟩
  unfold wpSched
  simp only [h3]
  refine ⟨fun h => (by rw [h] at h4; cases h4), fun i hi => ?_⟩
  have hm := List.all_eq_true.1 h5 i hi
  simp only [Sch.alts, List.contains_cons, Bool.or_eq_true, beq_iff_eq] at hm
  rcases hm with rfl | hm
  · refine ⟨o, by have := ho.eq; rw [atL_eq] at this; simpa using this, ?_⟩
    unfold hardOp
    rw [if_pos (hg.eq N a _ rfl s.ae)]
    obtain ⟨q1, q2⟩ := hh a w s.ae s.st
    refine ⟨Oper.wp_mono (fun a' w' hk => ?_) q1, q2⟩
    obtain ⟨e', h', L', k1, k2, k3, k4⟩ := hk
    refine ⟨fun hne => (by rw [hn] at hne; cases hne), ?_⟩
    exact (Step.imp (self := gt_e) k4 : GT P N ops V h0 .e k Q e' h' L') (hl.trans k2) hc a' w' (k1.as k3) _ _ (by simpa [schOK] using h6) (by simp only [Sch.depth]; omega)
  · simp at hm
/-- The walk stops at a block. -/
def StopB (n : Nat) (P : Program) (N : NN) (c : Code) (k : List It) (Q : Post) (e : Env) (h : PHeap) (L : List HP) : Prop := G P N (.block n c) k Q e h L
theorem stopB (P : Program) (n : Nat) : ∀ (N : NN) (c : Code) (k : List It) (Q : Post) (e : Env) (h : PHeap) (L : List HP), Step (G P N (.block n c) k Q e h L) (StopB n P N c k Q e h L) := fun _ _ _ _ _ _ _ => ⟨fun g => g⟩
theorem StopB.go {n : Nat} {c : Code} (g : G P N (.block n c) k Q e h L) : StopB n P N c k Q e h L := g
end
end Go.Sl

/-
  Whole numbers, exactly: wide numbers, and sums.
-/
namespace Go.Sl
open Go.Proofs
set_option linter.unusedVariables false
set_option linter.unusedSimpArgs false
set_option maxRecDepth 10000
set_option synthInstance.maxSize 2000
set_option synthInstance.maxHeartbeats 200000
set_option maxHeartbeats 1000000
section
variable {P : Program} {N : NN} {k : List It} {Q : Post} {e : Env} {h h0 : PHeap} {L V M : List HP} {ops l : List Oper} {i : Nat}
theorem u64_wrap (n : Int) : IntKind.u64.wrap n = n % 18446744073709551616 := by
  have : (2 : Int) ^ IntKind.u64.bits = 18446744073709551616 := by decide
  unfold IntKind.wrap
  rw [this]
  rfl
theorem i64_wrap (n : Int) : IntKind.i64.wrap n = if n % 18446744073709551616 ≥ 9223372036854775808 then n % 18446744073709551616 - 18446744073709551616 else n % 18446744073709551616 := by
  have h1 : (2 : Int) ^ IntKind.i64.bits = 18446744073709551616 := by decide
  have h2 : (2 : Int) ^ (IntKind.i64.bits - 1) = 9223372036854775808 := by decide
  unfold IntKind.wrap
  rw [h1, h2]
  simp [IntKind.signed]
instance {a b : Operand} {t ty' : TypeId} {x y : Int} [ha : Is (lkO e a) (some (.int .u64 x))] [hb : Is (lkO e b) (some (.int .u64 y))] :
    Soft P N V h e (.binOp .add t a b ty') True (.int .u64 (IntKind.u64.wrap (x + y))) :=
  ⟨fun hs _ d ty pos af g ac w se _ => run_int .add (se.eval ha.eq) (se.eval hb.eq) (fun w => by simp [binOp, Op.intArith]) w⟩
instance {a b : Operand} {t ty' : TypeId} {x : Int} [ha : Is (lkO e a) (some (vI x))] [hb : Is (lkO e b) (some (.int .u64 63))] :
    Soft P N V h e (.binOp .shr t a b ty') True (vI (x / 9223372036854775808)) :=
  ⟨fun hs _ d ty pos af g ac w se _ => by
    have hf : x.fdiv (2 ^ min (63 : Int).toNat IntKind.i64.bits) = x / 9223372036854775808 := by
      rw [show ((2 : Int) ^ min (63 : Int).toNat IntKind.i64.bits) = 9223372036854775808 from by decide, Int.fdiv_eq_ediv_of_nonneg _ (by decide)]
    have hg : ∀ w, (eqGuard .shr t a b (vI x) (.int .u64 63)).run P w = .ok () w := fun w => by simp [eqGuard]
    simp only [execOp, se.eval ha.eq, se.eval hb.eq, Sem.run_bind, hg, Result.andThen_ok]
    simp only [binOp, Op.shift]
    rw [if_neg (by decide)]
    simp only [hf, Sem.run_pure, Result.andThen_ok]⟩
instance {a : Operand} {t : TypeId} {x : Int} [ha : Is (lkO e a) (some (vI x))] : Soft P N V h e (.unOp .neg t a) (-9223372036854775807 ≤ x ∧ x ≤ 9223372036854775807) (vI (-x)) :=
  ⟨fun hs _ d ty pos af g ac w se _ => by
    have := wrap_i64 (n := -x) (by omega)
    simp [execOp, se.eval ha.eq, Op.unary, Op.intArith, this]⟩
/-! ### Calls that the model answers itself -/
class CallE (P : Program) (n : FuncId) (vs : List Value) (s : outParam Prop) (v : outParam Value) : Prop where
  run : s → ∀ w, (callFunc n vs.toArray).run P w = .ok (.value v) w
section
variable {d : Nat} {ty : TypeId} {pos : String} {af : Array Edge} {g : Option (Nat × Bool)} {C : Env → PHeap → List HP → Prop}
theorem hard_callE {n : FuncId} {f : Operand} {xs : List Operand} {ts : Array TypeId} {vs : List Value} {s : Prop} {v : Value} [hf : Is (lkO e f) (some (.func (.func n) #[] #[]))] [ha : ArgsOf e xs vs] [hc : CallE P n vs s v] [hN : InN N d]
    (hs : s) (hk : C ((d, v) :: e) h L) : HardS P N ⟨some d, .call { callee := .value f, args := xs.toArray, argTypes := ts }, ty, pos, af, g⟩ e h L C := by
  intro a w s0 st
  have hr : (execOp a.eval ⟨some d, .call { callee := .value f, args := xs.toArray, argTypes := ts }, ty, pos, af, g⟩).run P w = .ok (.value v) w := by
    simp [execOp, resolve, s0.eval hf.eq, ha.eq N a s0, Deferred.ofValue, invoke, hc.run hs]
  unfold Oper.wp
  rw [hr]
  exact ⟨⟨_, h, L, s0.put hN.eq, Hle.refl h, st, hk⟩, trivial⟩
instance go_callE {n : FuncId} {f : Operand} {xs : List Operand} {ts : Array TypeId} {vs : List Value} {s : Prop} {v : Value} [hf : Is (lkO e f) (some (.func (.func n) #[] #[]))] [ha : ArgsOf e xs vs] [hc : CallE P n vs s v] [hN : InN N d] :
    Step (GO1 P N ops ⟨some d, .call { callee := .value f, args := xs.toArray, argTypes := ts }, ty, pos, af, g⟩ l k Q e h L) (Side s (GO P N ops l k Q ((d, v) :: e) h L)) := ⟨fun hk => GO1_hard (hard_callE hk.side hk.rest)⟩
end
end
/-! ### Wide numbers -/
def wHi (v : Int) : Int := v / 18446744073709551616
def wLo (v : Int) : Int := v % 18446744073709551616
@[reducible] def encW (v : Int) : List Value := [vI (wHi v), .int .u64 (wLo v)]
instance : EncOne encW := ⟨fun y u hu => by simp at hu; rcases hu with rfl | rfl <;> rfl⟩
instance {v : Int} : Mk encW [vI (wHi v), .int .u64 (wLo v)] v := ⟨rfl⟩
class WVal (a b : Value) (v : outParam Int) : Prop where
  eq : a = vI (wHi v) ∧ b = .int .u64 (wLo v)
instance {v : Int} : WVal (vI (wHi v)) (.int .u64 (wLo v)) v := ⟨rfl, rfl⟩
instance : WVal (vI 0) (.int .u64 0) 0 := ⟨rfl, rfl⟩
def sumTo (xs : List Int) : Nat → Int
  | 0 => 0
  | k + 1 => sumTo xs k + xs[k]!
def sumI (xs : List Int) : Int := sumTo xs xs.length
structure FitW (v : Int) (xs : List Int) : Prop where
  len : xs.length ≤ 4294967296
  at0 : -1267650600228229401496703205376 ≤ v ∧ v ≤ 1267650600228229401496703205376
  all : ∀ k < xs.length, -9223372036854775808 ≤ xs[k]! ∧ xs[k]! ≤ 9223372036854775807
theorem FitW.pre {v : Int} {xs : List Int} (f : FitW v xs) : ∀ k ≤ xs.length, -(9223372036854775808 * (k : Int)) ≤ sumTo xs k ∧ sumTo xs k ≤ 9223372036854775808 * (k : Int)
  | 0, _ => by simp [sumTo]
  | k + 1, hk => by
    have ih := f.pre k (by omega)
    have := f.all k (by omega)
    simp only [sumTo]
    omega
theorem FitW.bnd {v : Int} {xs : List Int} (f : FitW v xs) {k : Nat} (hk : k ≤ xs.length) : -1307264681485361570293475180544 ≤ v + sumTo xs k ∧ v + sumTo xs k ≤ 1307264681485361570293475180544 := by
  have h1 := f.pre k hk
  have h2 := f.len
  have h3 := f.at0
  omega
theorem wide_step {s n : Int} (hn : -9223372036854775808 ≤ n ∧ n ≤ 9223372036854775807) :
    (wLo s + IntKind.u64.wrap n + 0) % 18446744073709551616 = wLo (s + n) ∧ wHi s + n / 9223372036854775808 + IntKind.i64.wrap ((wLo s + IntKind.u64.wrap n + 0) / 18446744073709551616) = wHi (s + n) := by
  rw [u64_wrap]
  have hc : 0 ≤ (wLo s + n % 18446744073709551616 + 0) / 18446744073709551616 ∧ (wLo s + n % 18446744073709551616 + 0) / 18446744073709551616 ≤ 1 := by unfold wLo; omega
  rw [wrap_i64 (by omega)]
  unfold wLo wHi
  constructor <;> omega
theorem agg2 {a b c d : Int} (h1 : a = c) (h2 : b = d) : Value.agg [vI a, .int .u64 b].toArray = Value.agg [vI c, .int .u64 d].toArray := by rw [h1, h2]
section
variable {h : PHeap}
instance bits_add64 {x y : Int} : CallE Tryz.prog 116 [.int .u64 x, .int .u64 y, .int .u64 0] (0 ≤ x ∧ 0 ≤ y) (.tuple [.int .u64 ((x + y + 0) % 18446744073709551616), .int .u64 ((x + y + 0) / 18446744073709551616)].toArray) := ⟨fun hs w => by
  rw [run_callFunc_extern Tryz.func116 (by kernel_rfl) (by kernel_rfl) (by kernel_rfl) (e := add64Entry) (by kernel_rfl), run_add64 x y 0 hs.1 hs.2 (by omega) (by omega)]
  rfl⟩
instance num_more {L : List HP} {v : Int} {a b u : Value} {xs : List Int} [hw : WVal a b v] [hv : Rds L h u encI 1 xs] : CallX Tryz.prog 72 [.agg [a, b].toArray, u] h L (FitW v xs)
    (fun K => K (.agg [vI (wHi (v + sumI xs)), .int .u64 (wLo (v + sumI xs))].toArray) h []) := ⟨fun hf => by
  obtain ⟨rfl, rfl⟩ := hw.eq
  have hl := hf.len
  refine spec_enter Tryz.func72 rfl Tryz.ntmps72 Tryz.results72 (by simp) fun K R hT => ?_
  repeat (first | refine Step.imp ?_ | refine Side.mk (by first | exact True.intro | omega | exact ⟨trivial, rfl⟩ | exact ⟨by omega, trivial, rfl⟩ | exact ⟨by omega, rfl⟩ | exact ⟨by omega, by omega, rfl⟩ | (simp only [List.length_cons, List.length_nil, List.length_append]; done) | (simp only [List.length_cons, List.length_nil, List.length_append]; omega) | decide +kernel) ?_ | refine GDraw_one (by decide +kernel) ?_ | refine New.mk fun _ => ?_ | refine NewS.mk fun _ _ => ?_)
  rename_i wb rb
  refine G_loop (σ := Nat) (fun k => k ≤ xs.length) (fun k => xs.length - k) (fun k => [(11, vI k), (10, vI xs.length), (9, u), (2, .pointer (some ⟨wb, 0, none⟩)), (4, .pointer (some ⟨rb, 0, none⟩))]) (fun _ => h)
    (fun k => blk wb (.cells [vI (wHi (v + sumTo xs k)), .int .u64 (wLo (v + sumTo xs k))].toArray 162 (0, 0)) :: blk rb (.cells [vI 0, .int .u64 0].toArray 162 (0, 0)) :: (L ++ R)) 0 (by omega) ⟨rfl, rfl, rfl, rfl, rfl, trivial⟩ rfl ?_ ?_
  · simp only [sumTo, Int.add_zero]
    infer_instance
  intro k hk
  repeat (first | refine Step.imp ?_ | refine Side.mk (by first | exact True.intro | omega | exact ⟨trivial, rfl⟩ | exact ⟨by omega, trivial, rfl⟩ | exact ⟨by omega, rfl⟩ | exact ⟨by omega, by omega, rfl⟩ | (simp only [List.length_cons, List.length_nil, List.length_append]; done) | (simp only [List.length_cons, List.length_nil, List.length_append]; omega) | decide +kernel) ?_ | refine GDraw_one (by decide +kernel) ?_ | refine New.mk fun _ => ?_ | refine NewS.mk fun _ _ => ?_)
  refine ⟨fun hlt => ?_, fun hge => ?_⟩
  · have hx := hf.all k (by omega)
    have hb1 := hf.bnd hk
    have hb2 := hf.bnd (k := k + 1) (by omega)
    simp only [sumTo] at hb2
    have hws := wide_step (s := v + sumTo xs k) hx
    have hlo : 0 ≤ wLo (v + sumTo xs k) ∧ wLo (v + sumTo xs k) < 18446744073709551616 := by unfold wLo; omega
    have huw : 0 ≤ IntKind.u64.wrap (xs[k]!) ∧ IntKind.u64.wrap (xs[k]!) < 18446744073709551616 := by rw [u64_wrap]; omega
    have hiw : IntKind.i64.wrap ((wLo (v + sumTo xs k) + IntKind.u64.wrap (xs[k]!) + 0) / 18446744073709551616) = (wLo (v + sumTo xs k) + IntKind.u64.wrap (xs[k]!) + 0) / 18446744073709551616 := wrap_i64 (by omega)
    have hhi : -70866960384 ≤ wHi (v + sumTo xs k) ∧ wHi (v + sumTo xs k) ≤ 70866960384 := by unfold wHi; omega
    have hse : v + sumTo xs k + xs[k]! = v + sumTo xs (k + 1) := by simp only [sumTo]; omega
    rw [hse] at hws
    repeat (first | refine Step.imp ?_ | refine Side.mk (by first | exact True.intro | omega | exact ⟨trivial, rfl⟩ | exact ⟨by omega, trivial, rfl⟩ | exact ⟨by omega, rfl⟩ | exact ⟨by omega, by omega, rfl⟩ | (simp only [List.length_cons, List.length_nil, List.length_append]; done) | (simp only [List.length_cons, List.length_nil, List.length_append]; omega) | decide +kernel) ?_ | refine GDraw_one (by decide +kernel) ?_ | refine New.mk fun _ => ?_ | refine NewS.mk fun _ _ => ?_)
    rw [hws.1, hws.2]
    refine X_round (k + 1) ?_ ?_ ⟨rfl, rfl, rfl, rfl, rfl, trivial⟩ rfl inferInstance
    · show k + 1 ≤ xs.length
      omega
    · show xs.length - (k + 1) < xs.length - k
      omega
  · have hk2 : k = xs.length := by omega
    subst hk2
    repeat (first | refine Step.imp ?_ | refine Side.mk (by first | exact True.intro | omega | exact ⟨trivial, rfl⟩ | exact ⟨by omega, trivial, rfl⟩ | exact ⟨by omega, rfl⟩ | exact ⟨by omega, by omega, rfl⟩ | (simp only [List.length_cons, List.length_nil, List.length_append]; done) | (simp only [List.length_cons, List.length_nil, List.length_append]; omega) | decide +kernel) ?_ | refine GDraw_one (by decide +kernel) ?_ | refine New.mk fun _ => ?_ | refine NewS.mk fun _ _ => ?_)
    exact Fin.val hT rfl (Hle.refl _)⟩
/-- Does a number fit in 64 bits? -/
def FitP (v : Int) : Prop := -9223372036854775808 ≤ v ∧ v ≤ 9223372036854775807
instance (v : Int) : Decidable (FitP v) := by unfold FitP; infer_instance
def fitN (v : Int) : Int := if FitP v then v else 0
def fitE (v : Int) : Int := if FitP v then 0 else 8
theorem fits_iff (v : Int) : wHi v = IntKind.i64.wrap (wLo v) / 9223372036854775808 ↔ FitP v := by
  rw [i64_wrap]
  unfold wHi wLo FitP
  split <;> omega
theorem fits_lo {v : Int} (h : FitP v) : IntKind.i64.wrap (wLo v) = v := by
  rw [i64_wrap]
  unfold FitP at h
  unfold wLo
  split <;> omega
instance num_fit {n : Int} {p : Prop} [Decidable p] : CallV Tryz.prog 117 [vI n, .bool (decide p)] h True (.tuple [vI (if p then n else 0), vI (if p then 0 else 8)].toArray) := ⟨fun _ => by
  refine spec_enter Tryz.func117 rfl Tryz.ntmps117 Tryz.results117 (by simp) fun K R hT => ?_
  repeat (first | refine Step.imp ?_ | refine Side.mk (by first | exact True.intro | omega | exact ⟨trivial, rfl⟩ | exact ⟨by omega, trivial, rfl⟩ | exact ⟨by omega, rfl⟩ | exact ⟨by omega, by omega, rfl⟩ | (simp only [List.length_cons, List.length_nil, List.length_append]; done) | (simp only [List.length_cons, List.length_nil, List.length_append]; omega) | decide +kernel) ?_ | refine GDraw_one (by decide +kernel) ?_ | refine New.mk fun _ => ?_ | refine NewS.mk fun _ _ => ?_)
  refine ⟨fun hn => ?_, fun hp => ?_⟩
  · rw [if_neg hn, if_neg hn] at hT
    repeat (first | refine Step.imp ?_ | refine Side.mk (by first | exact True.intro | omega | exact ⟨trivial, rfl⟩ | exact ⟨by omega, trivial, rfl⟩ | exact ⟨by omega, rfl⟩ | exact ⟨by omega, by omega, rfl⟩ | (simp only [List.length_cons, List.length_nil, List.length_append]; done) | (simp only [List.length_cons, List.length_nil, List.length_append]; omega) | decide +kernel) ?_ | refine GDraw_one (by decide +kernel) ?_ | refine New.mk fun _ => ?_ | refine NewS.mk fun _ _ => ?_)
    exact Fin.val hT rfl (Hle.refl _)
  · have hp := Decidable.not_not.1 hp
    rw [if_pos hp, if_pos hp] at hT
    repeat (first | refine Step.imp ?_ | refine Side.mk (by first | exact True.intro | omega | exact ⟨trivial, rfl⟩ | exact ⟨by omega, trivial, rfl⟩ | exact ⟨by omega, rfl⟩ | exact ⟨by omega, by omega, rfl⟩ | (simp only [List.length_cons, List.length_nil, List.length_append]; done) | (simp only [List.length_cons, List.length_nil, List.length_append]; omega) | decide +kernel) ?_ | refine GDraw_one (by decide +kernel) ?_ | refine New.mk fun _ => ?_ | refine NewS.mk fun _ _ => ?_)
    exact Fin.val hT rfl (Hle.refl _)⟩
instance num_fits {v : Int} {a b : Value} [hw : WVal a b v] : CallV Tryz.prog 73 [.agg [a, b].toArray] h True (.tuple [vI (fitN v), vI (fitE v)].toArray) := ⟨fun _ => by
  obtain ⟨rfl, rfl⟩ := hw.eq
  have hi := fits_iff v
  refine spec_enter Tryz.func73 rfl Tryz.ntmps73 Tryz.results73 (by simp) fun K R hT => ?_
  repeat (first | refine Step.imp ?_ | refine Side.mk (by first | exact True.intro | omega | exact ⟨trivial, rfl⟩ | exact ⟨by omega, trivial, rfl⟩ | exact ⟨by omega, rfl⟩ | exact ⟨by omega, by omega, rfl⟩ | (simp only [List.length_cons, List.length_nil, List.length_append]; done) | (simp only [List.length_cons, List.length_nil, List.length_append]; omega) | decide +kernel) ?_ | refine GDraw_one (by decide +kernel) ?_ | refine New.mk fun _ => ?_ | refine NewS.mk fun _ _ => ?_)
  refine Fin.val hT ?_ (Hle.refl _)
  unfold fitN fitE
  by_cases hp : FitP v
  · have := hi.2 hp
    rw [if_pos hp, if_pos hp, if_pos this, if_pos this, fits_lo hp]
  · have : ¬ wHi v = IntKind.i64.wrap (wLo v) / 9223372036854775808 := fun h => hp (hi.1 h)
    rw [if_neg hp, if_neg hp, if_neg this, if_neg this]⟩
instance roll_fits {v : Int} {a b : Value} [hw : WVal a b v] : CallV Tryz.prog 80 [.agg [a, b].toArray] h True (.bool (decide (FitP v))) := ⟨fun _ => by
  obtain ⟨rfl, rfl⟩ := hw.eq
  refine spec_enter Tryz.func80 rfl Tryz.ntmps80 Tryz.results80 (by simp) fun K R hT => ?_
  repeat (first | refine Step.imp ?_ | refine Side.mk (by first | exact True.intro | omega | exact ⟨trivial, rfl⟩ | exact ⟨by omega, trivial, rfl⟩ | exact ⟨by omega, rfl⟩ | exact ⟨by omega, by omega, rfl⟩ | (simp only [List.length_cons, List.length_nil, List.length_append]; done) | (simp only [List.length_cons, List.length_nil, List.length_append]; omega) | decide +kernel) ?_ | refine GDraw_one (by decide +kernel) ?_ | refine New.mk fun _ => ?_ | refine NewS.mk fun _ _ => ?_)
  exact Fin.dec hT (by unfold fitE; split <;> simp_all) (Hle.refl _)⟩
theorem fit_one {v n : Int} (hv : -1267650600228229401496703205376 ≤ v ∧ v ≤ 1267650600228229401496703205376) (hn : -9223372036854775808 ≤ n ∧ n ≤ 9223372036854775807) : FitW v [n] := ⟨by simp, hv, fun k hk => by
  have : k = 0 := by simp at hk; omega
  subst this; exact hn⟩
theorem sum_one (n : Int) : sumI [n] = n := by simp [sumI, sumTo]
instance roll_less {L : List HP} {v n : Int} {a b : Value} [hw : WVal a b v] : CallX Tryz.prog 81 [.agg [a, b].toArray, vI n] h L ((-1267650600228229401496703205376 ≤ v ∧ v ≤ 1267650600228229401496703205376) ∧ -9223372036854775808 ≤ n ∧ n ≤ 9223372036854775807)
    (fun K => K (.agg [vI (wHi (v - n)), .int .u64 (wLo (v - n))].toArray) h []) := ⟨fun hs => by
  obtain ⟨rfl, rfl⟩ := hw.eq
  refine spec_enter Tryz.func81 rfl Tryz.ntmps81 Tryz.results81 (by simp) fun K R hT => ?_
  repeat (first | refine Step.imp ?_ | refine Side.mk (by first | exact True.intro | omega | exact ⟨trivial, rfl⟩ | exact ⟨by omega, trivial, rfl⟩ | exact ⟨by omega, rfl⟩ | exact ⟨by omega, by omega, rfl⟩ | (simp only [List.length_cons, List.length_nil, List.length_append]; done) | (simp only [List.length_cons, List.length_nil, List.length_append]; omega) | decide +kernel) ?_ | refine GDraw_one (by decide +kernel) ?_ | refine New.mk fun _ => ?_ | refine NewS.mk fun _ _ => ?_)
  refine ⟨fun he => ?_, fun hne => ?_⟩
  · repeat (first | refine Step.imp ?_ | refine Side.mk (by first | exact True.intro | omega | exact ⟨trivial, rfl⟩ | exact ⟨by omega, trivial, rfl⟩ | exact ⟨by omega, rfl⟩ | exact ⟨by omega, by omega, rfl⟩ | (simp only [List.length_cons, List.length_nil, List.length_append]; done) | (simp only [List.length_cons, List.length_nil, List.length_append]; omega) | decide +kernel) ?_ | refine GDraw_one (by decide +kernel) ?_ | refine New.mk fun _ => ?_ | refine NewS.mk fun _ _ => ?_)
    rename_i b1
    refine GO1_own (kk := 1) b1 encI [9223372036854775807, 1] ?_
    repeat (first | refine Step.imp ?_ | refine Side.mk (by first | exact True.intro | omega | exact ⟨trivial, rfl⟩ | exact ⟨by omega, trivial, rfl⟩ | exact ⟨by omega, rfl⟩ | exact ⟨by omega, by omega, rfl⟩ | (simp only [List.length_cons, List.length_nil, List.length_append]; done) | (simp only [List.length_cons, List.length_nil, List.length_append]; omega) | decide +kernel) ?_ | refine GDraw_one (by decide +kernel) ?_ | refine New.mk fun _ => ?_ | refine NewS.mk fun _ _ => ?_)
    refine Side.mk ⟨by simp, hs.1, fun k hk => ?_⟩ ?_
    · have : k = 0 ∨ k = 1 := by simp at hk; omega
      rcases this with rfl | rfl <;> simp
    have hsum : v + sumI [9223372036854775807, 1] = v - n := by simp [sumI, sumTo, he]
    rw [hsum]
    repeat (first | refine Step.imp ?_ | refine Side.mk (by first | exact True.intro | omega | exact ⟨trivial, rfl⟩ | exact ⟨by omega, trivial, rfl⟩ | exact ⟨by omega, rfl⟩ | exact ⟨by omega, by omega, rfl⟩ | (simp only [List.length_cons, List.length_nil, List.length_append]; done) | (simp only [List.length_cons, List.length_nil, List.length_append]; omega) | decide +kernel) ?_ | refine GDraw_one (by decide +kernel) ?_ | refine New.mk fun _ => ?_ | refine NewS.mk fun _ _ => ?_)
    exact Fin.val hT rfl (Hle.refl _)
  · repeat (first | refine Step.imp ?_ | refine Side.mk (by first | exact True.intro | omega | exact ⟨trivial, rfl⟩ | exact ⟨by omega, trivial, rfl⟩ | exact ⟨by omega, rfl⟩ | exact ⟨by omega, by omega, rfl⟩ | (simp only [List.length_cons, List.length_nil, List.length_append]; done) | (simp only [List.length_cons, List.length_nil, List.length_append]; omega) | decide +kernel) ?_ | refine GDraw_one (by decide +kernel) ?_ | refine New.mk fun _ => ?_ | refine NewS.mk fun _ _ => ?_)
    rename_i b1
    refine GO1_own (kk := 1) b1 encI [-n] ?_
    repeat (first | refine Step.imp ?_ | refine Side.mk (by first | exact True.intro | omega | exact ⟨trivial, rfl⟩ | exact ⟨by omega, trivial, rfl⟩ | exact ⟨by omega, rfl⟩ | exact ⟨by omega, by omega, rfl⟩ | (simp only [List.length_cons, List.length_nil, List.length_append]; done) | (simp only [List.length_cons, List.length_nil, List.length_append]; omega) | decide +kernel) ?_ | refine GDraw_one (by decide +kernel) ?_ | refine New.mk fun _ => ?_ | refine NewS.mk fun _ _ => ?_)
    refine Side.mk (fit_one hs.1 (by omega)) ?_
    have hsum : v + sumI [-n] = v - n := by rw [sum_one]; omega
    rw [hsum]
    repeat (first | refine Step.imp ?_ | refine Side.mk (by first | exact True.intro | omega | exact ⟨trivial, rfl⟩ | exact ⟨by omega, trivial, rfl⟩ | exact ⟨by omega, rfl⟩ | exact ⟨by omega, by omega, rfl⟩ | (simp only [List.length_cons, List.length_nil, List.length_append]; done) | (simp only [List.length_cons, List.length_nil, List.length_append]; omega) | decide +kernel) ?_ | refine GDraw_one (by decide +kernel) ?_ | refine New.mk fun _ => ?_ | refine NewS.mk fun _ _ => ?_)
    exact Fin.val hT rfl (Hle.refl _)⟩
/-! ### The document's -/
instance ref_more1 {v n : Int} {a b : Value} [hw : WVal a b v] : CallV Tryz.prog 138 [.agg [a, b].toArray, vI n] h ((-1307264681485361570293475180544 ≤ v ∧ v ≤ 1307264681485361570293475180544) ∧ -9223372036854775808 ≤ n ∧ n ≤ 9223372036854775807)
    (.agg [vI (wHi (v + n)), .int .u64 (wLo (v + n))].toArray) := ⟨fun hs => by
  obtain ⟨rfl, rfl⟩ := hw.eq
  obtain ⟨hv, hn⟩ := hs
  have hhi : -70866960384 ≤ wHi v ∧ wHi v ≤ 70866960384 := by unfold wHi; omega
  refine spec_enter Tryz.func138 rfl Tryz.ntmps138 Tryz.results138 (by simp) fun K R hT => ?_
  repeat' (first | refine Step.imp ?_ | refine Side.mk (by first | exact True.intro | omega | exact ⟨trivial, rfl⟩ | exact ⟨by omega, trivial, rfl⟩ | exact ⟨by omega, rfl⟩ | exact ⟨by omega, by omega, rfl⟩ | (simp only [List.length_cons, List.length_nil, List.length_append]; done) | (simp only [List.length_cons, List.length_nil, List.length_append]; omega) | decide +kernel) ?_ | refine GDraw_one (by decide +kernel) ?_ | refine New.mk fun _ => ?_ | refine NewS.mk fun _ _ => ?_ | refine Ways.mk (fun _ => ?_) (fun _ => ?_))
  all_goals (refine Fin.val hT ?_ (Hle.refl _); simp only [u64_wrap] at *; unfold wHi wLo at *; exact agg2 (by omega) (by omega))⟩
instance ref_more {L : List HP} {v : Int} {a b u : Value} {xs : List Int} [hw : WVal a b v] [hv : Rds L h u encI 1 xs] : CallX Tryz.prog 105 [.agg [a, b].toArray, u] h L (FitW v xs)
    (fun K => K (.agg [vI (wHi (v + sumI xs)), .int .u64 (wLo (v + sumI xs))].toArray) h []) := ⟨fun hf => by
  obtain ⟨rfl, rfl⟩ := hw.eq
  have hl := hf.len
  refine spec_enter Tryz.func105 rfl Tryz.ntmps105 Tryz.results105 (by simp) fun K R hT => ?_
  repeat (first | refine Step.imp ?_ | refine Side.mk (by first | exact True.intro | omega | exact ⟨trivial, rfl⟩ | exact ⟨by omega, trivial, rfl⟩ | exact ⟨by omega, rfl⟩ | exact ⟨by omega, by omega, rfl⟩ | (simp only [List.length_cons, List.length_nil, List.length_append]; done) | (simp only [List.length_cons, List.length_nil, List.length_append]; omega) | decide +kernel) ?_ | refine GDraw_one (by decide +kernel) ?_ | refine New.mk fun _ => ?_ | refine NewS.mk fun _ _ => ?_)
  rename_i wb rb
  refine G_loop (σ := Nat) (fun k => k ≤ xs.length) (fun k => xs.length - k) (fun k => [(5, vI k), (1, u), (2, .pointer (some ⟨wb, 0, none⟩)), (4, .pointer (some ⟨rb, 0, none⟩))]) (fun _ => h)
    (fun k => blk wb (.cells [vI (wHi (v + sumTo xs k)), .int .u64 (wLo (v + sumTo xs k))].toArray 192 (0, 0)) :: blk rb (.cells [vI 0, .int .u64 0].toArray 192 (0, 0)) :: (L ++ R)) 0 (by omega) ⟨rfl, rfl, rfl, rfl, trivial⟩ rfl ?_ ?_
  · simp only [sumTo, Int.add_zero]
    infer_instance
  intro k hk
  repeat (first | refine Step.imp ?_ | refine Side.mk (by first | exact True.intro | omega | exact ⟨trivial, rfl⟩ | exact ⟨by omega, trivial, rfl⟩ | exact ⟨by omega, rfl⟩ | exact ⟨by omega, by omega, rfl⟩ | (simp only [List.length_cons, List.length_nil, List.length_append]; done) | (simp only [List.length_cons, List.length_nil, List.length_append]; omega) | decide +kernel) ?_ | refine GDraw_one (by decide +kernel) ?_ | refine New.mk fun _ => ?_ | refine NewS.mk fun _ _ => ?_)
  refine ⟨fun hlt => ?_, fun hge => ?_⟩
  · have hx := hf.all k (by omega)
    have hb1 := hf.bnd hk
    have hse : v + sumTo xs k + xs[k]! = v + sumTo xs (k + 1) := by simp only [sumTo]; omega
    repeat (first | refine Step.imp ?_ | refine Side.mk (by first | exact True.intro | omega | exact ⟨trivial, rfl⟩ | exact ⟨by omega, trivial, rfl⟩ | exact ⟨by omega, rfl⟩ | exact ⟨by omega, by omega, rfl⟩ | (simp only [List.length_cons, List.length_nil, List.length_append]; done) | (simp only [List.length_cons, List.length_nil, List.length_append]; omega) | decide +kernel) ?_ | refine GDraw_one (by decide +kernel) ?_ | refine New.mk fun _ => ?_ | refine NewS.mk fun _ _ => ?_)
    rw [hse]
    refine X_round (k + 1) ?_ ?_ ⟨rfl, rfl, rfl, rfl, trivial⟩ rfl inferInstance
    · show k + 1 ≤ xs.length
      omega
    · show xs.length - (k + 1) < xs.length - k
      omega
  · have hk2 : k = xs.length := by omega
    subst hk2
    repeat (first | refine Step.imp ?_ | refine Side.mk (by first | exact True.intro | omega | exact ⟨trivial, rfl⟩ | exact ⟨by omega, trivial, rfl⟩ | exact ⟨by omega, rfl⟩ | exact ⟨by omega, by omega, rfl⟩ | (simp only [List.length_cons, List.length_nil, List.length_append]; done) | (simp only [List.length_cons, List.length_nil, List.length_append]; omega) | decide +kernel) ?_ | refine GDraw_one (by decide +kernel) ?_ | refine New.mk fun _ => ?_ | refine NewS.mk fun _ _ => ?_)
    exact Fin.val hT rfl (Hle.refl _)⟩
instance ref_fits {v : Int} {a b : Value} [hw : WVal a b v] : CallV Tryz.prog 104 [.agg [a, b].toArray] h True (.tuple [vI (fitN v), vI (fitE v)].toArray) := ⟨fun _ => by
  obtain ⟨rfl, rfl⟩ := hw.eq
  refine spec_enter Tryz.func104 rfl Tryz.ntmps104 Tryz.results104 (by simp) fun K R hT => ?_
  by_cases hp : FitP v
  · have hl := fits_lo hp
    have hh : (v < 0 → wHi v = -1) ∧ (0 ≤ v → wHi v = 0) := by
      unfold FitP at hp
      unfold wHi
      omega
    have e1 : fitN v = v := if_pos hp
    have e2 : fitE v = 0 := if_pos hp
    rw [e1, e2] at hT
    repeat' (first | refine Step.imp ?_ | refine Side.mk (by first | exact True.intro | omega | exact ⟨trivial, rfl⟩ | exact ⟨by omega, trivial, rfl⟩ | exact ⟨by omega, rfl⟩ | exact ⟨by omega, by omega, rfl⟩ | (simp only [List.length_cons, List.length_nil, List.length_append]; done) | (simp only [List.length_cons, List.length_nil, List.length_append]; omega) | decide +kernel) ?_ | refine GDraw_one (by decide +kernel) ?_ | refine New.mk fun _ => ?_ | refine NewS.mk fun _ _ => ?_ | refine Ways.mk (fun _ => ?_) (fun _ => ?_))
    all_goals first | (exfalso; omega) | exact Fin.val hT (by rw [hl]) (Hle.refl _)
  · have hn : ¬ (wHi v = 0 ∧ 0 ≤ IntKind.i64.wrap (wLo v)) ∧ ¬ (wHi v = -1 ∧ IntKind.i64.wrap (wLo v) < 0) := by
      rw [i64_wrap]
      unfold FitP at hp
      unfold wHi wLo
      constructor <;> (split <;> omega)
    have e1 : fitN v = 0 := if_neg hp
    have e2 : fitE v = 8 := if_neg hp
    rw [e1, e2] at hT
    repeat' (first | refine Step.imp ?_ | refine Side.mk (by first | exact True.intro | omega | exact ⟨trivial, rfl⟩ | exact ⟨by omega, trivial, rfl⟩ | exact ⟨by omega, rfl⟩ | exact ⟨by omega, by omega, rfl⟩ | (simp only [List.length_cons, List.length_nil, List.length_append]; done) | (simp only [List.length_cons, List.length_nil, List.length_append]; omega) | decide +kernel) ?_ | refine GDraw_one (by decide +kernel) ?_ | refine New.mk fun _ => ?_ | refine NewS.mk fun _ _ => ?_ | refine Ways.mk (fun _ => ?_) (fun _ => ?_))
    all_goals first | (exfalso; omega) | exact Fin.val hT rfl (Hle.refl _)⟩
instance ref_sum {L : List HP} {u : Value} {xs : List Int} [hv : Rds L h u encI 1 xs] : CallX Tryz.prog 60 [u] h L (FitW 0 xs)
    (fun K => K (.tuple [vI (fitN (sumI xs)), vI (fitE (sumI xs))].toArray) h []) := ⟨fun hf => by
  refine spec_enter Tryz.func60 rfl Tryz.ntmps60 Tryz.results60 (by simp) fun K R hT => ?_
  repeat (first | refine Step.imp ?_ | refine Side.mk (by first | exact True.intro | omega | exact ⟨trivial, rfl⟩ | exact ⟨by omega, trivial, rfl⟩ | exact ⟨by omega, rfl⟩ | exact ⟨by omega, by omega, rfl⟩ | (simp only [List.length_cons, List.length_nil, List.length_append]; done) | (simp only [List.length_cons, List.length_nil, List.length_append]; omega) | decide +kernel) ?_ | refine GDraw_one (by decide +kernel) ?_ | refine New.mk fun _ => ?_ | refine NewS.mk fun _ _ => ?_)
  refine Fin.val hT ?_ (Hle.refl _)
  rw [Int.zero_add]⟩
end
end Go.Sl
