/-
  Facts that the proof is made of (OP).
-/
import Derived.Test.YtoekdnandjjeoaaGreatKF4
import Derived.Test.YtoekdnandjjeoaaGreatKN2
/-
  What a law opens: a catalogue that is right, and not too big.
-/
namespace Go.Sl
open Go.Proofs
set_option linter.unusedVariables false
set_option linter.unusedSimpArgs false
set_option maxRecDepth 10000
set_option synthInstance.maxSize 2000
set_option synthInstance.maxHeartbeats 200000
set_option maxHeartbeats 1000000
section
variable {P : Program} {N : NN} {V : List HP} {e : Env} {h : PHeap}
/-- A product that may wrap. -/
theorem soft_mulW (P : Program) (N : NN) : ∀ (V : List HP) (h : PHeap) (e : Env) (a b : Operand) (t ty' : TypeId) (x y : Int) [ha : Is (lkO e a) (some (vI x))] [hb : Is (lkO e b) (some (vI y))], Soft P N V h e (.binOp .mul t a b ty') True (vI (IntKind.i64.wrap (x * y))) :=
  fun V h e a b t ty' x y ha hb => ⟨fun hs _ d ty pos af g ac w se _ => run_int .mul (se.eval ha.eq) (se.eval hb.eq) (fun w => by simp [binOp, Op.intArith]) w⟩
end
section
variable {P : Program} {N : NN} {Q : Post} {e : Env} {h h0 : PHeap} {L R : List HP} {k : List It} {b : Nat} {C : Cat}
theorem rsp_newB {db : Nat} (hRD : IsRD h db C) (ok : OkCat C) : RspOk h C false db (.slice none 0 0) (.slice none 0 0) (.slice none 0 0) [] [] := ⟨hRD, ok, .inl ⟨rfl, rfl, rfl⟩, .inl ⟨rfl, rfl, rfl⟩⟩
theorem GO1_newR {ops l : List Oper} {o : Oper} {db T : Nat} (b : Nat) [p : PickC L b [.pointer (some ⟨db, 0, none⟩), .slice none 0 0, .slice none 0 0, .slice none 0 0, .slice none 0 0, .slice none 0 0] T R] [hT : Is T 133] (hRD : IsRD h db C) (ok : OkCat C)
    (g : GO1 P N ops o l k Q e h (rsp h b C false :: R)) : GO1 P N ops o l k Q e h L := fun a w s => by
  have := hT.eq
  subst this
  have hp := ((p.eq.cons (slo encB 1 (.slice none 0 0) [])).cons (slo encSV 1 (.slice none 0 0) [])).trans (List.perm_middle (l₁ := [slo encSV 1 (.slice none 0 0) [], slo encB 1 (.slice none 0 0) []]))
  exact g a w (s.ae.as (St.rspIn (rsp_newB hRD ok) (((s.st.nil encB 1 none).nil encSV 1 none).perm hp)))
end
theorem pure_at {ds : List Dm} {i : Nat} (hi : i < ds.length) : ((ds.map Dm.pure)[i]!).2 = (ds[i]!).nodes := by
  rw [getElem!_pos _ i (by simpa using hi), List.getElem_map, getElem!_pos ds i hi]; rfl
def prodN (ds : List (ByteArray × List Nd)) : Nat → Int
  | 0 => 1
  | k + 1 => prodN ds k * (ds[k]!).2.length
/-- What the laws open: a catalogue that is right, and not too big. -/
def OpenP (C : Cat) : Prop := OkCat C ∧ (∀ i < C.dims.length, (C.dims[i]!).2.length ≤ 12) ∧ C.dims.length ≤ 4 ∧ C.meas.length ≤ 4 ∧ prodN C.dims C.dims.length ≤ 150
theorem mul_le4 {k a b : Nat} (ha : a ≤ 12 ^ k) (hb : b ≤ 12) : a * b ≤ 12 ^ (k + 1) := by
  rw [Nat.pow_succ]; exact Nat.mul_le_mul ha hb
theorem prod_le {ds : List (ByteArray × List Nd)} : ∀ k, (∀ i < k, (ds[i]!).2.length ≤ 12) → 0 ≤ prodN ds k ∧ prodN ds k ≤ (12 : Int) ^ k
  | 0, _ => by simp [prodN]
  | k + 1, hs => by
    have ih := prod_le k (fun i hi => hs i (by omega))
    have h1 := hs k (by omega)
    simp only [prodN]
    refine ⟨Int.mul_nonneg ih.1 (by omega), ?_⟩
    rw [Int.pow_succ]
    exact Int.mul_le_mul ih.2 (by omega) (by omega) (Int.le_trans ih.1 ih.2)
end Go.Sl
