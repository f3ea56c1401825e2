/-
  Facts that the proof is made of (F2).
-/
import Derived.Test.YtoekdnandjjeoaaGreatKY
import Derived.Test.YtoekdnandjjeoaaGreatKL3
import Derived.Test.YtoekdnandjjeoaaGreatKF1
import Derived.Test.YtoekdnandjjeoaaGreatKD1
/-
  Tests whose outcome is known to be no; truths held against each other.
-/
namespace Go.Sl
open Go.Proofs
set_option linter.unusedVariables false
set_option linter.unusedSimpArgs false
section
variable {P : Program} {N : NN} {k : List It} {Q : Post} {e : Env} {h h0 : PHeap} {L V M : List HP} {ops l : List Oper} {i : Nat}
instance {p : Prop} [hp : Known p] : Known (¬ ¬ p) := ⟨fun h => h hp.yes⟩
instance {α : Type} {n : α} : Known (¬ (n ≠ n)) := ⟨fun h => h rfl⟩
instance : Known True := ⟨trivial⟩
instance {p q : Prop} [hp : Known p] [hq : Known q] : Known (p ∧ q) := ⟨hp.yes, hq.yes⟩
section
variable {j t : Nat} {d : Option Tmp} {op : Op} {ty : TypeId} {pos : String} {af : Array Edge} {b : Bool} {p : Prop} [Decidable p]
instance go_lookT [hp : Known p] [hd : Is (dstAt ops j) (some t)] [hv : Is (lk e t) (some (.bool (decide p)))] :
    Step (GO P N ops (⟨d, op, ty, pos, af, some (j, b)⟩ :: l) k Q e h L) (GO P N ops (⟨d, op, ty, pos, af, some (j, b)⟩ :: l) k Q ((t, .bool true) :: e) h L) :=
  ⟨fun g => split_dec (J := fun e => GO P N ops _ k Q e h L) inferInstance hv.eq (fun _ => g) (fun hn => absurd hp.yes hn)⟩
instance go_lookF [hp : Known (¬ p)] [hd : Is (dstAt ops j) (some t)] [hv : Is (lk e t) (some (.bool (decide p)))] :
    Step (GO P N ops (⟨d, op, ty, pos, af, some (j, b)⟩ :: l) k Q e h L) (GO P N ops (⟨d, op, ty, pos, af, some (j, b)⟩ :: l) k Q ((t, .bool false) :: e) h L) :=
  ⟨fun g => split_dec (J := fun e => GO P N ops _ k Q e h L) inferInstance hv.eq (fun hn => absurd hn hp.yes) (fun _ => g)⟩
instance gd_lookT [hp : Known p] [hd : Is (dstAt ops j) (some t)] [hv : Is (lk e t) (some (.bool (decide p)))] :
    Step (GD P N ops V h0 i (⟨d, op, ty, pos, af, some (j, b)⟩ :: l) k Q e h L) (GD P N ops V h0 i (⟨d, op, ty, pos, af, some (j, b)⟩ :: l) k Q ((t, .bool true) :: e) h L) :=
  ⟨fun g => split_dec (J := fun e => GD P N ops V h0 i _ k Q e h L) inferInstance hv.eq (fun _ => g) (fun hn => absurd hp.yes hn)⟩
instance gd_lookF [hp : Known (¬ p)] [hd : Is (dstAt ops j) (some t)] [hv : Is (lk e t) (some (.bool (decide p)))] :
    Step (GD P N ops V h0 i (⟨d, op, ty, pos, af, some (j, b)⟩ :: l) k Q e h L) (GD P N ops V h0 i (⟨d, op, ty, pos, af, some (j, b)⟩ :: l) k Q ((t, .bool false) :: e) h L) :=
  ⟨fun g => split_dec (J := fun e => GD P N ops V h0 i _ k Q e h L) inferInstance hv.eq (fun hn => absurd hn hp.yes) (fun _ => g)⟩
instance cond_knownF {x y : Code} [hp : Known (¬ p)] [hv : Is (lk e t) (some (.bool (decide p)))] : Step (G P N (.cond (.tmp t) x y) k Q e h L) (G P N y k Q e h L) :=
  ⟨fun g a w s => wpIn_cond_false (by rw [s.ae.eval (x := .tmp t) hv.eq]; simp [hp.yes]) (g a w s)⟩
instance pick_knownF {c x y : Operand} {v : Value} [hp : Known (¬ p)] [hc : Is (lkO e c) (some (.bool (decide p)))] [hy : Is (lkO e y) (some v)] : Soft P N V h e (.pick c x y) True v := ⟨fun _ _ d ty pos af g a w s _ => by
  have h1 := s.eval hc.eq
  rw [decide_eq_false hp.yes] at h1
  simp [execOp, h1, s.eval hy.eq, asBool]⟩
end
theorem run_bool (op : BinOp) {x y : Bool} {a b : Operand} {t ty' : TypeId} {ρ : Operand → Value} {d : Option Tmp} {ty : TypeId} {pos : String} {af : Array Edge} {g : Option (Nat × Bool)} (ha : ρ a = .bool x) (hb : ρ b = .bool y)
    {v : Value} (hv : ∀ w, (binOp op t (.bool x) (.bool y)).run P w = .ok v w) (w : World) : (execOp ρ ⟨d, .binOp op t a b ty', ty, pos, af, g⟩).run P w = .ok (.value v) w := by
  simp only [execOp, ha, hb]
  have hg : ∀ w, (eqGuard op t a b (.bool x) (.bool y)).run P w = .ok () w := fun w => by cases op <;> simp [eqGuard]
  simp only [Sem.run_bind, hg, Result.andThen_ok, hv, Sem.run_pure]
instance {a b : Operand} {t ty' : TypeId} {x y : Bool} [ht : BoolT P t] [ha : Is (lkO e a) (some (.bool x))] [hb : Is (lkO e b) (some (.bool y))] : Soft P N V h e (.binOp .eql t a b ty') True (.bool (decide (x = y))) :=
  ⟨fun _ _ d ty pos af g ac w se _ => run_bool .eql (se.eval ha.eq) (se.eval hb.eq) (fun w => by
    simp only [binOp, Op.equal, Sem.run_bind]
    rw [show Op.maxDepth = 9999 + 1 from rfl, run_equalIn_bool' w 9999 t x y ht.eq]
    cases x <;> cases y <;> simp) w⟩
instance {a b : Operand} {t ty' : TypeId} {x y : Bool} [ht : BoolT P t] [ha : Is (lkO e a) (some (.bool x))] [hb : Is (lkO e b) (some (.bool y))] : Soft P N V h e (.binOp .neq t a b ty') True (.bool (decide (x ≠ y))) :=
  ⟨fun _ _ d ty pos af g ac w se _ => run_bool .neq (se.eval ha.eq) (se.eval hb.eq) (fun w => by
    simp only [binOp, Op.equal, Sem.run_bind]
    rw [show Op.maxDepth = 9999 + 1 from rfl, run_equalIn_bool' w 9999 t x y ht.eq]
    cases x <;> cases y <;> simp) w⟩
end
end Go.Sl

/-
  The document's trees and catalogues: ranks, what is within what, which cells can be.
-/
namespace Go.Sl
open Go.Proofs
set_option linter.unusedVariables false
set_option linter.unusedSimpArgs false
set_option maxRecDepth 10000
set_option synthInstance.maxSize 2000
set_option synthInstance.maxHeartbeats 200000
set_option maxHeartbeats 1000000
theorem rank_idx {nodes : List Nd} (h : treeErr nodes = none) (i : Int) : idxI (mkTree nodes).leaves i = (mkTree nodes).rankF i := by
  by_cases hl : (mkTree nodes).leafB i
  · have hr := rank_ok h hl
    rw [idxI_some (k := ((mkTree nodes).rankF i).toNat) (by omega) (fun j hj he => ?_) hr.2.2.symm]
    · omega
    · have := nodup_inj (leaves_nodup h) (i := j) (j := ((mkTree nodes).rankF i).toNat) (by omega) (by omega) (by rw [he, hr.2.2])
      omega
  · have : (mkTree nodes).rankF i = -1 := by unfold Tr.rankF; rw [if_neg hl]
    rw [this]
    refine idxI_none fun j hj he => hl ?_
    rw [← he]
    exact (mem_leaves h).1 (mem_get hj)
section
variable {h : PHeap} {b : Nat} {nodes : List Nd}
instance rt_rank {L : List HP} {i : Int} [hI : IsRT h b nodes] [ok : OkT nodes] : CallX Tryz.prog 134 [.pointer (some ⟨b, 0, none⟩), vI i] h L True (fun K => K (vI ((mkTree nodes).rankF i)) h []) := ⟨fun _ => by
  have hx := rank_idx ok.eq i
  have hll := (mkTree_len ok.eq).leaves
  refine spec_enter Tryz.func134 rfl Tryz.ntmps134 Tryz.results134 (by simp) fun K R hT => ?_
  repeat (first | refine Step.imp ?_ | refine Side.mk (by first | exact True.intro | omega | exact ⟨trivial, rfl⟩ | exact ⟨by omega, trivial, rfl⟩ | exact ⟨by omega, rfl⟩ | exact ⟨by omega, by omega, rfl⟩ | (simp only [List.length_cons, List.length_nil, List.length_append]; done) | (simp only [List.length_cons, List.length_nil, List.length_append]; omega) | decide +kernel) ?_ | refine GDraw_one (by decide +kernel) ?_ | refine New.mk fun _ => ?_ | refine NewS.mk fun _ _ => ?_)
  intro a c
  repeat (first | refine Step.imp ?_ | refine Side.mk (by first | exact True.intro | omega | exact ⟨trivial, rfl⟩ | exact ⟨by omega, trivial, rfl⟩ | exact ⟨by omega, rfl⟩ | exact ⟨by omega, by omega, rfl⟩ | (simp only [List.length_cons, List.length_nil, List.length_append]; done) | (simp only [List.length_cons, List.length_nil, List.length_append]; omega) | decide +kernel) ?_ | refine GDraw_one (by decide +kernel) ?_ | refine New.mk fun _ => ?_ | refine NewS.mk fun _ _ => ?_)
  refine G_loopE (σ := Nat) (fun k => k ≤ (mkTree nodes).leaves.length ∧ ∀ j < k, (mkTree nodes).leaves[j]! ≠ i) (fun k => (mkTree nodes).leaves.length - k) (fun k => [(6, vI k), (5, .slice a (mkTree nodes).leaves.length c), (1, vI i)]) 0 ⟨by omega, by omega⟩ ⟨rfl, rfl, rfl, trivial⟩ fun k hk => ?_
  obtain ⟨hk, hno⟩ := hk
  repeat (first | refine Step.imp ?_ | refine Side.mk (by first | exact True.intro | omega | exact ⟨trivial, rfl⟩ | exact ⟨by omega, trivial, rfl⟩ | exact ⟨by omega, rfl⟩ | exact ⟨by omega, by omega, rfl⟩ | (simp only [List.length_cons, List.length_nil, List.length_append]; done) | (simp only [List.length_cons, List.length_nil, List.length_append]; omega) | decide +kernel) ?_ | refine GDraw_one (by decide +kernel) ?_ | refine New.mk fun _ => ?_ | refine NewS.mk fun _ _ => ?_)
  refine ⟨fun hlt => ?_, fun hge => ?_⟩
  · repeat (first | refine Step.imp ?_ | refine Side.mk (by first | exact True.intro | omega | exact ⟨trivial, rfl⟩ | exact ⟨by omega, trivial, rfl⟩ | exact ⟨by omega, rfl⟩ | exact ⟨by omega, by omega, rfl⟩ | (simp only [List.length_cons, List.length_nil, List.length_append]; done) | (simp only [List.length_cons, List.length_nil, List.length_append]; omega) | decide +kernel) ?_ | refine GDraw_one (by decide +kernel) ?_ | refine New.mk fun _ => ?_ | refine NewS.mk fun _ _ => ?_)
    refine ⟨fun he => ?_, fun hne => ?_⟩
    · repeat (first | refine Step.imp ?_ | refine Side.mk (by first | exact True.intro | omega | exact ⟨trivial, rfl⟩ | exact ⟨by omega, trivial, rfl⟩ | exact ⟨by omega, rfl⟩ | exact ⟨by omega, by omega, rfl⟩ | (simp only [List.length_cons, List.length_nil, List.length_append]; done) | (simp only [List.length_cons, List.length_nil, List.length_append]; omega) | decide +kernel) ?_ | refine GDraw_one (by decide +kernel) ?_ | refine New.mk fun _ => ?_ | refine NewS.mk fun _ _ => ?_)
      exact Fin.val hT (by rw [← hx, idxI_some (by omega) hno he.symm]) (Hle.refl _)
    · repeat (first | refine Step.imp ?_ | refine Side.mk (by first | exact True.intro | omega | exact ⟨trivial, rfl⟩ | exact ⟨by omega, trivial, rfl⟩ | exact ⟨by omega, rfl⟩ | exact ⟨by omega, by omega, rfl⟩ | (simp only [List.length_cons, List.length_nil, List.length_append]; done) | (simp only [List.length_cons, List.length_nil, List.length_append]; omega) | decide +kernel) ?_ | refine GDraw_one (by decide +kernel) ?_ | refine New.mk fun _ => ?_ | refine NewS.mk fun _ _ => ?_)
      refine X_roundE (k + 1) ⟨by omega, fun j hj => ?_⟩ (by omega) ⟨rfl, rfl, rfl, trivial⟩ inferInstance
      rcases Nat.lt_or_ge j k with h1 | h1
      · exact hno j h1
      · have : j = k := by omega
        subst this; exact hne
  · repeat (first | refine Step.imp ?_ | refine Side.mk (by first | exact True.intro | omega | exact ⟨trivial, rfl⟩ | exact ⟨by omega, trivial, rfl⟩ | exact ⟨by omega, rfl⟩ | exact ⟨by omega, by omega, rfl⟩ | (simp only [List.length_cons, List.length_nil, List.length_append]; done) | (simp only [List.length_cons, List.length_nil, List.length_append]; omega) | decide +kernel) ?_ | refine GDraw_one (by decide +kernel) ?_ | refine New.mk fun _ => ?_ | refine NewS.mk fun _ _ => ?_)
    exact Fin.val hT (by rw [← hx, idxI_none fun j hj => hno j (by omega)]) (Hle.refl _)⟩
instance rt_within {L : List HP} {i z : Int} [hI : IsRT h b nodes] [ha : Acyc nodes] : CallX Tryz.prog 135 [.pointer (some ⟨b, 0, none⟩), vI i, vI z] h L True (fun K => K (.bool (decide (withinF nodes i z))) h []) := ⟨fun _ => by
  have hall : (above nodes i).length ≤ 33 := aboveF_len nodes 33 i
  refine spec_enter Tryz.func135 rfl Tryz.ntmps135 Tryz.results135 (by simp) fun K R hT => ?_
  repeat (first | refine Step.imp ?_ | refine Side.mk (by first | exact True.intro | omega | exact ⟨trivial, rfl⟩ | exact ⟨by omega, trivial, rfl⟩ | exact ⟨by omega, rfl⟩ | exact ⟨by omega, by omega, rfl⟩ | (simp only [List.length_cons, List.length_nil, List.length_append]; done) | (simp only [List.length_cons, List.length_nil, List.length_append]; omega) | decide +kernel) ?_ | refine GDraw_one (by decide +kernel) ?_ | refine New.mk fun _ => ?_ | refine NewS.mk fun _ _ => ?_)
  intro a c
  repeat (first | refine Step.imp ?_ | refine Side.mk (by first | exact True.intro | omega | exact ⟨trivial, rfl⟩ | exact ⟨by omega, trivial, rfl⟩ | exact ⟨by omega, rfl⟩ | exact ⟨by omega, by omega, rfl⟩ | (simp only [List.length_cons, List.length_nil, List.length_append]; done) | (simp only [List.length_cons, List.length_nil, List.length_append]; omega) | decide +kernel) ?_ | refine GDraw_one (by decide +kernel) ?_ | refine New.mk fun _ => ?_ | refine NewS.mk fun _ _ => ?_)
  refine G_loopE (σ := Nat) (fun k => k ≤ (above nodes i).length ∧ ∀ j < k, (above nodes i)[j]! ≠ z) (fun k => (above nodes i).length - k) (fun k => [(8, vI k), (7, .slice a (above nodes i).length c), (2, vI z)]) 0 ⟨by omega, by omega⟩ ⟨rfl, rfl, rfl, trivial⟩ fun k hk => ?_
  obtain ⟨hk, hno⟩ := hk
  repeat (first | refine Step.imp ?_ | refine Side.mk (by first | exact True.intro | omega | exact ⟨trivial, rfl⟩ | exact ⟨by omega, trivial, rfl⟩ | exact ⟨by omega, rfl⟩ | exact ⟨by omega, by omega, rfl⟩ | (simp only [List.length_cons, List.length_nil, List.length_append]; done) | (simp only [List.length_cons, List.length_nil, List.length_append]; omega) | decide +kernel) ?_ | refine GDraw_one (by decide +kernel) ?_ | refine New.mk fun _ => ?_ | refine NewS.mk fun _ _ => ?_)
  refine ⟨fun hlt => ?_, fun hge => ?_⟩
  · repeat (first | refine Step.imp ?_ | refine Side.mk (by first | exact True.intro | omega | exact ⟨trivial, rfl⟩ | exact ⟨by omega, trivial, rfl⟩ | exact ⟨by omega, rfl⟩ | exact ⟨by omega, by omega, rfl⟩ | (simp only [List.length_cons, List.length_nil, List.length_append]; done) | (simp only [List.length_cons, List.length_nil, List.length_append]; omega) | decide +kernel) ?_ | refine GDraw_one (by decide +kernel) ?_ | refine New.mk fun _ => ?_ | refine NewS.mk fun _ _ => ?_)
    refine ⟨fun he => ?_, fun hne => ?_⟩
    · repeat (first | refine Step.imp ?_ | refine Side.mk (by first | exact True.intro | omega | exact ⟨trivial, rfl⟩ | exact ⟨by omega, trivial, rfl⟩ | exact ⟨by omega, rfl⟩ | exact ⟨by omega, by omega, rfl⟩ | (simp only [List.length_cons, List.length_nil, List.length_append]; done) | (simp only [List.length_cons, List.length_nil, List.length_append]; omega) | decide +kernel) ?_ | refine GDraw_one (by decide +kernel) ?_ | refine New.mk fun _ => ?_ | refine NewS.mk fun _ _ => ?_)
      exact Fin.tt hT (by unfold withinF; rw [← he]; exact mem_get (by omega)) (Hle.refl _)
    · repeat (first | refine Step.imp ?_ | refine Side.mk (by first | exact True.intro | omega | exact ⟨trivial, rfl⟩ | exact ⟨by omega, trivial, rfl⟩ | exact ⟨by omega, rfl⟩ | exact ⟨by omega, by omega, rfl⟩ | (simp only [List.length_cons, List.length_nil, List.length_append]; done) | (simp only [List.length_cons, List.length_nil, List.length_append]; omega) | decide +kernel) ?_ | refine GDraw_one (by decide +kernel) ?_ | refine New.mk fun _ => ?_ | refine NewS.mk fun _ _ => ?_)
      refine X_roundE (k + 1) ⟨by omega, fun j hj => ?_⟩ (by omega) ⟨rfl, rfl, rfl, trivial⟩ inferInstance
      rcases Nat.lt_or_ge j k with h1 | h1
      · exact hno j h1
      · have : j = k := by omega
        subst this; exact hne
  · repeat (first | refine Step.imp ?_ | refine Side.mk (by first | exact True.intro | omega | exact ⟨trivial, rfl⟩ | exact ⟨by omega, trivial, rfl⟩ | exact ⟨by omega, rfl⟩ | exact ⟨by omega, by omega, rfl⟩ | (simp only [List.length_cons, List.length_nil, List.length_append]; done) | (simp only [List.length_cons, List.length_nil, List.length_append]; omega) | decide +kernel) ?_ | refine GDraw_one (by decide +kernel) ?_ | refine New.mk fun _ => ?_ | refine NewS.mk fun _ _ => ?_)
    refine Fin.ff hT (fun hw => ?_) (Hle.refl _)
    obtain ⟨j, hj, he⟩ := List.mem_iff_getElem.1 hw
    exact hno j (by omega) (by rw [getElem!_pos _ j hj]; exact he)⟩
end
section
variable {h : PHeap} {b : Nat} {C : Cat}
instance rd_right {m a0 a1 a2 a3 : Int} [hD : IsRD h b C] [ok : OkCat C] : CallV Tryz.prog 58 [.pointer (some ⟨b, 0, none⟩), .agg [vI m, vI a0, vI a1, vI a2, vI a3].toArray] h True (.bool (decide (rightF C m (get4 a0 a1 a2 a3)))) := ⟨fun _ => by
  obtain ⟨dv, mv, tv, ds, tbs, ty, fr, h1, h2, h3, h4, h5, h6, h7⟩ := hD.out
  have hd := ok.dims
  refine spec_enter Tryz.func58 rfl Tryz.ntmps58 Tryz.results58 (by simp) fun K R hT => ?_
  repeat' (first | refine Step.imp ?_ | refine Side.mk (by first | exact True.intro | omega | exact ⟨trivial, rfl⟩ | exact ⟨by omega, trivial, rfl⟩ | exact ⟨by omega, rfl⟩ | exact ⟨by omega, by omega, rfl⟩ | (simp only [List.length_cons, List.length_nil, List.length_append]; done) | (simp only [List.length_cons, List.length_nil, List.length_append]; omega) | decide +kernel) ?_ | refine GDraw_one (by decide +kernel) ?_ | refine New.mk fun _ => ?_ | refine NewS.mk fun _ _ => ?_ | refine Ways.mk (fun _ => ?_) (fun _ => ?_))
  · exact Fin.ff hT (fun hr => by have := hr.1; omega) (Hle.refl _)
  · exact Fin.ff hT (fun hr => by have := hr.1; omega) (Hle.refl _)
  · rename_i cb _ _
    refine G_loopE (σ := Nat) (fun k => k ≤ 4 ∧ ∀ j < k, 0 ≤ get4 a0 a1 a2 a3 j ∧ get4 a0 a1 a2 a3 j < sizeF C j) (fun k => 4 - k) (fun k => [(5, vI k), (3, .pointer (some ⟨cb, 0, none⟩)), (0, .pointer (some ⟨b, 0, none⟩))]) 0 ⟨by omega, fun j hj => by omega⟩ ⟨rfl, rfl, rfl, trivial⟩ ?_
    rintro k ⟨hk4, hall⟩
    have hno : ¬ (0 ≤ get4 a0 a1 a2 a3 k ∧ get4 a0 a1 a2 a3 k < sizeF C k) → k < 4 → ¬ rightF C m (get4 a0 a1 a2 a3) := fun hn h4 hr => hn (hr.2 k h4)
    have hnext : (0 ≤ get4 a0 a1 a2 a3 k ∧ get4 a0 a1 a2 a3 k < sizeF C k) → ∀ j < k + 1, 0 ≤ get4 a0 a1 a2 a3 j ∧ get4 a0 a1 a2 a3 j < sizeF C j := fun hn j hj => by
      rcases Nat.lt_or_ge j k with h | h
      · exact hall j h
      · have : j = k := by omega
        subst this; exact hn
    repeat (first | refine Step.imp ?_ | refine Side.mk (by first | exact True.intro | omega | exact ⟨trivial, rfl⟩ | exact ⟨by omega, trivial, rfl⟩ | exact ⟨by omega, rfl⟩ | exact ⟨by omega, by omega, rfl⟩ | (simp only [List.length_cons, List.length_nil, List.length_append]; done) | (simp only [List.length_cons, List.length_nil, List.length_append]; omega) | decide +kernel) ?_ | refine GDraw_one (by decide +kernel) ?_ | refine New.mk fun _ => ?_ | refine NewS.mk fun _ _ => ?_)
    refine ⟨fun hlt => ?_, fun hge => ?_⟩
    · repeat (first | refine Step.imp ?_ | refine Side.mk (by first | exact True.intro | omega | exact ⟨trivial, rfl⟩ | exact ⟨by omega, trivial, rfl⟩ | exact ⟨by omega, rfl⟩ | exact ⟨by omega, by omega, rfl⟩ | (simp only [List.length_cons, List.length_nil, List.length_append]; done) | (simp only [List.length_cons, List.length_nil, List.length_append]; omega) | decide +kernel) ?_ | refine GDraw_one (by decide +kernel) ?_ | refine New.mk fun _ => ?_ | refine NewS.mk fun _ _ => ?_)
      refine ⟨fun hin => ?_, fun hout => ?_⟩
      · have hIT := h7 k (by omega)
        obtain ⟨tnv, tty, tfr, t1, t2⟩ := hIT.out
        have hsz : sizeF C k = (C.dims[k]!).2.length := by unfold sizeF; rw [if_pos (by omega)]
        repeat' (first | refine Step.imp ?_ | refine Side.mk (by first | exact True.intro | omega | exact ⟨trivial, rfl⟩ | exact ⟨by omega, trivial, rfl⟩ | exact ⟨by omega, rfl⟩ | exact ⟨by omega, by omega, rfl⟩ | (simp only [List.length_cons, List.length_nil, List.length_append]; done) | (simp only [List.length_cons, List.length_nil, List.length_append]; omega) | decide +kernel) ?_ | refine GDraw_one (by decide +kernel) ?_ | refine New.mk fun _ => ?_ | refine NewS.mk fun _ _ => ?_ | refine Ways.mk (fun _ => ?_) (fun _ => ?_))
        · exact Fin.ff hT (hno (by omega) (by omega)) (Hle.refl _)
        · exact Fin.ff hT (hno (by omega) (by omega)) (Hle.refl _)
        · exact X_roundE (k + 1) ⟨by omega, hnext (by omega)⟩ (by omega) ⟨rfl, rfl, rfl, trivial⟩ inferInstance
      · have hsz : sizeF C k = 1 := by unfold sizeF; rw [if_neg (by omega)]
        repeat' (first | refine Step.imp ?_ | refine Side.mk (by first | exact True.intro | omega | exact ⟨trivial, rfl⟩ | exact ⟨by omega, trivial, rfl⟩ | exact ⟨by omega, rfl⟩ | exact ⟨by omega, by omega, rfl⟩ | (simp only [List.length_cons, List.length_nil, List.length_append]; done) | (simp only [List.length_cons, List.length_nil, List.length_append]; omega) | decide +kernel) ?_ | refine GDraw_one (by decide +kernel) ?_ | refine New.mk fun _ => ?_ | refine NewS.mk fun _ _ => ?_ | refine Ways.mk (fun _ => ?_) (fun _ => ?_))
        · exact Fin.ff hT (hno (by omega) (by omega)) (Hle.refl _)
        · exact Fin.ff hT (hno (by omega) (by omega)) (Hle.refl _)
        · exact X_roundE (k + 1) ⟨by omega, hnext (by omega)⟩ (by omega) ⟨rfl, rfl, rfl, trivial⟩ inferInstance
    · repeat (first | refine Step.imp ?_ | refine Side.mk (by first | exact True.intro | omega | exact ⟨trivial, rfl⟩ | exact ⟨by omega, trivial, rfl⟩ | exact ⟨by omega, rfl⟩ | exact ⟨by omega, by omega, rfl⟩ | (simp only [List.length_cons, List.length_nil, List.length_append]; done) | (simp only [List.length_cons, List.length_nil, List.length_append]; omega) | decide +kernel) ?_ | refine GDraw_one (by decide +kernel) ?_ | refine New.mk fun _ => ?_ | refine NewS.mk fun _ _ => ?_)
      exact Fin.tt hT ⟨by omega, fun j hj => hall j (by omega)⟩ (Hle.refl _)⟩
end
end Go.Sl
