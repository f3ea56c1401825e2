/-
  Facts that the proof is made of (O1).
-/
import Derived.Test.YtegnndnlogpihaaGreatKN1
import Derived.Test.YtegnndnlogpihaaGreatKP3
import Derived.Test.YtegnndnlogpihaaGreatKF4
/-
  Rolls: the sums of all cells, in memory.
-/
namespace Go.Sl
open Go.Proofs
set_option linter.unusedVariables false
set_option linter.unusedSimpArgs false
set_option maxRecDepth 10000
set_option synthInstance.maxSize 2000
set_option synthInstance.maxHeartbeats 200000
set_option maxHeartbeats 1000000
instance : EncT Tryz.prog 2 encI 1 := ⟨inferInstance⟩
structure RollOk (h : PHeap) (C : Cat) (sb : Nat) (vals : List Int) : Prop where
  sp : IsSp h sb C
  ok : OkCat C
  len : vals.length = (leavesF C C.dims.length).toNat
  v64 : Ok64 vals
theorem RollOk.mono {h h' : PHeap} {C : Cat} {sb : Nat} {vals : List Int} (hl : Hle h h') (r : RollOk h C sb vals) : RollOk h' C sb vals := ⟨r.sp.mono hl, r.ok, r.len, r.v64⟩
abbrev rollB (b sb : Nat) (lv sv : Value) (nB nF : Int) : HP := blk b (.cells [.pointer (some ⟨sb, 0, none⟩), lv, sv, vI nB, vI nF].toArray 87 (0, 0))
/-- A roll at block b. -/
def rollH (h : PHeap) (b sb : Nat) (C : Cat) (vals : List Int) : HP := fun bs => ∃ la lc sa sc b1 b2 b3, bs = b1 ++ (b2 ++ b3) ∧ RollOk h C sb vals ∧
  rollB b sb (.slice la vals.length lc) (.slice sa (sumsF C vals).length sc) (cntB (sumsF C vals)) (cnt0 vals) b1 ∧ slo encI 1 (.slice la vals.length lc) vals b2 ∧ slo encW 2 (.slice sa (sumsF C vals).length sc) (sumsF C vals) b3
theorem rollH_mono {h h' : PHeap} {b sb : Nat} {C : Cat} {vals : List Int} (hl : Hle h h') : ∀ bs, rollH h b sb C vals bs → rollH h' b sb C vals bs := by
  rintro bs ⟨la, lc, sa, sc, b1, b2, b3, e, h1, h2⟩
  exact ⟨la, lc, sa, sc, b1, b2, b3, e, h1.mono hl, h2⟩
theorem St.rollOut {h : PHeap} {b sb : Nat} {C : Cat} {vals : List Int} {L : List HP} {w : World} (s : St h (rollH h b sb C vals :: L) w) : ∃ la lc sa sc, RollOk h C sb vals ∧
    St h (rollB b sb (.slice la vals.length lc) (.slice sa (sumsF C vals).length sc) (cntB (sumsF C vals)) (cnt0 vals) :: slo encI 1 (.slice la vals.length lc) vals :: slo encW 2 (.slice sa (sumsF C vals).length sc) (sumsF C vals) :: L) w := by
  obtain ⟨bs, ⟨b1, b2, rfl, ⟨la, lc, sa, sc, c1, c2, c3, rfl, h1, h2, h3, h4⟩, hd⟩, s0⟩ := s
  exact ⟨la, lc, sa, sc, h1, c1 ++ (c2 ++ (c3 ++ b2)), ⟨c1, _, rfl, h2, c2, _, rfl, h3, c3, b2, rfl, h4, hd⟩, by simpa using s0⟩
theorem St.rollIn {h : PHeap} {b sb : Nat} {C : Cat} {vals : List Int} {L : List HP} {w : World} {la sa : Option Addr} {lc sc : Nat} (r : RollOk h C sb vals)
    (s : St h (rollB b sb (.slice la vals.length lc) (.slice sa (sumsF C vals).length sc) (cntB (sumsF C vals)) (cnt0 vals) :: slo encI 1 (.slice la vals.length lc) vals :: slo encW 2 (.slice sa (sumsF C vals).length sc) (sumsF C vals) :: L) w) : St h (rollH h b sb C vals :: L) w := by
  obtain ⟨bs, ⟨c1, _, rfl, h2, c2, _, rfl, h3, c3, b2, rfl, h4, hd⟩, s0⟩ := s
  exact ⟨(c1 ++ (c2 ++ c3)) ++ b2, ⟨c1 ++ (c2 ++ c3), b2, rfl, ⟨la, lc, sa, sc, c1, c2, c3, rfl, r, h2, h3, h4⟩, hd⟩, by simpa using s0⟩
class PickRo (L : List HP) (b : Nat) (h0 : outParam PHeap) (sb : outParam Nat) (C : outParam Cat) (vals : outParam (List Int)) (R : outParam (List HP)) : Prop where
  eq : L.Perm (rollH h0 b sb C vals :: R)
instance {b sb : Nat} {h0 : PHeap} {C : Cat} {vals : List Int} {L : List HP} : PickRo (rollH h0 b sb C vals :: L) b h0 sb C vals L := ⟨.refl _⟩
instance (priority := low) {b sb : Nat} {h0 : PHeap} {C : Cat} {vals : List Int} {L R : List HP} {x : HP} [p : PickRo L b h0 sb C vals R] : PickRo (x :: L) b h0 sb C vals (x :: R) := ⟨(List.Perm.cons x p.eq).trans (.swap _ _ _)⟩
theorem pickRo_st {h h0 : PHeap} {b sb : Nat} {C : Cat} {vals : List Int} {L R : List HP} {w : World} (p : PickRo L b h0 sb C vals R) (l : LeT h0 h) (s : St h L w) : St h (rollH h b sb C vals :: R) w := (s.perm p.eq).conv (rollH_mono l.le)
section
variable {P : Program} {N : NN} {k : List It} {Q : Post} {e : Env} {h h0 : PHeap} {L V R : List HP} {ops l : List Oper} {i b sb : Nat} {C : Cat} {vals : List Int}
theorem G_roll {c : Code} (b : Nat) [p : PickRo L b h0 sb C vals R] [hl : LeT h0 h] (g : ∀ la lc sa sc, RollOk h C sb vals →
    G P N c k Q e h (rollB b sb (.slice la vals.length lc) (.slice sa (sumsF C vals).length sc) (cntB (sumsF C vals)) (cnt0 vals) :: slo encI 1 (.slice la vals.length lc) vals :: slo encW 2 (.slice sa (sumsF C vals).length sc) (sumsF C vals) :: R)) : G P N c k Q e h L := fun a w s => by
  obtain ⟨la, lc, sa, sc, h1, st⟩ := (pickRo_st p hl s.st).rollOut
  exact g la lc sa sc h1 a w (s.ae.as st)
theorem GO1_roll {o : Oper} (b : Nat) [p : PickRo L b h0 sb C vals R] [hl : LeT h0 h] (g : ∀ la lc sa sc, RollOk h C sb vals →
    GO1 P N ops o l k Q e h (rollB b sb (.slice la vals.length lc) (.slice sa (sumsF C vals).length sc) (cntB (sumsF C vals)) (cnt0 vals) :: slo encI 1 (.slice la vals.length lc) vals :: slo encW 2 (.slice sa (sumsF C vals).length sc) (sumsF C vals) :: R)) : GO1 P N ops o l k Q e h L := fun a w s => by
  obtain ⟨la, lc, sa, sc, h1, st⟩ := (pickRo_st p hl s.st).rollOut
  exact g la lc sa sc h1 a w (s.ae.as st)
class PickB3 (L : List HP) (b : Nat) (sb : outParam Nat) (la : outParam (Option Addr)) (lc : outParam Nat) (sa : outParam (Option Addr)) (sc : outParam Nat) (nB nF : outParam Int) (vals S : outParam (List Int)) (R : outParam (List HP)) : Prop where
  eq : L.Perm (rollB b sb (.slice la vals.length lc) (.slice sa S.length sc) nB nF :: slo encI 1 (.slice la vals.length lc) vals :: slo encW 2 (.slice sa S.length sc) S :: R)
instance {n n' : Nat} {la sa : Option Addr} {lc sc : Nat} {nB nF : Int} {S : List Int} {R1 R2 R3 : List HP} {T : Nat} [p1 : PickC L b [.pointer (some ⟨sb, 0, none⟩), .slice la n lc, .slice sa n' sc, vI nB, vI nF] T R1] [hT : Is T 87]
    [p2 : PickO R1 (.slice la n lc) Int encI 1 vals R2] [p3 : PickO R2 (.slice sa n' sc) Int encW 2 S R3] [e1 : Is vals.length n] [e2 : Is S.length n'] : PickB3 L b sb la lc sa sc nB nF vals S R3 := ⟨by
  have := e1.eq
  have := e2.eq
  have := hT.eq
  subst_vars
  exact p1.eq.trans (List.Perm.cons _ (p2.eq.trans (List.Perm.cons _ p3.eq)))⟩
theorem foldRo {la sa : Option Addr} {lc sc : Nat} {nB nF : Int} {S : List Int} (r : RollOk h C sb vals) (hS : S = sumsF C vals) (hB : nB = cntB S) (hF : nF = cnt0 vals) : ∀ L R, [PickB3 L b sb la lc sa sc nB nF vals S R] → Fold h L (rollH h b sb C vals :: R) := by
  subst hS; subst hB; subst hF
  exact fun _ _ p => ⟨fun _ s => St.rollIn r (s.perm p.eq)⟩
theorem spec_roll {f : FuncId} {vs : List Value} {T : Kont → Prop} [p : PickRo L b h0 sb C vals R] [hl : LeT h0 h] (s : Spec P f vs h [rollH h b sb C vals] T) : ∃ Lp, L.Perm (Lp ++ R) ∧ Spec P f vs h Lp T :=
  ⟨[rollH h0 b sb C vals], p.eq, fun K R' w hT st => s K R' w hT (St.conv (rollH_mono hl.le) st)⟩
end
section
variable {h h0 : PHeap} {b sb : Nat} {C : Cat} {vals : List Int}
theorem may_spec {c : Int} : Spec Tryz.prog 29 [.pointer (some ⟨b, 0, none⟩), vI c] h [rollH h b sb C vals]
    (fun K => (¬ (0 ≤ c ∧ c < vals.length) → K (vI 17) h [rollH h b sb C vals]) ∧ ((0 ≤ c ∧ c < vals.length) → K (vI 0) h [rollH h b sb C vals])) := by
  refine spec_enter Tryz.func29 rfl Tryz.ntmps29 Tryz.results29 (by simp) fun K R hT => ?_
  haveI : LeT h h := ⟨Hle.refl h⟩
  refine G_roll b fun la lc sa sc hok => ?_
  haveI := foldRo (b := b) (la := la) (lc := lc) (sa := sa) (sc := sc) hok rfl rfl rfl
  repeat' (first | refine Step.imp ?_ | refine Side.mk (by first | exact True.intro | omega | exact ⟨trivial, rfl⟩ | exact ⟨by omega, trivial, rfl⟩ | exact ⟨by omega, rfl⟩ | exact ⟨by omega, by omega, rfl⟩ | (simp only [List.length_cons, List.length_nil, List.length_append]; done) | (simp only [List.length_cons, List.length_nil, List.length_append]; omega) | decide +kernel) ?_ | refine GDraw_one (by decide +kernel) ?_ | refine New.mk fun _ => ?_ | refine NewS.mk fun _ _ => ?_ | refine Ways.mk (fun _ => ?_) (fun _ => ?_))
  all_goals first | (exfalso; contradiction) | (exfalso; omega) | exact Fin.val (hT.1 (by omega)) rfl (Hle.refl _) | exact Fin.val (hT.2 (by omega)) rfl (Hle.refl _)
instance roll_may {L R : List HP} {c : Int} [p : PickRo L b h0 sb C vals R] [hl : LeT h0 h] : CallT Tryz.prog 29 [.pointer (some ⟨b, 0, none⟩), vI c] h L True R
    (fun K => (¬ (0 ≤ c ∧ c < vals.length) → K (vI 17) h [rollH h b sb C vals]) ∧ ((0 ≤ c ∧ c < vals.length) → K (vI 0) h [rollH h b sb C vals])) := ⟨fun _ => spec_roll may_spec⟩
theorem rleafv_spec {c : Int} : Spec Tryz.prog 14 [.pointer (some ⟨b, 0, none⟩), vI c] h [rollH h b sb C vals]
    (fun K => (¬ (0 ≤ c ∧ c < vals.length) → K (.tuple [vI 0, vI 17].toArray) h [rollH h b sb C vals]) ∧ ((0 ≤ c ∧ c < vals.length) → K (.tuple [vI (vals[c.toNat]!), vI 0].toArray) h [rollH h b sb C vals])) := by
  refine spec_enter Tryz.func14 rfl Tryz.ntmps14 Tryz.results14 (by simp) fun K R hT => ?_
  haveI : LeT h h := ⟨Hle.refl h⟩
  repeat (first | refine Step.imp ?_ | refine Side.mk (by first | exact True.intro | omega | exact ⟨trivial, rfl⟩ | exact ⟨by omega, trivial, rfl⟩ | exact ⟨by omega, rfl⟩ | exact ⟨by omega, by omega, rfl⟩ | (simp only [List.length_cons, List.length_nil, List.length_append]; done) | (simp only [List.length_cons, List.length_nil, List.length_append]; omega) | decide +kernel) ?_ | refine GDraw_one (by decide +kernel) ?_ | refine New.mk fun _ => ?_ | refine NewS.mk fun _ _ => ?_)
  refine ⟨fun hno => ?_, fun hin => ?_⟩
  · repeat' (first | refine Step.imp ?_ | refine Side.mk (by first | exact True.intro | omega | exact ⟨trivial, rfl⟩ | exact ⟨by omega, trivial, rfl⟩ | exact ⟨by omega, rfl⟩ | exact ⟨by omega, by omega, rfl⟩ | (simp only [List.length_cons, List.length_nil, List.length_append]; done) | (simp only [List.length_cons, List.length_nil, List.length_append]; omega) | decide +kernel) ?_ | refine GDraw_one (by decide +kernel) ?_ | refine New.mk fun _ => ?_ | refine NewS.mk fun _ _ => ?_ | refine Ways.mk (fun _ => ?_) (fun _ => ?_))
    all_goals first | (exfalso; omega) | exact Fin.val (hT.1 hno) rfl (Hle.refl _)
  · repeat' (first | refine Step.imp ?_ | refine Side.mk (by first | exact True.intro | omega | exact ⟨trivial, rfl⟩ | exact ⟨by omega, trivial, rfl⟩ | exact ⟨by omega, rfl⟩ | exact ⟨by omega, by omega, rfl⟩ | (simp only [List.length_cons, List.length_nil, List.length_append]; done) | (simp only [List.length_cons, List.length_nil, List.length_append]; omega) | decide +kernel) ?_ | refine GDraw_one (by decide +kernel) ?_ | refine New.mk fun _ => ?_ | refine NewS.mk fun _ _ => ?_ | refine Ways.mk (fun _ => ?_) (fun _ => ?_))
    all_goals first | (exfalso; omega) | skip
    refine GO1_roll b fun la lc sa sc hok => ?_
    haveI := foldRo (b := b) (la := la) (lc := lc) (sa := sa) (sc := sc) hok rfl rfl rfl
    repeat (first | refine Step.imp ?_ | refine Side.mk (by first | exact True.intro | omega | exact ⟨trivial, rfl⟩ | exact ⟨by omega, trivial, rfl⟩ | exact ⟨by omega, rfl⟩ | exact ⟨by omega, by omega, rfl⟩ | (simp only [List.length_cons, List.length_nil, List.length_append]; done) | (simp only [List.length_cons, List.length_nil, List.length_append]; omega) | decide +kernel) ?_ | refine GDraw_one (by decide +kernel) ?_ | refine New.mk fun _ => ?_ | refine NewS.mk fun _ _ => ?_)
    exact Fin.val (hT.2 hin) rfl (Hle.refl _)
instance roll_leaf {L R : List HP} {c : Int} [p : PickRo L b h0 sb C vals R] [hl : LeT h0 h] : CallT Tryz.prog 14 [.pointer (some ⟨b, 0, none⟩), vI c] h L True R
    (fun K => (¬ (0 ≤ c ∧ c < vals.length) → K (.tuple [vI 0, vI 17].toArray) h [rollH h b sb C vals]) ∧ ((0 ≤ c ∧ c < vals.length) → K (.tuple [vI (vals[c.toNat]!), vI 0].toArray) h [rollH h b sb C vals])) := ⟨fun _ => spec_roll rleafv_spec⟩
theorem full_spec : Spec Tryz.prog 12 [.pointer (some ⟨b, 0, none⟩)] h [rollH h b sb C vals] (fun K => K (vI (cnt0 vals)) h [rollH h b sb C vals]) := by
  refine spec_enter Tryz.func12 rfl Tryz.ntmps12 Tryz.results12 (by simp) fun K R hT => ?_
  haveI : LeT h h := ⟨Hle.refl h⟩
  refine G_roll b fun la lc sa sc hok => ?_
  haveI := foldRo (b := b) (la := la) (lc := lc) (sa := sa) (sc := sc) hok rfl rfl rfl
  repeat' (first | refine Step.imp ?_ | refine Side.mk (by first | exact True.intro | omega | exact ⟨trivial, rfl⟩ | exact ⟨by omega, trivial, rfl⟩ | exact ⟨by omega, rfl⟩ | exact ⟨by omega, by omega, rfl⟩ | (simp only [List.length_cons, List.length_nil, List.length_append]; done) | (simp only [List.length_cons, List.length_nil, List.length_append]; omega) | decide +kernel) ?_ | refine GDraw_one (by decide +kernel) ?_ | refine New.mk fun _ => ?_ | refine NewS.mk fun _ _ => ?_ | refine Ways.mk (fun _ => ?_) (fun _ => ?_))
  all_goals first | (exfalso; contradiction) | exact Fin.val hT rfl (Hle.refl _)
instance roll_full {L R : List HP} [p : PickRo L b h0 sb C vals R] [hl : LeT h0 h] : CallT Tryz.prog 12 [.pointer (some ⟨b, 0, none⟩)] h L True R (fun K => K (vI (cnt0 vals)) h [rollH h b sb C vals]) := ⟨fun _ => spec_roll full_spec⟩
theorem space_spec : Spec Tryz.prog 24 [.pointer (some ⟨b, 0, none⟩)] h [rollH h b sb C vals] (fun K => K (.pointer (some ⟨sb, 0, none⟩)) h [rollH h b sb C vals]) := by
  refine spec_enter Tryz.func24 rfl Tryz.ntmps24 Tryz.results24 (by simp) fun K R hT => ?_
  haveI : LeT h h := ⟨Hle.refl h⟩
  refine G_roll b fun la lc sa sc hok => ?_
  haveI := foldRo (b := b) (la := la) (lc := lc) (sa := sa) (sc := sc) hok rfl rfl rfl
  repeat' (first | refine Step.imp ?_ | refine Side.mk (by first | exact True.intro | omega | exact ⟨trivial, rfl⟩ | exact ⟨by omega, trivial, rfl⟩ | exact ⟨by omega, rfl⟩ | exact ⟨by omega, by omega, rfl⟩ | (simp only [List.length_cons, List.length_nil, List.length_append]; done) | (simp only [List.length_cons, List.length_nil, List.length_append]; omega) | decide +kernel) ?_ | refine GDraw_one (by decide +kernel) ?_ | refine New.mk fun _ => ?_ | refine NewS.mk fun _ _ => ?_ | refine Ways.mk (fun _ => ?_) (fun _ => ?_))
  all_goals first | (exfalso; contradiction) | exact Fin.val hT rfl (Hle.refl _)
instance roll_space {L R : List HP} [p : PickRo L b h0 sb C vals R] [hl : LeT h0 h] : CallT Tryz.prog 24 [.pointer (some ⟨b, 0, none⟩)] h L True R (fun K => K (.pointer (some ⟨sb, 0, none⟩)) h [rollH h b sb C vals]) := ⟨fun _ => spec_roll space_spec⟩
theorem rvalue_spec {m a0 a1 a2 a3 : Int} : Spec Tryz.prog 15 [.pointer (some ⟨b, 0, none⟩), .agg [vI m, vI a0, vI a1, vI a2, vI a3].toArray] h [rollH h b sb C vals]
    (fun K => (¬ rightF C m (get4 a0 a1 a2 a3) → K (.tuple [vI 0, vI 17].toArray) h [rollH h b sb C vals]) ∧
      (rightF C m (get4 a0 a1 a2 a3) → K (.tuple [vI (fitN (cellSum C vals (indexF C m (get4 a0 a1 a2 a3)).toNat)), vI (fitE (cellSum C vals (indexF C m (get4 a0 a1 a2 a3)).toNat))].toArray) h [rollH h b sb C vals])) := by
  refine spec_enter Tryz.func15 rfl Tryz.ntmps15 Tryz.results15 (by simp) fun K R hT => ?_
  haveI : LeT h h := ⟨Hle.refl h⟩
  refine G_roll b fun la lc sa sc hok => ?_
  haveI := hok.ok
  haveI := hok.sp
  haveI := foldRo (b := b) (la := la) (lc := lc) (sa := sa) (sc := sc) hok rfl rfl rfl
  by_cases hr : rightF C m (get4 a0 a1 a2 a3)
  · have hx := index_in hok.ok hr
    have hsl := sumsF_len C vals
    have hsg := sumsF_get (C := C) (vals := vals) (i := (indexF C m (get4 a0 a1 a2 a3)).toNat) (by omega)
    repeat' (first | refine Step.imp ?_ | refine Side.mk (by first | exact True.intro | omega | exact ⟨trivial, rfl⟩ | exact ⟨by omega, trivial, rfl⟩ | exact ⟨by omega, rfl⟩ | exact ⟨by omega, by omega, rfl⟩ | (simp only [List.length_cons, List.length_nil, List.length_append]; done) | (simp only [List.length_cons, List.length_nil, List.length_append]; omega) | decide +kernel) ?_ | refine GDraw_one (by decide +kernel) ?_ | refine New.mk fun _ => ?_ | refine NewS.mk fun _ _ => ?_ | refine Ways.mk (fun _ => ?_) (fun _ => ?_))
    all_goals first | (exfalso; contradiction) | (exfalso; omega) | skip
    exact Fin.val (hT.2 hr) (by rw [hsg]) (Hle.refl _)
  · have hx := index_neg hr
    repeat' (first | refine Step.imp ?_ | refine Side.mk (by first | exact True.intro | omega | exact ⟨trivial, rfl⟩ | exact ⟨by omega, trivial, rfl⟩ | exact ⟨by omega, rfl⟩ | exact ⟨by omega, by omega, rfl⟩ | (simp only [List.length_cons, List.length_nil, List.length_append]; done) | (simp only [List.length_cons, List.length_nil, List.length_append]; omega) | decide +kernel) ?_ | refine GDraw_one (by decide +kernel) ?_ | refine New.mk fun _ => ?_ | refine NewS.mk fun _ _ => ?_ | refine Ways.mk (fun _ => ?_) (fun _ => ?_))
    all_goals first | (exfalso; contradiction) | (exfalso; omega) | exact Fin.val (hT.1 hr) rfl (Hle.refl _)
instance roll_value {L R : List HP} {m a0 a1 a2 a3 : Int} [p : PickRo L b h0 sb C vals R] [hl : LeT h0 h] : CallT Tryz.prog 15 [.pointer (some ⟨b, 0, none⟩), .agg [vI m, vI a0, vI a1, vI a2, vI a3].toArray] h L True R
    (fun K => (¬ rightF C m (get4 a0 a1 a2 a3) → K (.tuple [vI 0, vI 17].toArray) h [rollH h b sb C vals]) ∧
      (rightF C m (get4 a0 a1 a2 a3) → K (.tuple [vI (fitN (cellSum C vals (indexF C m (get4 a0 a1 a2 a3)).toNat)), vI (fitE (cellSum C vals (indexF C m (get4 a0 a1 a2 a3)).toNat))].toArray) h [rollH h b sb C vals])) := ⟨fun _ => spec_roll rvalue_spec⟩
end
end Go.Sl

/-
  Rolls: a new one.
-/
namespace Go.Sl
open Go.Proofs
set_option linter.unusedVariables false
set_option linter.unusedSimpArgs false
set_option maxRecDepth 10000
set_option synthInstance.maxSize 2000
set_option synthInstance.maxHeartbeats 200000
set_option maxHeartbeats 1000000
theorem rep_get {n k : Nat} (hk : k < n) : (List.replicate n (0 : Int))[k]! = 0 := by
  rw [getElem!_pos _ k (by simpa using hk), List.getElem_replicate]
theorem sumIf_zero (q : Nat → Prop) [DecidablePred q] (n : Nat) : ∀ k ≤ n, sumIf q (List.replicate n 0) k = 0
  | 0, _ => rfl
  | k + 1, hk => by
    simp only [sumIf]
    rw [sumIf_zero q n k (by omega), rep_get (by omega)]
    split <;> rfl
theorem sums_zero (C : Cat) (n : Nat) : sumsF C (List.replicate n 0) = List.replicate (cellsF C C.dims.length).toNat 0 := by
  refine list_eq (by rw [sumsF_len, List.length_replicate]) fun i hi => ?_
  rw [sumsF_len] at hi
  rw [sumsF_get hi, rep_get hi]
  unfold cellSum
  rw [List.length_replicate]
  exact sumIf_zero _ _ _ (Nat.le_refl _)
theorem filter_zero (p : Int → Bool) (hp : p 0 = false) (n : Nat) : ((List.replicate n (0 : Int)).filter p).length = 0 := by
  rw [List.filter_replicate, hp]; rfl
theorem cntB_zero (n : Nat) : cntB (List.replicate n 0) = 0 := by
  unfold cntB
  rw [filter_zero _ (by decide) n]; rfl
theorem cnt0_zero (n : Nat) : cnt0 (List.replicate n 0) = 0 := by
  unfold cnt0
  rw [filter_zero _ (by decide) n]; rfl
section
variable {h h0 : PHeap} {b sb : Nat} {C : Cat} {vals : List Int}
instance roll_new {L : List HP} [hS : IsSp h sb C] [ok : OkCat C] : CallX Tryz.prog 23 [.pointer (some ⟨sb, 0, none⟩)] h L True
    (fun K => ∀ b, K (.tuple [.pointer (some ⟨b, 0, none⟩), vI 0].toArray) h [rollH h b sb C (List.replicate (leavesF C C.dims.length).toNat 0)]) := ⟨fun _ => by
  have hb1 := leaves_bound ok C.dims.length (Nat.le_refl _)
  have hb2 := cells_bound ok C.dims.length (Nat.le_refl _)
  have hok : RollOk h C sb (List.replicate (leavesF C C.dims.length).toNat 0) := ⟨hS, ok, by simp, fun k hk => by
    rw [rep_get (by simpa using hk)]; omega⟩
  refine spec_enter Tryz.func23 rfl Tryz.ntmps23 Tryz.results23 (by simp) fun K R hT => ?_
  repeat (first | refine Step.imp ?_ | refine Side.mk (by first | exact True.intro | omega | exact ⟨trivial, rfl⟩ | exact ⟨by omega, trivial, rfl⟩ | exact ⟨by omega, rfl⟩ | exact ⟨by omega, by omega, rfl⟩ | (simp only [List.length_cons, List.length_nil, List.length_append]; done) | (simp only [List.length_cons, List.length_nil, List.length_append]; omega) | decide +kernel) ?_ | refine New.mk fun _ => ?_ | refine NewS.mk fun _ _ => ?_)
  refine GDraw_cut (σ := Nat × Nat × Nat) (fun s => [(2, .pointer (some ⟨s.1, 0, none⟩)), (3, vI 0)])
    (fun s => blk s.1 (.cells [.pointer (some ⟨sb, 0, none⟩), .slice (some ⟨s.2.1, 0, none⟩) (leavesF C C.dims.length).toNat (leavesF C C.dims.length).toNat, .slice (some ⟨s.2.2, 0, none⟩) (cellsF C C.dims.length).toNat (cellsF C C.dims.length).toNat, vI 0, vI 0].toArray 87 (0, 0)) ::
      mk0 [vI 0] (.slice (some ⟨s.2.1, 0, none⟩) (leavesF C C.dims.length).toNat (leavesF C C.dims.length).toNat) (leavesF C C.dims.length).toNat :: mk0 [vI 0, .int .u64 0] (.slice (some ⟨s.2.2, 0, none⟩) (cellsF C C.dims.length).toNat (cellsF C C.dims.length).toNat) (cellsF C C.dims.length).toNat :: (L ++ R)) ?_ ?_
  · refine GDraw_sch (.s 0 (.s 1 (.s 4 (.h 2 (.h 3 (.h 5 (.h 6 (.s 7 (.h 8 (.s 9 (.s 10 .e)) .n)) .n) .n) (.h 5 (.h 3 (.h 6 (.s 7 (.h 8 (.s 9 (.s 10 .e)) .n)) .n) (.h 6 (.h 3 (.s 7 (.h 8 (.s 9 (.s 10 .e)) .n)) .n) .n)) .n)) .n)))) (by decide +kernel) ?_
    repeat' (first | refine Step.imp ?_ | refine Side.mk (by first | exact True.intro | omega | exact ⟨trivial, rfl⟩ | exact ⟨by omega, trivial, rfl⟩ | exact ⟨by omega, rfl⟩ | (simp only [List.length_cons, List.length_nil, List.length_append]; omega) | decide +kernel) ?_ | refine Both.mk ?_ ?_ | exact True.intro | refine GTo_do ?_ | (intros; refine GT_app inferInstance ?_) | refine hard_box fun _ => And.intro inferInstance ?_ | refine hard_alloc fun _ => And.intro inferInstance ?_ | refine hard_store (by first | exact ⟨trivial, rfl⟩ | exact ⟨by omega, rfl⟩) (And.intro inferInstance ?_) | refine hard_buildO (by omega) fun _ => And.intro inferInstance ?_ | refine hard_buildSlice (by omega) fun _ => And.intro inferInstance ?_ | refine hard_callP (by first | exact True.intro | omega | (simp only [List.length_cons, List.length_nil, List.length_append]; omega)) ?_ | refine hard_callV' (by first | exact True.intro | omega | (simp only [List.length_cons, List.length_nil, List.length_append]; omega)) ?_ | refine hard_callT' (by first | exact True.intro | omega) ?_ | refine hard_makeMap fun _ => And.intro inferInstance ?_ | refine hard_makeSlice (by omega) fun _ => And.intro inferInstance ?_)
    all_goals (refine X_cut (?_, ?_, ?_) ?_ ?_; rotate_left 3; (refine sub_head ?_; infer_instance); exact ⟨rfl, rfl, trivial⟩)
  rintro ⟨b, lb, ub⟩
  simp only
  refine X_conv (x := mk0 [vI 0] (.slice (some ⟨lb, 0, none⟩) (leavesF C C.dims.length).toNat (leavesF C C.dims.length).toNat) (leavesF C C.dims.length).toNat) (y := slo encI 1 (.slice (some ⟨lb, 0, none⟩) (leavesF C C.dims.length).toNat (leavesF C C.dims.length).toNat) (List.replicate (leavesF C C.dims.length).toNat 0)) (fun bs hb => mk0_slo (enc := encI) (y := 0) rfl (by simp [Value.oneCell']) hb) ?_
  refine X_conv (x := mk0 [vI 0, .int .u64 0] (.slice (some ⟨ub, 0, none⟩) (cellsF C C.dims.length).toNat (cellsF C C.dims.length).toNat) (cellsF C C.dims.length).toNat) (y := slo encW 2 (.slice (some ⟨ub, 0, none⟩) (cellsF C C.dims.length).toNat (cellsF C C.dims.length).toNat) (List.replicate (cellsF C C.dims.length).toNat 0)) (fun bs hb => mk0_slo (enc := encW) (y := 0) rfl (by simp [Value.oneCell']) hb) ?_
  haveI : Is (List.replicate (leavesF C C.dims.length).toNat (0 : Int)).length (leavesF C C.dims.length).toNat := ⟨List.length_replicate⟩
  haveI : Is (List.replicate (cellsF C C.dims.length).toNat (0 : Int)).length (cellsF C C.dims.length).toNat := ⟨List.length_replicate⟩
  haveI := foldRo (b := b) (la := some ⟨lb, 0, none⟩) (lc := (leavesF C C.dims.length).toNat) (sa := some ⟨ub, 0, none⟩) (sc := (cellsF C C.dims.length).toNat) (nB := 0) (nF := 0) hok (sums_zero C _).symm (cntB_zero _).symm (cnt0_zero _).symm
  repeat (first | refine Step.imp ?_ | refine Side.mk (by first | exact True.intro | omega | exact ⟨trivial, rfl⟩ | exact ⟨by omega, trivial, rfl⟩ | exact ⟨by omega, rfl⟩ | exact ⟨by omega, by omega, rfl⟩ | (simp only [List.length_cons, List.length_nil, List.length_append]; done) | (simp only [List.length_cons, List.length_nil, List.length_append]; omega) | decide +kernel) ?_ | refine GDraw_one (by decide +kernel) ?_ | refine New.mk fun _ => ?_ | refine NewS.mk fun _ _ => ?_)
  exact Fin.val (hT b) rfl (Hle.refl _)⟩
instance roll_newNil : CallV Tryz.prog 23 [.pointer none] h True (.tuple [.pointer none, vI 1].toArray) := ⟨fun _ => by
  refine spec_enter Tryz.func23 rfl Tryz.ntmps23 Tryz.results23 (by simp) fun K R hT => ?_
  repeat' (first | refine Step.imp ?_ | refine Side.mk (by first | exact True.intro | omega | exact ⟨trivial, rfl⟩ | exact ⟨by omega, trivial, rfl⟩ | exact ⟨by omega, rfl⟩ | exact ⟨by omega, by omega, rfl⟩ | (simp only [List.length_cons, List.length_nil, List.length_append]; done) | (simp only [List.length_cons, List.length_nil, List.length_append]; omega) | decide +kernel) ?_ | refine GDraw_one (by decide +kernel) ?_ | refine New.mk fun _ => ?_ | refine NewS.mk fun _ _ => ?_ | refine Ways.mk (fun _ => ?_) (fun _ => ?_))
  all_goals first | (exfalso; contradiction) | exact Fin.val hT rfl (Hle.refl _)⟩
end
end Go.Sl

/-
  Rolls: a leaf has another value.
-/
namespace Go.Sl
open Go.Proofs
set_option linter.unusedVariables false
set_option linter.unusedSimpArgs false
set_option maxRecDepth 10000
set_option synthInstance.maxSize 2000
set_option synthInstance.maxHeartbeats 200000
set_option maxHeartbeats 1000000
section
variable {h h0 : PHeap} {b sb : Nat} {C : Cat} {vals : List Int}
theorem turn_spec {c x : Int} (hx64 : -9223372036854775808 ≤ x ∧ x ≤ 9223372036854775807) : Spec Tryz.prog 10 [.pointer (some ⟨b, 0, none⟩), vI c, vI x] h [rollH h b sb C vals]
    (fun K => ∀ h', Le h h' → (¬ (0 ≤ c ∧ c < vals.length) → K (vI 17) h' [rollH h' b sb C vals]) ∧ ((0 ≤ c ∧ c < vals.length) → K (vI 0) h' [rollH h' b sb C (vals.set c.toNat x)])) := by
  refine spec_enter Tryz.func10 rfl Tryz.ntmps10 Tryz.results10 (by simp) fun K R hT => ?_
  haveI : LeT h h := ⟨Hle.refl h⟩
  repeat (first | refine Step.imp ?_ | refine Side.mk (by first | exact True.intro | omega | exact ⟨trivial, rfl⟩ | exact ⟨by omega, trivial, rfl⟩ | exact ⟨by omega, rfl⟩ | exact ⟨by omega, by omega, rfl⟩ | (simp only [List.length_cons, List.length_nil, List.length_append]; done) | (simp only [List.length_cons, List.length_nil, List.length_append]; omega) | decide +kernel) ?_ | refine GDraw_one (by decide +kernel) ?_ | refine New.mk fun _ => ?_ | refine NewS.mk fun _ _ => ?_)
  refine ⟨fun hno => ?_, fun hin => ?_⟩
  · repeat' (first | refine Step.imp ?_ | refine Side.mk (by first | exact True.intro | omega | exact ⟨trivial, rfl⟩ | exact ⟨by omega, trivial, rfl⟩ | exact ⟨by omega, rfl⟩ | exact ⟨by omega, by omega, rfl⟩ | (simp only [List.length_cons, List.length_nil, List.length_append]; done) | (simp only [List.length_cons, List.length_nil, List.length_append]; omega) | decide +kernel) ?_ | refine GDraw_one (by decide +kernel) ?_ | refine New.mk fun _ => ?_ | refine NewS.mk fun _ _ => ?_ | refine Ways.mk (fun _ => ?_) (fun _ => ?_))
    all_goals first | (exfalso; omega) | exact Fin.val ((hT h ⟨Hle.refl h⟩).1 hno) rfl (Hle.refl _)
  repeat' (first | refine Step.imp ?_ | refine Side.mk (by first | exact True.intro | omega | exact ⟨trivial, rfl⟩ | exact ⟨by omega, trivial, rfl⟩ | exact ⟨by omega, rfl⟩ | exact ⟨by omega, by omega, rfl⟩ | (simp only [List.length_cons, List.length_nil, List.length_append]; done) | (simp only [List.length_cons, List.length_nil, List.length_append]; omega) | decide +kernel) ?_ | refine GDraw_one (by decide +kernel) ?_ | refine New.mk fun _ => ?_ | refine NewS.mk fun _ _ => ?_ | refine Ways.mk (fun _ => ?_) (fun _ => ?_))
  all_goals first | (exfalso; omega) | skip
  refine GO1_roll b fun la lc sa sc hok => ?_
  haveI := hok.sp
  haveI := hok.ok
  obtain ⟨cn, rfl⟩ : ∃ cn : Nat, c = (cn : Int) := ⟨c.toNat, by omega⟩
  simp only [Int.toNat_natCast] at hT
  have hlt : cn < vals.length := by omega
  have hbl := leaves_bound hok.ok C.dims.length (Nat.le_refl _)
  have hbc := cells_bound hok.ok C.dims.length (Nat.le_refl _)
  have hvl := hok.len
  have hc0 := cnt0_le vals
  have hcs := cnt0_set (S := vals) (i := cn) (x := x) hlt
  have hsl := sumsF_len C vals
  haveI hIs : Is (vals.set cn x).length vals.length := ⟨List.length_set⟩
  by_cases hwas : vals[cn]! = x
  · haveI : Known (vals[cn]! = x) := ⟨hwas⟩
    have hvs : vals.set cn x = vals := list_eq (by simp) fun j hj => by
      have hj : j < vals.length := by simpa using hj
      rw [set_get' hj]
      split
      · rename_i e; rw [← e, hwas]
      · rfl
    have hok' : RollOk h C sb (vals.set cn x) := by rw [hvs]; exact hok
    haveI := foldRo (b := b) (la := la) (lc := lc) (sa := sa) (sc := sc) (nB := cntB (sumsF C vals)) (nF := cnt0 vals) (S := sumsF C vals) hok' (by rw [hvs]) rfl (by rw [hvs])
    repeat' (first | refine Step.imp ?_ | refine Side.mk (by first | exact True.intro | omega | exact ⟨trivial, rfl⟩ | exact ⟨by omega, trivial, rfl⟩ | exact ⟨by omega, rfl⟩ | exact ⟨by omega, by omega, rfl⟩ | (simp only [List.length_cons, List.length_nil, List.length_append]; done) | (simp only [List.length_cons, List.length_nil, List.length_append]; omega) | decide +kernel) ?_ | refine GDraw_one (by decide +kernel) ?_ | refine New.mk fun _ => ?_ | refine NewS.mk fun _ _ => ?_ | refine Ways.mk (fun _ => ?_) (fun _ => ?_))
    all_goals exact Fin.val ((hT h ⟨Hle.refl h⟩).2 hin) rfl (Hle.refl _)
  haveI : Known (¬ vals[cn]! = x) := ⟨hwas⟩
  haveI hst := stopB Tryz.prog 0
  repeat (first | refine Step.imp ?_ | refine Side.mk (by first | exact True.intro | omega | exact ⟨trivial, rfl⟩ | exact ⟨by omega, trivial, rfl⟩ | exact ⟨by omega, rfl⟩ | exact ⟨by omega, by omega, rfl⟩ | (simp only [List.length_cons, List.length_nil, List.length_append]; done) | (simp only [List.length_cons, List.length_nil, List.length_append]; omega) | decide +kernel) ?_ | refine GDraw_one (by decide +kernel) ?_ | refine New.mk fun _ => ?_ | refine NewS.mk fun _ _ => ?_)
  refine StopB.go ?_
  clear hst
  refine G_mid (σ := Unit) (fun _ => True) (fun _ => [(8, vI (vals[cn]!)), (0, .pointer (some ⟨b, 0, none⟩)), (0 + 1, vI cn), (0 + 1 + 1, vI x)]) (fun _ => h)
    (fun _ => rollB b sb (.slice la vals.length lc) (.slice sa (sumsF C vals).length sc) (cntB (sumsF C vals)) (cnt0 (vals.set cn x)) :: slo encI 1 (.slice la vals.length lc) (vals.set cn x) :: slo encW 2 (.slice sa (sumsF C vals).length sc) (sumsF C vals) :: R) ?_ ?_
  · repeat' (first | refine Step.imp ?_ | refine Side.mk (by first | exact True.intro | omega | exact ⟨trivial, rfl⟩ | exact ⟨by omega, trivial, rfl⟩ | exact ⟨by omega, rfl⟩ | exact ⟨by omega, by omega, rfl⟩ | (simp only [List.length_cons, List.length_nil, List.length_append]; done) | (simp only [List.length_cons, List.length_nil, List.length_append]; omega) | decide +kernel) ?_ | refine GDraw_one (by decide +kernel) ?_ | refine New.mk fun _ => ?_ | refine NewS.mk fun _ _ => ?_ | refine Ways.mk (fun _ => ?_) (fun _ => ?_))
    all_goals first
      | (rw [show cnt0 vals + 1 = cnt0 (vals.set cn x) from by rw [hcs]; (repeat' split) <;> omega]; exact X_mid () trivial ⟨rfl, rfl, rfl, rfl, trivial⟩ rfl inferInstance)
      | (rw [show cnt0 vals - 1 = cnt0 (vals.set cn x) from by rw [hcs]; (repeat' split) <;> omega]; exact X_mid () trivial ⟨rfl, rfl, rfl, rfl, trivial⟩ rfl inferInstance)
      | (rw [show cnt0 vals = cnt0 (vals.set cn x) from by rw [hcs]; (repeat' split) <;> omega]; exact X_mid () trivial ⟨rfl, rfl, rfl, rfl, trivial⟩ rfl inferInstance)
  rintro _ _
  have hcin : 0 ≤ (cn : Int) ∧ (cn : Int) < leavesF C C.dims.length := by omega
  have hov := over_eq hok.ok hcin
  have hol : (overF C cn).length = (pickTo (overQ C cn) (cellsF C C.dims.length).toNat).length := by rw [hov, List.length_map]
  have hpl := pickTo_len (overQ C cn) (cellsF C C.dims.length).toNat
  repeat (first | refine Step.imp ?_ | refine Side.mk (by first | exact True.intro | omega | exact ⟨trivial, rfl⟩ | exact ⟨by omega, trivial, rfl⟩ | exact ⟨by omega, rfl⟩ | exact ⟨by omega, by omega, rfl⟩ | (simp only [List.length_cons, List.length_nil, List.length_append]; done) | (simp only [List.length_cons, List.length_nil, List.length_append]; omega) | decide +kernel) ?_ | refine GDraw_one (by decide +kernel) ?_ | refine New.mk fun _ => ?_ | refine NewS.mk fun _ _ => ?_)
  intro h1 ao cc le1
  haveI : LeT h h1 := ⟨le1.le⟩
  have hok1 := hok.mono le1.le
  repeat (first | refine Step.imp ?_ | refine Side.mk (by first | exact True.intro | omega | exact ⟨trivial, rfl⟩ | exact ⟨by omega, trivial, rfl⟩ | exact ⟨by omega, rfl⟩ | exact ⟨by omega, by omega, rfl⟩ | (simp only [List.length_cons, List.length_nil, List.length_append]; done) | (simp only [List.length_cons, List.length_nil, List.length_append]; omega) | decide +kernel) ?_ | refine GDraw_one (by decide +kernel) ?_ | refine New.mk fun _ => ?_ | refine NewS.mk fun _ _ => ?_)
  refine G_loop (σ := Nat × List Int) (fun s => s.1 ≤ (overF C cn).length ∧ TurnTo C vals cn x s.1 s.2) (fun s => (overF C cn).length - s.1)
    (fun s => [(65, vI s.1), (64, vI (overF C cn).length), (63, .slice ao (overF C cn).length cc), (8, vI (vals[cn]!)), (0, .pointer (some ⟨b, 0, none⟩)), (0 + 1, vI cn), (0 + 1 + 1, vI x)]) (fun _ => h1)
    (fun s => rollB b sb (.slice la vals.length lc) (.slice sa (sumsF C vals).length sc) (cntB s.2) (cnt0 (vals.set cn x)) :: slo encCl 5 (.slice ao (overF C cn).length cc) (overF C cn) :: slo encI 1 (.slice la vals.length lc) (vals.set cn x) :: slo encW 2 (.slice sa (sumsF C vals).length sc) s.2 :: R)
    (0, sumsF C vals) ⟨Nat.zero_le _, turn_0 _ _ _ _⟩ ⟨rfl, rfl, rfl, rfl, rfl, rfl, rfl, trivial⟩ rfl inferInstance ?_
  rintro ⟨i, S⟩ ⟨hi, hTT⟩
  simp only at hi hTT ⊢
  have hSl : S.length = (sumsF C vals).length := by rw [hTT.1, sumsF_len]
  haveI : Is S.length (sumsF C vals).length := ⟨hSl⟩
  repeat (first | refine Step.imp ?_ | refine Side.mk (by first | exact True.intro | omega | exact ⟨trivial, rfl⟩ | exact ⟨by omega, trivial, rfl⟩ | exact ⟨by omega, rfl⟩ | exact ⟨by omega, by omega, rfl⟩ | (simp only [List.length_cons, List.length_nil, List.length_append]; done) | (simp only [List.length_cons, List.length_nil, List.length_append]; omega) | decide +kernel) ?_ | refine GDraw_one (by decide +kernel) ?_ | refine New.mk fun _ => ?_ | refine NewS.mk fun _ _ => ?_)
  refine ⟨fun hlt2 => ?_, fun hge => ?_⟩
  · have hki : i < (pickTo (overQ C cn) (cellsF C C.dims.length).toNat).length := by omega
    have hmem := mem_pickTo.1 (mem_get (l := pickTo (overQ C cn) (cellsF C C.dims.length).toNat) (k := i) hki)
    obtain ⟨p, hp⟩ : ∃ p : Nat, (pickTo (overQ C cn) (cellsF C C.dims.length).toNat)[i]! = (p : Int) := ⟨_, (Int.toNat_of_nonneg hmem.1.1).symm⟩
    rw [hp] at hmem
    have hpc : p < (cellsF C C.dims.length).toNat := by omega
    have hcl : (overF C cn)[i]! = cellAt C p := by
      rw [hov, getElem!_pos _ i (by simpa using hki), List.getElem_map, ← getElem!_pos _ i hki, hp]
    have hidx : indexF C ((overF C cn)[i]!).m (get4 ((overF C cn)[i]!).a0 ((overF C cn)[i]!).a1 ((overF C cn)[i]!).a2 ((overF C cn)[i]!).a3) = (p : Int) := by
      rw [hcl]
      show indexF C (quoF (nodesN C) p C.dims.length C.dims.length) (get4 (plF (nodesN C) p C.dims.length C.dims.length 0) (plF (nodesN C) p C.dims.length C.dims.length 1) (plF (nodesN C) p C.dims.length C.dims.length 2) (plF (nodesN C) p C.dims.length C.dims.length 3)) = p
      rw [index_congr hok.ok.dims.2 (fun k hk => get4_fun _ hk)]
      exact index_cell (by omega)
    haveI : ToN (indexF C ((overF C cn)[i]!).m (get4 ((overF C cn)[i]!).a0 ((overF C cn)[i]!).a1 ((overF C cn)[i]!).a2 ((overF C cn)[i]!).a3)) p := ⟨by rw [hidx]; exact Int.toNat_natCast p⟩
    obtain ⟨hSi, hTn⟩ := turn_step hTT hki hp.symm hpc
    have hcb := cellSum_bnd (C := C) hok.v64 (by omega) p
    rw [← hSi] at hcb
    have hx6 := hok.v64 cn hlt
    have hgn : (S.set p (S[p]! - vals[cn]! + sumI [x]))[p]! = S[p]! - vals[cn]! + sumI [x] := by rw [set_get' (by omega), if_pos rfl]
    have hcb2 : cntB (S.set p (S[p]! - vals[cn]! + sumI [x])) = cntB S - (if FitP (S[p]!) then 0 else 1) + (if FitP ((S.set p (S[p]! - vals[cn]! + sumI [x]))[p]!) then 0 else 1) := by
      rw [hgn]; exact cntB_set (by omega)
    have hTn2 : TurnTo C vals cn x (i + 1) (S.set p (S[p]! - vals[cn]! + sumI [x])) := by rw [sum_one]; exact hTn
    have hcB := cntB_le S
    repeat (first | refine Step.imp ?_ | refine Side.mk (by first | exact True.intro | omega | exact ⟨trivial, rfl⟩ | exact ⟨by omega, trivial, rfl⟩ | exact ⟨by omega, rfl⟩ | exact ⟨by omega, by omega, rfl⟩ | (simp only [List.length_cons, List.length_nil, List.length_append]; done) | (simp only [List.length_cons, List.length_nil, List.length_append]; omega) | decide +kernel) ?_ | refine GDraw_one (by decide +kernel) ?_ | refine New.mk fun _ => ?_ | refine NewS.mk fun _ _ => ?_)
    refine GDraw_sch (.s 0 (.s 1 (.s 2 (.s 3 (.s 4 (.s 5 (.s 6 (.s 7 (.s 8 (.s 9 (.s 10 (.s 11 (.s 12 (.s 14 (.h 13 (.h 15 (.h 16 (.s 17 (.h 18 .e .n)) .n) .n) (.h 15 (.h 13 (.h 16 (.s 17 (.h 18 .e .n)) .n) .n) .n)))))))))))))))) (by decide +kernel) ?_
    have hsl2 : (S.set p (S[p]! - vals[cn]! + sumI [x])).length = S.length := List.length_set
    repeat' (first | refine GT_last (by decide +kernel) (hard_storeEl (by first | exact ⟨by omega, trivial, rfl⟩ | exact ⟨by omega, rfl⟩) ?_) | refine hard_callV' (fit_one (by omega) (by omega)) ?_ | refine Step.imp ?_ | refine Side.mk (by first | exact True.intro | omega | exact ⟨trivial, rfl⟩ | exact ⟨by omega, trivial, rfl⟩ | exact ⟨by omega, rfl⟩ | (simp only [List.length_cons, List.length_nil, List.length_append]; omega) | decide +kernel) ?_ | refine Both.mk ?_ ?_ | exact True.intro | refine GTo_do ?_ | (intros; refine GT_app inferInstance ?_) | refine hard_box fun _ => And.intro inferInstance ?_ | refine hard_alloc fun _ => And.intro inferInstance ?_ | refine hard_store (by first | exact ⟨trivial, rfl⟩ | exact ⟨by omega, rfl⟩) (And.intro inferInstance ?_) | refine hard_buildO (by omega) fun _ => And.intro inferInstance ?_ | refine hard_buildSlice (by omega) fun _ => And.intro inferInstance ?_ | refine hard_callP (by first | exact True.intro | omega | (simp only [List.length_cons, List.length_nil, List.length_append]; omega)) ?_ | refine hard_callV' (by first | exact True.intro | omega | (simp only [List.length_cons, List.length_nil, List.length_append]; omega)) ?_ | refine hard_callT' (by first | exact True.intro | omega) ?_ | refine hard_makeMap fun _ => And.intro inferInstance ?_ | refine hard_makeSlice (by omega) fun _ => And.intro inferInstance ?_)
    all_goals repeat' (first | refine Step.imp ?_ | refine Side.mk (by first | exact True.intro | omega | exact ⟨trivial, rfl⟩ | exact ⟨by omega, trivial, rfl⟩ | exact ⟨by omega, rfl⟩ | exact ⟨by omega, by omega, rfl⟩ | (simp only [List.length_cons, List.length_nil, List.length_append]; done) | (simp only [List.length_cons, List.length_nil, List.length_append]; omega) | decide +kernel) ?_ | refine GDraw_one (by decide +kernel) ?_ | refine New.mk fun _ => ?_ | refine NewS.mk fun _ _ => ?_ | refine Ways.mk (fun _ => ?_) (fun _ => ?_))
    all_goals first
      | (exfalso; contradiction)
      | (rw [show cntB S + 1 = cntB (S.set p (S[p]! - vals[cn]! + sumI [x])) from by rw [hcb2]; (repeat' split) <;> first | omega | (exfalso; contradiction)]
         exact X_round (i + 1, S.set p (S[p]! - vals[cn]! + sumI [x])) ⟨by show i + 1 ≤ (overF C cn).length; omega, hTn2⟩ (by show (overF C cn).length - (i + 1) < (overF C cn).length - i; omega) ⟨rfl, rfl, rfl, rfl, rfl, rfl, rfl, trivial⟩ rfl inferInstance)
      | (rw [show cntB S - 1 = cntB (S.set p (S[p]! - vals[cn]! + sumI [x])) from by rw [hcb2]; (repeat' split) <;> first | omega | (exfalso; contradiction)]
         exact X_round (i + 1, S.set p (S[p]! - vals[cn]! + sumI [x])) ⟨by show i + 1 ≤ (overF C cn).length; omega, hTn2⟩ (by show (overF C cn).length - (i + 1) < (overF C cn).length - i; omega) ⟨rfl, rfl, rfl, rfl, rfl, rfl, rfl, trivial⟩ rfl inferInstance)
      | (rw [show cntB S = cntB (S.set p (S[p]! - vals[cn]! + sumI [x])) from by rw [hcb2]; (repeat' split) <;> first | omega | (exfalso; contradiction)]
         exact X_round (i + 1, S.set p (S[p]! - vals[cn]! + sumI [x])) ⟨by show i + 1 ≤ (overF C cn).length; omega, hTn2⟩ (by show (overF C cn).length - (i + 1) < (overF C cn).length - i; omega) ⟨rfl, rfl, rfl, rfl, rfl, rfl, rfl, trivial⟩ rfl inferInstance)
  · have hi2 : i = (overF C cn).length := by omega
    subst hi2
    have hSe : S = sumsF C (vals.set cn x) := turn_all hlt (by rw [← hol]; exact hTT)
    have hok' : RollOk h1 C sb (vals.set cn x) := ⟨hok1.sp, hok.ok, by rw [List.length_set]; exact hvl, hok.v64.set hx64⟩
    haveI := foldRo (b := b) (la := la) (lc := lc) (sa := sa) (sc := sc) (nB := cntB S) (nF := cnt0 (vals.set cn x)) (S := S) hok' hSe rfl rfl
    repeat (first | refine Step.imp ?_ | refine Side.mk (by first | exact True.intro | omega | exact ⟨trivial, rfl⟩ | exact ⟨by omega, trivial, rfl⟩ | exact ⟨by omega, rfl⟩ | exact ⟨by omega, by omega, rfl⟩ | (simp only [List.length_cons, List.length_nil, List.length_append]; done) | (simp only [List.length_cons, List.length_nil, List.length_append]; omega) | decide +kernel) ?_ | refine GDraw_one (by decide +kernel) ?_ | refine New.mk fun _ => ?_ | refine NewS.mk fun _ _ => ?_)
    exact Fin.val ((hT h1 le1).2 hin) rfl le1.le
end
end Go.Sl
