/-
  Facts that the proof is made of (A2).
-/
import Derived.Test.YtoekdnandjjeoaaGreatKA1
import Derived.Test.YtoekdnandjjeoaaGreatKF4
/-
  The arena in memory: looking at it.
-/
namespace Go.Sl
open Go.Proofs
set_option linter.unusedVariables false
set_option linter.unusedSimpArgs false
set_option maxRecDepth 10000
set_option synthInstance.maxSize 2000
set_option synthInstance.maxHeartbeats 200000
set_option maxHeartbeats 1000000
instance : EncT Tryz.prog 240 encSt 26 := ⟨inferInstance⟩
abbrev arB (b : Nat) (most : Int) (sv : Value) : HP := blk b (.cells [vI most, sv, .slice none 0 0].toArray 119 (0, 0))
/-- An arena that has no free places behind it, at block b. -/
def arH (b : Nat) (most : Int) (ss : List Slt) : HP := fun bs => ∃ a c b1 b2, bs = b1 ++ b2 ∧ arB b most (.slice a ss.length c) b1 ∧ slo encSt 26 (.slice a ss.length c) ss b2
theorem St.arOut {h : PHeap} {b : Nat} {most : Int} {ss : List Slt} {L : List HP} {w : World} (s : St h (arH b most ss :: L) w) : ∃ a c, St h (arB b most (.slice a ss.length c) :: slo encSt 26 (.slice a ss.length c) ss :: L) w := by
  obtain ⟨bs, ⟨b1, b2, rfl, ⟨a, c, c1, c2, rfl, h1, h2⟩, hd⟩, s0⟩ := s
  exact ⟨a, c, c1 ++ (c2 ++ b2), ⟨c1, _, rfl, h1, c2, b2, rfl, h2, hd⟩, by simpa using s0⟩
theorem St.arIn {h : PHeap} {b : Nat} {most : Int} {ss : List Slt} {L : List HP} {w : World} {a : Option Addr} {c : Nat} (s : St h (arB b most (.slice a ss.length c) :: slo encSt 26 (.slice a ss.length c) ss :: L) w) : St h (arH b most ss :: L) w := by
  obtain ⟨bs, ⟨c1, _, rfl, h1, c2, b2, rfl, h2, hd⟩, s0⟩ := s
  exact ⟨(c1 ++ c2) ++ b2, ⟨c1 ++ c2, b2, rfl, ⟨a, c, c1, c2, rfl, h1, h2⟩, hd⟩, by simpa using s0⟩
class PickAr (L : List HP) (b : Nat) (most : outParam Int) (ss : outParam (List Slt)) (R : outParam (List HP)) : Prop where
  eq : L.Perm (arH b most ss :: R)
instance {b : Nat} {most : Int} {ss : List Slt} {L : List HP} : PickAr (arH b most ss :: L) b most ss L := ⟨.refl _⟩
instance (priority := low) {b : Nat} {most : Int} {ss : List Slt} {L R : List HP} {x : HP} [p : PickAr L b most ss R] : PickAr (x :: L) b most ss (x :: R) := ⟨(List.Perm.cons x p.eq).trans (.swap _ _ _)⟩
section
variable {P : Program} {N : NN} {k : List It} {Q : Post} {e : Env} {h : PHeap} {L V R : List HP} {ops l : List Oper} {b : Nat} {most : Int} {ss : List Slt}
theorem G_ar {c : Code} (b : Nat) [p : PickAr L b most ss R] (g : ∀ a ec, G P N c k Q e h (arB b most (.slice a ss.length ec) :: slo encSt 26 (.slice a ss.length ec) ss :: R)) : G P N c k Q e h L := fun a w s => by
  obtain ⟨ea, ec, st⟩ := (s.st.perm p.eq).arOut
  exact g ea ec a w (s.ae.as st)
theorem X_ar {x : Exit} (b : Nat) [p : PickAr L b most ss R] (g : ∀ a ec, X P N x k Q e h (arB b most (.slice a ss.length ec) :: slo encSt 26 (.slice a ss.length ec) ss :: R)) : X P N x k Q e h L := fun a w s => by
  obtain ⟨ea, ec, st⟩ := (s.st.perm p.eq).arOut
  exact g ea ec a w (s.ae.as st)
class PickA2 (L : List HP) (b : Nat) (most : outParam Int) (a : outParam (Option Addr)) (c : outParam Nat) (ss : outParam (List Slt)) (R : outParam (List HP)) : Prop where
  eq : L.Perm (arB b most (.slice a ss.length c) :: slo encSt 26 (.slice a ss.length c) ss :: R)
instance {n : Nat} {a : Option Addr} {c : Nat} {R1 R2 : List HP} {T : Nat} [p1 : PickC L b [vI most, .slice a n c, .slice none 0 0] T R1] [hT : Is T 119] [p2 : PickO R1 (.slice a n c) Slt encSt 26 ss R2] [e1 : Is ss.length n] : PickA2 L b most a c ss R2 := ⟨by
  have := e1.eq
  have := hT.eq
  subst_vars
  exact p1.eq.trans (List.Perm.cons _ p2.eq)⟩
theorem foldAr {a : Option Addr} {c : Nat} : ∀ L R, [PickA2 L b most a c ss R] → Fold h L (arH b most ss :: R) := fun _ _ p => ⟨fun _ s => St.arIn (s.perm p.eq)⟩
theorem G_arIn {x : Code} {a : Option Addr} {c : Nat} (b : Nat) [p : PickA2 L b most a c ss R] (g : G P N x k Q e h (arH b most ss :: R)) : G P N x k Q e h L := fun ac w s => g ac w (s.ae.as (St.arIn (s.st.perm p.eq)))
theorem X_arIn {x : Exit} {a : Option Addr} {c : Nat} (b : Nat) [p : PickA2 L b most a c ss R] (g : X P N x k Q e h (arH b most ss :: R)) : X P N x k Q e h L := fun ac w s => g ac w (s.ae.as (St.arIn (s.st.perm p.eq)))
theorem spec_ar {f : FuncId} {vs : List Value} {T : Kont → Prop} [p : PickAr L b most ss R] (s : Spec P f vs h [arH b most ss] T) : ∃ Lp, L.Perm (Lp ++ R) ∧ Spec P f vs h Lp T := ⟨[arH b most ss], p.eq, s⟩
end
section
variable {h : PHeap} {b : Nat} {most : Int} {ss : List Slt}
instance ar_none : CallV Tryz.prog 147 [.pointer (some ⟨b, 0, none⟩)] h True (vI 10) := ⟨fun _ => by
  refine spec_enter Tryz.func147 rfl Tryz.ntmps147 Tryz.results147 (by simp) fun K R hT => ?_
  repeat' (first | refine Step.imp ?_ | refine Side.mk (by first | exact True.intro | omega | exact ⟨trivial, rfl⟩ | exact ⟨by omega, trivial, rfl⟩ | exact ⟨by omega, rfl⟩ | exact ⟨by omega, by omega, rfl⟩ | (simp only [List.length_cons, List.length_nil, List.length_append]; done) | (simp only [List.length_cons, List.length_nil, List.length_append]; omega) | decide +kernel) ?_ | refine GDraw_one (by decide +kernel) ?_ | refine New.mk fun _ => ?_ | refine NewS.mk fun _ _ => ?_ | refine Ways.mk (fun _ => ?_) (fun _ => ?_))
  all_goals first | (exfalso; contradiction) | exact Fin.val hT rfl (Hle.refl _)⟩
instance ar_noneN : CallV Tryz.prog 147 [.pointer none] h True (vI 1) := ⟨fun _ => by
  refine spec_enter Tryz.func147 rfl Tryz.ntmps147 Tryz.results147 (by simp) fun K R hT => ?_
  repeat' (first | refine Step.imp ?_ | refine Side.mk (by first | exact True.intro | omega | exact ⟨trivial, rfl⟩ | exact ⟨by omega, trivial, rfl⟩ | exact ⟨by omega, rfl⟩ | exact ⟨by omega, by omega, rfl⟩ | (simp only [List.length_cons, List.length_nil, List.length_append]; done) | (simp only [List.length_cons, List.length_nil, List.length_append]; omega) | decide +kernel) ?_ | refine GDraw_one (by decide +kernel) ?_ | refine New.mk fun _ => ?_ | refine NewS.mk fun _ _ => ?_ | refine Ways.mk (fun _ => ?_) (fun _ => ?_))
  all_goals first | (exfalso; contradiction) | exact Fin.val hT rfl (Hle.refl _)⟩
instance ar_slot {L : List HP} {id : Int} {a : Option Addr} {n c : Nat} {f : Value} [p : Rdb L h b (.cells [vI most, .slice a n c, f].toArray 119 (0, 0))] [q : Rds L h (.slice a n c) encSt 26 ss] [hn : Is ss.length n] : CallX Tryz.prog 146 [.pointer (some ⟨b, 0, none⟩), vI id] h L (n ≤ 4294967296)
    (fun K => (¬ liveP ss id → K (.pointer none) h []) ∧ (liveP ss id → K (.pointer (some (elA (.slice a n c) ((id - 1).toNat * 26)))) h [])) := ⟨fun hsz => by
  have hnn := hn.eq
  refine spec_enter Tryz.func146 rfl Tryz.ntmps146 Tryz.results146 (by simp) fun K R hT => ?_
  by_cases hl : liveP ss id
  · have hl2 := hl
    obtain ⟨⟨l1, l2⟩, l3⟩ := hl2
    repeat' (first | refine Step.imp ?_ | refine Side.mk (by first | exact True.intro | omega | exact ⟨trivial, rfl⟩ | exact ⟨by omega, trivial, rfl⟩ | exact ⟨by omega, rfl⟩ | exact ⟨by omega, by omega, rfl⟩ | (simp only [List.length_cons, List.length_nil, List.length_append]; done) | (simp only [List.length_cons, List.length_nil, List.length_append]; omega) | decide +kernel) ?_ | refine GDraw_one (by decide +kernel) ?_ | refine New.mk fun _ => ?_ | refine NewS.mk fun _ _ => ?_ | refine Ways.mk (fun _ => ?_) (fun _ => ?_))
    all_goals first | (exfalso; contradiction) | (exfalso; omega) | exact Fin.val (hT.2 hl) rfl (Hle.refl _)
  · by_cases hr : 1 ≤ id ∧ id ≤ ss.length
    · have h0 : (ss[(id - 1).toNat]!).refs = 0 := Decidable.byContradiction fun q => hl ⟨hr, q⟩
      repeat' (first | refine Step.imp ?_ | refine Side.mk (by first | exact True.intro | omega | exact ⟨trivial, rfl⟩ | exact ⟨by omega, trivial, rfl⟩ | exact ⟨by omega, rfl⟩ | exact ⟨by omega, by omega, rfl⟩ | (simp only [List.length_cons, List.length_nil, List.length_append]; done) | (simp only [List.length_cons, List.length_nil, List.length_append]; omega) | decide +kernel) ?_ | refine GDraw_one (by decide +kernel) ?_ | refine New.mk fun _ => ?_ | refine NewS.mk fun _ _ => ?_ | refine Ways.mk (fun _ => ?_) (fun _ => ?_))
      all_goals first | (exfalso; contradiction) | (exfalso; omega) | exact Fin.val (hT.1 hl) rfl (Hle.refl _)
    · repeat' (first | refine Step.imp ?_ | refine Side.mk (by first | exact True.intro | omega | exact ⟨trivial, rfl⟩ | exact ⟨by omega, trivial, rfl⟩ | exact ⟨by omega, rfl⟩ | exact ⟨by omega, by omega, rfl⟩ | (simp only [List.length_cons, List.length_nil, List.length_append]; done) | (simp only [List.length_cons, List.length_nil, List.length_append]; omega) | decide +kernel) ?_ | refine GDraw_one (by decide +kernel) ?_ | refine New.mk fun _ => ?_ | refine NewS.mk fun _ _ => ?_ | refine Ways.mk (fun _ => ?_) (fun _ => ?_))
      all_goals first | (exfalso; contradiction) | (exfalso; omega) | exact Fin.val (hT.1 hl) rfl (Hle.refl _)⟩
end
end Go.Sl

/-
  The arena in memory: nodes that are there; a new arena.
-/
namespace Go.Sl
open Go.Proofs
set_option linter.unusedVariables false
set_option linter.unusedSimpArgs false
set_option maxRecDepth 10000
set_option synthInstance.maxSize 2000
set_option synthInstance.maxHeartbeats 200000
set_option maxHeartbeats 1000000
section
variable {h : PHeap} {b : Nat} {most : Int} {ss : List Slt}
instance ar_new {L : List HP} {most : Int} : CallX Tryz.prog 12 [vI most] h L True
    (fun K => (¬ (1 ≤ most ∧ most ≤ 20000) → K (.tuple [.pointer none, vI 2].toArray) h []) ∧ ((1 ≤ most ∧ most ≤ 20000) → ∀ b, K (.tuple [.pointer (some ⟨b, 0, none⟩), vI 0].toArray) h [arH b most []])) := ⟨fun _ => by
  refine spec_enter Tryz.func12 rfl Tryz.ntmps12 Tryz.results12 (by simp) fun K R hT => ?_
  by_cases hok : 1 ≤ most ∧ most ≤ 20000
  · refine (G_nil encSt 26 none ?_ : G _ _ _ _ _ _ _ _)
    haveI := fun b' => foldAr (h := h) (b := b') (most := most) (ss := []) (a := none) (c := 0)
    repeat' (first | refine Step.imp ?_ | refine Side.mk (by first | exact True.intro | omega | exact ⟨trivial, rfl⟩ | exact ⟨by omega, trivial, rfl⟩ | exact ⟨by omega, rfl⟩ | exact ⟨by omega, by omega, rfl⟩ | (simp only [List.length_cons, List.length_nil, List.length_append]; done) | (simp only [List.length_cons, List.length_nil, List.length_append]; omega) | decide +kernel) ?_ | refine GDraw_one (by decide +kernel) ?_ | refine New.mk fun _ => ?_ | refine NewS.mk fun _ _ => ?_ | refine Ways.mk (fun _ => ?_) (fun _ => ?_))
    all_goals first | (exfalso; contradiction) | (exfalso; omega) | exact Fin.val (hT.2 hok _) rfl (Hle.refl _)
  · repeat' (first | refine Step.imp ?_ | refine Side.mk (by first | exact True.intro | omega | exact ⟨trivial, rfl⟩ | exact ⟨by omega, trivial, rfl⟩ | exact ⟨by omega, rfl⟩ | exact ⟨by omega, by omega, rfl⟩ | (simp only [List.length_cons, List.length_nil, List.length_append]; done) | (simp only [List.length_cons, List.length_nil, List.length_append]; omega) | decide +kernel) ?_ | refine GDraw_one (by decide +kernel) ?_ | refine New.mk fun _ => ?_ | refine NewS.mk fun _ _ => ?_ | refine Ways.mk (fun _ => ?_) (fun _ => ?_))
    all_goals first | (exfalso; contradiction) | (exfalso; omega) | exact Fin.val (hT.1 hok) rfl (Hle.refl _)⟩
theorem arat_spec {id : Int} (hsz : ss.length ≤ 4294967296) : Spec Tryz.prog 141 [.pointer (some ⟨b, 0, none⟩), vI id] h [arH b most ss]
    (fun K => (¬ liveP ss id → K (.tuple [.agg [.bool false, vI 0, vI 0, vI 0, vI 0, vI 0, vI 0, vI 0, vI 0, vI 0, .bool false, vI 0, .bool false, vI 0, .bool false, vI 0, .bool false, vI 0, .bool false, vI 0, .bool false, vI 0, .bool false, vI 0, .bool false].toArray, vI 10].toArray) h [arH b most ss]) ∧
      (liveP ss id → K (.tuple [.agg [.bool (ss[(id - 1).toNat]!).n.leaf, vI ((ss[(id - 1).toNat]!).n.k 0), vI ((ss[(id - 1).toNat]!).n.k 1), vI ((ss[(id - 1).toNat]!).n.k 2), vI ((ss[(id - 1).toNat]!).n.k 3), vI ((ss[(id - 1).toNat]!).n.k 4), vI ((ss[(id - 1).toNat]!).n.k 5), vI ((ss[(id - 1).toNat]!).n.k 6), vI ((ss[(id - 1).toNat]!).n.k 7), vI ((ss[(id - 1).toNat]!).n.v 0), .bool ((ss[(id - 1).toNat]!).n.h 0), vI ((ss[(id - 1).toNat]!).n.v 1), .bool ((ss[(id - 1).toNat]!).n.h 1), vI ((ss[(id - 1).toNat]!).n.v 2), .bool ((ss[(id - 1).toNat]!).n.h 2), vI ((ss[(id - 1).toNat]!).n.v 3), .bool ((ss[(id - 1).toNat]!).n.h 3), vI ((ss[(id - 1).toNat]!).n.v 4), .bool ((ss[(id - 1).toNat]!).n.h 4), vI ((ss[(id - 1).toNat]!).n.v 5), .bool ((ss[(id - 1).toNat]!).n.h 5), vI ((ss[(id - 1).toNat]!).n.v 6), .bool ((ss[(id - 1).toNat]!).n.h 6), vI ((ss[(id - 1).toNat]!).n.v 7), .bool ((ss[(id - 1).toNat]!).n.h 7)].toArray, vI 0].toArray) h [arH b most ss])) := by
  refine spec_enter Tryz.func141 rfl Tryz.ntmps141 Tryz.results141 (by simp) fun K R hT => ?_
  refine G_ar b fun ea ec => ?_
  haveI := foldAr (h := h) (b := b) (most := most) (ss := ss) (a := ea) (c := ec)
  repeat (first | refine Step.imp ?_ | refine Side.mk (by first | exact True.intro | omega | exact ⟨trivial, rfl⟩ | exact ⟨by omega, trivial, rfl⟩ | exact ⟨by omega, rfl⟩ | exact ⟨by omega, by omega, rfl⟩ | (simp only [List.length_cons, List.length_nil, List.length_append]; done) | (simp only [List.length_cons, List.length_nil, List.length_append]; omega) | decide +kernel) ?_ | refine GDraw_one (by decide +kernel) ?_ | refine New.mk fun _ => ?_ | refine NewS.mk fun _ _ => ?_)
  refine ⟨fun hno => ?_, fun hl => ?_⟩
  · repeat (first | refine Step.imp ?_ | refine Side.mk (by first | exact True.intro | omega | exact ⟨trivial, rfl⟩ | exact ⟨by omega, trivial, rfl⟩ | exact ⟨by omega, rfl⟩ | exact ⟨by omega, by omega, rfl⟩ | (simp only [List.length_cons, List.length_nil, List.length_append]; done) | (simp only [List.length_cons, List.length_nil, List.length_append]; omega) | decide +kernel) ?_ | refine GDraw_one (by decide +kernel) ?_ | refine New.mk fun _ => ?_ | refine NewS.mk fun _ _ => ?_)
    exact Fin.val (hT.1 hno) rfl (Hle.refl _)
  · have h1 := hl.1
    repeat (first | refine Step.imp ?_ | refine Side.mk (by first | exact True.intro | omega | exact ⟨trivial, rfl⟩ | exact ⟨by omega, trivial, rfl⟩ | exact ⟨by omega, rfl⟩ | exact ⟨by omega, by omega, rfl⟩ | (simp only [List.length_cons, List.length_nil, List.length_append]; done) | (simp only [List.length_cons, List.length_nil, List.length_append]; omega) | decide +kernel) ?_ | refine GDraw_one (by decide +kernel) ?_ | refine New.mk fun _ => ?_ | refine NewS.mk fun _ _ => ?_)
    exact Fin.val (hT.2 hl) rfl (Hle.refl _)
instance ar_at {L R : List HP} {id : Int} [p : PickAr L b most ss R] : CallT Tryz.prog 141 [.pointer (some ⟨b, 0, none⟩), vI id] h L (ss.length ≤ 4294967296) R
    (fun K => (¬ liveP ss id → K (.tuple [.agg [.bool false, vI 0, vI 0, vI 0, vI 0, vI 0, vI 0, vI 0, vI 0, vI 0, .bool false, vI 0, .bool false, vI 0, .bool false, vI 0, .bool false, vI 0, .bool false, vI 0, .bool false, vI 0, .bool false, vI 0, .bool false].toArray, vI 10].toArray) h [arH b most ss]) ∧
      (liveP ss id → K (.tuple [.agg [.bool (ss[(id - 1).toNat]!).n.leaf, vI ((ss[(id - 1).toNat]!).n.k 0), vI ((ss[(id - 1).toNat]!).n.k 1), vI ((ss[(id - 1).toNat]!).n.k 2), vI ((ss[(id - 1).toNat]!).n.k 3), vI ((ss[(id - 1).toNat]!).n.k 4), vI ((ss[(id - 1).toNat]!).n.k 5), vI ((ss[(id - 1).toNat]!).n.k 6), vI ((ss[(id - 1).toNat]!).n.k 7), vI ((ss[(id - 1).toNat]!).n.v 0), .bool ((ss[(id - 1).toNat]!).n.h 0), vI ((ss[(id - 1).toNat]!).n.v 1), .bool ((ss[(id - 1).toNat]!).n.h 1), vI ((ss[(id - 1).toNat]!).n.v 2), .bool ((ss[(id - 1).toNat]!).n.h 2), vI ((ss[(id - 1).toNat]!).n.v 3), .bool ((ss[(id - 1).toNat]!).n.h 3), vI ((ss[(id - 1).toNat]!).n.v 4), .bool ((ss[(id - 1).toNat]!).n.h 4), vI ((ss[(id - 1).toNat]!).n.v 5), .bool ((ss[(id - 1).toNat]!).n.h 5), vI ((ss[(id - 1).toNat]!).n.v 6), .bool ((ss[(id - 1).toNat]!).n.h 6), vI ((ss[(id - 1).toNat]!).n.v 7), .bool ((ss[(id - 1).toNat]!).n.h 7)].toArray, vI 0].toArray) h [arH b most ss])) := ⟨fun hs => spec_ar (arat_spec hs)⟩
theorem arused_spec (hsz : ss.length ≤ 4294967296) : Spec Tryz.prog 167 [.pointer (some ⟨b, 0, none⟩)] h [arH b most ss] (fun K => K (vI ss.length) h [arH b most ss]) := by
  refine spec_enter Tryz.func167 rfl Tryz.ntmps167 Tryz.results167 (by simp) fun K R hT => ?_
  refine G_ar b fun ea ec => ?_
  haveI := foldAr (h := h) (b := b) (most := most) (ss := ss) (a := ea) (c := ec)
  repeat' (first | refine Step.imp ?_ | refine Side.mk (by first | exact True.intro | omega | exact ⟨trivial, rfl⟩ | exact ⟨by omega, trivial, rfl⟩ | exact ⟨by omega, rfl⟩ | exact ⟨by omega, by omega, rfl⟩ | (simp only [List.length_cons, List.length_nil, List.length_append]; done) | (simp only [List.length_cons, List.length_nil, List.length_append]; omega) | decide +kernel) ?_ | refine GDraw_one (by decide +kernel) ?_ | refine New.mk fun _ => ?_ | refine NewS.mk fun _ _ => ?_ | refine Ways.mk (fun _ => ?_) (fun _ => ?_))
  all_goals first | (exfalso; contradiction) | exact Fin.val hT (by simp) (Hle.refl _)
instance ar_used {L R : List HP} [p : PickAr L b most ss R] : CallT Tryz.prog 167 [.pointer (some ⟨b, 0, none⟩)] h L (ss.length ≤ 4294967296) R (fun K => K (vI ss.length) h [arH b most ss]) := ⟨fun hs => spec_ar (arused_spec hs)⟩
/-- A node is asked for once more. -/
@[reducible] def incR (ss : List Slt) (i : Nat) : List Slt := ss.set i ⟨(ss[i]!).n, (ss[i]!).refs + 1⟩
theorem incR_len (ss : List Slt) (i : Nat) : (incR ss i).length = ss.length := by unfold incR; exact List.length_set
theorem incR_get {ss : List Slt} {i j : Nat} (hj : j < ss.length) : ((incR ss i)[j]!).n = (ss[j]!).n ∧ ((incR ss i)[j]!).refs = (ss[j]!).refs + (if i = j then 1 else 0) := by
  unfold incR
  rw [set_get_st hj]
  by_cases e : i = j
  · subst e; rw [if_pos rfl]; exact ⟨rfl, by rw [if_pos rfl]⟩
  · rw [if_neg e]; exact ⟨rfl, by rw [if_neg e, Int.add_zero]⟩
def RefOk (ss : List Slt) : Prop := ss.length ≤ 4294967296 ∧ ∀ i < ss.length, 0 ≤ (ss[i]!).refs ∧ (ss[i]!).refs ≤ 4611686018427387904
theorem arkeep_spec {id : Int} (hsz : RefOk ss) : Spec Tryz.prog 118 [.pointer (some ⟨b, 0, none⟩), vI id] h [arH b most ss]
    (fun K => (¬ liveP ss id → K (vI 10) h [arH b most ss]) ∧ (liveP ss id → K (vI 0) h [arH b most (incR ss (id - 1).toNat)])) := by
  refine spec_enter Tryz.func118 rfl Tryz.ntmps118 Tryz.results118 (by simp) fun K R hT => ?_
  obtain ⟨hs1, hs2⟩ := hsz
  refine G_ar b fun ea ec => ?_
  repeat (first | refine Step.imp ?_ | refine Side.mk (by first | exact True.intro | omega | exact ⟨trivial, rfl⟩ | exact ⟨by omega, trivial, rfl⟩ | exact ⟨by omega, rfl⟩ | exact ⟨by omega, by omega, rfl⟩ | (simp only [List.length_cons, List.length_nil, List.length_append]; done) | (simp only [List.length_cons, List.length_nil, List.length_append]; omega) | decide +kernel) ?_ | refine GDraw_one (by decide +kernel) ?_ | refine New.mk fun _ => ?_ | refine NewS.mk fun _ _ => ?_)
  refine ⟨fun hno => ?_, fun hl => ?_⟩
  · haveI := foldAr (h := h) (b := b) (most := most) (ss := ss) (a := ea) (c := ec)
    repeat (first | refine Step.imp ?_ | refine Side.mk (by first | exact True.intro | omega | exact ⟨trivial, rfl⟩ | exact ⟨by omega, trivial, rfl⟩ | exact ⟨by omega, rfl⟩ | exact ⟨by omega, by omega, rfl⟩ | (simp only [List.length_cons, List.length_nil, List.length_append]; done) | (simp only [List.length_cons, List.length_nil, List.length_append]; omega) | decide +kernel) ?_ | refine GDraw_one (by decide +kernel) ?_ | refine New.mk fun _ => ?_ | refine NewS.mk fun _ _ => ?_)
    exact Fin.val (hT.1 hno) rfl (Hle.refl _)
  · have h1 := hl.1
    have h2 := hs2 (id - 1).toNat (by omega)
    haveI : ∀ x, Is (ss.set (id - 1).toNat x).length ss.length := fun x => ⟨List.length_set⟩
    haveI := fun ss' => foldAr (h := h) (b := b) (most := most) (ss := ss') (a := ea) (c := ec)
    repeat (first | refine Step.imp ?_ | refine Side.mk (by first | exact True.intro | omega | exact ⟨trivial, rfl⟩ | exact ⟨by omega, trivial, rfl⟩ | exact ⟨by omega, rfl⟩ | exact ⟨by omega, by omega, rfl⟩ | (simp only [List.length_cons, List.length_nil, List.length_append]; done) | (simp only [List.length_cons, List.length_nil, List.length_append]; omega) | decide +kernel) ?_ | refine GDraw_one (by decide +kernel) ?_ | refine New.mk fun _ => ?_ | refine NewS.mk fun _ _ => ?_)
    exact Fin.val (hT.2 hl) rfl (Hle.refl _)
instance ar_keep {L R : List HP} {id : Int} [p : PickAr L b most ss R] : CallT Tryz.prog 118 [.pointer (some ⟨b, 0, none⟩), vI id] h L (RefOk ss) R
    (fun K => (¬ liveP ss id → K (vI 10) h [arH b most ss]) ∧ (liveP ss id → K (vI 0) h [arH b most (incR ss (id - 1).toNat)])) := ⟨fun hs => spec_ar (arkeep_spec hs)⟩
theorem arplace_spec (hsz : ss.length ≤ 4294967295) : Spec Tryz.prog 168 [.pointer (some ⟨b, 0, none⟩)] h [arH b most ss] (fun K => K (vI (ss.length + 1)) h [arH b most (ss ++ [⟨⟨false, fun _ => 0, fun _ => 0, fun _ => false⟩, 0⟩])]) := by
  refine spec_enter Tryz.func168 rfl Tryz.ntmps168 Tryz.results168 (by simp) fun K R hT => ?_
  refine G_ar b fun ea ec => ?_
  haveI : ∀ x : Slt, Is (ss ++ [x]).length (ss.length + 1) := fun x => ⟨by simp⟩
  haveI := fun ss' a c => foldAr (h := h) (b := b) (most := most) (ss := ss') (a := a) (c := c)
  repeat (first | refine Step.imp ?_ | refine Side.mk (by first | exact True.intro | omega | exact ⟨trivial, rfl⟩ | exact ⟨by omega, trivial, rfl⟩ | exact ⟨by omega, rfl⟩ | exact ⟨by omega, by omega, rfl⟩ | (simp only [List.length_cons, List.length_nil, List.length_append]; done) | (simp only [List.length_cons, List.length_nil, List.length_append]; omega) | decide +kernel) ?_ | refine GDraw_one (by decide +kernel) ?_ | refine New.mk fun _ => ?_ | refine NewS.mk fun _ _ => ?_)
  exact Fin.val hT (by simp) (Hle.refl _)
instance ar_place {L R : List HP} [p : PickAr L b most ss R] : CallT Tryz.prog 168 [.pointer (some ⟨b, 0, none⟩)] h L (ss.length ≤ 4294967295) R (fun K => K (vI (ss.length + 1)) h [arH b most (ss ++ [⟨⟨false, fun _ => 0, fun _ => 0, fun _ => false⟩, 0⟩])]) := ⟨fun hs => spec_ar (arplace_spec hs)⟩
/-! ### Unfolded -/
instance ar_usedB {L : List HP} {a : Option Addr} {n c : Nat} [p : Rdb L h b (.cells [vI most, .slice a n c, .slice none 0 0].toArray 119 (0, 0))] [q : Rds L h (.slice a n c) encSt 26 ss] [hn : Is ss.length n] : CallX Tryz.prog 167 [.pointer (some ⟨b, 0, none⟩)] h L (n ≤ 4294967296) (fun K => K (vI ss.length) h []) := ⟨fun hs => by
  have hnn := hn.eq
  refine spec_enter Tryz.func167 rfl Tryz.ntmps167 Tryz.results167 (by simp) fun K R hT => ?_
  repeat' (first | refine Step.imp ?_ | refine Side.mk (by first | exact True.intro | omega | exact ⟨trivial, rfl⟩ | exact ⟨by omega, trivial, rfl⟩ | exact ⟨by omega, rfl⟩ | exact ⟨by omega, by omega, rfl⟩ | (simp only [List.length_cons, List.length_nil, List.length_append]; done) | (simp only [List.length_cons, List.length_nil, List.length_append]; omega) | decide +kernel) ?_ | refine GDraw_one (by decide +kernel) ?_ | refine New.mk fun _ => ?_ | refine NewS.mk fun _ _ => ?_ | refine Ways.mk (fun _ => ?_) (fun _ => ?_))
  all_goals first | (exfalso; contradiction) | exact Fin.val hT (by simp) (Hle.refl _)⟩
theorem arplace_specB {a : Option Addr} {c : Nat} (hsz : ss.length ≤ 4294967295) : Spec Tryz.prog 168 [.pointer (some ⟨b, 0, none⟩)] h [arB b most (.slice a ss.length c), slo encSt 26 (.slice a ss.length c) ss]
    (fun K => ∀ a' c', K (vI (ss.length + 1)) h [arB b most (.slice a' (ss.length + 1) c'), slo encSt 26 (.slice a' (ss.length + 1) c') (ss ++ [⟨⟨false, fun _ => 0, fun _ => 0, fun _ => false⟩, 0⟩])]) := by
  refine spec_enter Tryz.func168 rfl Tryz.ntmps168 Tryz.results168 (by simp) fun K R hT => ?_
  repeat (first | refine Step.imp ?_ | refine Side.mk (by first | exact True.intro | omega | exact ⟨trivial, rfl⟩ | exact ⟨by omega, trivial, rfl⟩ | exact ⟨by omega, rfl⟩ | exact ⟨by omega, by omega, rfl⟩ | (simp only [List.length_cons, List.length_nil, List.length_append]; done) | (simp only [List.length_cons, List.length_nil, List.length_append]; omega) | decide +kernel) ?_ | refine GDraw_one (by decide +kernel) ?_ | refine New.mk fun _ => ?_ | refine NewS.mk fun _ _ => ?_)
  rename_i zb a' c'
  exact Fin.val (hT a' c') (by simp) (Hle.refl _)
instance (priority := low) ar_placeB {L R : List HP} {a : Option Addr} {c : Nat} [p : PickA2 L b most a c ss R] : CallT Tryz.prog 168 [.pointer (some ⟨b, 0, none⟩)] h L (ss.length ≤ 4294967295) R
    (fun K => ∀ a' c', K (vI (ss.length + 1)) h [arB b most (.slice a' (ss.length + 1) c'), slo encSt 26 (.slice a' (ss.length + 1) c') (ss ++ [⟨⟨false, fun _ => 0, fun _ => 0, fun _ => false⟩, 0⟩])]) := ⟨fun hs => ⟨[arB b most (.slice a ss.length c), slo encSt 26 (.slice a ss.length c) ss], p.eq, arplace_specB hs⟩⟩
end
end Go.Sl

/-
  The arena in memory: a node more.
-/
namespace Go.Sl
open Go.Proofs
set_option linter.unusedVariables false
set_option linter.unusedSimpArgs false
set_option maxRecDepth 10000
set_option synthInstance.maxSize 2000
set_option synthInstance.maxHeartbeats 200000
set_option maxHeartbeats 1000000
def bumpTo (ss : List Slt) (f : Nat → Int) : Nat → List Slt
  | 0 => ss
  | i + 1 => if liveP (bumpTo ss f i) (f i) then incR (bumpTo ss f i) (f i - 1).toNat else bumpTo ss f i
theorem app_get {ss : List Slt} {x : Slt} {i : Nat} (hi : i < ss.length) : (ss ++ [x])[i]! = ss[i]! := by
  rw [getElem!_pos _ i (by simp; omega), getElem!_pos ss i hi, List.getElem_append_left]
theorem app_last (ss : List Slt) (x : Slt) : (ss ++ [x])[ss.length]! = x := by
  rw [getElem!_pos _ ss.length (by simp)]; simp
theorem bumpTo_ok {ss : List Slt} {B : Int} (h : ArInv ss B) {f : Nat → Int} (hk : ∀ j < 8, 0 ≤ f j ∧ f j ≤ ss.length) (x : Slt) : ∀ i ≤ 8,
    (bumpTo (ss ++ [x]) f i).length = ss.length + 1 ∧ (bumpTo (ss ++ [x]) f i)[ss.length]! = x ∧
      ∀ t < ss.length, ((bumpTo (ss ++ [x]) f i)[t]!).n = (ss[t]!).n ∧ (ss[t]!).refs ≤ ((bumpTo (ss ++ [x]) f i)[t]!).refs ∧ ((bumpTo (ss ++ [x]) f i)[t]!).refs ≤ (ss[t]!).refs + i ∧ ((∃ j < i, f j = (t : Int) + 1) → (ss[t]!).refs + 1 ≤ ((bumpTo (ss ++ [x]) f i)[t]!).refs)
  | 0, _ => by
    refine ⟨by simp [bumpTo], app_last ss x, fun t ht => ?_⟩
    simp only [bumpTo]
    rw [app_get ht]
    exact ⟨rfl, Int.le_refl _, by omega, fun ⟨j, hj, _⟩ => by omega⟩
  | i + 1, hi => by
    obtain ⟨i1, i2, i3⟩ := bumpTo_ok h hk x i (by omega)
    have hki := hk i (by omega)
    simp only [bumpTo]
    split
    · rename_i hl
      refine ⟨by rw [incR_len]; exact i1, ?_, fun t ht => ?_⟩
      · unfold incR
        rw [set_get_st (by omega), if_neg (by have := hl.1; omega)]; exact i2
      · have a := incR_get (ss := bumpTo (ss ++ [x]) f i) (i := (f i - 1).toNat) (j := t) (by omega)
        have c := i3 t ht
        rw [a.1, a.2]
        refine ⟨c.1, ?_, ?_, ?_⟩
        · split <;> omega
        · split <;> omega
        · rintro ⟨j, hj, hf⟩
          rcases Nat.lt_or_ge j i with h1 | h1
          · have := c.2.2.2 ⟨j, h1, hf⟩
            split <;> omega
          · have : j = i := by omega
            subst this
            rw [if_pos (by omega)]; omega
    · rename_i hl
      refine ⟨i1, i2, fun t ht => ?_⟩
      have c := i3 t ht
      refine ⟨c.1, c.2.1, by omega, ?_⟩
      rintro ⟨j, hj, hf⟩
      rcases Nat.lt_or_ge j i with h1 | h1
      · exact c.2.2.2 ⟨j, h1, hf⟩
      · have : j = i := by omega
        subst this
        exfalso
        refine hl ⟨by omega, ?_⟩
        rw [show (f j - 1).toNat = t by omega]
        have := (h t ht).1
        omega
theorem set_last (ss : List Slt) (x y : Slt) : (ss ++ [x]).set ss.length y = ss ++ [y] := by
  rw [List.set_append_right _ _ (Nat.le_refl _), Nat.sub_self]; rfl
theorem bumpTo_zero (ss : List Slt) : ∀ i, bumpTo ss (fun _ => 0) i = ss
  | 0 => rfl
  | i + 1 => by
    simp only [bumpTo]
    rw [bumpTo_zero ss i, if_neg (fun hl => by have := hl.1.1; omega)]
section
variable {h : PHeap} {b : Nat} {most : Int} {ss : List Slt} {B : Int} {l : Bool} {f g : Nat → Int} {hh : Nat → Bool}
theorem armake_spec (hi : ArInv ss B) (hB : 0 ≤ B ∧ B ≤ 1152921504606846976) (hlt : ss.length < most ∧ most ≤ 20000) (hk : ∀ j < 8, 0 ≤ f j ∧ f j ≤ ss.length) : Spec Tryz.prog 148 [.pointer (some ⟨b, 0, none⟩), .agg [.bool l, vI (f 0), vI (f 1), vI (f 2), vI (f 3), vI (f 4), vI (f 5), vI (f 6), vI (f 7), vI (g 0), .bool (hh 0), vI (g 1), .bool (hh 1), vI (g 2), .bool (hh 2), vI (g 3), .bool (hh 3), vI (g 4), .bool (hh 4), vI (g 5), .bool (hh 5), vI (g 6), .bool (hh 6), vI (g 7), .bool (hh 7)].toArray] h [arH b most ss]
    (fun K => ∀ ss', MadeR ss ⟨l, f, g, hh⟩ ss' → K (.tuple [vI ss'.length, vI 0].toArray) h [arH b most ss']) := by
  refine spec_enter Tryz.func148 rfl Tryz.ntmps148 Tryz.results148 (by simp) fun K R hT => ?_
  have hsz : ss.length ≤ 20000 := by omega
  refine G_ar b fun ea ec => ?_
  cases l with
  | true =>
    haveI hst := stopB Tryz.prog 0
    repeat (first | refine Step.imp ?_ | refine Side.mk (by first | exact True.intro | omega | exact ⟨trivial, rfl⟩ | exact ⟨by omega, trivial, rfl⟩ | exact ⟨by omega, rfl⟩ | exact ⟨by omega, by omega, rfl⟩ | (simp only [List.length_cons, List.length_nil, List.length_append]; done) | (simp only [List.length_cons, List.length_nil, List.length_append]; omega) | decide +kernel) ?_ | refine GDraw_one (by decide +kernel) ?_ | refine New.mk fun _ => ?_ | refine NewS.mk fun _ _ => ?_)
    rename_i nb
    refine StopB.go ?_
    clear hst
    refine G_mid (σ := Unit) (fun _ => True) (fun _ => [(0, .pointer (some ⟨b, 0, none⟩)), (3, .pointer (some ⟨nb, 0, none⟩))]) (fun _ => h) (fun _ => blk nb (.cells [.bool true, vI 0, vI 0, vI 0, vI 0, vI 0, vI 0, vI 0, vI 0, vI (g 0), .bool (hh 0), vI (g 1), .bool (hh 1), vI (g 2), .bool (hh 2), vI (g 3), .bool (hh 3), vI (g 4), .bool (hh 4), vI (g 5), .bool (hh 5), vI (g 6), .bool (hh 6), vI (g 7), .bool (hh 7)].toArray 201 (0, 0)) :: arB b most (.slice ea ss.length ec) :: slo encSt 26 (.slice ea ss.length ec) ss :: R) ?_ ?_
    · repeat (first | refine Step.imp ?_ | refine Side.mk (by first | exact True.intro | omega | exact ⟨trivial, rfl⟩ | exact ⟨by omega, trivial, rfl⟩ | exact ⟨by omega, rfl⟩ | exact ⟨by omega, by omega, rfl⟩ | (simp only [List.length_cons, List.length_nil, List.length_append]; done) | (simp only [List.length_cons, List.length_nil, List.length_append]; omega) | decide +kernel) ?_ | refine GDraw_one (by decide +kernel) ?_ | refine New.mk fun _ => ?_ | refine NewS.mk fun _ _ => ?_)
      refine G_loopE (σ := Nat) (fun i => i ≤ 8) (fun i => 8 - i) (fun i => [(22, vI i), (21, .agg [vI 0, vI 0, vI 0, vI 0, vI 0, vI 0, vI 0, vI 0].toArray), (0, .pointer (some ⟨b, 0, none⟩)), (3, .pointer (some ⟨nb, 0, none⟩))]) 0 (by omega) ⟨rfl, rfl, rfl, rfl, trivial⟩ ?_
      intro i hi8
      by_cases hib : i < 8
      · haveI : Known ((i : Int) < 8) := ⟨by omega⟩
        have hki := hk i hib
        repeat' (first | refine Step.imp ?_ | refine Side.mk (by first | exact True.intro | omega | exact ⟨trivial, rfl⟩ | exact ⟨by omega, trivial, rfl⟩ | exact ⟨by omega, rfl⟩ | exact ⟨by omega, by omega, rfl⟩ | (simp only [List.length_cons, List.length_nil, List.length_append]; done) | (simp only [List.length_cons, List.length_nil, List.length_append]; omega) | decide +kernel) ?_ | refine GDraw_one (by decide +kernel) ?_ | refine New.mk fun _ => ?_ | refine NewS.mk fun _ _ => ?_ | refine Ways.mk (fun _ => ?_) (fun _ => ?_))
        all_goals first | (exfalso; contradiction) | (exfalso; omega) | exact X_roundE (i + 1) (by omega) (by omega) ⟨rfl, rfl, rfl, rfl, trivial⟩ inferInstance
      · haveI : Known (¬ (i : Int) < 8) := ⟨by omega⟩
        repeat (first | refine Step.imp ?_ | refine Side.mk (by first | exact True.intro | omega | exact ⟨trivial, rfl⟩ | exact ⟨by omega, trivial, rfl⟩ | exact ⟨by omega, rfl⟩ | exact ⟨by omega, by omega, rfl⟩ | (simp only [List.length_cons, List.length_nil, List.length_append]; done) | (simp only [List.length_cons, List.length_nil, List.length_append]; omega) | decide +kernel) ?_ | refine GDraw_one (by decide +kernel) ?_ | refine New.mk fun _ => ?_ | refine NewS.mk fun _ _ => ?_)
        exact X_mid () trivial ⟨rfl, rfl, trivial⟩ rfl inferInstance
    rintro ⟨⟩ _
    haveI : Known (¬ (most ≤ (ss.length : Int))) := ⟨by omega⟩
    haveI hst := stopB Tryz.prog 2
    repeat (first | refine Step.imp ?_ | refine Side.mk (by first | exact True.intro | omega | exact ⟨trivial, rfl⟩ | exact ⟨by omega, trivial, rfl⟩ | exact ⟨by omega, rfl⟩ | exact ⟨by omega, by omega, rfl⟩ | (simp only [List.length_cons, List.length_nil, List.length_append]; done) | (simp only [List.length_cons, List.length_nil, List.length_append]; omega) | decide +kernel) ?_ | refine GDraw_one (by decide +kernel) ?_ | refine New.mk fun _ => ?_ | refine NewS.mk fun _ _ => ?_)
    intro fa fc
    haveI : ∀ x : Slt, Is (ss ++ [x]).length (ss.length + 1) := fun x => ⟨by simp⟩
    repeat (first | refine Step.imp ?_ | refine Side.mk (by first | exact True.intro | omega | exact ⟨trivial, rfl⟩ | exact ⟨by omega, trivial, rfl⟩ | exact ⟨by omega, rfl⟩ | exact ⟨by omega, by omega, rfl⟩ | (simp only [List.length_cons, List.length_nil, List.length_append]; done) | (simp only [List.length_cons, List.length_nil, List.length_append]; omega) | decide +kernel) ?_ | refine GDraw_one (by decide +kernel) ?_ | refine New.mk fun _ => ?_ | refine NewS.mk fun _ _ => ?_)
    refine Side.mk ⟨by simp, trivial, rfl⟩ ?_
    haveI : ∀ x y : Slt, Is ((ss ++ [x]).set ss.length y).length (ss.length + 1) := fun x y => ⟨by simp⟩
    repeat (first | refine Step.imp ?_ | refine Side.mk (by first | exact True.intro | omega | exact ⟨trivial, rfl⟩ | exact ⟨by omega, trivial, rfl⟩ | exact ⟨by omega, rfl⟩ | exact ⟨by omega, by omega, rfl⟩ | (simp only [List.length_cons, List.length_nil, List.length_append]; done) | (simp only [List.length_cons, List.length_nil, List.length_append]; omega) | decide +kernel) ?_ | refine GDraw_one (by decide +kernel) ?_ | refine New.mk fun _ => ?_ | refine NewS.mk fun _ _ => ?_)
    rw [set_last]
    refine StopB.go ?_
    clear hst
    have hbk := bumpTo_ok hi (f := (fun _ => 0)) (by intro j hj; exact ⟨Int.le_refl _, by omega⟩) (⟨⟨true, fun _ => 0, g, hh⟩, 1⟩ : Slt)
    haveI : ∀ i : Nat, i ≤ 8 → Is (bumpTo (ss ++ [(⟨⟨true, fun _ => 0, g, hh⟩, 1⟩ : Slt)]) (fun _ => 0) i).length (ss.length + 1) := fun i h8 => ⟨(hbk i h8).1⟩
    repeat (first | refine Step.imp ?_ | refine Side.mk (by first | exact True.intro | omega | exact ⟨trivial, rfl⟩ | exact ⟨by omega, trivial, rfl⟩ | exact ⟨by omega, rfl⟩ | exact ⟨by omega, by omega, rfl⟩ | (simp only [List.length_cons, List.length_nil, List.length_append]; done) | (simp only [List.length_cons, List.length_nil, List.length_append]; omega) | decide +kernel) ?_ | refine GDraw_one (by decide +kernel) ?_ | refine New.mk fun _ => ?_ | refine NewS.mk fun _ _ => ?_)
    refine G_loop (σ := Nat) (fun i => i ≤ 8) (fun i => 8 - i) (fun i => [(54, vI i), (53, .agg [vI 0, vI 0, vI 0, vI 0, vI 0, vI 0, vI 0, vI 0].toArray), (0, .pointer (some ⟨b, 0, none⟩)), (8, vI ((ss.length : Int) + 1))]) (fun _ => h) (fun i => arB b most (.slice fa (ss.length + 1) fc) :: slo encSt 26 (.slice fa (ss.length + 1) fc) (bumpTo (ss ++ [(⟨⟨true, fun _ => 0, g, hh⟩, 1⟩ : Slt)]) (fun _ => 0) i) :: R) 0 (by omega) ⟨rfl, rfl, rfl, rfl, trivial⟩ rfl (by show Sub _ (arB b most (.slice fa (ss.length + 1) fc) :: slo encSt 26 (.slice fa (ss.length + 1) fc) (ss ++ [(⟨⟨true, fun _ => 0, g, hh⟩, 1⟩ : Slt)]) :: R); infer_instance) ?_
    intro i hi8
    have hb := hbk i hi8
    haveI : Is (bumpTo (ss ++ [(⟨⟨true, fun _ => 0, g, hh⟩, 1⟩ : Slt)]) (fun _ => 0) i).length (ss.length + 1) := ⟨hb.1⟩
    by_cases hib : i < 8
    · haveI : Known ((i : Int) < 8) := ⟨by omega⟩
      repeat (first | refine Step.imp ?_ | refine Side.mk (by first | exact True.intro | omega | exact ⟨trivial, rfl⟩ | exact ⟨by omega, trivial, rfl⟩ | exact ⟨by omega, rfl⟩ | exact ⟨by omega, by omega, rfl⟩ | (simp only [List.length_cons, List.length_nil, List.length_append]; done) | (simp only [List.length_cons, List.length_nil, List.length_append]; omega) | decide +kernel) ?_ | refine GDraw_one (by decide +kernel) ?_ | refine New.mk fun _ => ?_ | refine NewS.mk fun _ _ => ?_)
      refine ⟨fun hno => ?_, fun hl => ?_⟩
      · have e2 : bumpTo (ss ++ [(⟨⟨true, fun _ => 0, g, hh⟩, 1⟩ : Slt)]) (fun _ => 0) (i + 1) = bumpTo (ss ++ [(⟨⟨true, fun _ => 0, g, hh⟩, 1⟩ : Slt)]) (fun _ => 0) i := if_neg hno
        repeat (first | refine Step.imp ?_ | refine Side.mk (by first | exact True.intro | omega | exact ⟨trivial, rfl⟩ | exact ⟨by omega, trivial, rfl⟩ | exact ⟨by omega, rfl⟩ | exact ⟨by omega, by omega, rfl⟩ | (simp only [List.length_cons, List.length_nil, List.length_append]; done) | (simp only [List.length_cons, List.length_nil, List.length_append]; omega) | decide +kernel) ?_ | refine GDraw_one (by decide +kernel) ?_ | refine New.mk fun _ => ?_ | refine NewS.mk fun _ _ => ?_)
        refine X_round (i + 1) (by omega) (by omega) ⟨rfl, rfl, rfl, rfl, trivial⟩ rfl (by show Sub _ (arB b most (.slice fa (ss.length + 1) fc) :: slo encSt 26 (.slice fa (ss.length + 1) fc) (bumpTo (ss ++ [(⟨⟨true, fun _ => 0, g, hh⟩, 1⟩ : Slt)]) (fun _ => 0) (i + 1)) :: R); rw [e2]; infer_instance)
      · exact absurd hl.1.1 (by decide)
    · haveI : Known (¬ (i : Int) < 8) := ⟨by omega⟩
      have : i = 8 := by omega
      subst this
      haveI := fun ss' => foldAr (h := h) (b := b) (most := most) (ss := ss') (a := fa) (c := fc)
      repeat (first | refine Step.imp ?_ | refine Side.mk (by first | exact True.intro | omega | exact ⟨trivial, rfl⟩ | exact ⟨by omega, trivial, rfl⟩ | exact ⟨by omega, rfl⟩ | exact ⟨by omega, by omega, rfl⟩ | (simp only [List.length_cons, List.length_nil, List.length_append]; done) | (simp only [List.length_cons, List.length_nil, List.length_append]; omega) | decide +kernel) ?_ | refine GDraw_one (by decide +kernel) ?_ | refine New.mk fun _ => ?_ | refine NewS.mk fun _ _ => ?_)
      refine Fin.val (hT _ ⟨hb.1, fun t ht => ⟨(hb.2.2 t ht).1, (hb.2.2 t ht).2.1, (hb.2.2 t ht).2.2.1, fun ⟨j, hj, hjk⟩ hlf => by cases hlf⟩, by rw [hb.2.1], by rw [hb.2.1]; rfl⟩) (by rw [hb.1]; rfl) (Hle.refl _)
  | false =>
    haveI hst := stopB Tryz.prog 0
    repeat (first | refine Step.imp ?_ | refine Side.mk (by first | exact True.intro | omega | exact ⟨trivial, rfl⟩ | exact ⟨by omega, trivial, rfl⟩ | exact ⟨by omega, rfl⟩ | exact ⟨by omega, by omega, rfl⟩ | (simp only [List.length_cons, List.length_nil, List.length_append]; done) | (simp only [List.length_cons, List.length_nil, List.length_append]; omega) | decide +kernel) ?_ | refine GDraw_one (by decide +kernel) ?_ | refine New.mk fun _ => ?_ | refine NewS.mk fun _ _ => ?_)
    rename_i nb
    refine StopB.go ?_
    clear hst
    refine G_mid (σ := Unit) (fun _ => True) (fun _ => [(0, .pointer (some ⟨b, 0, none⟩)), (3, .pointer (some ⟨nb, 0, none⟩))]) (fun _ => h) (fun _ => blk nb (.cells [.bool false, vI (f 0), vI (f 1), vI (f 2), vI (f 3), vI (f 4), vI (f 5), vI (f 6), vI (f 7), vI 0, .bool false, vI 0, .bool false, vI 0, .bool false, vI 0, .bool false, vI 0, .bool false, vI 0, .bool false, vI 0, .bool false, vI 0, .bool false].toArray 201 (0, 0)) :: arB b most (.slice ea ss.length ec) :: slo encSt 26 (.slice ea ss.length ec) ss :: R) ?_ ?_
    · repeat (first | refine Step.imp ?_ | refine Side.mk (by first | exact True.intro | omega | exact ⟨trivial, rfl⟩ | exact ⟨by omega, trivial, rfl⟩ | exact ⟨by omega, rfl⟩ | exact ⟨by omega, by omega, rfl⟩ | (simp only [List.length_cons, List.length_nil, List.length_append]; done) | (simp only [List.length_cons, List.length_nil, List.length_append]; omega) | decide +kernel) ?_ | refine GDraw_one (by decide +kernel) ?_ | refine New.mk fun _ => ?_ | refine NewS.mk fun _ _ => ?_)
      refine G_loopE (σ := Nat) (fun i => i ≤ 8) (fun i => 8 - i) (fun i => [(22, vI i), (21, .agg [vI (f 0), vI (f 1), vI (f 2), vI (f 3), vI (f 4), vI (f 5), vI (f 6), vI (f 7)].toArray), (0, .pointer (some ⟨b, 0, none⟩)), (3, .pointer (some ⟨nb, 0, none⟩))]) 0 (by omega) ⟨rfl, rfl, rfl, rfl, trivial⟩ ?_
      intro i hi8
      by_cases hib : i < 8
      · haveI : Known ((i : Int) < 8) := ⟨by omega⟩
        have hki := hk i hib
        by_cases hz : f i = 0
        · repeat' (first | refine Step.imp ?_ | refine Side.mk (by first | exact True.intro | omega | exact ⟨trivial, rfl⟩ | exact ⟨by omega, trivial, rfl⟩ | exact ⟨by omega, rfl⟩ | exact ⟨by omega, by omega, rfl⟩ | (simp only [List.length_cons, List.length_nil, List.length_append]; done) | (simp only [List.length_cons, List.length_nil, List.length_append]; omega) | decide +kernel) ?_ | refine GDraw_one (by decide +kernel) ?_ | refine New.mk fun _ => ?_ | refine NewS.mk fun _ _ => ?_ | refine Ways.mk (fun _ => ?_) (fun _ => ?_))
          all_goals first | (exfalso; contradiction) | (exfalso; omega) | exact X_roundE (i + 1) (by omega) (by omega) ⟨rfl, rfl, rfl, rfl, trivial⟩ inferInstance
        · have hlv := live_of hi (id := f i) (by omega) (by omega)
          haveI : Known (f i ≠ 0) := ⟨hz⟩
          repeat (first | refine Step.imp ?_ | refine Side.mk (by first | exact True.intro | omega | exact ⟨trivial, rfl⟩ | exact ⟨by omega, trivial, rfl⟩ | exact ⟨by omega, rfl⟩ | exact ⟨by omega, by omega, rfl⟩ | (simp only [List.length_cons, List.length_nil, List.length_append]; done) | (simp only [List.length_cons, List.length_nil, List.length_append]; omega) | decide +kernel) ?_ | refine GDraw_one (by decide +kernel) ?_ | refine New.mk fun _ => ?_ | refine NewS.mk fun _ _ => ?_)
          refine ⟨fun hno => absurd hlv hno, fun _ => ?_⟩
          repeat' (first | refine Step.imp ?_ | refine Side.mk (by first | exact True.intro | omega | exact ⟨trivial, rfl⟩ | exact ⟨by omega, trivial, rfl⟩ | exact ⟨by omega, rfl⟩ | exact ⟨by omega, by omega, rfl⟩ | (simp only [List.length_cons, List.length_nil, List.length_append]; done) | (simp only [List.length_cons, List.length_nil, List.length_append]; omega) | decide +kernel) ?_ | refine GDraw_one (by decide +kernel) ?_ | refine New.mk fun _ => ?_ | refine NewS.mk fun _ _ => ?_ | refine Ways.mk (fun _ => ?_) (fun _ => ?_))
          all_goals first | (exfalso; contradiction) | (exfalso; omega) | exact X_roundE (i + 1) (by omega) (by omega) ⟨rfl, rfl, rfl, rfl, trivial⟩ inferInstance
      · haveI : Known (¬ (i : Int) < 8) := ⟨by omega⟩
        repeat (first | refine Step.imp ?_ | refine Side.mk (by first | exact True.intro | omega | exact ⟨trivial, rfl⟩ | exact ⟨by omega, trivial, rfl⟩ | exact ⟨by omega, rfl⟩ | exact ⟨by omega, by omega, rfl⟩ | (simp only [List.length_cons, List.length_nil, List.length_append]; done) | (simp only [List.length_cons, List.length_nil, List.length_append]; omega) | decide +kernel) ?_ | refine GDraw_one (by decide +kernel) ?_ | refine New.mk fun _ => ?_ | refine NewS.mk fun _ _ => ?_)
        exact X_mid () trivial ⟨rfl, rfl, trivial⟩ rfl inferInstance
    rintro ⟨⟩ _
    haveI : Known (¬ (most ≤ (ss.length : Int))) := ⟨by omega⟩
    haveI hst := stopB Tryz.prog 2
    repeat (first | refine Step.imp ?_ | refine Side.mk (by first | exact True.intro | omega | exact ⟨trivial, rfl⟩ | exact ⟨by omega, trivial, rfl⟩ | exact ⟨by omega, rfl⟩ | exact ⟨by omega, by omega, rfl⟩ | (simp only [List.length_cons, List.length_nil, List.length_append]; done) | (simp only [List.length_cons, List.length_nil, List.length_append]; omega) | decide +kernel) ?_ | refine GDraw_one (by decide +kernel) ?_ | refine New.mk fun _ => ?_ | refine NewS.mk fun _ _ => ?_)
    intro fa fc
    haveI : ∀ x : Slt, Is (ss ++ [x]).length (ss.length + 1) := fun x => ⟨by simp⟩
    repeat (first | refine Step.imp ?_ | refine Side.mk (by first | exact True.intro | omega | exact ⟨trivial, rfl⟩ | exact ⟨by omega, trivial, rfl⟩ | exact ⟨by omega, rfl⟩ | exact ⟨by omega, by omega, rfl⟩ | (simp only [List.length_cons, List.length_nil, List.length_append]; done) | (simp only [List.length_cons, List.length_nil, List.length_append]; omega) | decide +kernel) ?_ | refine GDraw_one (by decide +kernel) ?_ | refine New.mk fun _ => ?_ | refine NewS.mk fun _ _ => ?_)
    refine Side.mk ⟨by simp, trivial, rfl⟩ ?_
    haveI : ∀ x y : Slt, Is ((ss ++ [x]).set ss.length y).length (ss.length + 1) := fun x y => ⟨by simp⟩
    repeat (first | refine Step.imp ?_ | refine Side.mk (by first | exact True.intro | omega | exact ⟨trivial, rfl⟩ | exact ⟨by omega, trivial, rfl⟩ | exact ⟨by omega, rfl⟩ | exact ⟨by omega, by omega, rfl⟩ | (simp only [List.length_cons, List.length_nil, List.length_append]; done) | (simp only [List.length_cons, List.length_nil, List.length_append]; omega) | decide +kernel) ?_ | refine GDraw_one (by decide +kernel) ?_ | refine New.mk fun _ => ?_ | refine NewS.mk fun _ _ => ?_)
    rw [set_last]
    refine StopB.go ?_
    clear hst
    have hbk := bumpTo_ok hi (f := f) hk (⟨⟨false, f, fun _ => 0, fun _ => false⟩, 1⟩ : Slt)
    haveI : ∀ i : Nat, i ≤ 8 → Is (bumpTo (ss ++ [(⟨⟨false, f, fun _ => 0, fun _ => false⟩, 1⟩ : Slt)]) f i).length (ss.length + 1) := fun i h8 => ⟨(hbk i h8).1⟩
    repeat (first | refine Step.imp ?_ | refine Side.mk (by first | exact True.intro | omega | exact ⟨trivial, rfl⟩ | exact ⟨by omega, trivial, rfl⟩ | exact ⟨by omega, rfl⟩ | exact ⟨by omega, by omega, rfl⟩ | (simp only [List.length_cons, List.length_nil, List.length_append]; done) | (simp only [List.length_cons, List.length_nil, List.length_append]; omega) | decide +kernel) ?_ | refine GDraw_one (by decide +kernel) ?_ | refine New.mk fun _ => ?_ | refine NewS.mk fun _ _ => ?_)
    refine G_loop (σ := Nat) (fun i => i ≤ 8) (fun i => 8 - i) (fun i => [(54, vI i), (53, .agg [vI (f 0), vI (f 1), vI (f 2), vI (f 3), vI (f 4), vI (f 5), vI (f 6), vI (f 7)].toArray), (0, .pointer (some ⟨b, 0, none⟩)), (8, vI ((ss.length : Int) + 1))]) (fun _ => h) (fun i => arB b most (.slice fa (ss.length + 1) fc) :: slo encSt 26 (.slice fa (ss.length + 1) fc) (bumpTo (ss ++ [(⟨⟨false, f, fun _ => 0, fun _ => false⟩, 1⟩ : Slt)]) f i) :: R) 0 (by omega) ⟨rfl, rfl, rfl, rfl, trivial⟩ rfl (by show Sub _ (arB b most (.slice fa (ss.length + 1) fc) :: slo encSt 26 (.slice fa (ss.length + 1) fc) (ss ++ [(⟨⟨false, f, fun _ => 0, fun _ => false⟩, 1⟩ : Slt)]) :: R); infer_instance) ?_
    intro i hi8
    have hb := hbk i hi8
    haveI : Is (bumpTo (ss ++ [(⟨⟨false, f, fun _ => 0, fun _ => false⟩, 1⟩ : Slt)]) f i).length (ss.length + 1) := ⟨hb.1⟩
    by_cases hib : i < 8
    · haveI : Known ((i : Int) < 8) := ⟨by omega⟩
      repeat (first | refine Step.imp ?_ | refine Side.mk (by first | exact True.intro | omega | exact ⟨trivial, rfl⟩ | exact ⟨by omega, trivial, rfl⟩ | exact ⟨by omega, rfl⟩ | exact ⟨by omega, by omega, rfl⟩ | (simp only [List.length_cons, List.length_nil, List.length_append]; done) | (simp only [List.length_cons, List.length_nil, List.length_append]; omega) | decide +kernel) ?_ | refine GDraw_one (by decide +kernel) ?_ | refine New.mk fun _ => ?_ | refine NewS.mk fun _ _ => ?_)
      refine ⟨fun hno => ?_, fun hl => ?_⟩
      · have e2 : bumpTo (ss ++ [(⟨⟨false, f, fun _ => 0, fun _ => false⟩, 1⟩ : Slt)]) f (i + 1) = bumpTo (ss ++ [(⟨⟨false, f, fun _ => 0, fun _ => false⟩, 1⟩ : Slt)]) f i := if_neg hno
        repeat (first | refine Step.imp ?_ | refine Side.mk (by first | exact True.intro | omega | exact ⟨trivial, rfl⟩ | exact ⟨by omega, trivial, rfl⟩ | exact ⟨by omega, rfl⟩ | exact ⟨by omega, by omega, rfl⟩ | (simp only [List.length_cons, List.length_nil, List.length_append]; done) | (simp only [List.length_cons, List.length_nil, List.length_append]; omega) | decide +kernel) ?_ | refine GDraw_one (by decide +kernel) ?_ | refine New.mk fun _ => ?_ | refine NewS.mk fun _ _ => ?_)
        refine X_round (i + 1) (by omega) (by omega) ⟨rfl, rfl, rfl, rfl, trivial⟩ rfl (by show Sub _ (arB b most (.slice fa (ss.length + 1) fc) :: slo encSt 26 (.slice fa (ss.length + 1) fc) (bumpTo (ss ++ [(⟨⟨false, f, fun _ => 0, fun _ => false⟩, 1⟩ : Slt)]) f (i + 1)) :: R); rw [e2]; infer_instance)
      · have e2 : bumpTo (ss ++ [(⟨⟨false, f, fun _ => 0, fun _ => false⟩, 1⟩ : Slt)]) f (i + 1) = incR (bumpTo (ss ++ [(⟨⟨false, f, fun _ => 0, fun _ => false⟩, 1⟩ : Slt)]) f i) (f i - 1).toNat := if_pos hl
        have h1 := hl.1
        have h0 := hk i hib
        have h2 := hb.2.2 (f i - 1).toNat (by omega)
        have h3 := hi (f i - 1).toNat (by omega)
        haveI : ∀ x, Is ((bumpTo (ss ++ [(⟨⟨false, f, fun _ => 0, fun _ => false⟩, 1⟩ : Slt)]) f i).set (f i - 1).toNat x).length (ss.length + 1) := fun x => ⟨by rw [List.length_set]; exact hb.1⟩
        repeat (first | refine Step.imp ?_ | refine Side.mk (by first | exact True.intro | omega | exact ⟨trivial, rfl⟩ | exact ⟨by omega, trivial, rfl⟩ | exact ⟨by omega, rfl⟩ | exact ⟨by omega, by omega, rfl⟩ | (simp only [List.length_cons, List.length_nil, List.length_append]; done) | (simp only [List.length_cons, List.length_nil, List.length_append]; omega) | decide +kernel) ?_ | refine GDraw_one (by decide +kernel) ?_ | refine New.mk fun _ => ?_ | refine NewS.mk fun _ _ => ?_)
        refine X_round (i + 1) (by omega) (by omega) ⟨rfl, rfl, rfl, rfl, trivial⟩ rfl (by show Sub _ (arB b most (.slice fa (ss.length + 1) fc) :: slo encSt 26 (.slice fa (ss.length + 1) fc) (bumpTo (ss ++ [(⟨⟨false, f, fun _ => 0, fun _ => false⟩, 1⟩ : Slt)]) f (i + 1)) :: R); rw [e2]; infer_instance)
    · haveI : Known (¬ (i : Int) < 8) := ⟨by omega⟩
      have : i = 8 := by omega
      subst this
      haveI := fun ss' => foldAr (h := h) (b := b) (most := most) (ss := ss') (a := fa) (c := fc)
      repeat (first | refine Step.imp ?_ | refine Side.mk (by first | exact True.intro | omega | exact ⟨trivial, rfl⟩ | exact ⟨by omega, trivial, rfl⟩ | exact ⟨by omega, rfl⟩ | exact ⟨by omega, by omega, rfl⟩ | (simp only [List.length_cons, List.length_nil, List.length_append]; done) | (simp only [List.length_cons, List.length_nil, List.length_append]; omega) | decide +kernel) ?_ | refine GDraw_one (by decide +kernel) ?_ | refine New.mk fun _ => ?_ | refine NewS.mk fun _ _ => ?_)
      refine Fin.val (hT _ ⟨hb.1, fun t ht => ⟨(hb.2.2 t ht).1, (hb.2.2 t ht).2.1, (hb.2.2 t ht).2.2.1, fun ⟨j, hj, hjk⟩ hlf => (hb.2.2 t ht).2.2.2 ⟨j, hj, hjk⟩⟩, by rw [hb.2.1], by rw [hb.2.1]; rfl⟩) (by rw [hb.1]; rfl) (Hle.refl _)
instance ar_make {L R : List HP} [p : PickAr L b most ss R] : CallT Tryz.prog 148 [.pointer (some ⟨b, 0, none⟩), .agg [.bool l, vI (f 0), vI (f 1), vI (f 2), vI (f 3), vI (f 4), vI (f 5), vI (f 6), vI (f 7), vI (g 0), .bool (hh 0), vI (g 1), .bool (hh 1), vI (g 2), .bool (hh 2), vI (g 3), .bool (hh 3), vI (g 4), .bool (hh 4), vI (g 5), .bool (hh 5), vI (g 6), .bool (hh 6), vI (g 7), .bool (hh 7)].toArray] h L (∃ B, ArInv ss B ∧ (0 ≤ B ∧ B ≤ 1152921504606846976) ∧ (ss.length < most ∧ most ≤ 20000) ∧ ∀ j < 8, 0 ≤ f j ∧ f j ≤ ss.length) R
    (fun K => ∀ ss', MadeR ss ⟨l, f, g, hh⟩ ss' → K (.tuple [vI ss'.length, vI 0].toArray) h [arH b most ss']) := ⟨fun ⟨B, h1, h2, h3, h4⟩ => spec_ar (armake_spec h1 h2 h3 h4)⟩
end
end Go.Sl

/-
  The arena in memory: a node that is asked for twice is dropped once.
-/
namespace Go.Sl
open Go.Proofs
set_option linter.unusedVariables false
set_option linter.unusedSimpArgs false
set_option maxRecDepth 10000
set_option synthInstance.maxSize 2000
set_option synthInstance.maxHeartbeats 200000
set_option maxHeartbeats 1000000
theorem slo_none {α : Type} {enc : α → List Value} {k b n c : Nat} {xs : List α} {bs : List Chunk} (hb : slo enc k (.slice (some ⟨b, 0, none⟩) n c) xs bs) (hc : 0 < c := by omega) : slo enc k (.slice (some ⟨b, 0, none⟩) 0 c) [] bs := by
  obtain ⟨h1, h2⟩ := hb
  refine ⟨by simp, ?_⟩
  rcases h2 with ⟨⟨a, e⟩, rfl, rfl⟩ | ⟨b', cap, post, T, e, h3, rfl, h4⟩
  · simp only [Value.slice.injEq] at e; omega
  · simp only [Value.slice.injEq, Option.some.injEq, Addr.mk.injEq] at e
    obtain ⟨⟨rfl, _⟩, hn, rfl⟩ := e
    refine .inr ⟨b, c, xs.flatMap enc ++ post, T, rfl, Nat.zero_le _, by simp, ?_⟩
    rw [List.length_append, h4, flat_len fun x hx => (h1 x hx).1, ← Nat.add_mul]
    congr 1
    simp only [List.length_nil]; omega
section
variable {h : PHeap} {b : Nat} {most : Int} {ss : List Slt}
theorem ardrop_spec {id : Int} (hsz : RefOk ss) (hl : liveP ss id) (h2 : 2 ≤ (ss[(id - 1).toNat]!).refs) : Spec Tryz.prog 149 [.pointer (some ⟨b, 0, none⟩), vI id] h [arH b most ss]
    (fun K => K (vI 0) h [arH b most (decR ss (id - 1).toNat)]) := by
  obtain ⟨hs1, hs2⟩ := hsz
  have h1 := hl.1
  have h3 := hs2 (id - 1).toNat (by omega)
  refine spec_enter Tryz.func149 rfl Tryz.ntmps149 Tryz.results149 (by simp) fun K R hT => ?_
  refine G_ar b fun ea ec => ?_
  repeat (first | refine Step.imp ?_ | refine Side.mk (by first | exact True.intro | omega | exact ⟨trivial, rfl⟩ | exact ⟨by omega, trivial, rfl⟩ | exact ⟨by omega, rfl⟩ | exact ⟨by omega, by omega, rfl⟩ | (simp only [List.length_cons, List.length_nil, List.length_append]; done) | (simp only [List.length_cons, List.length_nil, List.length_append]; omega) | decide +kernel) ?_ | refine GDraw_one (by decide +kernel) ?_ | refine New.mk fun _ => ?_ | refine NewS.mk fun _ _ => ?_)
  refine ⟨fun hno => absurd hl hno, fun _ => ?_⟩
  haveI hst := stopB Tryz.prog 0
  repeat (first | refine Step.imp ?_ | refine Side.mk (by first | exact True.intro | omega | exact ⟨trivial, rfl⟩ | exact ⟨by omega, trivial, rfl⟩ | exact ⟨by omega, rfl⟩ | exact ⟨by omega, by omega, rfl⟩ | (simp only [List.length_cons, List.length_nil, List.length_append]; done) | (simp only [List.length_cons, List.length_nil, List.length_append]; omega) | decide +kernel) ?_ | refine GDraw_one (by decide +kernel) ?_ | refine New.mk fun _ => ?_ | refine NewS.mk fun _ _ => ?_)
  refine StopB.go ?_
  clear hst
  rename_i wb
  refine G_own (kk := 1) wb encI [id] ?_
  repeat (first | refine Step.imp ?_ | refine Side.mk (by first | exact True.intro | omega | exact ⟨trivial, rfl⟩ | exact ⟨by omega, trivial, rfl⟩ | exact ⟨by omega, rfl⟩ | exact ⟨by omega, by omega, rfl⟩ | (simp only [List.length_cons, List.length_nil, List.length_append]; done) | (simp only [List.length_cons, List.length_nil, List.length_append]; omega) | decide +kernel) ?_ | refine GDraw_one (by decide +kernel) ?_ | refine New.mk fun _ => ?_ | refine NewS.mk fun _ _ => ?_)
  refine G_loop (σ := Bool) (fun _ => True) (fun d => if d then 0 else 1) (fun d => [(5, .slice (some ⟨wb, 0, none⟩) (if d then 0 else 1) 1), (0, .pointer (some ⟨b, 0, none⟩))]) (fun _ => h) (fun d => slo encI 1 (.slice (some ⟨wb, 0, none⟩) (if d then 0 else 1) 1) (if d then [] else [id]) :: arB b most (.slice ea ss.length ec) :: slo encSt 26 (.slice ea ss.length ec) (if d then decR ss (id - 1).toNat else ss) :: R) false trivial ⟨rfl, rfl, trivial⟩ rfl (by show Sub _ (slo encI 1 (.slice (some ⟨wb, 0, none⟩) 1 1) [id] :: arB b most (.slice ea ss.length ec) :: slo encSt 26 (.slice ea ss.length ec) ss :: R); infer_instance) ?_
  rintro (_ | _) _
  · show G _ _ _ _ _ [(5, .slice (some ⟨wb, 0, none⟩) 1 1), (0, .pointer (some ⟨b, 0, none⟩))] h (slo encI 1 (.slice (some ⟨wb, 0, none⟩) 1 1) [id] :: arB b most (.slice ea ss.length ec) :: slo encSt 26 (.slice ea ss.length ec) ss :: R)
    haveI : Known (0 < (([id] : List Int).length : Int)) := ⟨by simp⟩
    repeat (first | refine Step.imp ?_ | refine Side.mk (by first | exact True.intro | omega | exact ⟨trivial, rfl⟩ | exact ⟨by omega, trivial, rfl⟩ | exact ⟨by omega, rfl⟩ | exact ⟨by omega, by omega, rfl⟩ | (simp only [List.length_cons, List.length_nil, List.length_append]; done) | (simp only [List.length_cons, List.length_nil, List.length_append]; omega) | decide +kernel) ?_ | refine GDraw_one (by decide +kernel) ?_ | refine New.mk fun _ => ?_ | refine NewS.mk fun _ _ => ?_)
    rw [show ([id] : List Int)[([] : List Int).length]! = id from rfl, show subTo (.slice (some ⟨wb, 0, none⟩) 1 1) ([] : List Int).length = .slice (some ⟨wb, 0, none⟩) 0 1 from rfl]
    refine ⟨fun hno => absurd hl hno, fun _ => ?_⟩
    haveI : ∀ x, Is (ss.set (id - 1).toNat x).length ss.length := fun x => ⟨List.length_set⟩
    haveI : Known (0 < (ss[(id - 1).toNat]!).refs - 1) := ⟨by omega⟩
    repeat (first | refine Step.imp ?_ | refine Side.mk (by first | exact True.intro | omega | exact ⟨trivial, rfl⟩ | exact ⟨by omega, trivial, rfl⟩ | exact ⟨by omega, rfl⟩ | exact ⟨by omega, by omega, rfl⟩ | (simp only [List.length_cons, List.length_nil, List.length_append]; done) | (simp only [List.length_cons, List.length_nil, List.length_append]; omega) | decide +kernel) ?_ | refine GDraw_one (by decide +kernel) ?_ | refine New.mk fun _ => ?_ | refine NewS.mk fun _ _ => ?_)
    refine Side.mk ⟨by rw [List.length_set]; omega, by omega⟩ ?_
    rw [set_get_st (by omega), if_pos rfl]
    repeat (first | refine Step.imp ?_ | refine Side.mk (by first | exact True.intro | omega | exact ⟨trivial, rfl⟩ | exact ⟨by omega, trivial, rfl⟩ | exact ⟨by omega, rfl⟩ | exact ⟨by omega, by omega, rfl⟩ | (simp only [List.length_cons, List.length_nil, List.length_append]; done) | (simp only [List.length_cons, List.length_nil, List.length_append]; omega) | decide +kernel) ?_ | refine GDraw_one (by decide +kernel) ?_ | refine New.mk fun _ => ?_ | refine NewS.mk fun _ _ => ?_)
    refine X_conv (x := slo encI 1 (.slice (some ⟨wb, 0, none⟩) 1 1) [id]) (y := slo encI 1 (.slice (some ⟨wb, 0, none⟩) 0 1) []) (fun bs hb => slo_none hb) ?_
    exact X_round true trivial (by decide) ⟨rfl, rfl, trivial⟩ rfl (by show Sub _ (slo encI 1 (.slice (some ⟨wb, 0, none⟩) 0 1) [] :: arB b most (.slice ea ss.length ec) :: slo encSt 26 (.slice ea ss.length ec) (decR ss (id - 1).toNat) :: R); infer_instance)
  · show G _ _ _ _ _ [(5, .slice (some ⟨wb, 0, none⟩) 0 1), (0, .pointer (some ⟨b, 0, none⟩))] h (slo encI 1 (.slice (some ⟨wb, 0, none⟩) 0 1) [] :: arB b most (.slice ea ss.length ec) :: slo encSt 26 (.slice ea ss.length ec) (decR ss (id - 1).toNat) :: R)
    haveI : Known (¬ 0 < (([] : List Int).length : Int)) := ⟨by simp⟩
    haveI : Is (decR ss (id - 1).toNat).length ss.length := ⟨decR_len ss _⟩
    haveI := foldAr (h := h) (b := b) (most := most) (ss := decR ss (id - 1).toNat) (a := ea) (c := ec)
    repeat (first | refine Step.imp ?_ | refine Side.mk (by first | exact True.intro | omega | exact ⟨trivial, rfl⟩ | exact ⟨by omega, trivial, rfl⟩ | exact ⟨by omega, rfl⟩ | exact ⟨by omega, by omega, rfl⟩ | (simp only [List.length_cons, List.length_nil, List.length_append]; done) | (simp only [List.length_cons, List.length_nil, List.length_append]; omega) | decide +kernel) ?_ | refine GDraw_one (by decide +kernel) ?_ | refine New.mk fun _ => ?_ | refine NewS.mk fun _ _ => ?_)
    exact Fin.val hT rfl (Hle.refl _)
instance ar_drop {L R : List HP} {id : Int} [p : PickAr L b most ss R] : CallT Tryz.prog 149 [.pointer (some ⟨b, 0, none⟩), vI id] h L (RefOk ss ∧ liveP ss id ∧ 2 ≤ (ss[(id - 1).toNat]!).refs) R
    (fun K => K (vI 0) h [arH b most (decR ss (id - 1).toNat)]) := ⟨fun ⟨h1, h2, h3⟩ => spec_ar (ardrop_spec h1 h2 h3)⟩
end
end Go.Sl
