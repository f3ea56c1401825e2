/-
  Facts that the proof is made of (V1).
-/
import Derived.Test.YtoekdnandjjeoaaGreatKA3
import Derived.Test.YtoekdnandjjeoaaGreatKPV
import Derived.Test.YtoekdnandjjeoaaGreatKC2
/-
  Views: new ones; the values of the leaves within a cell.
-/
namespace Go.Sl
open Go.Proofs
set_option linter.unusedVariables false
set_option linter.unusedSimpArgs false
set_option maxRecDepth 10000
set_option synthInstance.maxSize 2000
set_option synthInstance.maxHeartbeats 200000
set_option maxHeartbeats 1000000
class IsVw (h : PHeap) (vb : Nat) (sb pb : outParam Nat) : Prop where
  pt : Pt h vb (.cells [.pointer (some ⟨sb, 0, none⟩), .pointer (some ⟨pb, 0, none⟩)].toArray 123 (0, 0))
theorem IsVw.mono {h h' : PHeap} {vb sb pb : Nat} (hl : Hle h h') (p : IsVw h vb sb pb) : IsVw h' vb sb pb := ⟨Pt.mono hl p.pt⟩
instance (priority := low) {h h' : PHeap} {vb sb pb : Nat} [l : Le h h'] [p : IsVw h vb sb pb] : IsVw h' vb sb pb := p.mono l.le
instance {h : PHeap} {vb sb pb : Nat} [p : IsVw h vb sb pb] : Pt h vb (.cells [.pointer (some ⟨sb, 0, none⟩), .pointer (some ⟨pb, 0, none⟩)].toArray 123 (0, 0)) := p.pt
/-- The entries of a tree have these values. -/
class TreeV (ss : List Slt) (m : Nat) (root : Int) (vals : outParam (List Int)) : Prop where
  val : ∀ j < vals.length, (getL ss m root (j : Int)).val = vals[j]!
section
variable {h : PHeap} {vb sb pb ab m : Nat} {codes most : Int} {ss : List Slt} {C : Cat} {vals : List Int}
instance pg_codes [p : IsPg h pb ab codes m] : CallV Tryz.prog 49 [.pointer (some ⟨pb, 0, none⟩)] h True (vI codes) := ⟨fun _ => by
  refine spec_enter Tryz.func49 rfl Tryz.ntmps49 Tryz.results49 (by simp) fun K R hT => ?_
  repeat' (first | refine Step.imp ?_ | refine Side.mk (by first | exact True.intro | omega | exact ⟨trivial, rfl⟩ | exact ⟨by omega, trivial, rfl⟩ | exact ⟨by omega, rfl⟩ | exact ⟨by omega, by omega, rfl⟩ | (simp only [List.length_cons, List.length_nil, List.length_append]; done) | (simp only [List.length_cons, List.length_nil, List.length_append]; omega) | decide +kernel) ?_ | refine GDraw_one (by decide +kernel) ?_ | refine New.mk fun _ => ?_ | refine NewS.mk fun _ _ => ?_ | refine Ways.mk (fun _ => ?_) (fun _ => ?_))
  all_goals first | (exfalso; contradiction) | exact Fin.val hT rfl (Hle.refl _)⟩
instance vw_newN {x : Value} : CallV Tryz.prog 14 [.pointer none, x] h True (.tuple [.pointer none, vI 1].toArray) := ⟨fun _ => by
  refine spec_enter Tryz.func14 rfl Tryz.ntmps14 Tryz.results14 (by simp) fun K R hT => ?_
  repeat' (first | refine Step.imp ?_ | refine Side.mk (by first | exact True.intro | omega | exact ⟨trivial, rfl⟩ | exact ⟨by omega, trivial, rfl⟩ | exact ⟨by omega, rfl⟩ | exact ⟨by omega, by omega, rfl⟩ | (simp only [List.length_cons, List.length_nil, List.length_append]; done) | (simp only [List.length_cons, List.length_nil, List.length_append]; omega) | decide +kernel) ?_ | refine GDraw_one (by decide +kernel) ?_ | refine New.mk fun _ => ?_ | refine NewS.mk fun _ _ => ?_ | refine Ways.mk (fun _ => ?_) (fun _ => ?_))
  all_goals first | (exfalso; contradiction) | exact Fin.val hT rfl (Hle.refl _)⟩
instance vw_newN2 : CallV Tryz.prog 14 [.pointer (some ⟨sb, 0, none⟩), .pointer none] h True (.tuple [.pointer none, vI 1].toArray) := ⟨fun _ => by
  refine spec_enter Tryz.func14 rfl Tryz.ntmps14 Tryz.results14 (by simp) fun K R hT => ?_
  repeat' (first | refine Step.imp ?_ | refine Side.mk (by first | exact True.intro | omega | exact ⟨trivial, rfl⟩ | exact ⟨by omega, trivial, rfl⟩ | exact ⟨by omega, rfl⟩ | exact ⟨by omega, by omega, rfl⟩ | (simp only [List.length_cons, List.length_nil, List.length_append]; done) | (simp only [List.length_cons, List.length_nil, List.length_append]; omega) | decide +kernel) ?_ | refine GDraw_one (by decide +kernel) ?_ | refine New.mk fun _ => ?_ | refine NewS.mk fun _ _ => ?_ | refine Ways.mk (fun _ => ?_) (fun _ => ?_))
  all_goals first | (exfalso; contradiction) | exact Fin.val hT rfl (Hle.refl _)⟩
instance vw_new {L : List HP} [hS : IsSp h sb C] [ok : OkCat C] [p : IsPg h pb ab codes m] : CallX Tryz.prog 14 [.pointer (some ⟨sb, 0, none⟩), .pointer (some ⟨pb, 0, none⟩)] h L True
    (fun K => (leavesF C C.dims.length ≠ codes → K (.tuple [.pointer none, vI 5].toArray) h []) ∧ (leavesF C C.dims.length = codes → ∀ vb, K (.tuple [.pointer (some ⟨vb, 0, none⟩), vI 0].toArray) h [blk vb (.cells [.pointer (some ⟨sb, 0, none⟩), .pointer (some ⟨pb, 0, none⟩)].toArray 123 (0, 0))])) := ⟨fun _ => by
  refine spec_enter Tryz.func14 rfl Tryz.ntmps14 Tryz.results14 (by simp) fun K R hT => ?_
  by_cases hq : leavesF C C.dims.length = codes
  · haveI : Known (¬ (leavesF C C.dims.length ≠ codes)) := ⟨fun q => q hq⟩
    repeat (first | refine Step.imp ?_ | refine Side.mk (by first | exact True.intro | omega | exact ⟨trivial, rfl⟩ | exact ⟨by omega, trivial, rfl⟩ | exact ⟨by omega, rfl⟩ | exact ⟨by omega, by omega, rfl⟩ | (simp only [List.length_cons, List.length_nil, List.length_append]; done) | (simp only [List.length_cons, List.length_nil, List.length_append]; omega) | decide +kernel) ?_ | refine GDraw_one (by decide +kernel) ?_ | refine New.mk fun _ => ?_ | refine NewS.mk fun _ _ => ?_)
    exact Fin.val (hT.2 hq _) rfl (Hle.refl _)
  · haveI : Known (leavesF C C.dims.length ≠ codes) := ⟨hq⟩
    repeat (first | refine Step.imp ?_ | refine Side.mk (by first | exact True.intro | omega | exact ⟨trivial, rfl⟩ | exact ⟨by omega, trivial, rfl⟩ | exact ⟨by omega, rfl⟩ | exact ⟨by omega, by omega, rfl⟩ | (simp only [List.length_cons, List.length_nil, List.length_append]; done) | (simp only [List.length_cons, List.length_nil, List.length_append]; omega) | decide +kernel) ?_ | refine GDraw_one (by decide +kernel) ?_ | refine New.mk fun _ => ?_ | refine NewS.mk fun _ _ => ?_)
    exact Fin.val (hT.1 hq) rfl (Hle.refl _)⟩
instance vw_space [p : IsVw h vb sb pb] : CallV Tryz.prog 31 [.pointer (some ⟨vb, 0, none⟩)] h True (.pointer (some ⟨sb, 0, none⟩)) := ⟨fun _ => by
  refine spec_enter Tryz.func31 rfl Tryz.ntmps31 Tryz.results31 (by simp) fun K R hT => ?_
  repeat' (first | refine Step.imp ?_ | refine Side.mk (by first | exact True.intro | omega | exact ⟨trivial, rfl⟩ | exact ⟨by omega, trivial, rfl⟩ | exact ⟨by omega, rfl⟩ | exact ⟨by omega, by omega, rfl⟩ | (simp only [List.length_cons, List.length_nil, List.length_append]; done) | (simp only [List.length_cons, List.length_nil, List.length_append]; omega) | decide +kernel) ?_ | refine GDraw_one (by decide +kernel) ?_ | refine New.mk fun _ => ?_ | refine NewS.mk fun _ _ => ?_ | refine Ways.mk (fun _ => ?_) (fun _ => ?_))
  all_goals first | (exfalso; contradiction) | exact Fin.val hT rfl (Hle.refl _)⟩
instance vw_pages [p : IsVw h vb sb pb] : CallV Tryz.prog 32 [.pointer (some ⟨vb, 0, none⟩)] h True (.pointer (some ⟨pb, 0, none⟩)) := ⟨fun _ => by
  refine spec_enter Tryz.func32 rfl Tryz.ntmps32 Tryz.results32 (by simp) fun K R hT => ?_
  repeat' (first | refine Step.imp ?_ | refine Side.mk (by first | exact True.intro | omega | exact ⟨trivial, rfl⟩ | exact ⟨by omega, trivial, rfl⟩ | exact ⟨by omega, rfl⟩ | exact ⟨by omega, by omega, rfl⟩ | (simp only [List.length_cons, List.length_nil, List.length_append]; done) | (simp only [List.length_cons, List.length_nil, List.length_append]; omega) | decide +kernel) ?_ | refine GDraw_one (by decide +kernel) ?_ | refine New.mk fun _ => ?_ | refine NewS.mk fun _ _ => ?_ | refine Ways.mk (fun _ => ?_) (fun _ => ?_))
  all_goals first | (exfalso; contradiction) | exact Fin.val hT rfl (Hle.refl _)⟩
instance vw_may {c a0 a1 a2 a3 : Int} [p : IsVw h vb sb pb] [hS : IsSp h sb C] [ok : OkCat C] : CallV Tryz.prog 53 [.pointer (some ⟨vb, 0, none⟩), .agg [vI c, vI a0, vI a1, vI a2, vI a3].toArray] h True (vI (if rightF C c (get4 a0 a1 a2 a3) then 0 else 17)) := ⟨fun _ => by
  refine spec_enter Tryz.func53 rfl Tryz.ntmps53 Tryz.results53 (by simp) fun K R hT => ?_
  by_cases hr : rightF C c (get4 a0 a1 a2 a3)
  · rw [if_pos hr] at hT
    haveI : Known (rightF C c (get4 a0 a1 a2 a3)) := ⟨hr⟩
    repeat (first | refine Step.imp ?_ | refine Side.mk (by first | exact True.intro | omega | exact ⟨trivial, rfl⟩ | exact ⟨by omega, trivial, rfl⟩ | exact ⟨by omega, rfl⟩ | exact ⟨by omega, by omega, rfl⟩ | (simp only [List.length_cons, List.length_nil, List.length_append]; done) | (simp only [List.length_cons, List.length_nil, List.length_append]; omega) | decide +kernel) ?_ | refine GDraw_one (by decide +kernel) ?_ | refine New.mk fun _ => ?_ | refine NewS.mk fun _ _ => ?_)
    intro db hD
    repeat (first | refine Step.imp ?_ | refine Side.mk (by first | exact True.intro | omega | exact ⟨trivial, rfl⟩ | exact ⟨by omega, trivial, rfl⟩ | exact ⟨by omega, rfl⟩ | exact ⟨by omega, by omega, rfl⟩ | (simp only [List.length_cons, List.length_nil, List.length_append]; done) | (simp only [List.length_cons, List.length_nil, List.length_append]; omega) | decide +kernel) ?_ | refine GDraw_one (by decide +kernel) ?_ | refine New.mk fun _ => ?_ | refine NewS.mk fun _ _ => ?_)
    exact Fin.val hT rfl (Hle.refl _)
  · rw [if_neg hr] at hT
    haveI : Known (¬ rightF C c (get4 a0 a1 a2 a3)) := ⟨hr⟩
    repeat (first | refine Step.imp ?_ | refine Side.mk (by first | exact True.intro | omega | exact ⟨trivial, rfl⟩ | exact ⟨by omega, trivial, rfl⟩ | exact ⟨by omega, rfl⟩ | exact ⟨by omega, by omega, rfl⟩ | (simp only [List.length_cons, List.length_nil, List.length_append]; done) | (simp only [List.length_cons, List.length_nil, List.length_append]; omega) | decide +kernel) ?_ | refine GDraw_one (by decide +kernel) ?_ | refine New.mk fun _ => ?_ | refine NewS.mk fun _ _ => ?_)
    intro db hD
    repeat (first | refine Step.imp ?_ | refine Side.mk (by first | exact True.intro | omega | exact ⟨trivial, rfl⟩ | exact ⟨by omega, trivial, rfl⟩ | exact ⟨by omega, rfl⟩ | exact ⟨by omega, by omega, rfl⟩ | (simp only [List.length_cons, List.length_nil, List.length_append]; done) | (simp only [List.length_cons, List.length_nil, List.length_append]; omega) | decide +kernel) ?_ | refine GDraw_one (by decide +kernel) ?_ | refine New.mk fun _ => ?_ | refine NewS.mk fun _ _ => ?_)
    exact Fin.val hT rfl (Hle.refl _)⟩
theorem vwvals_spec {root c a0 a1 a2 a3 : Int} [p : IsVw h vb sb pb] [hS : IsSp h sb C] [ok : OkCat C] [pg : IsPg h pb ab codes m] [tv : TreeV ss m root vals] (hsz : ss.length ≤ 4294967296) (hv : vals.length = (leavesF C C.dims.length).toNat) (hcd : leavesF C C.dims.length = codes) (hr : rightF C c (get4 a0 a1 a2 a3)) :
    Spec Tryz.prog 56 [.pointer (some ⟨vb, 0, none⟩), vI root, .agg [vI c, vI a0, vI a1, vI a2, vI a3].toArray] h [arH ab most ss]
      (fun K => ∀ h' ua uc va vc, Le h h' → K (.tuple [.slice ua (underF C c (get4 a0 a1 a2 a3)).length uc, .slice va (underF C c (get4 a0 a1 a2 a3)).length vc].toArray) h'
        [arH ab most ss, slo encI 1 (.slice ua (underF C c (get4 a0 a1 a2 a3)).length uc) (underF C c (get4 a0 a1 a2 a3)), slo encI 1 (.slice va (underF C c (get4 a0 a1 a2 a3)).length vc) (pickV (underF C c (get4 a0 a1 a2 a3)) vals (underF C c (get4 a0 a1 a2 a3)).length)]) := by
  have hmem := fun n => (under_mem ok hr (n := n)).1
  have hle := under_eq ok hr
  have hbl := leaves_bound ok C.dims.length (Nat.le_refl _)
  refine spec_enter Tryz.func56 rfl Tryz.ntmps56 Tryz.results56 (by simp) fun K R hT => ?_
  repeat (first | refine Step.imp ?_ | refine Side.mk (by first | exact True.intro | omega | exact ⟨trivial, rfl⟩ | exact ⟨by omega, trivial, rfl⟩ | exact ⟨by omega, rfl⟩ | exact ⟨by omega, by omega, rfl⟩ | (simp only [List.length_cons, List.length_nil, List.length_append]; done) | (simp only [List.length_cons, List.length_nil, List.length_append]; omega) | decide +kernel) ?_ | refine New.mk fun _ => ?_ | refine NewS.mk fun _ _ => ?_)
  rename_i cb
  repeat (first | refine Step.imp ?_ | refine Side.mk (by first | exact True.intro | omega | exact ⟨trivial, rfl⟩ | exact ⟨by omega, trivial, rfl⟩ | exact ⟨by omega, rfl⟩ | exact ⟨by omega, by omega, rfl⟩ | (simp only [List.length_cons, List.length_nil, List.length_append]; done) | (simp only [List.length_cons, List.length_nil, List.length_append]; omega) | decide +kernel) ?_ | refine GDraw_C (cb) (by decide +kernel) ?_ | refine New.mk fun _ => ?_ | refine NewS.mk fun _ _ => ?_)
  intro h1 ua uc le1
  obtain ⟨us, hus⟩ : ∃ us, us = underF C c (get4 a0 a1 a2 a3) := ⟨_, rfl⟩
  rw [← hus] at hT hle hmem ⊢
  have hul : us.length ≤ vals.length := by
    rw [hle, hv]; exact pickTo_len _ _
  have hall : ∀ k < us.length, 0 ≤ us[k]! ∧ us[k]! < vals.length := fun k hk => by
    have := (hmem _ (mem_get hk)).1
    omega
  repeat (first | refine Step.imp ?_ | refine Side.mk (by first | exact True.intro | omega | exact ⟨trivial, rfl⟩ | exact ⟨by omega, trivial, rfl⟩ | exact ⟨by omega, rfl⟩ | exact ⟨by omega, by omega, rfl⟩ | (simp only [List.length_cons, List.length_nil, List.length_append]; done) | (simp only [List.length_cons, List.length_nil, List.length_append]; omega) | decide +kernel) ?_ | refine GDraw_one (by decide +kernel) ?_ | refine New.mk fun _ => ?_ | refine NewS.mk fun _ _ => ?_)
  refine G_nil encI 1 none ?_
  refine G_loop (σ := Nat × Option Addr × Nat) (fun s => s.1 ≤ us.length) (fun s => us.length - s.1) (fun s => [(22, vI s.1), (21, vI us.length), (20, .slice ua us.length uc), (8, .slice ua us.length uc), (9, .slice s.2.1 (pickV us vals s.1).length s.2.2), (0, .pointer (some ⟨vb, 0, none⟩)), (0 + 1, vI root)]) (fun _ => h1)
    (fun s => slo encI 1 (.slice s.2.1 (pickV us vals s.1).length s.2.2) (pickV us vals s.1) :: slo encI 1 (.slice ua us.length uc) us :: arH ab most ss :: R) (0, none, 0) (Nat.zero_le _) ⟨rfl, rfl, rfl, rfl, rfl, rfl, rfl, trivial⟩ rfl ?_ ?_
  · simp only [pickV, List.take_zero, List.map_nil, List.length_nil]
    infer_instance
  rintro ⟨k, pa, pc⟩ hk
  simp only at hk ⊢
  have hpl := pickV_len (us := us) (vals := vals) hk
  by_cases hlt : k < us.length
  · have hps := pickV_succ (us := us) (vals := vals) (k := k) (by omega)
    have hak := hall k (by omega)
    have hval := tv.val (us[k]!).toNat (by omega)
    rw [show (((us[k]!).toNat : Nat) : Int) = us[k]! by omega] at hval
    haveI : Known ((k : Int) < us.length) := ⟨by omega⟩
    repeat (first | refine Step.imp ?_ | refine Side.mk (by first | exact True.intro | omega | exact ⟨trivial, rfl⟩ | exact ⟨by omega, trivial, rfl⟩ | exact ⟨by omega, rfl⟩ | exact ⟨by omega, by omega, rfl⟩ | (simp only [List.length_cons, List.length_nil, List.length_append]; done) | (simp only [List.length_cons, List.length_nil, List.length_append]; omega) | decide +kernel) ?_ | refine GDraw_one (by decide +kernel) ?_ | refine New.mk fun _ => ?_ | refine NewS.mk fun _ _ => ?_)
    rename_i pa1 pc1
    refine X_round (k + 1, pa1, pc1) ?_ ?_ ?_ rfl ?_
    · show k + 1 ≤ us.length
      omega
    · show us.length - (k + 1) < us.length - k
      omega
    · refine ⟨rfl, rfl, rfl, rfl, ?_, rfl, rfl, trivial⟩
      rw [hps, List.length_append]; rfl
    · simp only [hval, hps, List.length_append, List.length_cons, List.length_nil, Nat.zero_add]
      infer_instance
  · have hk2 : k = us.length := by omega
    subst hk2
    haveI : Known (¬ ((us.length : Int) < us.length)) := ⟨by omega⟩
    rw [hpl]
    repeat (first | refine Step.imp ?_ | refine Side.mk (by first | exact True.intro | omega | exact ⟨trivial, rfl⟩ | exact ⟨by omega, trivial, rfl⟩ | exact ⟨by omega, rfl⟩ | exact ⟨by omega, by omega, rfl⟩ | (simp only [List.length_cons, List.length_nil, List.length_append]; done) | (simp only [List.length_cons, List.length_nil, List.length_append]; omega) | decide +kernel) ?_ | refine GDraw_one (by decide +kernel) ?_ | refine New.mk fun _ => ?_ | refine NewS.mk fun _ _ => ?_)
    exact Fin.val (hT h1 ua uc pa pc le1) rfl le1.le
/-- The values of a cell's leaves come to the cell's sum. -/
theorem vals_sum {c a0 a1 a2 a3 : Int} (ok : OkCat C) (hv : vals.length = (leavesF C C.dims.length).toNat) (h64 : Ok64 vals) (hr : rightF C c (get4 a0 a1 a2 a3)) :
    FitW 0 (pickV (underF C c (get4 a0 a1 a2 a3)) vals (underF C c (get4 a0 a1 a2 a3)).length) ∧ sumI (pickV (underF C c (get4 a0 a1 a2 a3)) vals (underF C c (get4 a0 a1 a2 a3)).length) = cellSum C vals (indexF C c (get4 a0 a1 a2 a3)).toNat := by
  have hve := value_eq ok hr hv
  have hmem := fun n => (under_mem ok hr (n := n)).1
  have hle := under_eq ok hr
  have hbl := leaves_bound ok C.dims.length (Nat.le_refl _)
  obtain ⟨us, hus⟩ : ∃ us, us = underF C c (get4 a0 a1 a2 a3) := ⟨_, rfl⟩
  rw [← hus] at hve hle hmem ⊢
  have hul : us.length ≤ vals.length := by
    rw [hle, hv]; exact pickTo_len _ _
  have hpl := pickV_len (us := us) (vals := vals) (Nat.le_refl _)
  refine ⟨⟨by omega, by omega, fun j hj => ?_⟩, by unfold pickV; rw [List.take_length]; exact hve⟩
  have hj2 : j < us.length := by omega
  have : (pickV us vals us.length)[j]! = vals[(us[j]!).toNat]! := by
    unfold pickV
    rw [List.take_length, getElem!_pos _ j (by simpa using hj2), List.getElem_map, getElem!_pos us j hj2]
  rw [this]
  refine h64 _ ?_
  have := (hmem _ (mem_get hj2)).1
  omega
instance num_sum {L : List HP} {u : Value} {xs : List Int} [hv : Rds L h u encI 1 xs] : CallX Tryz.prog 57 [u] h L (FitW 0 xs)
    (fun K => K (.tuple [vI (fitN (sumI xs)), vI (fitE (sumI xs))].toArray) h []) := ⟨fun hf => by
  refine spec_enter Tryz.func57 rfl Tryz.ntmps57 Tryz.results57 (by simp) fun K R hT => ?_
  repeat (first | refine Step.imp ?_ | refine Side.mk (by first | exact True.intro | omega | exact ⟨trivial, rfl⟩ | exact ⟨by omega, trivial, rfl⟩ | exact ⟨by omega, rfl⟩ | exact ⟨by omega, by omega, rfl⟩ | (simp only [List.length_cons, List.length_nil, List.length_append]; done) | (simp only [List.length_cons, List.length_nil, List.length_append]; omega) | decide +kernel) ?_ | refine GDraw_one (by decide +kernel) ?_ | refine New.mk fun _ => ?_ | refine NewS.mk fun _ _ => ?_)
  refine Fin.val hT ?_ (Hle.refl _)
  rw [Int.zero_add]⟩
instance vw_vals {L R : List HP} {root c a0 a1 a2 a3 : Int} [p : IsVw h vb sb pb] [hS : IsSp h sb C] [ok : OkCat C] [pg : IsPg h pb ab codes m] [q : PickAr L ab most ss R] [tv : TreeV ss m root vals] :
    CallT Tryz.prog 56 [.pointer (some ⟨vb, 0, none⟩), vI root, .agg [vI c, vI a0, vI a1, vI a2, vI a3].toArray] h L (ss.length ≤ 4294967296 ∧ vals.length = (leavesF C C.dims.length).toNat ∧ leavesF C C.dims.length = codes ∧ rightF C c (get4 a0 a1 a2 a3)) R
      (fun K => ∀ h' ua uc va vc, Le h h' → K (.tuple [.slice ua (underF C c (get4 a0 a1 a2 a3)).length uc, .slice va (underF C c (get4 a0 a1 a2 a3)).length vc].toArray) h'
        [arH ab most ss, slo encI 1 (.slice ua (underF C c (get4 a0 a1 a2 a3)).length uc) (underF C c (get4 a0 a1 a2 a3)), slo encI 1 (.slice va (underF C c (get4 a0 a1 a2 a3)).length vc) (pickV (underF C c (get4 a0 a1 a2 a3)) vals (underF C c (get4 a0 a1 a2 a3)).length)]) := ⟨fun hs => spec_ar (vwvals_spec hs.1 hs.2.1 hs.2.2.1 hs.2.2.2)⟩
end
end Go.Sl

/-
  Views: the value of a cell, and how many of its leaves are not 0.
-/
namespace Go.Sl
open Go.Proofs
set_option linter.unusedVariables false
set_option linter.unusedSimpArgs false
set_option maxRecDepth 10000
set_option synthInstance.maxSize 2000
set_option synthInstance.maxHeartbeats 200000
set_option maxHeartbeats 1000000
/-- What a view's tree is like. -/
def TreeOk (ss : List Slt) (C : Cat) (codes : Int) (vals : List Int) : Prop := ss.length ≤ 4294967296 ∧ vals.length = (leavesF C C.dims.length).toNat ∧ leavesF C C.dims.length = codes ∧ Ok64 vals
/-- How many leaves of a cell are not 0. -/
def manyF (C : Cat) (vals : List Int) (c : Int) (a : Nat → Int) : Int := cnt0 (pickV (underF C c a) vals (underF C c a).length)
section
variable {h : PHeap} {vb sb pb ab m : Nat} {codes most : Int} {ss : List Slt} {C : Cat} {vals : List Int}
theorem vwvalue_spec {root c a0 a1 a2 a3 : Int} [p : IsVw h vb sb pb] [hS : IsSp h sb C] [ok : OkCat C] [pg : IsPg h pb ab codes m] [tv : TreeV ss m root vals] (ht : TreeOk ss C codes vals) :
    Spec Tryz.prog 19 [.pointer (some ⟨vb, 0, none⟩), vI root, .agg [vI c, vI a0, vI a1, vI a2, vI a3].toArray] h [arH ab most ss]
      (fun K => ∀ h', Le h h' → (¬ rightF C c (get4 a0 a1 a2 a3) → K (.tuple [vI 0, vI 17].toArray) h' [arH ab most ss]) ∧
        (rightF C c (get4 a0 a1 a2 a3) → K (.tuple [vI (fitN (cellSum C vals (indexF C c (get4 a0 a1 a2 a3)).toNat)), vI (fitE (cellSum C vals (indexF C c (get4 a0 a1 a2 a3)).toNat))].toArray) h' [arH ab most ss])) := by
  obtain ⟨t1, t2, t3, t4⟩ := ht
  refine spec_enter Tryz.func19 rfl Tryz.ntmps19 Tryz.results19 (by simp) fun K R hT => ?_
  by_cases hr : rightF C c (get4 a0 a1 a2 a3)
  · haveI : Known (¬ ((if rightF C c (get4 a0 a1 a2 a3) then 0 else 17 : Int) ≠ 0)) := ⟨by rw [if_pos hr]; decide⟩
    obtain ⟨v1, v2⟩ := vals_sum ok t2 t4 hr
    have hpl := pickV_len (us := underF C c (get4 a0 a1 a2 a3)) (vals := vals) (Nat.le_refl _)
    repeat (first | refine Step.imp ?_ | refine Side.mk (by first | exact True.intro | omega | exact ⟨trivial, rfl⟩ | exact ⟨by omega, trivial, rfl⟩ | exact ⟨by omega, rfl⟩ | exact ⟨by omega, by omega, rfl⟩ | (simp only [List.length_cons, List.length_nil, List.length_append]; done) | (simp only [List.length_cons, List.length_nil, List.length_append]; omega) | decide +kernel) ?_ | refine GDraw_one (by decide +kernel) ?_ | refine New.mk fun _ => ?_ | refine NewS.mk fun _ _ => ?_)
    refine Side.mk ⟨t1, t2, t3, hr⟩ ?_
    intro h1 ua uc va vc le1
    haveI : Is (pickV (underF C c (get4 a0 a1 a2 a3)) vals (underF C c (get4 a0 a1 a2 a3)).length).length (underF C c (get4 a0 a1 a2 a3)).length := ⟨hpl⟩
    repeat (first | refine Step.imp ?_ | refine Side.mk (by first | exact True.intro | omega | exact ⟨trivial, rfl⟩ | exact ⟨by omega, trivial, rfl⟩ | exact ⟨by omega, rfl⟩ | exact ⟨by omega, by omega, rfl⟩ | (simp only [List.length_cons, List.length_nil, List.length_append]; done) | (simp only [List.length_cons, List.length_nil, List.length_append]; omega) | decide +kernel) ?_ | refine GDraw_one (by decide +kernel) ?_ | refine New.mk fun _ => ?_ | refine NewS.mk fun _ _ => ?_)
    rw [v2]
    exact Fin.val ((hT h1 le1).2 hr) rfl le1.le
  · haveI : Known ((if rightF C c (get4 a0 a1 a2 a3) then 0 else 17 : Int) ≠ 0) := ⟨by rw [if_neg hr]; decide⟩
    repeat (first | refine Step.imp ?_ | refine Side.mk (by first | exact True.intro | omega | exact ⟨trivial, rfl⟩ | exact ⟨by omega, trivial, rfl⟩ | exact ⟨by omega, rfl⟩ | exact ⟨by omega, by omega, rfl⟩ | (simp only [List.length_cons, List.length_nil, List.length_append]; done) | (simp only [List.length_cons, List.length_nil, List.length_append]; omega) | decide +kernel) ?_ | refine GDraw_one (by decide +kernel) ?_ | refine New.mk fun _ => ?_ | refine NewS.mk fun _ _ => ?_)
    exact Fin.val ((hT h ⟨Hle.refl h⟩).1 hr) (by rw [if_neg hr]) (Hle.refl _)
theorem vwmany_spec {root c a0 a1 a2 a3 : Int} [p : IsVw h vb sb pb] [hS : IsSp h sb C] [ok : OkCat C] [pg : IsPg h pb ab codes m] [tv : TreeV ss m root vals] (ht : TreeOk ss C codes vals) :
    Spec Tryz.prog 21 [.pointer (some ⟨vb, 0, none⟩), vI root, .agg [vI c, vI a0, vI a1, vI a2, vI a3].toArray] h [arH ab most ss]
      (fun K => ∀ h', Le h h' → (¬ rightF C c (get4 a0 a1 a2 a3) → K (.tuple [vI 0, vI 17].toArray) h' [arH ab most ss]) ∧
        (rightF C c (get4 a0 a1 a2 a3) → K (.tuple [vI (manyF C vals c (get4 a0 a1 a2 a3)), vI 0].toArray) h' [arH ab most ss])) := by
  obtain ⟨t1, t2, t3, t4⟩ := ht
  refine spec_enter Tryz.func21 rfl Tryz.ntmps21 Tryz.results21 (by simp) fun K R hT => ?_
  by_cases hr : rightF C c (get4 a0 a1 a2 a3)
  · haveI : Known (¬ ((if rightF C c (get4 a0 a1 a2 a3) then 0 else 17 : Int) ≠ 0)) := ⟨by rw [if_pos hr]; decide⟩
    have hpl := pickV_len (us := underF C c (get4 a0 a1 a2 a3)) (vals := vals) (Nat.le_refl _)
    repeat (first | refine Step.imp ?_ | refine Side.mk (by first | exact True.intro | omega | exact ⟨trivial, rfl⟩ | exact ⟨by omega, trivial, rfl⟩ | exact ⟨by omega, rfl⟩ | exact ⟨by omega, by omega, rfl⟩ | (simp only [List.length_cons, List.length_nil, List.length_append]; done) | (simp only [List.length_cons, List.length_nil, List.length_append]; omega) | decide +kernel) ?_ | refine GDraw_one (by decide +kernel) ?_ | refine New.mk fun _ => ?_ | refine NewS.mk fun _ _ => ?_)
    refine Side.mk ⟨t1, t2, t3, hr⟩ ?_
    intro h1 ua uc va vc le1
    have hul : (underF C c (get4 a0 a1 a2 a3)).length ≤ vals.length := by rw [under_eq ok hr, t2]; exact pickTo_len _ _
    have hbl := leaves_bound ok C.dims.length (Nat.le_refl _)
    obtain ⟨W, hW⟩ : ∃ W, W = pickV (underF C c (get4 a0 a1 a2 a3)) vals (underF C c (get4 a0 a1 a2 a3)).length := ⟨_, rfl⟩
    have hmf : manyF C vals c (get4 a0 a1 a2 a3) = cnt0 W := by rw [hW]; rfl
    rw [← hW] at hpl ⊢
    rw [← hpl]
    repeat (first | refine Step.imp ?_ | refine Side.mk (by first | exact True.intro | omega | exact ⟨trivial, rfl⟩ | exact ⟨by omega, trivial, rfl⟩ | exact ⟨by omega, rfl⟩ | exact ⟨by omega, by omega, rfl⟩ | (simp only [List.length_cons, List.length_nil, List.length_append]; done) | (simp only [List.length_cons, List.length_nil, List.length_append]; omega) | decide +kernel) ?_ | refine GDraw_one (by decide +kernel) ?_ | refine New.mk fun _ => ?_ | refine NewS.mk fun _ _ => ?_)
    refine G_loopE (σ := Nat) (fun k => k ≤ W.length) (fun k => W.length - k) (fun k => [(29, vI k), (28, vI W.length), (27, .slice va W.length vc), (9, vI (cnt0 (W.take k)))]) 0 (by omega) ⟨rfl, rfl, rfl, rfl, trivial⟩ fun k hk => ?_
    have hcl := cnt0_le (W.take k)
    have htl : (W.take k).length = k := by rw [List.length_take]; omega
    by_cases hlt : k < W.length
    · haveI : Known ((k : Int) < W.length) := ⟨by omega⟩
      have hct := cnt0_take hlt
      by_cases hz : W[k]! = 0
      · haveI : Known (¬ (W[k]! ≠ 0)) := ⟨fun q => q hz⟩
        rw [if_pos hz] at hct
        repeat (first | refine Step.imp ?_ | refine Side.mk (by first | exact True.intro | omega | exact ⟨trivial, rfl⟩ | exact ⟨by omega, trivial, rfl⟩ | exact ⟨by omega, rfl⟩ | exact ⟨by omega, by omega, rfl⟩ | (simp only [List.length_cons, List.length_nil, List.length_append]; done) | (simp only [List.length_cons, List.length_nil, List.length_append]; omega) | decide +kernel) ?_ | refine GDraw_one (by decide +kernel) ?_ | refine New.mk fun _ => ?_ | refine NewS.mk fun _ _ => ?_)
        refine X_roundE (k + 1) (by omega) (by omega) ⟨rfl, rfl, rfl, by rw [hct, Int.add_zero], trivial⟩ inferInstance
      · haveI : Known (W[k]! ≠ 0) := ⟨hz⟩
        rw [if_neg hz] at hct
        repeat (first | refine Step.imp ?_ | refine Side.mk (by first | exact True.intro | omega | exact ⟨trivial, rfl⟩ | exact ⟨by omega, trivial, rfl⟩ | exact ⟨by omega, rfl⟩ | exact ⟨by omega, by omega, rfl⟩ | (simp only [List.length_cons, List.length_nil, List.length_append]; done) | (simp only [List.length_cons, List.length_nil, List.length_append]; omega) | decide +kernel) ?_ | refine GDraw_one (by decide +kernel) ?_ | refine New.mk fun _ => ?_ | refine NewS.mk fun _ _ => ?_)
        refine X_roundE (k + 1) (by omega) (by omega) ⟨rfl, rfl, rfl, by rw [hct], trivial⟩ inferInstance
    · haveI : Known (¬ ((k : Int) < W.length)) := ⟨by omega⟩
      have hk2 : k = W.length := by omega
      subst hk2
      rw [List.take_length]
      repeat (first | refine Step.imp ?_ | refine Side.mk (by first | exact True.intro | omega | exact ⟨trivial, rfl⟩ | exact ⟨by omega, trivial, rfl⟩ | exact ⟨by omega, rfl⟩ | exact ⟨by omega, by omega, rfl⟩ | (simp only [List.length_cons, List.length_nil, List.length_append]; done) | (simp only [List.length_cons, List.length_nil, List.length_append]; omega) | decide +kernel) ?_ | refine GDraw_one (by decide +kernel) ?_ | refine New.mk fun _ => ?_ | refine NewS.mk fun _ _ => ?_)
      exact Fin.val ((hT h1 le1).2 hr) (by rw [hmf]) le1.le
  · haveI : Known ((if rightF C c (get4 a0 a1 a2 a3) then 0 else 17 : Int) ≠ 0) := ⟨by rw [if_neg hr]; decide⟩
    repeat (first | refine Step.imp ?_ | refine Side.mk (by first | exact True.intro | omega | exact ⟨trivial, rfl⟩ | exact ⟨by omega, trivial, rfl⟩ | exact ⟨by omega, rfl⟩ | exact ⟨by omega, by omega, rfl⟩ | (simp only [List.length_cons, List.length_nil, List.length_append]; done) | (simp only [List.length_cons, List.length_nil, List.length_append]; omega) | decide +kernel) ?_ | refine GDraw_one (by decide +kernel) ?_ | refine New.mk fun _ => ?_ | refine NewS.mk fun _ _ => ?_)
    exact Fin.val ((hT h ⟨Hle.refl h⟩).1 hr) (by rw [if_neg hr]) (Hle.refl _)
instance vw_value {L R : List HP} {root c a0 a1 a2 a3 : Int} [p : IsVw h vb sb pb] [hS : IsSp h sb C] [ok : OkCat C] [pg : IsPg h pb ab codes m] [q : PickAr L ab most ss R] [tv : TreeV ss m root vals] :
    CallT Tryz.prog 19 [.pointer (some ⟨vb, 0, none⟩), vI root, .agg [vI c, vI a0, vI a1, vI a2, vI a3].toArray] h L (TreeOk ss C codes vals) R
      (fun K => ∀ h', Le h h' → (¬ rightF C c (get4 a0 a1 a2 a3) → K (.tuple [vI 0, vI 17].toArray) h' [arH ab most ss]) ∧
        (rightF C c (get4 a0 a1 a2 a3) → K (.tuple [vI (fitN (cellSum C vals (indexF C c (get4 a0 a1 a2 a3)).toNat)), vI (fitE (cellSum C vals (indexF C c (get4 a0 a1 a2 a3)).toNat))].toArray) h' [arH ab most ss])) := ⟨fun hs => spec_ar (vwvalue_spec hs)⟩
instance vw_many {L R : List HP} {root c a0 a1 a2 a3 : Int} [p : IsVw h vb sb pb] [hS : IsSp h sb C] [ok : OkCat C] [pg : IsPg h pb ab codes m] [q : PickAr L ab most ss R] [tv : TreeV ss m root vals] :
    CallT Tryz.prog 21 [.pointer (some ⟨vb, 0, none⟩), vI root, .agg [vI c, vI a0, vI a1, vI a2, vI a3].toArray] h L (TreeOk ss C codes vals) R
      (fun K => ∀ h', Le h h' → (¬ rightF C c (get4 a0 a1 a2 a3) → K (.tuple [vI 0, vI 17].toArray) h' [arH ab most ss]) ∧
        (rightF C c (get4 a0 a1 a2 a3) → K (.tuple [vI (manyF C vals c (get4 a0 a1 a2 a3)), vI 0].toArray) h' [arH ab most ss])) := ⟨fun hs => spec_ar (vwmany_spec hs)⟩
end
end Go.Sl

/-
  The document's value of a cell, of entries that may be held.
-/
namespace Go.Sl
open Go.Proofs
set_option linter.unusedVariables false
set_option linter.unusedSimpArgs false
set_option maxRecDepth 10000
set_option synthInstance.maxSize 2000
set_option synthInstance.maxHeartbeats 200000
set_option maxHeartbeats 1000000
section
variable {h h0 : PHeap} {rb : Nat} {C : Cat} {kn : Bool} {es : List En} {vals : List Int}
theorem nvalue_spec {a : Option Addr} {ec : Nat} {m a0 a1 a2 a3 : Int} (hV : vals = es.map En.val) (hv : vals.length = (leavesF C C.dims.length).toNat) (h64 : Ok64 vals) : Spec Tryz.prog 20 [.pointer (some ⟨rb, 0, none⟩), .slice a es.length ec, .agg [vI m, vI a0, vI a1, vI a2, vI a3].toArray] h [rsp h rb C kn, slo encEn 2 (.slice a es.length ec) es]
    (fun K => ∀ h', Le h h' → (¬ rightF C m (get4 a0 a1 a2 a3) → K (.tuple [vI 0, vI 17].toArray) h' [rsp h' rb C false, slo encEn 2 (.slice a es.length ec) es]) ∧
      (rightF C m (get4 a0 a1 a2 a3) → K (.tuple [vI (fitN (cellSum C vals (indexF C m (get4 a0 a1 a2 a3)).toNat)), vI (fitE (cellSum C vals (indexF C m (get4 a0 a1 a2 a3)).toNat))].toArray) h' [rsp h' rb C false, slo encEn 2 (.slice a es.length ec) es])) := by
  have hel : vals.length = es.length := by rw [hV]; exact List.length_map ..
  have hget : ∀ j < es.length, (es[j]!).val = vals[j]! := fun j hj => by
    rw [hV, getElem!_pos (es.map En.val) j (by simpa using hj), List.getElem_map, getElem!_pos es j hj]
  refine spec_enter Tryz.func20 rfl Tryz.ntmps20 Tryz.results20 (by simp) fun K R hT => ?_
  haveI : LeT h h := ⟨Hle.refl h⟩
  refine G_conv (x := rsp h rb C kn) (y := rsp h rb C false) (fun bs hb => rsp_any hb) ?_
  refine G_rsp rb fun db lv rv iv ua uc ka kc us ks hok => ?_
  have hRD := hok.rd
  have ok := hok.ok
  have hbl := leaves_bound ok C.dims.length (Nat.le_refl _)
  repeat (first | refine Step.imp ?_ | refine Side.mk (by first | exact True.intro | omega | exact ⟨trivial, rfl⟩ | exact ⟨by omega, trivial, rfl⟩ | exact ⟨by omega, rfl⟩ | exact ⟨by omega, by omega, rfl⟩ | (simp only [List.length_cons, List.length_nil, List.length_append]; done) | (simp only [List.length_cons, List.length_nil, List.length_append]; omega) | decide +kernel) ?_ | refine GDraw_one (by decide +kernel) ?_ | refine New.mk fun _ => ?_ | refine NewS.mk fun _ _ => ?_)
  rename_i cb
  refine ⟨fun hno => ?_, fun hr => ?_⟩
  · refine G_rspIn rb hok ?_
    repeat (first | refine Step.imp ?_ | refine Side.mk (by first | exact True.intro | omega | exact ⟨trivial, rfl⟩ | exact ⟨by omega, trivial, rfl⟩ | exact ⟨by omega, rfl⟩ | exact ⟨by omega, by omega, rfl⟩ | (simp only [List.length_cons, List.length_nil, List.length_append]; done) | (simp only [List.length_cons, List.length_nil, List.length_append]; omega) | decide +kernel) ?_ | refine GDraw_one (by decide +kernel) ?_ | refine New.mk fun _ => ?_ | refine NewS.mk fun _ _ => ?_)
    exact Fin.val ((hT h ⟨Hle.refl h⟩).1 hno) rfl (Hle.refl _)
  have hr := Decidable.not_not.1 hr
  have hve := value_eq ok hr hv
  have hmem := fun n => (under_mem ok hr (n := n)).1
  have hle := under_eq ok hr
  refine G_rspIn rb hok ?_
  repeat (first | refine Step.imp ?_ | refine Side.mk (by first | exact True.intro | omega | exact ⟨trivial, rfl⟩ | exact ⟨by omega, trivial, rfl⟩ | exact ⟨by omega, rfl⟩ | exact ⟨by omega, by omega, rfl⟩ | (simp only [List.length_cons, List.length_nil, List.length_append]; done) | (simp only [List.length_cons, List.length_nil, List.length_append]; omega) | decide +kernel) ?_ | refine GDraw_one (by decide +kernel) ?_ | refine New.mk fun _ => ?_ | refine NewS.mk fun _ _ => ?_)
  intro h1 va vc le1 f1
  obtain ⟨us, hus⟩ : ∃ us, us = underF C m (get4 a0 a1 a2 a3) := ⟨_, rfl⟩
  rw [← hus] at f1 hve hle hmem ⊢
  have hul : us.length ≤ vals.length := by
    rw [hle, hv]; exact pickTo_len _ _
  have hall : ∀ k < us.length, 0 ≤ us[k]! ∧ us[k]! < vals.length := fun k hk => by
    have := (hmem _ (mem_get hk)).1
    omega
  repeat (first | refine Step.imp ?_ | refine Side.mk (by first | exact True.intro | omega | exact ⟨trivial, rfl⟩ | exact ⟨by omega, trivial, rfl⟩ | exact ⟨by omega, rfl⟩ | exact ⟨by omega, by omega, rfl⟩ | (simp only [List.length_cons, List.length_nil, List.length_append]; done) | (simp only [List.length_cons, List.length_nil, List.length_append]; omega) | decide +kernel) ?_ | refine GDraw_one (by decide +kernel) ?_ | refine New.mk fun _ => ?_ | refine NewS.mk fun _ _ => ?_)
  refine G_nil encI 1 none ?_
  refine G_loop (σ := Nat × Option Addr × Nat) (fun s => s.1 ≤ us.length) (fun s => us.length - s.1) (fun s => [(10, vI s.1), (9, .slice va us.length vc), (8, .slice s.2.1 (pickV us vals s.1).length s.2.2), (0 + 1, .slice a es.length ec)]) (fun _ => h1)
    (fun s => slo encI 1 (.slice s.2.1 (pickV us vals s.1).length s.2.2) (pickV us vals s.1) :: rsp h1 rb C false :: slo encEn 2 (.slice a es.length ec) es :: R) (0, none, 0) (Nat.zero_le _) ⟨rfl, rfl, rfl, rfl, trivial⟩ rfl ?_ ?_
  · simp only [pickV, List.take_zero, List.map_nil, List.length_nil]
    infer_instance
  rintro ⟨k, pa, pc⟩ hk
  simp only at hk ⊢
  have hpl := pickV_len (us := us) (vals := vals) hk
  repeat (first | refine Step.imp ?_ | refine Side.mk (by first | exact True.intro | omega | exact ⟨trivial, rfl⟩ | exact ⟨by omega, trivial, rfl⟩ | exact ⟨by omega, rfl⟩ | exact ⟨by omega, by omega, rfl⟩ | (simp only [List.length_cons, List.length_nil, List.length_append]; done) | (simp only [List.length_cons, List.length_nil, List.length_append]; omega) | decide +kernel) ?_ | refine GDraw_one (by decide +kernel) ?_ | refine New.mk fun _ => ?_ | refine NewS.mk fun _ _ => ?_)
  refine ⟨fun hlt => ?_, fun hge => ?_⟩
  · have hps := pickV_succ (us := us) (vals := vals) (k := k) (by omega)
    have hak := hall k (by omega)
    have hgk := hget (us[k]!).toNat (by omega)
    repeat (first | refine Step.imp ?_ | refine Side.mk (by first | exact True.intro | omega | exact ⟨trivial, rfl⟩ | exact ⟨by omega, trivial, rfl⟩ | exact ⟨by omega, rfl⟩ | exact ⟨by omega, by omega, rfl⟩ | (simp only [List.length_cons, List.length_nil, List.length_append]; done) | (simp only [List.length_cons, List.length_nil, List.length_append]; omega) | decide +kernel) ?_ | refine GDraw_one (by decide +kernel) ?_ | refine New.mk fun _ => ?_ | refine NewS.mk fun _ _ => ?_)
    refine ⟨fun hin => ?_, fun hout => absurd (show us[k]! < (es.length : Int) by omega) hout⟩
    repeat (first | refine Step.imp ?_ | refine Side.mk (by first | exact True.intro | omega | exact ⟨trivial, rfl⟩ | exact ⟨by omega, trivial, rfl⟩ | exact ⟨by omega, rfl⟩ | exact ⟨by omega, by omega, rfl⟩ | (simp only [List.length_cons, List.length_nil, List.length_append]; done) | (simp only [List.length_cons, List.length_nil, List.length_append]; omega) | decide +kernel) ?_ | refine GDraw_one (by decide +kernel) ?_ | refine New.mk fun _ => ?_ | refine NewS.mk fun _ _ => ?_)
    rename_i b1 pa1 pc1
    refine X_round (k + 1, pa1, pc1) ?_ ?_ ?_ rfl ?_
    · show k + 1 ≤ us.length
      omega
    · show us.length - (k + 1) < us.length - k
      omega
    · refine ⟨rfl, rfl, ?_, rfl, trivial⟩
      rw [hps, List.length_append]; rfl
    · simp only [hgk, hps, List.length_append, List.length_cons, List.length_nil, Nat.zero_add]
      infer_instance
  · have hk2 : k = us.length := by omega
    subst hk2
    have hfw : FitW 0 (pickV us vals us.length) := ⟨by omega, by omega, fun j hj => by
      have hj2 : j < us.length := by omega
      have : (pickV us vals us.length)[j]! = vals[(us[j]!).toNat]! := by
        unfold pickV
        rw [List.take_length, getElem!_pos _ j (by simpa using hj2), List.getElem_map, getElem!_pos us j hj2]
      rw [this]
      exact h64 _ (by have := hall j hj2; omega)⟩
    have hsum : sumI (pickV us vals us.length) = cellSum C vals (indexF C m (get4 a0 a1 a2 a3)).toNat := by
      unfold pickV
      rw [List.take_length]; exact hve
    repeat (first | refine Step.imp ?_ | refine Side.mk (by first | exact True.intro | omega | exact ⟨trivial, rfl⟩ | exact ⟨by omega, trivial, rfl⟩ | exact ⟨by omega, rfl⟩ | exact ⟨by omega, by omega, rfl⟩ | (simp only [List.length_cons, List.length_nil, List.length_append]; done) | (simp only [List.length_cons, List.length_nil, List.length_append]; omega) | decide +kernel) ?_ | refine GDraw_one (by decide +kernel) ?_ | refine New.mk fun _ => ?_ | refine NewS.mk fun _ _ => ?_)
    exact Fin.val ((hT h1 le1).2 hr) (by rw [hsum]) le1.le
instance n11_value {L M R : List HP} {a : Option Addr} {n ec : Nat} {m a0 a1 a2 a3 : Int} [p : PickR L rb h0 C kn M] [q : PickO M (.slice a n ec) En encEn 2 es R] [hI : Is es.length n] [hl : LeT h0 h] [hV : Is (es.map En.val) vals] : CallT Tryz.prog 20 [.pointer (some ⟨rb, 0, none⟩), .slice a n ec, .agg [vI m, vI a0, vI a1, vI a2, vI a3].toArray] h L (vals.length = (leavesF C C.dims.length).toNat ∧ Ok64 vals) R
    (fun K => ∀ h', Le h h' → (¬ rightF C m (get4 a0 a1 a2 a3) → K (.tuple [vI 0, vI 17].toArray) h' [rsp h' rb C false, slo encEn 2 (.slice a n ec) es]) ∧
      (rightF C m (get4 a0 a1 a2 a3) → K (.tuple [vI (fitN (cellSum C vals (indexF C m (get4 a0 a1 a2 a3)).toNat)), vI (fitE (cellSum C vals (indexF C m (get4 a0 a1 a2 a3)).toNat))].toArray) h' [rsp h' rb C false, slo encEn 2 (.slice a n ec) es])) := ⟨fun hs => by
  have := hI.eq
  subst this
  obtain ⟨x, h1, h2⟩ := p.eq
  exact ⟨[x, slo encEn 2 (.slice a es.length ec) es], h1.trans (List.Perm.cons _ q.eq), fun K R' w hT st => nvalue_spec hV.eq.symm hs.1 hs.2 K R' w hT (St.conv (h2 h hl.le) st)⟩⟩
end
end Go.Sl

/-
  Views: the cells just below one.
-/
namespace Go.Sl
open Go.Proofs
set_option linter.unusedVariables false
set_option linter.unusedSimpArgs false
set_option maxRecDepth 10000
set_option synthInstance.maxSize 2000
set_option synthInstance.maxHeartbeats 200000
set_option maxHeartbeats 1000000
/-- A cell and its value. -/
structure Rw where
  c : Cl
  n : Int
deriving Inhabited
@[reducible] def encRw (r : Rw) : List Value := [vI r.c.m, vI r.c.a0, vI r.c.a1, vI r.c.a2, vI r.c.a3, vI r.n]
instance : EncOne encRw := ⟨fun y u hu => by simp at hu; rcases hu with rfl | rfl | rfl | rfl | rfl | rfl <;> rfl⟩
instance {m a0 a1 a2 a3 n : Int} : Mk encRw [vI m, vI a0, vI a1, vI a2, vI a3, vI n] ⟨⟨m, a0, a1, a2, a3⟩, n⟩ := ⟨rfl⟩
/-- A cell with another member in one dimension. -/
def setAt (c : Cl) (d : Nat) (k : Int) : Cl := ⟨c.m, if d = 0 then k else c.a0, if d = 1 then k else c.a1, if d = 2 then k else c.a2, if d = 3 then k else c.a3⟩
def Cl.a (c : Cl) : Nat → Int := get4 c.a0 c.a1 c.a2 c.a3
theorem setAt_a (c : Cl) (d : Nat) (k : Int) (hd : d < 4) {i : Nat} (hi : i < 4) : (setAt c d k).a i = if i = d then k else c.a i := by
  have h1 : d = 0 ∨ d = 1 ∨ d = 2 ∨ d = 3 := by omega
  have h2 : i = 0 ∨ i = 1 ∨ i = 2 ∨ i = 3 := by omega
  rcases h1 with rfl | rfl | rfl | rfl <;> rcases h2 with rfl | rfl | rfl | rfl <;> rfl
def kidsF (C : Cat) (d : Nat) (i : Int) : List Int := kidsTo (C.dims[d]!).2 (C.dims[d]!).2.length i.toNat
theorem kidsTo_mem {nodes : List Nd} {n i : Nat} {k : Int} : k ∈ kidsTo nodes n i ↔ ∃ j, j < n ∧ (nodes[j]!).up = (i : Int) ∧ (j : Int) = k := by
  unfold kidsTo
  simp [List.mem_map, List.mem_filter, and_assoc]
theorem kidsTo_lenle (nodes : List Nd) (n i : Nat) : (kidsTo nodes n i).length ≤ n := by
  unfold kidsTo
  rw [List.length_map]
  exact Nat.le_trans (List.length_filter_le ..) (by simp)
def valF (C : Cat) (vals : List Int) (c : Cl) : Int := cellSum C vals (indexF C c.m c.a).toNat
def rowOf (C : Cat) (vals : List Int) (c : Cl) (d : Nat) (k : Int) : Rw := ⟨setAt c d k, valF C vals (setAt c d k)⟩
section
variable {h : PHeap} {b vb sb pb ab m : Nat} {codes most : Int} {ss : List Slt} {C : Cat} {vals : List Int}
instance tree_kids {L : List HP} {i : Int} {nodes : List Nd} [hI : IsTree h b (mkTree nodes)] : CallX Tryz.prog 55 [.pointer (some ⟨b, 0, none⟩), vI i] h L (nodes.length ≤ 32 ∧ 0 ≤ i ∧ i < nodes.length)
    (fun K => ∀ a c, K (.slice a (kidsTo nodes nodes.length i.toNat).length c) h [slo encI 1 (.slice a (kidsTo nodes nodes.length i.toNat).length c) (kidsTo nodes nodes.length i.toNat)]) := ⟨fun hs => by
  obtain ⟨nv, mb, kv, ov, lv, sv, kvs, ty, fr, h1, h2, h3, h4, h5, h6, h7, h8, h9⟩ := hI.out
  have hkl : (mkTree nodes).kids.length = nodes.length := kidsOf_len nodes
  have hn : (mkTree nodes).nodes.length = nodes.length := rfl
  have hk := h5 i.toNat (by omega)
  have hke : (mkTree nodes).kids[i.toNat]! = kidsTo nodes nodes.length i.toNat := kidsOf_get (by omega)
  rw [hke] at hk
  have hll := kidsTo_lenle nodes nodes.length i.toNat
  haveI : Known (0 ≤ i ∧ i < (mkTree nodes).nodes.length) := ⟨hs.2⟩
  refine spec_enter Tryz.func55 rfl Tryz.ntmps55 Tryz.results55 (by simp) fun K R hT => ?_
  repeat (first | refine Step.imp ?_ | refine Side.mk (by first | exact True.intro | omega | exact ⟨trivial, rfl⟩ | exact ⟨by omega, trivial, rfl⟩ | exact ⟨by omega, rfl⟩ | exact ⟨by omega, by omega, rfl⟩ | (simp only [List.length_cons, List.length_nil, List.length_append]; done) | (simp only [List.length_cons, List.length_nil, List.length_append]; omega) | decide +kernel) ?_ | refine GDraw_one (by decide +kernel) ?_ | refine New.mk fun _ => ?_ | refine NewS.mk fun _ _ => ?_)
  intro a c
  repeat (first | refine Step.imp ?_ | refine Side.mk (by first | exact True.intro | omega | exact ⟨trivial, rfl⟩ | exact ⟨by omega, trivial, rfl⟩ | exact ⟨by omega, rfl⟩ | exact ⟨by omega, by omega, rfl⟩ | (simp only [List.length_cons, List.length_nil, List.length_append]; done) | (simp only [List.length_cons, List.length_nil, List.length_append]; omega) | decide +kernel) ?_ | refine GDraw_one (by decide +kernel) ?_ | refine New.mk fun _ => ?_ | refine NewS.mk fun _ _ => ?_)
  exact Fin.val (hT a c) rfl (Hle.refl _)⟩
instance dims_treeN {k : Int} [hD : IsD h b C] [hk : Known (¬ (0 ≤ k ∧ k < C.dims.length))] : CallV Tryz.prog 48 [.pointer (some ⟨b, 0, none⟩), vI k] h True (.pointer none) := ⟨fun _ => by
  have hk := hk.yes
  refine spec_enter Tryz.func48 rfl Tryz.ntmps48 Tryz.results48 (by simp) fun K R hT => ?_
  repeat' (first | refine Step.imp ?_ | refine Side.mk (by first | exact True.intro | omega | exact ⟨trivial, rfl⟩ | exact ⟨by omega, trivial, rfl⟩ | exact ⟨by omega, rfl⟩ | exact ⟨by omega, by omega, rfl⟩ | (simp only [List.length_cons, List.length_nil, List.length_append]; done) | (simp only [List.length_cons, List.length_nil, List.length_append]; omega) | decide +kernel) ?_ | refine GDraw_one (by decide +kernel) ?_ | refine New.mk fun _ => ?_ | refine NewS.mk fun _ _ => ?_ | refine Ways.mk (fun _ => ?_) (fun _ => ?_))
  all_goals first | (exfalso; omega) | exact Fin.val hT rfl (Hle.refl _)⟩
theorem vwslice_spec {root c a0 a1 a2 a3 dim : Int} [p : IsVw h vb sb pb] [hS : IsSp h sb C] [ok : OkCat C] [pg : IsPg h pb ab codes m] [tv : TreeV ss m root vals] (ht : TreeOk ss C codes vals) :
    Spec Tryz.prog 18 [.pointer (some ⟨vb, 0, none⟩), vI root, .agg [vI c, vI a0, vI a1, vI a2, vI a3].toArray, vI dim] h [arH ab most ss]
      (fun K => ∀ h', Le h h' → (¬ (rightF C c (get4 a0 a1 a2 a3) ∧ 0 ≤ dim ∧ dim < C.dims.length) → K (.tuple [.slice none 0 0, vI 17].toArray) h' [arH ab most ss]) ∧
        (rightF C c (get4 a0 a1 a2 a3) → 0 ≤ dim ∧ dim < C.dims.length →
          ((∀ k ∈ kidsF C dim.toNat (get4 a0 a1 a2 a3 dim.toNat), FitP (valF C vals (setAt ⟨c, a0, a1, a2, a3⟩ dim.toNat k))) → ∀ a ec, K (.tuple [.slice a (kidsF C dim.toNat (get4 a0 a1 a2 a3 dim.toNat)).length ec, vI 0].toArray) h' [arH ab most ss, slo encRw 6 (.slice a (kidsF C dim.toNat (get4 a0 a1 a2 a3 dim.toNat)).length ec) ((kidsF C dim.toNat (get4 a0 a1 a2 a3 dim.toNat)).map (rowOf C vals ⟨c, a0, a1, a2, a3⟩ dim.toNat))]) ∧
          (¬ (∀ k ∈ kidsF C dim.toNat (get4 a0 a1 a2 a3 dim.toNat), FitP (valF C vals (setAt ⟨c, a0, a1, a2, a3⟩ dim.toNat k))) → K (.tuple [.slice none 0 0, vI 8].toArray) h' [arH ab most ss]))) := by
  have hd := ok.dims
  refine spec_enter Tryz.func18 rfl Tryz.ntmps18 Tryz.results18 (by simp) fun K R hT => ?_
  by_cases hr : rightF C c (get4 a0 a1 a2 a3)
  rotate_left
  · haveI : Known ((if rightF C c (get4 a0 a1 a2 a3) then 0 else 17 : Int) ≠ 0) := ⟨by rw [if_neg hr]; decide⟩
    repeat (first | refine Step.imp ?_ | refine Side.mk (by first | exact True.intro | omega | exact ⟨trivial, rfl⟩ | exact ⟨by omega, trivial, rfl⟩ | exact ⟨by omega, rfl⟩ | exact ⟨by omega, by omega, rfl⟩ | (simp only [List.length_cons, List.length_nil, List.length_append]; done) | (simp only [List.length_cons, List.length_nil, List.length_append]; omega) | decide +kernel) ?_ | refine GDraw_one (by decide +kernel) ?_ | refine New.mk fun _ => ?_ | refine NewS.mk fun _ _ => ?_)
    exact Fin.val ((hT h ⟨Hle.refl h⟩).1 (fun q => hr q.1)) (by rw [if_neg hr]) (Hle.refl _)
  haveI : Known (¬ ((if rightF C c (get4 a0 a1 a2 a3) then 0 else 17 : Int) ≠ 0)) := ⟨by rw [if_pos hr]; decide⟩
  by_cases hdm : 0 ≤ dim ∧ dim < C.dims.length
  rotate_left
  · haveI : Known (¬ (0 ≤ dim ∧ dim < C.dims.length)) := ⟨hdm⟩
    repeat (first | refine Step.imp ?_ | refine Side.mk (by first | exact True.intro | omega | exact ⟨trivial, rfl⟩ | exact ⟨by omega, trivial, rfl⟩ | exact ⟨by omega, rfl⟩ | exact ⟨by omega, by omega, rfl⟩ | (simp only [List.length_cons, List.length_nil, List.length_append]; done) | (simp only [List.length_cons, List.length_nil, List.length_append]; omega) | decide +kernel) ?_ | refine GDraw_one (by decide +kernel) ?_ | refine New.mk fun _ => ?_ | refine NewS.mk fun _ _ => ?_)
    intro db hD
    repeat (first | refine Step.imp ?_ | refine Side.mk (by first | exact True.intro | omega | exact ⟨trivial, rfl⟩ | exact ⟨by omega, trivial, rfl⟩ | exact ⟨by omega, rfl⟩ | exact ⟨by omega, by omega, rfl⟩ | (simp only [List.length_cons, List.length_nil, List.length_append]; done) | (simp only [List.length_cons, List.length_nil, List.length_append]; omega) | decide +kernel) ?_ | refine GDraw_one (by decide +kernel) ?_ | refine New.mk fun _ => ?_ | refine NewS.mk fun _ _ => ?_)
    exact Fin.val ((hT h ⟨Hle.refl h⟩).1 (fun q => hdm q.2)) rfl (Hle.refl _)
  have hT2 := fun h' le => (hT h' le).2 hr hdm
  obtain ⟨d, hdd⟩ : ∃ d : Nat, d = dim.toNat := ⟨_, rfl⟩
  rw [← hdd] at hT2
  have hd4 : d < 4 := by omega
  have hdc : d < C.dims.length := by omega
  have hdim : dim = (d : Int) := by omega
  subst hdim
  have hra := hr.2 d hd4
  have hsz : sizeF C d = (C.dims[d]!).2.length := if_pos hdc
  rw [hsz] at hra
  have hts := tree_small (ok.trees d hdc).2
  repeat (first | refine Step.imp ?_ | refine Side.mk (by first | exact True.intro | omega | exact ⟨trivial, rfl⟩ | exact ⟨by omega, trivial, rfl⟩ | exact ⟨by omega, rfl⟩ | exact ⟨by omega, by omega, rfl⟩ | (simp only [List.length_cons, List.length_nil, List.length_append]; done) | (simp only [List.length_cons, List.length_nil, List.length_append]; omega) | decide +kernel) ?_ | refine GDraw_one (by decide +kernel) ?_ | refine New.mk fun _ => ?_ | refine NewS.mk fun _ _ => ?_)
  intro db hD
  repeat (first | refine Step.imp ?_ | refine Side.mk (by first | exact True.intro | omega | exact ⟨trivial, rfl⟩ | exact ⟨by omega, trivial, rfl⟩ | exact ⟨by omega, rfl⟩ | exact ⟨by omega, by omega, rfl⟩ | (simp only [List.length_cons, List.length_nil, List.length_append]; done) | (simp only [List.length_cons, List.length_nil, List.length_append]; omega) | decide +kernel) ?_ | refine GDraw_one (by decide +kernel) ?_ | refine New.mk fun _ => ?_ | refine NewS.mk fun _ _ => ?_)
  intro tb hTb
  repeat (first | refine Step.imp ?_ | refine Side.mk (by first | exact True.intro | omega | exact ⟨trivial, rfl⟩ | exact ⟨by omega, trivial, rfl⟩ | exact ⟨by omega, rfl⟩ | exact ⟨by omega, by omega, rfl⟩ | (simp only [List.length_cons, List.length_nil, List.length_append]; done) | (simp only [List.length_cons, List.length_nil, List.length_append]; omega) | decide +kernel) ?_ | refine GDraw_one (by decide +kernel) ?_ | refine New.mk fun _ => ?_ | refine NewS.mk fun _ _ => ?_)
  intro ka kc
  obtain ⟨ks, hks⟩ : ∃ ks, ks = kidsTo (C.dims[d]!).2 (C.dims[d]!).2.length (get4 a0 a1 a2 a3 d).toNat := ⟨_, rfl⟩
  have hkf : kidsF C d (get4 a0 a1 a2 a3 d) = ks := hks.symm
  have hkl : ks.length ≤ 32 := by rw [hks]; exact Nat.le_trans (kidsTo_lenle ..) hts.1
  rw [← hks]
  rw [hkf] at hT2
  have hrk : ∀ j < ks.length, rightF C c (setAt ⟨c, a0, a1, a2, a3⟩ d (ks[j]!)).a := fun j hj => by
    have hm := mem_get (l := ks) hj
    rw [hks] at hm
    obtain ⟨t, ht1, _, ht2⟩ := kidsTo_mem.1 hm
    rw [← hks] at ht2
    refine ⟨hr.1, fun i hi => ?_⟩
    rw [setAt_a _ d _ hd4 hi]
    split
    · rename_i e; rw [e, hsz]; omega
    · exact hr.2 i hi
  obtain ⟨rows, hrows⟩ : ∃ rows : List Rw, rows = ks.map (rowOf C vals ⟨c, a0, a1, a2, a3⟩ d) := ⟨_, rfl⟩
  have hrl : rows.length = ks.length := by rw [hrows]; exact List.length_map ..
  have hrt : ∀ k < ks.length, rows.take (k + 1) = rows.take k ++ [rowOf C vals ⟨c, a0, a1, a2, a3⟩ d (ks[k]!)] := fun k hk => by
    rw [List.take_succ_eq_append_getElem (by omega), getElem!_pos ks k hk]
    congr 2
    simp only [hrows, List.getElem_map]
  haveI := p
  repeat (first | refine Step.imp ?_ | refine Side.mk (by first | exact True.intro | omega | exact ⟨trivial, rfl⟩ | exact ⟨by omega, trivial, rfl⟩ | exact ⟨by omega, rfl⟩ | exact ⟨by omega, by omega, rfl⟩ | (simp only [List.length_cons, List.length_nil, List.length_append]; done) | (simp only [List.length_cons, List.length_nil, List.length_append]; omega) | decide +kernel) ?_ | refine GDraw_one (by decide +kernel) ?_ | refine New.mk fun _ => ?_ | refine NewS.mk fun _ _ => ?_)
  rename_i cb
  refine G_nil encRw 6 none ?_
  refine G_loop (σ := Nat × Option Addr × Nat × PHeap) (fun s => s.1 ≤ ks.length ∧ Hle h s.2.2.2 ∧ ∀ j < s.1, FitP (valF C vals (setAt ⟨c, a0, a1, a2, a3⟩ d (ks[j]!)))) (fun s => ks.length - s.1) (fun s => [(40, vI s.1), (39, vI ks.length), (38, .slice ka ks.length kc), (12, .slice s.2.1 s.1 s.2.2.1), (0, .pointer (some ⟨vb, 0, none⟩)), (0 + 1, vI root), (0 + 1 + 1 + 1, vI d), (6, .pointer (some ⟨cb, 0, none⟩))]) (fun s => s.2.2.2)
    (fun s => slo encRw 6 (.slice s.2.1 s.1 s.2.2.1) (rows.take s.1) :: slo encI 1 (.slice ka ks.length kc) ks :: blk cb (.cells [vI c, vI a0, vI a1, vI a2, vI a3].toArray 48 (0, 0)) :: arH ab most ss :: R) (0, none, 0, h) ⟨Nat.zero_le _, Hle.refl h, fun j hj => by simp only at hj; omega⟩ ⟨rfl, rfl, rfl, rfl, rfl, rfl, rfl, rfl, trivial⟩ rfl ?_ ?_
  · simp only [List.take_zero]
    infer_instance
  rintro ⟨k, pa, pc, h1⟩ ⟨hk, hl1, hall⟩
  simp only at hk hl1 hall ⊢
  haveI := p.mono hl1
  haveI := hS.mono hl1
  haveI := pg.mono hl1
  have htl : (rows.take k).length = k := by rw [List.length_take]; omega
  haveI : Is (rows.take k).length k := ⟨htl⟩
  by_cases hlt : k < ks.length
  · haveI : Known ((k : Int) < ks.length) := ⟨by omega⟩
    have hr2 := hrk k hlt
    have hr3 := hrt k hlt
    repeat (first | refine Step.imp ?_ | refine Side.mk (by first | exact True.intro | omega | exact ⟨trivial, rfl⟩ | exact ⟨by omega, trivial, rfl⟩ | exact ⟨by omega, rfl⟩ | exact ⟨by omega, by omega, rfl⟩ | (simp only [List.length_cons, List.length_nil, List.length_append]; done) | (simp only [List.length_cons, List.length_nil, List.length_append]; omega) | decide +kernel) ?_ | refine GDraw_one (by decide +kernel) ?_ | refine New.mk fun _ => ?_ | refine NewS.mk fun _ _ => ?_)
    intro h2 le2
    refine ⟨fun hno => absurd hr2 hno, fun _ => ?_⟩
    obtain ⟨v, hv⟩ : ∃ v, v = valF C vals (setAt ⟨c, a0, a1, a2, a3⟩ d (ks[k]!)) := ⟨_, rfl⟩
    rw [show cellSum C vals (indexF C c (get4 (if d = 0 then ks[k]! else a0) (if d = 1 then ks[k]! else a1) (if d = 2 then ks[k]! else a2) (if d = 3 then ks[k]! else a3))).toNat = v from hv.symm]
    have hl2 := hl1.trans le2.le
    by_cases hf : FitP v
    · rw [show fitE v = 0 from if_pos hf, show fitN v = v from if_pos hf]
      haveI : Known (¬ ((0 : Int) ≠ 0)) := ⟨by decide⟩
      haveI : Is ((rows.take k).length + 1) (k + 1) := ⟨by omega⟩
      repeat (first | refine Step.imp ?_ | refine Side.mk (by first | exact True.intro | omega | exact ⟨trivial, rfl⟩ | exact ⟨by omega, trivial, rfl⟩ | exact ⟨by omega, rfl⟩ | exact ⟨by omega, by omega, rfl⟩ | (simp only [List.length_cons, List.length_nil, List.length_append]; done) | (simp only [List.length_cons, List.length_nil, List.length_append]; omega) | decide +kernel) ?_ | refine GDraw_one (by decide +kernel) ?_ | refine New.mk fun _ => ?_ | refine NewS.mk fun _ _ => ?_)
      rename_i pa1 pc1
      refine X_round (k + 1, pa1, pc1, h2) ⟨by show k + 1 ≤ ks.length; omega, hl2, fun j hj => ?_⟩ (by show ks.length - (k + 1) < ks.length - k; omega) ?_ rfl ?_
      · rcases Nat.lt_or_ge j k with h3 | h3
        · exact hall j h3
        · have hj : j < k + 1 := hj
          have : j = k := by omega
          subst this; rw [← hv]; exact hf
      · refine ⟨rfl, rfl, rfl, ?_, rfl, rfl, rfl, rfl, trivial⟩
        rw [htl]
      · show Sub _ (slo encRw 6 (.slice pa1 (k + 1) pc1) (rows.take (k + 1)) :: _)
        rw [hr3, show rowOf C vals ⟨c, a0, a1, a2, a3⟩ d (ks[k]!) = ⟨⟨c, if d = 0 then ks[k]! else a0, if d = 1 then ks[k]! else a1, if d = 2 then ks[k]! else a2, if d = 3 then ks[k]! else a3⟩, v⟩ by rw [hv]; rfl]
        rw [htl]
        infer_instance
    · rw [show fitE v = 8 from if_neg hf]
      haveI : Known ((8 : Int) ≠ 0) := ⟨by decide⟩
      repeat (first | refine Step.imp ?_ | refine Side.mk (by first | exact True.intro | omega | exact ⟨trivial, rfl⟩ | exact ⟨by omega, trivial, rfl⟩ | exact ⟨by omega, rfl⟩ | exact ⟨by omega, by omega, rfl⟩ | (simp only [List.length_cons, List.length_nil, List.length_append]; done) | (simp only [List.length_cons, List.length_nil, List.length_append]; omega) | decide +kernel) ?_ | refine GDraw_one (by decide +kernel) ?_ | refine New.mk fun _ => ?_ | refine NewS.mk fun _ _ => ?_)
      exact Fin.val ((hT2 h2 ⟨hl2⟩).2 (fun q => hf (by rw [hv]; exact q _ (mem_get hlt)))) rfl hl2
  · have hk2 : k = ks.length := by omega
    subst hk2
    haveI : Known (¬ ((ks.length : Int) < ks.length)) := ⟨by omega⟩
    rw [← hrl, List.take_length, hrl]
    repeat (first | refine Step.imp ?_ | refine Side.mk (by first | exact True.intro | omega | exact ⟨trivial, rfl⟩ | exact ⟨by omega, trivial, rfl⟩ | exact ⟨by omega, rfl⟩ | exact ⟨by omega, by omega, rfl⟩ | (simp only [List.length_cons, List.length_nil, List.length_append]; done) | (simp only [List.length_cons, List.length_nil, List.length_append]; omega) | decide +kernel) ?_ | refine GDraw_one (by decide +kernel) ?_ | refine New.mk fun _ => ?_ | refine NewS.mk fun _ _ => ?_)
    rw [hrows]
    exact Fin.val ((hT2 h1 ⟨hl1⟩).1 (fun q hq => by
      obtain ⟨j, hj, rfl⟩ := List.mem_iff_getElem.1 hq
      have := hall j hj
      rwa [getElem!_pos ks j hj] at this) pa pc) rfl hl1
instance vw_slice {L R : List HP} {root c a0 a1 a2 a3 dim : Int} [p : IsVw h vb sb pb] [hS : IsSp h sb C] [ok : OkCat C] [pg : IsPg h pb ab codes m] [q : PickAr L ab most ss R] [tv : TreeV ss m root vals] : CallT Tryz.prog 18 [.pointer (some ⟨vb, 0, none⟩), vI root, .agg [vI c, vI a0, vI a1, vI a2, vI a3].toArray, vI dim] h L (TreeOk ss C codes vals) R
      (fun K => ∀ h', Le h h' → (¬ (rightF C c (get4 a0 a1 a2 a3) ∧ 0 ≤ dim ∧ dim < C.dims.length) → K (.tuple [.slice none 0 0, vI 17].toArray) h' [arH ab most ss]) ∧
        (rightF C c (get4 a0 a1 a2 a3) → 0 ≤ dim ∧ dim < C.dims.length →
          ((∀ k ∈ kidsF C dim.toNat (get4 a0 a1 a2 a3 dim.toNat), FitP (valF C vals (setAt ⟨c, a0, a1, a2, a3⟩ dim.toNat k))) → ∀ a ec, K (.tuple [.slice a (kidsF C dim.toNat (get4 a0 a1 a2 a3 dim.toNat)).length ec, vI 0].toArray) h' [arH ab most ss, slo encRw 6 (.slice a (kidsF C dim.toNat (get4 a0 a1 a2 a3 dim.toNat)).length ec) ((kidsF C dim.toNat (get4 a0 a1 a2 a3 dim.toNat)).map (rowOf C vals ⟨c, a0, a1, a2, a3⟩ dim.toNat))]) ∧
          (¬ (∀ k ∈ kidsF C dim.toNat (get4 a0 a1 a2 a3 dim.toNat), FitP (valF C vals (setAt ⟨c, a0, a1, a2, a3⟩ dim.toNat k))) → K (.tuple [.slice none 0 0, vI 8].toArray) h' [arH ab most ss]))) := ⟨fun hs => spec_ar (vwslice_spec hs)⟩
end
end Go.Sl
