/-
  Facts that the proof is made of (F4).
-/
import Derived.Test.YtoekdnandjjeoaaGreatKF3
import Derived.Test.YtoekdnandjjeoaaGreatKP2
/-
  The document's spaces: numbers as leaves and as cells; what is within what.
-/
namespace Go.Sl
open Go.Proofs
set_option linter.unusedVariables false
set_option linter.unusedSimpArgs false
set_option maxRecDepth 10000
set_option synthInstance.maxSize 2000
set_option synthInstance.maxHeartbeats 200000
set_option maxHeartbeats 1000000
/-- A leaf's members from behind. -/
def lfF (C : Cat) (n : Int) (j i : Nat) : Int := if C.dims.length - j ≤ i ∧ i < C.dims.length then leafAt C n i else 0
theorem lfF_zero (C : Cat) (n : Int) (i : Nat) : lfF C n 0 i = 0 := by unfold lfF; rw [if_neg (by omega)]
theorem lfF_succ (C : Cat) (n : Int) (j i : Nat) (h : j < C.dims.length) : lfF C n (j + 1) i = if C.dims.length - 1 - j = i then leafAt C n (C.dims.length - 1 - j) else lfF C n j i := by
  unfold lfF
  by_cases e : C.dims.length - 1 - j = i
  · rw [if_pos e, if_pos (by omega), e]
  · rw [if_neg e]
    by_cases h2 : C.dims.length - j ≤ i ∧ i < C.dims.length
    · rw [if_pos h2, if_pos (by omega)]
    · rw [if_neg h2, if_neg (by omega)]
theorem lfF_all (C : Cat) (n : Int) (i : Nat) : lfF C n C.dims.length i = leafAtF C n i := by
  unfold lfF leafAtF partF
  by_cases h : i < C.dims.length
  · rw [if_pos ⟨by omega, h⟩, if_pos h]
  · rw [if_neg (by omega), if_neg h]
/-- What is folded at a function's end. -/
class Fold (h : PHeap) (L : List HP) (L' : outParam (List HP)) : Prop where
  eq : ∀ w, St h L w → St h L' w
section
variable {P : Program} {N : NN} {Q : Post} {e : Env} {h : PHeap} {L L' R : List HP} {k : List It}
instance (priority := high) x_foldR [f : Fold h L L'] : Step (X P N .ret k Q e h L) (X P N .ret k Q e h L') := ⟨fun g a w s => g a w (s.ae.as (f.eq w s.st))⟩
theorem fold_rsp {b db : Nat} {C : Cat} {kn : Bool} {lv rv iv : Value} {ua ka : Option Addr} {uc kc : Nat} {us : List SV} {ks : List Bool} (r : RspOk h C kn db lv rv iv us ks) : ∀ L R, [Pick3 L b db lv rv iv ua uc ka kc us ks R] → Fold h L (rsp h b C kn :: R) :=
  fun _ _ p => ⟨fun _ s => St.rspIn r (s.perm p.eq)⟩
end
section
variable {h h0 : PHeap} {b : Nat} {C : Cat} {kn : Bool}
theorem rleaf_spec {n : Int} : Spec Tryz.prog 66 [.pointer (some ⟨b, 0, none⟩), vI n] h [rsp h b C kn]
    (fun K => ∀ h', Le h h' → (¬ (0 ≤ n ∧ n < leavesF C C.dims.length) → K (.tuple [.agg [vI 0, vI 0, vI 0, vI 0, vI 0].toArray, .bool false].toArray) h' [rsp h' b C kn]) ∧
      ((0 ≤ n ∧ n < leavesF C C.dims.length) → K (.tuple [.agg [vI (quoF (leavesN C) n C.dims.length C.dims.length), vI (leafAtF C n 0), vI (leafAtF C n 1), vI (leafAtF C n 2), vI (leafAtF C n 3)].toArray, .bool true].toArray) h' [rsp h' b C kn])) := by
  refine spec_enter Tryz.func66 rfl Tryz.ntmps66 Tryz.results66 (by simp) fun K R hT => ?_
  haveI : LeT h h := ⟨Hle.refl h⟩
  repeat (first | refine Step.imp ?_ | refine Side.mk (by first | exact True.intro | omega | exact ⟨trivial, rfl⟩ | exact ⟨by omega, trivial, rfl⟩ | exact ⟨by omega, rfl⟩ | exact ⟨by omega, by omega, rfl⟩ | (simp only [List.length_cons, List.length_nil, List.length_append]; done) | (simp only [List.length_cons, List.length_nil, List.length_append]; omega) | decide +kernel) ?_ | refine GDraw_one (by decide +kernel) ?_ | refine New.mk fun _ => ?_ | refine NewS.mk fun _ _ => ?_)
  refine ⟨fun hneg => ?_, fun hpos => ?_⟩
  · have hfin := (hT h ⟨Hle.refl h⟩).1 (by omega)
    repeat (first | refine Step.imp ?_ | refine Side.mk (by first | exact True.intro | omega | exact ⟨trivial, rfl⟩ | exact ⟨by omega, trivial, rfl⟩ | exact ⟨by omega, rfl⟩ | exact ⟨by omega, by omega, rfl⟩ | (simp only [List.length_cons, List.length_nil, List.length_append]; done) | (simp only [List.length_cons, List.length_nil, List.length_append]; omega) | decide +kernel) ?_ | refine GDraw_one (by decide +kernel) ?_ | refine New.mk fun _ => ?_ | refine NewS.mk fun _ _ => ?_)
    exact Fin.val hfin rfl (Hle.refl _)
  repeat (first | refine Step.imp ?_ | refine Side.mk (by first | exact True.intro | omega | exact ⟨trivial, rfl⟩ | exact ⟨by omega, trivial, rfl⟩ | exact ⟨by omega, rfl⟩ | exact ⟨by omega, by omega, rfl⟩ | (simp only [List.length_cons, List.length_nil, List.length_append]; done) | (simp only [List.length_cons, List.length_nil, List.length_append]; omega) | decide +kernel) ?_ | refine GDraw_one (by decide +kernel) ?_ | refine New.mk fun _ => ?_ | refine NewS.mk fun _ _ => ?_)
  intro h1 le1
  repeat (first | refine Step.imp ?_ | refine Side.mk (by first | exact True.intro | omega | exact ⟨trivial, rfl⟩ | exact ⟨by omega, trivial, rfl⟩ | exact ⟨by omega, rfl⟩ | exact ⟨by omega, by omega, rfl⟩ | (simp only [List.length_cons, List.length_nil, List.length_append]; done) | (simp only [List.length_cons, List.length_nil, List.length_append]; omega) | decide +kernel) ?_ | refine GDraw_one (by decide +kernel) ?_ | refine New.mk fun _ => ?_ | refine NewS.mk fun _ _ => ?_)
  refine ⟨fun hbig => ?_, fun hsm => ?_⟩
  · have hfin := (hT h1 le1).1 (by omega)
    refine G_rspP b fun db lv rv iv ua uc ka kc us ks hok hR => ?_
    refine G_rspIn b hok ?_
    repeat (first | refine Step.imp ?_ | refine Side.mk (by first | exact True.intro | omega | exact ⟨trivial, rfl⟩ | exact ⟨by omega, trivial, rfl⟩ | exact ⟨by omega, rfl⟩ | exact ⟨by omega, by omega, rfl⟩ | (simp only [List.length_cons, List.length_nil, List.length_append]; done) | (simp only [List.length_cons, List.length_nil, List.length_append]; omega) | decide +kernel) ?_ | refine GDraw_one (by decide +kernel) ?_ | refine New.mk fun _ => ?_ | refine NewS.mk fun _ _ => ?_)
    exact Fin.val hfin rfl le1.le
  have hin : 0 ≤ n ∧ n < leavesF C C.dims.length := by omega
  have hfin := (hT h1 le1).2 hin
  refine G_rspP b fun db lv rv iv ua uc ka kc us ks hok hR => ?_
  obtain ⟨dv, mv, tv, ds, tbs, ty, fr, d1, d2, d3, d4, d5, d6, d7⟩ := hok.rd.out
  obtain ⟨lvs, rvs, ivs, t1, t2, t3, t4⟩ := hR.out
  have htl := t4.ll
  have ok := hok.ok
  have hd := ok.dims
  have hpos := leavesN_pos hin
  have hbd := leaves_bound ok C.dims.length (Nat.le_refl _)
  simp only [← lfF_all] at hfin
  repeat (first | refine Step.imp ?_ | refine Side.mk (by first | exact True.intro | omega | exact ⟨trivial, rfl⟩ | exact ⟨by omega, trivial, rfl⟩ | exact ⟨by omega, rfl⟩ | exact ⟨by omega, by omega, rfl⟩ | (simp only [List.length_cons, List.length_nil, List.length_append]; done) | (simp only [List.length_cons, List.length_nil, List.length_append]; omega) | decide +kernel) ?_ | refine GDraw_one (by decide +kernel) ?_ | refine New.mk fun _ => ?_ | refine NewS.mk fun _ _ => ?_)
  rename_i rb _ cb
  refine G_loop (σ := Nat) (fun j => j ≤ C.dims.length) (fun j => C.dims.length - j) (fun j => [(7, vI ((C.dims.length : Int) - j)), (1, vI (quoF (leavesN C) n C.dims.length j)), (0, .pointer (some ⟨b, 0, none⟩)), (6, .pointer (some ⟨cb, 0, none⟩)), (4, .pointer (some ⟨rb, 0, none⟩))]) (fun _ => h1)
    (fun j => blk cb (.cells [vI 0, vI (lfF C n j 0), vI (lfF C n j 1), vI (lfF C n j 2), vI (lfF C n j 3)].toArray 48 (0, 0)) :: blk rb (.cells [vI 0, vI 0, vI 0, vI 0, vI 0].toArray 48 (0, 0)) ::
      rspB b db lv rv iv (.slice ua us.length uc) (.slice ka ks.length kc) :: slo encSV 1 (.slice ua us.length uc) us :: slo encB 1 (.slice ka ks.length kc) ks :: R) 0 (by omega) ?_ rfl ?_ ?_
  · refine ⟨?_, rfl, rfl, rfl, rfl, trivial⟩
    rw [d6]; show _ = some (vI ((C.dims.length : Int) - 0)); rw [Int.sub_zero]
  · simp only [lfF_zero]
    infer_instance
  intro j hj
  have hq := quoF_nonneg (o := leavesN C) hin.1 hpos j hj
  repeat (first | refine Step.imp ?_ | refine Side.mk (by first | exact True.intro | omega | exact ⟨trivial, rfl⟩ | exact ⟨by omega, trivial, rfl⟩ | exact ⟨by omega, rfl⟩ | exact ⟨by omega, by omega, rfl⟩ | (simp only [List.length_cons, List.length_nil, List.length_append]; done) | (simp only [List.length_cons, List.length_nil, List.length_append]; omega) | decide +kernel) ?_ | refine GDraw_one (by decide +kernel) ?_ | refine New.mk fun _ => ?_ | refine NewS.mk fun _ _ => ?_)
  refine ⟨fun hlt => ?_, fun hge => ?_⟩
  · have hji : (C.dims.length : Int) - j = ((C.dims.length - 1 - j : Nat) : Int) + 1 := by omega
    have hj4 : C.dims.length - 1 - j < 4 := by omega
    have hlk := (t4.all (C.dims.length - 1 - j) (by omega)).1
    have hoj := hpos (C.dims.length - 1 - j) (by omega)
    have hmod := Int.emod_nonneg (quoF (leavesN C) n C.dims.length j) (show leavesN C (C.dims.length - 1 - j) ≠ 0 by omega)
    have hmod2 := Int.emod_lt_of_pos (quoF (leavesN C) n C.dims.length j) hoj
    rw [show leavesN C (C.dims.length - 1 - j) = ((mkTree (C.dims[C.dims.length - 1 - j]!).2).leaves.length : Int) from rfl] at hoj hmod hmod2
    have hla : leafAt C n (C.dims.length - 1 - j) = (mkTree (C.dims[C.dims.length - 1 - j]!).2).leaves[(quoF (leavesN C) n C.dims.length j % ((mkTree (C.dims[C.dims.length - 1 - j]!).2).leaves.length : Int)).toNat]! := by
      unfold leafAt remF
      rw [show C.dims.length - 1 - (C.dims.length - 1 - j) = j by omega]; rfl
    rw [hji]
    repeat (first | refine Step.imp ?_ | refine Side.mk (by first | exact True.intro | omega | exact ⟨trivial, rfl⟩ | exact ⟨by omega, trivial, rfl⟩ | exact ⟨by omega, rfl⟩ | exact ⟨by omega, by omega, rfl⟩ | (simp only [List.length_cons, List.length_nil, List.length_append]; done) | (simp only [List.length_cons, List.length_nil, List.length_append]; omega) | decide +kernel) ?_ | refine GDraw_one (by decide +kernel) ?_ | refine New.mk fun _ => ?_ | refine NewS.mk fun _ _ => ?_)
    refine X_round (j + 1) ?_ ?_ ?_ ?_ ?_
    · show j + 1 ≤ C.dims.length
      omega
    · show C.dims.length - (j + 1) < C.dims.length - j
      omega
    · refine ⟨?_, rfl, rfl, rfl, rfl, trivial⟩
      show some (vI (((C.dims.length - 1 - j : Nat) : Int) + 1 - 1)) = some (vI ((C.dims.length : Int) - ((j + 1 : Nat) : Int)))
      congr 2; omega
    · rfl
    · simp only [lfF_succ _ _ j _ (show j < C.dims.length by omega), hla]
      infer_instance
  · have hj2 : j = C.dims.length := by omega
    subst hj2
    refine G_rspIn b hok ?_
    repeat (first | refine Step.imp ?_ | refine Side.mk (by first | exact True.intro | omega | exact ⟨trivial, rfl⟩ | exact ⟨by omega, trivial, rfl⟩ | exact ⟨by omega, rfl⟩ | exact ⟨by omega, by omega, rfl⟩ | (simp only [List.length_cons, List.length_nil, List.length_append]; done) | (simp only [List.length_cons, List.length_nil, List.length_append]; omega) | decide +kernel) ?_ | refine GDraw_one (by decide +kernel) ?_ | refine New.mk fun _ => ?_ | refine NewS.mk fun _ _ => ?_)
    exact Fin.val hfin rfl le1.le
instance rsp_leaf {L R : List HP} {n : Int} [p : PickR L b h0 C kn R] [hl : LeT h0 h] : CallT Tryz.prog 66 [.pointer (some ⟨b, 0, none⟩), vI n] h L True R
    (fun K => ∀ h', Le h h' → (¬ (0 ≤ n ∧ n < leavesF C C.dims.length) → K (.tuple [.agg [vI 0, vI 0, vI 0, vI 0, vI 0].toArray, .bool false].toArray) h' [rsp h' b C kn]) ∧
      ((0 ≤ n ∧ n < leavesF C C.dims.length) → K (.tuple [.agg [vI (quoF (leavesN C) n C.dims.length C.dims.length), vI (leafAtF C n 0), vI (leafAtF C n 1), vI (leafAtF C n 2), vI (leafAtF C n 3)].toArray, .bool true].toArray) h' [rsp h' b C kn])) := ⟨fun _ => spec_rsp rleaf_spec⟩
theorem rcell_spec {n : Int} : Spec Tryz.prog 75 [.pointer (some ⟨b, 0, none⟩), vI n] h [rsp h b C kn]
    (fun K => (¬ (0 ≤ n ∧ n < cellsF C C.dims.length) → K (.tuple [.agg [vI 0, vI 0, vI 0, vI 0, vI 0].toArray, .bool false].toArray) h [rsp h b C kn]) ∧
      ((0 ≤ n ∧ n < cellsF C C.dims.length) → K (.tuple [.agg [vI (quoF (nodesN C) n C.dims.length C.dims.length), vI (plF (nodesN C) n C.dims.length C.dims.length 0), vI (plF (nodesN C) n C.dims.length C.dims.length 1), vI (plF (nodesN C) n C.dims.length C.dims.length 2), vI (plF (nodesN C) n C.dims.length C.dims.length 3)].toArray, .bool true].toArray) h [rsp h b C kn])) := by
  refine spec_enter Tryz.func75 rfl Tryz.ntmps75 Tryz.results75 (by simp) fun K R hT => ?_
  haveI : LeT h h := ⟨Hle.refl h⟩
  repeat (first | refine Step.imp ?_ | refine Side.mk (by first | exact True.intro | omega | exact ⟨trivial, rfl⟩ | exact ⟨by omega, trivial, rfl⟩ | exact ⟨by omega, rfl⟩ | exact ⟨by omega, by omega, rfl⟩ | (simp only [List.length_cons, List.length_nil, List.length_append]; done) | (simp only [List.length_cons, List.length_nil, List.length_append]; omega) | decide +kernel) ?_ | refine GDraw_one (by decide +kernel) ?_ | refine New.mk fun _ => ?_ | refine NewS.mk fun _ _ => ?_)
  refine ⟨fun hneg => ?_, fun hpos => ?_⟩
  · have hfin := hT.1 (by omega)
    repeat (first | refine Step.imp ?_ | refine Side.mk (by first | exact True.intro | omega | exact ⟨trivial, rfl⟩ | exact ⟨by omega, trivial, rfl⟩ | exact ⟨by omega, rfl⟩ | exact ⟨by omega, by omega, rfl⟩ | (simp only [List.length_cons, List.length_nil, List.length_append]; done) | (simp only [List.length_cons, List.length_nil, List.length_append]; omega) | decide +kernel) ?_ | refine GDraw_one (by decide +kernel) ?_ | refine New.mk fun _ => ?_ | refine NewS.mk fun _ _ => ?_)
    exact Fin.val hfin rfl (Hle.refl _)
  repeat (first | refine Step.imp ?_ | refine Side.mk (by first | exact True.intro | omega | exact ⟨trivial, rfl⟩ | exact ⟨by omega, trivial, rfl⟩ | exact ⟨by omega, rfl⟩ | exact ⟨by omega, by omega, rfl⟩ | (simp only [List.length_cons, List.length_nil, List.length_append]; done) | (simp only [List.length_cons, List.length_nil, List.length_append]; omega) | decide +kernel) ?_ | refine GDraw_one (by decide +kernel) ?_ | refine New.mk fun _ => ?_ | refine NewS.mk fun _ _ => ?_)
  refine ⟨fun hbig => ?_, fun hsm => ?_⟩
  · have hfin := hT.1 (by omega)
    repeat (first | refine Step.imp ?_ | refine Side.mk (by first | exact True.intro | omega | exact ⟨trivial, rfl⟩ | exact ⟨by omega, trivial, rfl⟩ | exact ⟨by omega, rfl⟩ | exact ⟨by omega, by omega, rfl⟩ | (simp only [List.length_cons, List.length_nil, List.length_append]; done) | (simp only [List.length_cons, List.length_nil, List.length_append]; omega) | decide +kernel) ?_ | refine GDraw_one (by decide +kernel) ?_ | refine New.mk fun _ => ?_ | refine NewS.mk fun _ _ => ?_)
    exact Fin.val hfin rfl (Hle.refl _)
  have hin : 0 ≤ n ∧ n < cellsF C C.dims.length := by omega
  have hfin := hT.2 hin
  refine G_rsp b fun db lv rv iv ua uc ka kc us ks hok => ?_
  obtain ⟨dv, mv, tv, ds, tbs, ty, fr, d1, d2, d3, d4, d5, d6, d7⟩ := hok.rd.out
  have ok := hok.ok
  have hd := ok.dims
  have hpos := nodesN_pos hin
  have hbd := cells_bound ok C.dims.length (Nat.le_refl _)
  repeat (first | refine Step.imp ?_ | refine Side.mk (by first | exact True.intro | omega | exact ⟨trivial, rfl⟩ | exact ⟨by omega, trivial, rfl⟩ | exact ⟨by omega, rfl⟩ | exact ⟨by omega, by omega, rfl⟩ | (simp only [List.length_cons, List.length_nil, List.length_append]; done) | (simp only [List.length_cons, List.length_nil, List.length_append]; omega) | decide +kernel) ?_ | refine GDraw_one (by decide +kernel) ?_ | refine New.mk fun _ => ?_ | refine NewS.mk fun _ _ => ?_)
  rename_i rb _ cb
  refine G_loop (σ := Nat) (fun j => j ≤ C.dims.length) (fun j => C.dims.length - j) (fun j => [(7, vI ((C.dims.length : Int) - j)), (1, vI (quoF (nodesN C) n C.dims.length j)), (0, .pointer (some ⟨b, 0, none⟩)), (6, .pointer (some ⟨cb, 0, none⟩)), (4, .pointer (some ⟨rb, 0, none⟩))]) (fun _ => h)
    (fun j => blk cb (.cells [vI 0, vI (plF (nodesN C) n C.dims.length j 0), vI (plF (nodesN C) n C.dims.length j 1), vI (plF (nodesN C) n C.dims.length j 2), vI (plF (nodesN C) n C.dims.length j 3)].toArray 48 (0, 0)) :: blk rb (.cells [vI 0, vI 0, vI 0, vI 0, vI 0].toArray 48 (0, 0)) ::
      rspB b db lv rv iv (.slice ua us.length uc) (.slice ka ks.length kc) :: slo encSV 1 (.slice ua us.length uc) us :: slo encB 1 (.slice ka ks.length kc) ks :: R) 0 (by omega) ?_ rfl ?_ ?_
  · refine ⟨?_, rfl, rfl, rfl, rfl, trivial⟩
    rw [d6]; show _ = some (vI ((C.dims.length : Int) - 0)); rw [Int.sub_zero]
  · simp only [plF_zero]
    infer_instance
  intro j hj
  have hq := quoF_nonneg (o := nodesN C) hin.1 hpos j hj
  repeat (first | refine Step.imp ?_ | refine Side.mk (by first | exact True.intro | omega | exact ⟨trivial, rfl⟩ | exact ⟨by omega, trivial, rfl⟩ | exact ⟨by omega, rfl⟩ | exact ⟨by omega, by omega, rfl⟩ | (simp only [List.length_cons, List.length_nil, List.length_append]; done) | (simp only [List.length_cons, List.length_nil, List.length_append]; omega) | decide +kernel) ?_ | refine GDraw_one (by decide +kernel) ?_ | refine New.mk fun _ => ?_ | refine NewS.mk fun _ _ => ?_)
  refine ⟨fun hlt => ?_, fun hge => ?_⟩
  · have hji : (C.dims.length : Int) - j = ((C.dims.length - 1 - j : Nat) : Int) + 1 := by omega
    have hj4 : C.dims.length - 1 - j < 4 := by omega
    obtain ⟨tnv, tty, tfr, t1, t2⟩ := (d7 (C.dims.length - 1 - j) (by omega)).out
    have hoj := hpos (C.dims.length - 1 - j) (by omega)
    rw [show nodesN C (C.dims.length - 1 - j) = ((C.dims[C.dims.length - 1 - j]!).2.length : Int) from rfl] at hoj
    rw [hji]
    repeat (first | refine Step.imp ?_ | refine Side.mk (by first | exact True.intro | omega | exact ⟨trivial, rfl⟩ | exact ⟨by omega, trivial, rfl⟩ | exact ⟨by omega, rfl⟩ | exact ⟨by omega, by omega, rfl⟩ | (simp only [List.length_cons, List.length_nil, List.length_append]; done) | (simp only [List.length_cons, List.length_nil, List.length_append]; omega) | decide +kernel) ?_ | refine GDraw_one (by decide +kernel) ?_ | refine New.mk fun _ => ?_ | refine NewS.mk fun _ _ => ?_)
    refine X_round (j + 1) ?_ ?_ ?_ ?_ ?_
    · show j + 1 ≤ C.dims.length
      omega
    · show C.dims.length - (j + 1) < C.dims.length - j
      omega
    · refine ⟨?_, rfl, rfl, rfl, rfl, trivial⟩
      show some (vI (((C.dims.length - 1 - j : Nat) : Int) + 1 - 1)) = some (vI ((C.dims.length : Int) - ((j + 1 : Nat) : Int)))
      congr 2; omega
    · rfl
    · simp only [plF_succ _ _ _ j _ (show j < C.dims.length by omega), show nodesN C (C.dims.length - 1 - j) = ((C.dims[C.dims.length - 1 - j]!).2.length : Int) from rfl]
      infer_instance
  · have hj2 : j = C.dims.length := by omega
    subst hj2
    refine G_rspIn b hok ?_
    repeat (first | refine Step.imp ?_ | refine Side.mk (by first | exact True.intro | omega | exact ⟨trivial, rfl⟩ | exact ⟨by omega, trivial, rfl⟩ | exact ⟨by omega, rfl⟩ | exact ⟨by omega, by omega, rfl⟩ | (simp only [List.length_cons, List.length_nil, List.length_append]; done) | (simp only [List.length_cons, List.length_nil, List.length_append]; omega) | decide +kernel) ?_ | refine GDraw_one (by decide +kernel) ?_ | refine New.mk fun _ => ?_ | refine NewS.mk fun _ _ => ?_)
    exact Fin.val hfin rfl (Hle.refl _)
instance rsp_cell {L R : List HP} {n : Int} [p : PickR L b h0 C kn R] [hl : LeT h0 h] : CallT Tryz.prog 75 [.pointer (some ⟨b, 0, none⟩), vI n] h L True R
    (fun K => (¬ (0 ≤ n ∧ n < cellsF C C.dims.length) → K (.tuple [.agg [vI 0, vI 0, vI 0, vI 0, vI 0].toArray, .bool false].toArray) h [rsp h b C kn]) ∧
      ((0 ≤ n ∧ n < cellsF C C.dims.length) → K (.tuple [.agg [vI (quoF (nodesN C) n C.dims.length C.dims.length), vI (plF (nodesN C) n C.dims.length C.dims.length 0), vI (plF (nodesN C) n C.dims.length C.dims.length 1), vI (plF (nodesN C) n C.dims.length C.dims.length 2), vI (plF (nodesN C) n C.dims.length C.dims.length 3)].toArray, .bool true].toArray) h [rsp h b C kn])) := ⟨fun _ => spec_rsp rcell_spec⟩
theorem rwithin_spec {m a0 a1 a2 a3 m' b0 b1 b2 b3 : Int} : Spec Tryz.prog 137 [.pointer (some ⟨b, 0, none⟩), .agg [vI m, vI a0, vI a1, vI a2, vI a3].toArray, .agg [vI m', vI b0, vI b1, vI b2, vI b3].toArray] h [rsp h b C kn]
    (fun K => ∀ h', Le h h' → K (.bool (decide (spWithin C m (get4 a0 a1 a2 a3) m' (get4 b0 b1 b2 b3)))) h' [rsp h' b C kn]) := by
  refine spec_enter Tryz.func137 rfl Tryz.ntmps137 Tryz.results137 (by simp) fun K R hT => ?_
  haveI : LeT h h := ⟨Hle.refl h⟩
  have hT0 := hT h ⟨Hle.refl h⟩
  refine G_rsp b fun db0 lv0 rv0 iv0 ua0 uc0 ka0 kc0 us0 ks0 hok0 => ?_
  have hRD0 := hok0.rd
  have ok := hok0.ok
  have hd := ok.dims
  by_cases hr : rightF C m (get4 a0 a1 a2 a3)
  · by_cases hr2 : rightF C m' (get4 b0 b1 b2 b3)
    · by_cases hm : m = m'
      · subst hm
        haveI : Known (rightF C m (get4 a0 a1 a2 a3)) := ⟨hr⟩
        haveI : Known (rightF C m (get4 b0 b1 b2 b3)) := ⟨hr2⟩
        repeat' (first | refine Step.imp ?_ | refine Side.mk (by first | exact True.intro | omega | exact ⟨trivial, rfl⟩ | exact ⟨by omega, trivial, rfl⟩ | exact ⟨by omega, rfl⟩ | exact ⟨by omega, by omega, rfl⟩ | (simp only [List.length_cons, List.length_nil, List.length_append]; done) | (simp only [List.length_cons, List.length_nil, List.length_append]; omega) | decide +kernel) ?_ | refine GDraw_one (by decide +kernel) ?_ | refine New.mk fun _ => ?_ | refine NewS.mk fun _ _ => ?_ | refine Ways.mk (fun _ => ?_) (fun _ => ?_))
        all_goals first | (exfalso; contradiction) | skip
        rename_i cb eb
        refine GO1_rspIn b hok0 ?_
        repeat (first | refine Step.imp ?_ | refine Side.mk (by first | exact True.intro | omega | exact ⟨trivial, rfl⟩ | exact ⟨by omega, trivial, rfl⟩ | exact ⟨by omega, rfl⟩ | exact ⟨by omega, by omega, rfl⟩ | (simp only [List.length_cons, List.length_nil, List.length_append]; done) | (simp only [List.length_cons, List.length_nil, List.length_append]; omega) | decide +kernel) ?_ | refine GDraw_one (by decide +kernel) ?_ | refine New.mk fun _ => ?_ | refine NewS.mk fun _ _ => ?_)
        intro h1 db lv rv iv ua uc ka kc us ks le1 hok hR
        obtain ⟨dv, mv, tv, ds, tbs, ty, fr, d1, d2, d3, d4, d5, d6, d7⟩ := hok.rd.out
        obtain ⟨lvs, rvs, ivs, t1, t2, t3, t4⟩ := hR.out
        have hti := t4.il
        have hT := hT h1 le1
        repeat (first | refine Step.imp ?_ | refine Side.mk (by first | exact True.intro | omega | exact ⟨trivial, rfl⟩ | exact ⟨by omega, trivial, rfl⟩ | exact ⟨by omega, rfl⟩ | exact ⟨by omega, by omega, rfl⟩ | (simp only [List.length_cons, List.length_nil, List.length_append]; done) | (simp only [List.length_cons, List.length_nil, List.length_append]; omega) | decide +kernel) ?_ | refine GDraw_one (by decide +kernel) ?_ | refine New.mk fun _ => ?_ | refine NewS.mk fun _ _ => ?_)
        refine G_loopE (σ := Nat) (fun k => k ≤ C.dims.length ∧ ∀ j < k, withinF (C.dims[j]!).2 (get4 a0 a1 a2 a3 j) (get4 b0 b1 b2 b3 j)) (fun k => C.dims.length - k) (fun k => [(7, vI k), (4, .pointer (some ⟨cb, 0, none⟩)), (5, .pointer (some ⟨eb, 0, none⟩)), (0, .pointer (some ⟨b, 0, none⟩))]) 0 ⟨by omega, fun j hj => by omega⟩ ⟨rfl, rfl, rfl, rfl, trivial⟩ ?_
        rintro k ⟨hk, hall⟩
        repeat (first | refine Step.imp ?_ | refine Side.mk (by first | exact True.intro | omega | exact ⟨trivial, rfl⟩ | exact ⟨by omega, trivial, rfl⟩ | exact ⟨by omega, rfl⟩ | exact ⟨by omega, by omega, rfl⟩ | (simp only [List.length_cons, List.length_nil, List.length_append]; done) | (simp only [List.length_cons, List.length_nil, List.length_append]; omega) | decide +kernel) ?_ | refine GDraw_one (by decide +kernel) ?_ | refine New.mk fun _ => ?_ | refine NewS.mk fun _ _ => ?_)
        refine ⟨fun hlt => ?_, fun hge => ?_⟩
        · have hak := right_in hr hd.2 k (by omega)
          have hbk := right_in hr2 hd.2 k (by omega)
          rw [show nodesN C k = ((C.dims[k]!).2.length : Int) from rfl] at hak hbk
          obtain ⟨rows, r1, r2, r3⟩ := (t4.all k (by omega)).2.2
          have hrow := r3 (get4 a0 a1 a2 a3 k).toNat (by omega)
          have hrl := rowL_len (C.dims[k]!).2 (get4 a0 a1 a2 a3 k).toNat (C.dims[k]!).2.length
          have hrg := rowL_get (nodes := (C.dims[k]!).2) (k := (get4 a0 a1 a2 a3 k).toNat) (n := (C.dims[k]!).2.length) (j := (get4 b0 b1 b2 b3 k).toNat) (by omega)
          rw [show (((get4 a0 a1 a2 a3 k).toNat : Nat) : Int) = get4 a0 a1 a2 a3 k by omega, show (((get4 b0 b1 b2 b3 k).toNat : Nat) : Int) = get4 b0 b1 b2 b3 k by omega] at hrg
          repeat (first | refine Step.imp ?_ | refine Side.mk (by first | exact True.intro | omega | exact ⟨trivial, rfl⟩ | exact ⟨by omega, trivial, rfl⟩ | exact ⟨by omega, rfl⟩ | exact ⟨by omega, by omega, rfl⟩ | (simp only [List.length_cons, List.length_nil, List.length_append]; done) | (simp only [List.length_cons, List.length_nil, List.length_append]; omega) | decide +kernel) ?_ | refine GDraw_one (by decide +kernel) ?_ | refine New.mk fun _ => ?_ | refine NewS.mk fun _ _ => ?_)
          rw [hrg]
          refine ⟨fun hbad => ?_, fun hgood => ?_⟩
          · have hnw : ¬ withinF (C.dims[k]!).2 (get4 a0 a1 a2 a3 k) (get4 b0 b1 b2 b3 k) := by simpa using hbad
            refine G_rspIn b hok ?_
            repeat (first | refine Step.imp ?_ | refine Side.mk (by first | exact True.intro | omega | exact ⟨trivial, rfl⟩ | exact ⟨by omega, trivial, rfl⟩ | exact ⟨by omega, rfl⟩ | exact ⟨by omega, by omega, rfl⟩ | (simp only [List.length_cons, List.length_nil, List.length_append]; done) | (simp only [List.length_cons, List.length_nil, List.length_append]; omega) | decide +kernel) ?_ | refine GDraw_one (by decide +kernel) ?_ | refine New.mk fun _ => ?_ | refine NewS.mk fun _ _ => ?_)
            exact Fin.ff hT (fun hw => hnw (hw.2.2.2 k (by omega))) le1.le
          · have hw : withinF (C.dims[k]!).2 (get4 a0 a1 a2 a3 k) (get4 b0 b1 b2 b3 k) := by simpa using hgood
            repeat (first | refine Step.imp ?_ | refine Side.mk (by first | exact True.intro | omega | exact ⟨trivial, rfl⟩ | exact ⟨by omega, trivial, rfl⟩ | exact ⟨by omega, rfl⟩ | exact ⟨by omega, by omega, rfl⟩ | (simp only [List.length_cons, List.length_nil, List.length_append]; done) | (simp only [List.length_cons, List.length_nil, List.length_append]; omega) | decide +kernel) ?_ | refine GDraw_one (by decide +kernel) ?_ | refine New.mk fun _ => ?_ | refine NewS.mk fun _ _ => ?_)
            refine X_roundE (k + 1) ⟨by omega, fun j hj => ?_⟩ (by omega) ⟨rfl, rfl, rfl, rfl, trivial⟩ inferInstance
            rcases Nat.lt_or_ge j k with h | h
            · exact hall j h
            · have : j = k := by omega
              subst this; exact hw
        · have hk2 : k = C.dims.length := by omega
          subst hk2
          refine G_rspIn b hok ?_
          repeat (first | refine Step.imp ?_ | refine Side.mk (by first | exact True.intro | omega | exact ⟨trivial, rfl⟩ | exact ⟨by omega, trivial, rfl⟩ | exact ⟨by omega, rfl⟩ | exact ⟨by omega, by omega, rfl⟩ | (simp only [List.length_cons, List.length_nil, List.length_append]; done) | (simp only [List.length_cons, List.length_nil, List.length_append]; omega) | decide +kernel) ?_ | refine GDraw_one (by decide +kernel) ?_ | refine New.mk fun _ => ?_ | refine NewS.mk fun _ _ => ?_)
          exact Fin.tt hT ⟨hr, hr2, rfl, hall⟩ le1.le
      · have hno : ¬ spWithin C m (get4 a0 a1 a2 a3) m' (get4 b0 b1 b2 b3) := fun hw => hm hw.2.2.1
        haveI : Known (rightF C m (get4 a0 a1 a2 a3)) := ⟨hr⟩
        haveI : Known (rightF C m' (get4 b0 b1 b2 b3)) := ⟨hr2⟩
        haveI : Known (m ≠ m') := ⟨hm⟩
        haveI := fold_rsp (b := b) (ua := ua0) (uc := uc0) (ka := ka0) (kc := kc0) hok0
        repeat' (first | refine Step.imp ?_ | refine Side.mk (by first | exact True.intro | omega | exact ⟨trivial, rfl⟩ | exact ⟨by omega, trivial, rfl⟩ | exact ⟨by omega, rfl⟩ | exact ⟨by omega, by omega, rfl⟩ | (simp only [List.length_cons, List.length_nil, List.length_append]; done) | (simp only [List.length_cons, List.length_nil, List.length_append]; omega) | decide +kernel) ?_ | refine GDraw_one (by decide +kernel) ?_ | refine New.mk fun _ => ?_ | refine NewS.mk fun _ _ => ?_ | refine Ways.mk (fun _ => ?_) (fun _ => ?_))
        all_goals first | (exfalso; contradiction) | exact Fin.ff hT0 hno (Hle.refl _)
    · have hno : ¬ spWithin C m (get4 a0 a1 a2 a3) m' (get4 b0 b1 b2 b3) := fun hw => hr2 hw.2.1
      haveI : Known (rightF C m (get4 a0 a1 a2 a3)) := ⟨hr⟩
      haveI : Known (¬ rightF C m' (get4 b0 b1 b2 b3)) := ⟨hr2⟩
      haveI := fold_rsp (b := b) (ua := ua0) (uc := uc0) (ka := ka0) (kc := kc0) hok0
      repeat' (first | refine Step.imp ?_ | refine Side.mk (by first | exact True.intro | omega | exact ⟨trivial, rfl⟩ | exact ⟨by omega, trivial, rfl⟩ | exact ⟨by omega, rfl⟩ | exact ⟨by omega, by omega, rfl⟩ | (simp only [List.length_cons, List.length_nil, List.length_append]; done) | (simp only [List.length_cons, List.length_nil, List.length_append]; omega) | decide +kernel) ?_ | refine GDraw_one (by decide +kernel) ?_ | refine New.mk fun _ => ?_ | refine NewS.mk fun _ _ => ?_ | refine Ways.mk (fun _ => ?_) (fun _ => ?_))
      all_goals first | (exfalso; contradiction) | exact Fin.ff hT0 hno (Hle.refl _)
  · have hno : ¬ spWithin C m (get4 a0 a1 a2 a3) m' (get4 b0 b1 b2 b3) := fun hw => hr hw.1
    haveI : Known (¬ rightF C m (get4 a0 a1 a2 a3)) := ⟨hr⟩
    haveI := fold_rsp (b := b) (ua := ua0) (uc := uc0) (ka := ka0) (kc := kc0) hok0
    repeat' (first | refine Step.imp ?_ | refine Side.mk (by first | exact True.intro | omega | exact ⟨trivial, rfl⟩ | exact ⟨by omega, trivial, rfl⟩ | exact ⟨by omega, rfl⟩ | exact ⟨by omega, by omega, rfl⟩ | (simp only [List.length_cons, List.length_nil, List.length_append]; done) | (simp only [List.length_cons, List.length_nil, List.length_append]; omega) | decide +kernel) ?_ | refine GDraw_one (by decide +kernel) ?_ | refine New.mk fun _ => ?_ | refine NewS.mk fun _ _ => ?_ | refine Ways.mk (fun _ => ?_) (fun _ => ?_))
    all_goals first | (exfalso; contradiction) | exact Fin.ff hT0 hno (Hle.refl _)
instance rsp_within {L R : List HP} {m a0 a1 a2 a3 m' b0 b1 b2 b3 : Int} [p : PickR L b h0 C kn R] [hl : LeT h0 h] : CallT Tryz.prog 137 [.pointer (some ⟨b, 0, none⟩), .agg [vI m, vI a0, vI a1, vI a2, vI a3].toArray, .agg [vI m', vI b0, vI b1, vI b2, vI b3].toArray] h L True R
    (fun K => ∀ h', Le h h' → K (.bool (decide (spWithin C m (get4 a0 a1 a2 a3) m' (get4 b0 b1 b2 b3)))) h' [rsp h' b C kn]) := ⟨fun _ => spec_rsp rwithin_spec⟩
end
end Go.Sl

/-
  The document's spaces: the leaves within a cell.
-/
namespace Go.Sl
open Go.Proofs
set_option linter.unusedVariables false
set_option linter.unusedSimpArgs false
set_option maxRecDepth 10000
set_option synthInstance.maxSize 2000
set_option synthInstance.maxHeartbeats 200000
set_option maxHeartbeats 1000000
section
variable {P : Program} {N : NN} {Q : Post} {e : Env} {h : PHeap} {L : List HP} {k : List It}
/-- Behind code that may end in several ways one goes on once. -/
theorem G_mid {σ : Type} {c : Code} (Inv : σ → Prop) (E : σ → Env) (H : σ → PHeap) (S : σ → List HP) (g1 : G P N c (.inv (fun a w => ∃ s : σ, Inv s ∧ AS N (E s) (H s) (S s) a w) :: k) Q e h L) (g2 : ∀ s, Inv s → X P N .normal k Q (E s) (H s) (S s)) : G P N c k Q e h L := by
  intro a w s
  refine wpIn_mono (g1 a w s) fun ex a' w' hq => ?_
  cases ex with
  | normal => obtain ⟨t, hi, ht⟩ := hq; exact g2 t hi a' w' ht
  | exit id => exact hq
  | goto l => exact hq
  | ret => exact hq
  | panic ch => exact hq
  | outgrown => exact hq
theorem X_mid {σ : Type} {Inv : σ → Prop} {E : σ → Env} {H : σ → PHeap} {S : σ → List HP} (s : σ) (hi : Inv s) (hE : EnvLe e (E s)) (hH : H s = h) (hS : Sub L (S s)) : X P N .normal (.inv (fun a w => ∃ s : σ, Inv s ∧ AS N (E s) (H s) (S s) a w) :: k) Q e h L := by
  intro a w st
  obtain ⟨Z, hz⟩ := hS.eq
  have hst : St (H s) (S s) w := by rw [hH]; exact ((st.st.perm hz).perm List.perm_append_comm).dropL
  exact ⟨s, hi, (hE.ae st.ae).as hst⟩
end
section
variable {h h0 : PHeap} {b : Nat} {C : Cat} {kn : Bool}
theorem rinside_spec {m a0 a1 a2 a3 n : Int} : Spec Tryz.prog 103 [.pointer (some ⟨b, 0, none⟩), .agg [vI m, vI a0, vI a1, vI a2, vI a3].toArray, vI n] h [rsp h b C kn]
    (fun K => ∀ h', Le h h' → K (.bool (decide (insideF C m (get4 a0 a1 a2 a3) n))) h' [rsp h' b C kn]) := by
  refine spec_enter Tryz.func103 rfl Tryz.ntmps103 Tryz.results103 (by simp) fun K R hT => ?_
  haveI : LeT h h := ⟨Hle.refl h⟩
  refine G_rsp b fun db lv rv iv ua uc ka kc us ks hok => ?_
  have hd := hok.ok.dims
  refine G_rspIn b hok ?_
  have hc := spWithin_congr (C := C) (m := quoF (leavesN C) n C.dims.length C.dims.length) (a := get4 (leafAtF C n 0) (leafAtF C n 1) (leafAtF C n 2) (leafAtF C n 3)) (a' := leafAtF C n) (m' := m) (b := get4 a0 a1 a2 a3) hd.2 (fun k hk => get4_fun _ hk)
  repeat (first | refine Step.imp ?_ | refine Side.mk (by first | exact True.intro | omega | exact ⟨trivial, rfl⟩ | exact ⟨by omega, trivial, rfl⟩ | exact ⟨by omega, rfl⟩ | exact ⟨by omega, by omega, rfl⟩ | (simp only [List.length_cons, List.length_nil, List.length_append]; done) | (simp only [List.length_cons, List.length_nil, List.length_append]; omega) | decide +kernel) ?_ | refine GDraw_one (by decide +kernel) ?_ | refine New.mk fun _ => ?_ | refine NewS.mk fun _ _ => ?_)
  intro h1 le1
  refine ⟨fun hno => ?_, fun hin => ?_⟩
  · repeat (first | refine Step.imp ?_ | refine Side.mk (by first | exact True.intro | omega | exact ⟨trivial, rfl⟩ | exact ⟨by omega, trivial, rfl⟩ | exact ⟨by omega, rfl⟩ | exact ⟨by omega, by omega, rfl⟩ | (simp only [List.length_cons, List.length_nil, List.length_append]; done) | (simp only [List.length_cons, List.length_nil, List.length_append]; omega) | decide +kernel) ?_ | refine GDraw_one (by decide +kernel) ?_ | refine New.mk fun _ => ?_ | refine NewS.mk fun _ _ => ?_)
    exact Fin.ff (hT h1 le1) (fun hi => hno hi.1) le1.le
  · repeat (first | refine Step.imp ?_ | refine Side.mk (by first | exact True.intro | omega | exact ⟨trivial, rfl⟩ | exact ⟨by omega, trivial, rfl⟩ | exact ⟨by omega, rfl⟩ | exact ⟨by omega, by omega, rfl⟩ | (simp only [List.length_cons, List.length_nil, List.length_append]; done) | (simp only [List.length_cons, List.length_nil, List.length_append]; omega) | decide +kernel) ?_ | refine GDraw_one (by decide +kernel) ?_ | refine New.mk fun _ => ?_ | refine NewS.mk fun _ _ => ?_)
    intro h2 le2
    repeat (first | refine Step.imp ?_ | refine Side.mk (by first | exact True.intro | omega | exact ⟨trivial, rfl⟩ | exact ⟨by omega, trivial, rfl⟩ | exact ⟨by omega, rfl⟩ | exact ⟨by omega, by omega, rfl⟩ | (simp only [List.length_cons, List.length_nil, List.length_append]; done) | (simp only [List.length_cons, List.length_nil, List.length_append]; omega) | decide +kernel) ?_ | refine GDraw_one (by decide +kernel) ?_ | refine New.mk fun _ => ?_ | refine NewS.mk fun _ _ => ?_)
    have le3 : Hle h h2 := le1.le.trans le2.le
    exact Fin.dec (hT h2 ⟨le3⟩) (by unfold insideF; rw [hc]; exact ⟨fun h => ⟨hin, h⟩, fun h => h.2⟩) le3
instance rsp_inside {L R : List HP} {m a0 a1 a2 a3 n : Int} [p : PickR L b h0 C kn R] [hl : LeT h0 h] : CallT Tryz.prog 103 [.pointer (some ⟨b, 0, none⟩), .agg [vI m, vI a0, vI a1, vI a2, vI a3].toArray, vI n] h L True R
    (fun K => ∀ h', Le h h' → K (.bool (decide (insideF C m (get4 a0 a1 a2 a3) n))) h' [rsp h' b C kn]) := ⟨fun _ => spec_rsp rinside_spec⟩
theorem rsp_any {bs : List Chunk} (hb : rsp h b C kn bs) : rsp h b C false bs := by
  obtain ⟨db, lv, rv, iv, ua, uc, ka, kc, us, ks, b1, b2, b3, e, h1, h2⟩ := hb
  exact ⟨db, lv, rv, iv, ua, uc, ka, kc, us, ks, b1, b2, b3, e, ⟨h1.rd, h1.ok, h1.tab, h1.und.imp (fun u => ⟨rfl, u.2⟩) id⟩, h2⟩
/-- How many cells there are, of a space that is being changed. -/
theorem rcells_specB {db : Nat} {lv rv iv uv kv : Value} [hRD : IsRD h db C] [ok : OkCat C] : Spec Tryz.prog 28 [.pointer (some ⟨b, 0, none⟩)] h [rspB b db lv rv iv uv kv] (fun K => K (vI (cellsF C C.dims.length)) h [rspB b db lv rv iv uv kv]) := by
  refine spec_enter Tryz.func28 rfl Tryz.ntmps28 Tryz.results28 (by simp) fun K R hT => ?_
  obtain ⟨dv, mv, tv, ds, tbs, ty, fr, d1, d2, d3, d4, d5, d6, d7⟩ := hRD.out
  have hd := ok.dims
  repeat (first | refine Step.imp ?_ | refine Side.mk (by first | exact True.intro | omega | exact ⟨trivial, rfl⟩ | exact ⟨by omega, trivial, rfl⟩ | exact ⟨by omega, rfl⟩ | exact ⟨by omega, by omega, rfl⟩ | (simp only [List.length_cons, List.length_nil, List.length_append]; done) | (simp only [List.length_cons, List.length_nil, List.length_append]; omega) | decide +kernel) ?_ | refine GDraw_one (by decide +kernel) ?_ | refine New.mk fun _ => ?_ | refine NewS.mk fun _ _ => ?_)
  refine G_loopE (σ := Nat) (fun k => k ≤ C.dims.length) (fun k => C.dims.length - k) (fun k => [(4, vI k), (3, vI (cellsF C k)), (0, .pointer (some ⟨b, 0, none⟩))]) 0 (by omega) ⟨rfl, rfl, rfl, trivial⟩ fun k hk => ?_
  repeat (first | refine Step.imp ?_ | refine Side.mk (by first | exact True.intro | omega | exact ⟨trivial, rfl⟩ | exact ⟨by omega, trivial, rfl⟩ | exact ⟨by omega, rfl⟩ | exact ⟨by omega, by omega, rfl⟩ | (simp only [List.length_cons, List.length_nil, List.length_append]; done) | (simp only [List.length_cons, List.length_nil, List.length_append]; omega) | decide +kernel) ?_ | refine GDraw_one (by decide +kernel) ?_ | refine New.mk fun _ => ?_ | refine NewS.mk fun _ _ => ?_)
  refine ⟨fun hlt => ?_, fun hge => ?_⟩
  · obtain ⟨tnv, tty, tfr, t1, t2⟩ := (d7 k (by omega)).out
    have hst := cells_step ok (k := k) (by omega)
    repeat (first | refine Step.imp ?_ | refine Side.mk (by first | exact True.intro | omega | exact ⟨trivial, rfl⟩ | exact ⟨by omega, trivial, rfl⟩ | exact ⟨by omega, rfl⟩ | exact ⟨by omega, by omega, rfl⟩ | (simp only [List.length_cons, List.length_nil, List.length_append]; done) | (simp only [List.length_cons, List.length_nil, List.length_append]; omega) | decide +kernel) ?_ | refine GDraw_one (by decide +kernel) ?_ | refine New.mk fun _ => ?_ | refine NewS.mk fun _ _ => ?_)
    exact X_roundE (k + 1) (by omega) (by omega) ⟨rfl, rfl, rfl, trivial⟩ inferInstance
  · have hk2 : k = C.dims.length := by omega
    subst hk2
    repeat (first | refine Step.imp ?_ | refine Side.mk (by first | exact True.intro | omega | exact ⟨trivial, rfl⟩ | exact ⟨by omega, trivial, rfl⟩ | exact ⟨by omega, rfl⟩ | exact ⟨by omega, by omega, rfl⟩ | (simp only [List.length_cons, List.length_nil, List.length_append]; done) | (simp only [List.length_cons, List.length_nil, List.length_append]; omega) | decide +kernel) ?_ | refine GDraw_one (by decide +kernel) ?_ | refine New.mk fun _ => ?_ | refine NewS.mk fun _ _ => ?_)
    exact Fin.val hT rfl (Hle.refl _)
instance (priority := low) rsp_cellsB {L R : List HP} {db : Nat} {lv rv iv uv kv : Value} {T : Nat} [p : PickC L b [.pointer (some ⟨db, 0, none⟩), lv, rv, iv, uv, kv] T R] [hT : Is T 133] [hRD : IsRD h db C] [ok : OkCat C] : CallT Tryz.prog 28 [.pointer (some ⟨b, 0, none⟩)] h L True R
    (fun K => K (vI (cellsF C C.dims.length)) h [rspB b db lv rv iv uv kv]) := ⟨fun _ => by
  have := hT.eq
  subst this
  exact ⟨[rspB b db lv rv iv uv kv], p.eq, rcells_specB⟩⟩
theorem index_neg {m : Int} {a : Nat → Int} (hr : ¬ rightF C m a) : indexF C m a = -1 := by unfold indexF; rw [if_neg hr]
theorem set_get {α : Type} [Inhabited α] {xs : List α} {x : α} {i j : Nat} (hj : j < xs.length) : (xs.set i x)[j]! = if i = j then x else xs[j]! := by
  rw [getElem!_pos _ j (by simpa using hj), List.getElem_set, getElem!_pos xs j hj]
theorem UndOk.mk {us : List SV} {ks : List Bool} {n : Nat} {a : Option Addr} {c : Nat} (u : UndOk h C true us ks) (f : FSl h (.slice a (underAt C n).length c) encI 1 (underAt C n)) : UndOk h C false (us.set n (a, (underAt C n).length, c)) (ks.set n true) := by
  rcases u with ⟨h0, _⟩ | ⟨h1, h2, h3⟩
  · cases h0
  refine .inr ⟨by simpa using h1, by simpa using h2, fun j hj hk => ?_⟩
  have hj : j < ks.length := by simpa using hj
  rw [set_get hj] at hk
  rw [set_get (show j < us.length by omega)]
  by_cases e : n = j
  · subst e; rw [if_pos rfl]; exact ⟨rfl, f⟩
  · rw [if_neg e] at hk ⊢; exact h3 j hj hk
theorem UndOk.new {n : Nat} (hn : (n : Int) = cellsF C C.dims.length) : UndOk h C true (List.replicate n ((none, 0, 0) : SV)) (List.replicate n false) :=
  .inr ⟨by rw [List.length_replicate]; omega, by rw [List.length_replicate, List.length_replicate], fun j hj hk => by
    rw [List.length_replicate] at hj
    rw [getElem!_pos _ j (by simpa using hj), List.getElem_replicate] at hk
    cases hk⟩
theorem runder_spec {m a0 a1 a2 a3 : Int} : Spec Tryz.prog 59 [.pointer (some ⟨b, 0, none⟩), .agg [vI m, vI a0, vI a1, vI a2, vI a3].toArray] h [rsp h b C kn]
    (fun K => ∀ h' a c, Le h h' → FSl h' (.slice a (underF C m (get4 a0 a1 a2 a3)).length c) encI 1 (underF C m (get4 a0 a1 a2 a3)) → K (.slice a (underF C m (get4 a0 a1 a2 a3)).length c) h' [rsp h' b C false]) := by
  refine spec_enter Tryz.func59 rfl Tryz.ntmps59 Tryz.results59 (by simp) fun K R hT => ?_
  haveI : LeT h h := ⟨Hle.refl h⟩
  refine G_rsp b fun db lv rv iv ua uc ka kc us ks hok => ?_
  have ok := hok.ok
  have hd := ok.dims
  refine G_rspIn b hok ?_
  repeat (first | refine Step.imp ?_ | refine Side.mk (by first | exact True.intro | omega | exact ⟨trivial, rfl⟩ | exact ⟨by omega, trivial, rfl⟩ | exact ⟨by omega, rfl⟩ | exact ⟨by omega, by omega, rfl⟩ | (simp only [List.length_cons, List.length_nil, List.length_append]; done) | (simp only [List.length_cons, List.length_nil, List.length_append]; omega) | decide +kernel) ?_ | refine GDraw_one (by decide +kernel) ?_ | refine New.mk fun _ => ?_ | refine NewS.mk fun _ _ => ?_)
  rename_i cb
  refine ⟨fun hneg => ?_, fun hpos => ?_⟩
  · have hr : ¬ rightF C m (get4 a0 a1 a2 a3) := fun hr => by have := index_in ok hr; omega
    have hu : underF C m (get4 a0 a1 a2 a3) = [] := by unfold underF; rw [if_neg hr]
    rw [hu] at hT
    refine G_nil encI 1 none ?_
    refine G_freezeS (.slice none ([] : List Int).length 0) fun h1 le1 f1 => ?_
    have hfin := hT h1 none 0 le1 f1
    refine G_conv (x := rsp h b C kn) (y := rsp h1 b C false) (fun bs hb => rsp_any (rsp_mono le1.le _ hb)) ?_
    repeat (first | refine Step.imp ?_ | refine Side.mk (by first | exact True.intro | omega | exact ⟨trivial, rfl⟩ | exact ⟨by omega, trivial, rfl⟩ | exact ⟨by omega, rfl⟩ | exact ⟨by omega, by omega, rfl⟩ | (simp only [List.length_cons, List.length_nil, List.length_append]; done) | (simp only [List.length_cons, List.length_nil, List.length_append]; omega) | decide +kernel) ?_ | refine GDraw_one (by decide +kernel) ?_ | refine New.mk fun _ => ?_ | refine NewS.mk fun _ _ => ?_)
    exact Fin.val hfin rfl le1.le
  have hr : rightF C m (get4 a0 a1 a2 a3) := Decidable.not_not.1 fun hr => hpos (by rw [index_neg hr]; omega)
  refine G_rsp b fun db lv rv iv ua uc ka kc us ks hok => ?_
  have hix := index_in ok hr
  have hua := under_at ok hr
  have hbd := cells_bound ok C.dims.length (Nat.le_refl _)
  have hue := under_eq ok hr
  obtain ⟨ix, hixe⟩ : ∃ ix : Nat, indexF C m (get4 a0 a1 a2 a3) = (ix : Int) := ⟨_, (Int.toNat_of_nonneg hix.1).symm⟩
  obtain ⟨cn, hcn⟩ : ∃ cn : Nat, cellsF C C.dims.length = (cn : Int) := ⟨_, (Int.toNat_of_nonneg hbd.1).symm⟩
  rw [hixe] at hix hua ⊢
  haveI := hok.rd
  refine Step.imp ?_
  refine Step.imp ?_
  refine Step.imp ?_
  refine G_mid (σ := (Option Addr × Nat) × (Option Addr × Nat) × List SV × List Bool) (fun s => RspOk h C true db lv rv iv s.2.2.1 s.2.2.2) (fun _ => [(5, vI ix), (3, .pointer (some ⟨cb, 0, none⟩)), (0, .pointer (some ⟨b, 0, none⟩))]) (fun _ => h)
    (fun s => rspB b db lv rv iv (.slice s.1.1 s.2.2.1.length s.1.2) (.slice s.2.1.1 s.2.2.2.length s.2.1.2) :: slo encSV 1 (.slice s.1.1 s.2.2.1.length s.1.2) s.2.2.1 :: slo encB 1 (.slice s.2.1.1 s.2.2.2.length s.2.1.2) s.2.2.2 :: blk cb (.cells [vI m, vI a0, vI a1, vI a2, vI a3].toArray 48 (0, 0)) :: R) ?_ ?_
  · repeat (first | refine Step.imp ?_ | refine Side.mk (by first | exact True.intro | omega | exact ⟨trivial, rfl⟩ | exact ⟨by omega, trivial, rfl⟩ | exact ⟨by omega, rfl⟩ | exact ⟨by omega, by omega, rfl⟩ | (simp only [List.length_cons, List.length_nil, List.length_append]; done) | (simp only [List.length_cons, List.length_nil, List.length_append]; omega) | decide +kernel) ?_ | refine GDraw_one (by decide +kernel) ?_ | refine New.mk fun _ => ?_ | refine NewS.mk fun _ _ => ?_)
    refine ⟨fun he => ?_, fun hne => ?_⟩
    · have hun : ks = [] ∧ us = [] := by
        rcases hok.und with u | ⟨h1, h2, h3⟩
        · exact u.2
        · exfalso; omega
      obtain ⟨rfl, rfl⟩ := hun
      repeat (first | refine Step.imp ?_ | refine Side.mk (by first | exact True.intro | omega | exact ⟨trivial, rfl⟩ | exact ⟨by omega, trivial, rfl⟩ | exact ⟨by omega, rfl⟩ | exact ⟨by omega, by omega, rfl⟩ | (simp only [List.length_cons, List.length_nil, List.length_append]; done) | (simp only [List.length_cons, List.length_nil, List.length_append]; omega) | decide +kernel) ?_ | refine GDraw_one (by decide +kernel) ?_ | refine New.mk fun _ => ?_ | refine NewS.mk fun _ _ => ?_)
      rename_i kb ub
      rw [hcn, Int.toNat_natCast]
      refine X_conv (x := mk0 [.slice none 0 0] (.slice (some ⟨ub, 0, none⟩) cn cn) cn) (y := slo encSV 1 (.slice (some ⟨ub, 0, none⟩) cn cn) (List.replicate cn ((none, 0, 0) : SV))) (fun bs hb => mk0_slo (enc := encSV) (y := (none, 0, 0)) rfl (by simp [Value.oneCell']) hb) ?_
      refine X_conv (x := mk0 [.bool false] (.slice (some ⟨kb, 0, none⟩) cn cn) cn) (y := slo encB 1 (.slice (some ⟨kb, 0, none⟩) cn cn) (List.replicate cn false)) (fun bs hb => mk0_slo (enc := encB) (y := false) rfl (by simp [Value.oneCell']) hb) ?_
      refine X_mid ((some ⟨ub, 0, none⟩, cn), (some ⟨kb, 0, none⟩, cn), List.replicate cn ((none, 0, 0) : SV), List.replicate cn false) ⟨hok.rd, ok, hok.tab, .new hcn.symm⟩ ⟨rfl, rfl, rfl, trivial⟩ rfl ?_
      simp only [List.length_replicate]
      infer_instance
    · repeat (first | refine Step.imp ?_ | refine Side.mk (by first | exact True.intro | omega | exact ⟨trivial, rfl⟩ | exact ⟨by omega, trivial, rfl⟩ | exact ⟨by omega, rfl⟩ | exact ⟨by omega, by omega, rfl⟩ | (simp only [List.length_cons, List.length_nil, List.length_append]; done) | (simp only [List.length_cons, List.length_nil, List.length_append]; omega) | decide +kernel) ?_ | refine GDraw_one (by decide +kernel) ?_ | refine New.mk fun _ => ?_ | refine NewS.mk fun _ _ => ?_)
      refine X_mid ((ua, uc), (ka, kc), us, ks) ⟨hok.rd, ok, hok.tab, ?_⟩ ⟨rfl, rfl, rfl, trivial⟩ rfl inferInstance
      rcases hok.und with u | u
      · exact absurd (by rw [u.2.1]; rfl) hne
      · exact .inr u
  rintro ⟨⟨ua, uc⟩, ⟨ka, kc⟩, us, ks⟩ hok
  simp only at hok ⊢
  obtain ⟨h1, h2, h3⟩ : ks.length = (cellsF C C.dims.length).toNat ∧ us.length = ks.length ∧ ∀ n < ks.length, ks[n]! = true → (us[n]!).2.1 = (underAt C n).length ∧ FSl h (.slice (us[n]!).1 (us[n]!).2.1 (us[n]!).2.2) encI 1 (underAt C n) := by
    rcases hok.und with ⟨u, _⟩ | u
    · cases u
    · exact u
  repeat (first | refine Step.imp ?_ | refine Side.mk (by first | exact True.intro | omega | exact ⟨trivial, rfl⟩ | exact ⟨by omega, trivial, rfl⟩ | exact ⟨by omega, rfl⟩ | exact ⟨by omega, by omega, rfl⟩ | (simp only [List.length_cons, List.length_nil, List.length_append]; done) | (simp only [List.length_cons, List.length_nil, List.length_append]; omega) | decide +kernel) ?_ | refine GDraw_one (by decide +kernel) ?_ | refine New.mk fun _ => ?_ | refine NewS.mk fun _ _ => ?_)
  refine ⟨fun hk => ?_, fun hk => ?_⟩
  · obtain ⟨e1, f1⟩ := h3 ix (by omega) hk
    rw [hua] at e1 f1
    have hokf : RspOk h C false db lv rv iv us ks := ⟨hok.rd, ok, hok.tab, .inr ⟨h1, h2, h3⟩⟩
    haveI := fold_rsp (b := b) (ua := ua) (uc := uc) (ka := ka) (kc := kc) hokf
    rw [e1] at f1
    have hfin := hT h (us[ix]!).1 (us[ix]!).2.2 ⟨Hle.refl h⟩ f1
    repeat (first | refine Step.imp ?_ | refine Side.mk (by first | exact True.intro | omega | exact ⟨trivial, rfl⟩ | exact ⟨by omega, trivial, rfl⟩ | exact ⟨by omega, rfl⟩ | exact ⟨by omega, by omega, rfl⟩ | (simp only [List.length_cons, List.length_nil, List.length_append]; done) | (simp only [List.length_cons, List.length_nil, List.length_append]; omega) | decide +kernel) ?_ | refine GDraw_one (by decide +kernel) ?_ | refine New.mk fun _ => ?_ | refine NewS.mk fun _ _ => ?_)
    exact Fin.val hfin (by rw [e1]) (Hle.refl _)
  refine G_rspIn b hok ?_
  repeat (first | refine Step.imp ?_ | refine Side.mk (by first | exact True.intro | omega | exact ⟨trivial, rfl⟩ | exact ⟨by omega, trivial, rfl⟩ | exact ⟨by omega, rfl⟩ | exact ⟨by omega, by omega, rfl⟩ | (simp only [List.length_cons, List.length_nil, List.length_append]; done) | (simp only [List.length_cons, List.length_nil, List.length_append]; omega) | decide +kernel) ?_ | refine GDraw_one (by decide +kernel) ?_ | refine New.mk fun _ => ?_ | refine NewS.mk fun _ _ => ?_)
  intro h4 le4
  repeat (first | refine Step.imp ?_ | refine Side.mk (by first | exact True.intro | omega | exact ⟨trivial, rfl⟩ | exact ⟨by omega, trivial, rfl⟩ | exact ⟨by omega, rfl⟩ | exact ⟨by omega, by omega, rfl⟩ | (simp only [List.length_cons, List.length_nil, List.length_append]; done) | (simp only [List.length_cons, List.length_nil, List.length_append]; omega) | decide +kernel) ?_ | refine GDraw_one (by decide +kernel) ?_ | refine New.mk fun _ => ?_ | refine NewS.mk fun _ _ => ?_)
  refine G_conv (x := rspP h4 b C true) (y := rsp h4 b C true) (rspP_rsp (Hle.refl _)) ?_
  have hlb := leaves_bound ok C.dims.length (Nat.le_refl _)
  obtain ⟨ln, hln⟩ : ∃ ln : Nat, leavesF C C.dims.length = (ln : Int) := ⟨_, (Int.toNat_of_nonneg hlb.1).symm⟩
  rw [hln] at hlb
  rw [hln, Int.toNat_natCast] at hue
  rw [hln]
  refine G_nil encI 1 none ?_
  refine G_loop (σ := Nat × PHeap × Option Addr × Nat) (fun s => s.1 ≤ ln ∧ Hle h s.2.1) (fun s => ln - s.1)
    (fun s => [(8, vI s.1), (7, vI ln), (6, .slice s.2.2.1 (pickTo (insideF C m (get4 a0 a1 a2 a3)) s.1).length s.2.2.2), (5, vI ix), (3, .pointer (some ⟨cb, 0, none⟩)), (0, .pointer (some ⟨b, 0, none⟩))]) (fun s => s.2.1)
    (fun s => slo encI 1 (.slice s.2.2.1 (pickTo (insideF C m (get4 a0 a1 a2 a3)) s.1).length s.2.2.2) (pickTo (insideF C m (get4 a0 a1 a2 a3)) s.1) :: rsp s.2.1 b C true :: blk cb (.cells [vI m, vI a0, vI a1, vI a2, vI a3].toArray 48 (0, 0)) :: R)
    (0, h4, none, 0) ⟨by omega, le4.le⟩ ⟨rfl, rfl, rfl, rfl, rfl, rfl, trivial⟩ rfl ?_ ?_
  · simp only [pickTo, List.range_zero, List.map_nil, List.filter_nil, List.length_nil]
    infer_instance
  rintro ⟨i, h5, pa, pc⟩ ⟨hi, hl5⟩
  simp only at hi hl5 ⊢
  haveI : LeT h5 h5 := ⟨Hle.refl h5⟩
  have hpl := pickTo_len (insideF C m (get4 a0 a1 a2 a3)) i
  repeat (first | refine Step.imp ?_ | refine Side.mk (by first | exact True.intro | omega | exact ⟨trivial, rfl⟩ | exact ⟨by omega, trivial, rfl⟩ | exact ⟨by omega, rfl⟩ | exact ⟨by omega, by omega, rfl⟩ | (simp only [List.length_cons, List.length_nil, List.length_append]; done) | (simp only [List.length_cons, List.length_nil, List.length_append]; omega) | decide +kernel) ?_ | refine GDraw_one (by decide +kernel) ?_ | refine New.mk fun _ => ?_ | refine NewS.mk fun _ _ => ?_)
  refine ⟨fun hlt => ?_, fun hge => ?_⟩
  · have hps := pickTo_succ (insideF C m (get4 a0 a1 a2 a3)) i
    repeat (first | refine Step.imp ?_ | refine Side.mk (by first | exact True.intro | omega | exact ⟨trivial, rfl⟩ | exact ⟨by omega, trivial, rfl⟩ | exact ⟨by omega, rfl⟩ | exact ⟨by omega, by omega, rfl⟩ | (simp only [List.length_cons, List.length_nil, List.length_append]; done) | (simp only [List.length_cons, List.length_nil, List.length_append]; omega) | decide +kernel) ?_ | refine GDraw_one (by decide +kernel) ?_ | refine New.mk fun _ => ?_ | refine NewS.mk fun _ _ => ?_)
    intro h6 le6
    repeat (first | refine Step.imp ?_ | refine Side.mk (by first | exact True.intro | omega | exact ⟨trivial, rfl⟩ | exact ⟨by omega, trivial, rfl⟩ | exact ⟨by omega, rfl⟩ | exact ⟨by omega, by omega, rfl⟩ | (simp only [List.length_cons, List.length_nil, List.length_append]; done) | (simp only [List.length_cons, List.length_nil, List.length_append]; omega) | decide +kernel) ?_ | refine GDraw_one (by decide +kernel) ?_ | refine New.mk fun _ => ?_ | refine NewS.mk fun _ _ => ?_)
    refine ⟨fun hin => ?_, fun hno => ?_⟩
    · rw [if_pos hin] at hps
      repeat (first | refine Step.imp ?_ | refine Side.mk (by first | exact True.intro | omega | exact ⟨trivial, rfl⟩ | exact ⟨by omega, trivial, rfl⟩ | exact ⟨by omega, rfl⟩ | exact ⟨by omega, by omega, rfl⟩ | (simp only [List.length_cons, List.length_nil, List.length_append]; done) | (simp only [List.length_cons, List.length_nil, List.length_append]; omega) | decide +kernel) ?_ | refine GDraw_one (by decide +kernel) ?_ | refine New.mk fun _ => ?_ | refine NewS.mk fun _ _ => ?_)
      rename_i b1 pa1 pc1
      refine X_round (i + 1, h6, pa1, pc1) ?_ ?_ ?_ ?_ ?_
      · exact ⟨by show i + 1 ≤ ln; omega, hl5.trans le6.le⟩
      · show ln - (i + 1) < ln - i
        omega
      · refine ⟨rfl, rfl, ?_, rfl, rfl, rfl, trivial⟩
        rw [hps, List.length_append]; rfl
      · rfl
      · simp only [hps, List.length_append, List.length_cons, List.length_nil, Nat.zero_add]
        infer_instance
    · rw [if_neg hno] at hps
      repeat (first | refine Step.imp ?_ | refine Side.mk (by first | exact True.intro | omega | exact ⟨trivial, rfl⟩ | exact ⟨by omega, trivial, rfl⟩ | exact ⟨by omega, rfl⟩ | exact ⟨by omega, by omega, rfl⟩ | (simp only [List.length_cons, List.length_nil, List.length_append]; done) | (simp only [List.length_cons, List.length_nil, List.length_append]; omega) | decide +kernel) ?_ | refine GDraw_one (by decide +kernel) ?_ | refine New.mk fun _ => ?_ | refine NewS.mk fun _ _ => ?_)
      refine X_round (i + 1, h6, pa, pc) ?_ ?_ ?_ ?_ ?_
      · exact ⟨by show i + 1 ≤ ln; omega, hl5.trans le6.le⟩
      · show ln - (i + 1) < ln - i
        omega
      · refine ⟨rfl, rfl, ?_, rfl, rfl, rfl, trivial⟩
        rw [hps]
      · rfl
      · simp only [hps]
        infer_instance
  · have hi2 : i = ln := by omega
    subst hi2
    rw [← hue]
    refine G_freezeS (.slice pa (underF C m (get4 a0 a1 a2 a3)).length pc) fun h6 le6 f6 => ?_
    have hl6 : Hle h h6 := hl5.trans le6.le
    haveI : LeT h5 h6 := ⟨le6.le⟩
    refine G_rsp b fun db lv rv iv ua uc ka kc us ks hok => ?_
    have hu6 := hok.und
    obtain ⟨h1, h2, h3⟩ : ks.length = (cellsF C C.dims.length).toNat ∧ us.length = ks.length ∧ ∀ n < ks.length, ks[n]! = true → (us[n]!).2.1 = (underAt C n).length ∧ FSl h6 (.slice (us[n]!).1 (us[n]!).2.1 (us[n]!).2.2) encI 1 (underAt C n) := by
      rcases hu6 with ⟨u, _⟩ | u
      · cases u
      · exact u
    have hokf : RspOk h6 C false db lv rv iv (us.set ix (pa, (underF C m (get4 a0 a1 a2 a3)).length, pc)) (ks.set ix true) := ⟨hok.rd, ok, hok.tab, by
      have := hu6.mk (n := ix) (a := pa) (c := pc) (by rw [hua]; exact f6)
      rw [hua] at this; exact this⟩
    have hfin := hT h6 pa pc ⟨hl6⟩ f6
    haveI : Is (ks.set ix true).length ks.length := ⟨List.length_set⟩
    haveI : Is (us.set ix (pa, (underF C m (get4 a0 a1 a2 a3)).length, pc)).length us.length := ⟨List.length_set⟩
    haveI := fold_rsp (b := b) (ua := ua) (uc := uc) (ka := ka) (kc := kc) hokf
    repeat (first | refine Step.imp ?_ | refine Side.mk (by first | exact True.intro | omega | exact ⟨trivial, rfl⟩ | exact ⟨by omega, trivial, rfl⟩ | exact ⟨by omega, rfl⟩ | exact ⟨by omega, by omega, rfl⟩ | (simp only [List.length_cons, List.length_nil, List.length_append]; done) | (simp only [List.length_cons, List.length_nil, List.length_append]; omega) | decide +kernel) ?_ | refine GDraw_one (by decide +kernel) ?_ | refine New.mk fun _ => ?_ | refine NewS.mk fun _ _ => ?_)
    exact Fin.val hfin rfl hl6
instance rsp_under {L R : List HP} {m a0 a1 a2 a3 : Int} [p : PickR L b h0 C kn R] [hl : LeT h0 h] : CallT Tryz.prog 59 [.pointer (some ⟨b, 0, none⟩), .agg [vI m, vI a0, vI a1, vI a2, vI a3].toArray] h L True R
    (fun K => ∀ h' a c, Le h h' → FSl h' (.slice a (underF C m (get4 a0 a1 a2 a3)).length c) encI 1 (underF C m (get4 a0 a1 a2 a3)) → K (.slice a (underF C m (get4 a0 a1 a2 a3)).length c) h' [rsp h' b C false]) := ⟨fun _ => spec_rsp runder_spec⟩
end
end Go.Sl

/-
  The document's spaces: the same leaf of another measure; all cells that a leaf is within.
-/
namespace Go.Sl
open Go.Proofs
set_option linter.unusedVariables false
set_option linter.unusedSimpArgs false
set_option maxRecDepth 10000
set_option synthInstance.maxSize 2000
set_option synthInstance.maxHeartbeats 200000
set_option maxHeartbeats 1000000
section
variable {h h0 : PHeap} {b : Nat} {C : Cat} {kn : Bool}
/-- The cells found so far. -/
def overTo (C : Cat) (n : Int) (i : Nat) : List Cl := (pickTo (overQ C n) i).map (cellAt C)
theorem overTo_succ (C : Cat) (n : Int) (i : Nat) : overTo C n (i + 1) = if overQ C n i then overTo C n i ++ [cellAt C i] else overTo C n i := by
  unfold overTo
  rw [pickTo_succ]
  split
  · rw [List.map_append]; rfl
  · rfl
theorem overTo_len (C : Cat) (n : Int) (i : Nat) : (overTo C n i).length ≤ i := by
  unfold overTo; rw [List.length_map]; exact pickTo_len _ _
theorem over_q (hd : C.dims.length ≤ 4) (n i : Int) : spWithin C (quoF (leavesN C) n C.dims.length C.dims.length) (get4 (leafAtF C n 0) (leafAtF C n 1) (leafAtF C n 2) (leafAtF C n 3)) (quoF (nodesN C) i C.dims.length C.dims.length) (get4 (plF (nodesN C) i C.dims.length C.dims.length 0) (plF (nodesN C) i C.dims.length C.dims.length 1) (plF (nodesN C) i C.dims.length C.dims.length 2) (plF (nodesN C) i C.dims.length C.dims.length 3)) ↔ overQ C n i := by
  unfold overQ spWithin
  rw [right_congr (C := C) (fun k hk => get4_fun (leafAtF C n) hk), right_congr (C := C) (fun k hk => get4_fun (plF (nodesN C) i C.dims.length C.dims.length) hk)]
  constructor
  · rintro ⟨h1, h2, h3, h4⟩
    refine ⟨h1, h2, h3, fun k hk => ?_⟩
    have := h4 k hk
    rwa [get4_fun (leafAtF C n) (show k < 4 by omega), get4_fun (plF (nodesN C) i C.dims.length C.dims.length) (show k < 4 by omega)] at this
  · rintro ⟨h1, h2, h3, h4⟩
    refine ⟨h1, h2, h3, fun k hk => ?_⟩
    rw [get4_fun (leafAtF C n) (show k < 4 by omega), get4_fun (plF (nodesN C) i C.dims.length C.dims.length) (show k < 4 by omega)]
    exact h4 k hk
end
end Go.Sl
