/-
  Facts that the proof is made of (V6).
-/
import Derived.Test.YtoekdnandjjeoaaGreatKV1
import Derived.Test.YtoekdnandjjeoaaGreatKPV
/-
  Views: the first cell that is beyond 64 bits.
-/
namespace Go.Sl
open Go.Proofs
set_option linter.unusedVariables false
set_option linter.unusedSimpArgs false
set_option maxRecDepth 10000
set_option synthInstance.maxSize 2000
set_option synthInstance.maxHeartbeats 200000
set_option maxHeartbeats 1000000
instance vo_encT : EncT Tryz.prog 2 encI 1 := ⟨inferInstance⟩
section
variable {h : PHeap} {b vb sb pb ab m : Nat} {codes most : Int} {ss : List Slt} {C : Cat} {vals : List Int}
theorem vwover_spec {root : Int} [p : IsVw h vb sb pb] [hS : IsSp h sb C] [ok : OkCat C] [pg : IsPg h pb ab codes m] [tv : TreeV ss m root vals] (ht : TreeOk ss C codes vals) :
    Spec Tryz.prog 29 [.pointer (some ⟨vb, 0, none⟩), vI root] h [arH ab most ss]
      (fun K => ∀ h', Le h h' → (∀ j, FirstB (sumsF C vals) j → K (.tuple [.agg [vI (quoF (nodesN C) j C.dims.length C.dims.length), vI (plF (nodesN C) j C.dims.length C.dims.length 0), vI (plF (nodesN C) j C.dims.length C.dims.length 1), vI (plF (nodesN C) j C.dims.length C.dims.length 2), vI (plF (nodesN C) j C.dims.length C.dims.length 3)].toArray, .bool true].toArray) h' [arH ab most ss]) ∧
        ((∀ i < (sumsF C vals).length, FitP ((sumsF C vals)[i]!)) → K (.tuple [.agg [vI 0, vI 0, vI 0, vI 0, vI 0].toArray, .bool false].toArray) h' [arH ab most ss])) := by
  obtain ⟨t1, t2, t3, t4⟩ := ht
  have hbl := leaves_bound ok C.dims.length (Nat.le_refl _)
  have hbc := cells_bound ok C.dims.length (Nat.le_refl _)
  have hsl := sumsF_len C vals
  obtain ⟨cn, hcn⟩ : ∃ cn : Nat, cellsF C C.dims.length = (cn : Int) := ⟨_, (Int.toNat_of_nonneg hbc.1).symm⟩
  have hvl : (vals.length : Int) = leavesF C C.dims.length := by omega
  have hfl : ∀ n, (sumsF C (frontN vals n)).length = cn := fun n => by rw [sumsF_len]; omega
  refine spec_enter Tryz.func29 rfl Tryz.ntmps29 Tryz.results29 (by simp) fun K R hT => ?_
  haveI hst := stopB Tryz.prog 0
  repeat (first | refine Step.imp ?_ | refine Side.mk (by first | exact True.intro | omega | exact ⟨trivial, rfl⟩ | exact ⟨by omega, trivial, rfl⟩ | exact ⟨by omega, rfl⟩ | exact ⟨by omega, by omega, rfl⟩ | (simp only [List.length_cons, List.length_nil, List.length_append]; done) | (simp only [List.length_cons, List.length_nil, List.length_append]; omega) | decide +kernel) ?_ | refine GDraw_one (by decide +kernel) ?_ | refine New.mk fun _ => ?_ | refine NewS.mk fun _ _ => ?_)
  refine StopB.go ?_
  clear hst
  rename_i ob ub
  rw [hcn, Int.toNat_natCast, ← hvl]
  refine G_conv (x := mk0 [vI 0, .int .u64 0] (.slice (some ⟨ub, 0, none⟩) cn cn) cn) (y := slo encW 2 (.slice (some ⟨ub, 0, none⟩) cn cn) (sumsF C (frontN vals 0))) (fun bs hb => by
    rw [frontN_zero, sums_zero, show (cellsF C C.dims.length).toNat = cn by omega]
    exact mk0_slo (enc := encW) (y := 0) rfl (by simp [Value.oneCell']) hb) ?_
  refine G_mid (σ := PHeap) (fun s => Hle h s) (fun s => [(6, .slice (some ⟨ub, 0, none⟩) cn cn), (0, .pointer (some ⟨vb, 0, none⟩)), (4, .pointer (some ⟨ob, 0, none⟩))]) (fun s => s) (fun s => slo encW 2 (.slice (some ⟨ub, 0, none⟩) cn cn) (sumsF C vals) :: blk ob (.cells [vI 0, vI 0, vI 0, vI 0, vI 0].toArray 48 (0, 0)) :: arH ab most ss :: R) ?_ ?_
  · repeat (first | refine Step.imp ?_ | refine Side.mk (by first | exact True.intro | omega | exact ⟨trivial, rfl⟩ | exact ⟨by omega, trivial, rfl⟩ | exact ⟨by omega, rfl⟩ | exact ⟨by omega, by omega, rfl⟩ | (simp only [List.length_cons, List.length_nil, List.length_append]; done) | (simp only [List.length_cons, List.length_nil, List.length_append]; omega) | decide +kernel) ?_ | refine GDraw_one (by decide +kernel) ?_ | refine New.mk fun _ => ?_ | refine NewS.mk fun _ _ => ?_)
    refine G_loop (σ := Nat × PHeap) (fun s => s.1 ≤ vals.length ∧ Hle h s.2) (fun s => vals.length - s.1) (fun s => [(31, vI s.1), (30, vI vals.length), (6, .slice (some ⟨ub, 0, none⟩) cn cn), (0, .pointer (some ⟨vb, 0, none⟩)), (0 + 1, vI root), (4, .pointer (some ⟨ob, 0, none⟩))]) (fun s => s.2)
      (fun s => slo encW 2 (.slice (some ⟨ub, 0, none⟩) cn cn) (sumsF C (frontN vals s.1)) :: blk ob (.cells [vI 0, vI 0, vI 0, vI 0, vI 0].toArray 48 (0, 0)) :: arH ab most ss :: R) (0, h) ⟨Nat.zero_le _, Hle.refl h⟩ ⟨rfl, rfl, rfl, rfl, rfl, rfl, trivial⟩ rfl inferInstance ?_
    rintro ⟨n, h1⟩ ⟨hn, hl1⟩
    simp only at hn hl1 ⊢
    haveI := p.mono hl1
    haveI := hS.mono hl1
    haveI := pg.mono hl1
    haveI : Is (sumsF C (frontN vals n)).length cn := ⟨hfl n⟩
    by_cases hlt : n < vals.length
    · haveI : Known ((n : Int) < vals.length) := ⟨by omega⟩
      have hval := tv.val n hlt
      by_cases hz : vals[n]! = 0
      · haveI : Known ((getL ss m root (n : Int)).val = 0) := ⟨by rw [hval]; exact hz⟩
        repeat (first | refine Step.imp ?_ | refine Side.mk (by first | exact True.intro | omega | exact ⟨trivial, rfl⟩ | exact ⟨by omega, trivial, rfl⟩ | exact ⟨by omega, rfl⟩ | exact ⟨by omega, by omega, rfl⟩ | (simp only [List.length_cons, List.length_nil, List.length_append]; done) | (simp only [List.length_cons, List.length_nil, List.length_append]; omega) | decide +kernel) ?_ | refine GDraw_one (by decide +kernel) ?_ | refine New.mk fun _ => ?_ | refine NewS.mk fun _ _ => ?_)
        refine X_round (n + 1, h1) ⟨by show n + 1 ≤ vals.length; omega, hl1⟩ (by show vals.length - (n + 1) < vals.length - n; omega) ⟨rfl, rfl, rfl, rfl, rfl, rfl, trivial⟩ rfl (by show Sub _ (slo encW 2 (.slice (some ⟨ub, 0, none⟩) cn cn) (sumsF C (frontN vals (n + 1))) :: _); rw [frontN_same hlt hz]; infer_instance)
      · haveI : Known (¬ ((getL ss m root (n : Int)).val = 0)) := ⟨by rw [hval]; exact hz⟩
        repeat (first | refine Step.imp ?_ | refine Side.mk (by first | exact True.intro | omega | exact ⟨trivial, rfl⟩ | exact ⟨by omega, trivial, rfl⟩ | exact ⟨by omega, rfl⟩ | exact ⟨by omega, by omega, rfl⟩ | (simp only [List.length_cons, List.length_nil, List.length_append]; done) | (simp only [List.length_cons, List.length_nil, List.length_append]; omega) | decide +kernel) ?_ | refine GDraw_one (by decide +kernel) ?_ | refine New.mk fun _ => ?_ | refine NewS.mk fun _ _ => ?_)
        intro h2 ao cc le2
        have hl2 := hl1.trans le2.le
        haveI hst := stopB Tryz.prog 2
        repeat (first | refine Step.imp ?_ | refine Side.mk (by first | exact True.intro | omega | exact ⟨trivial, rfl⟩ | exact ⟨by omega, trivial, rfl⟩ | exact ⟨by omega, rfl⟩ | exact ⟨by omega, by omega, rfl⟩ | (simp only [List.length_cons, List.length_nil, List.length_append]; done) | (simp only [List.length_cons, List.length_nil, List.length_append]; omega) | decide +kernel) ?_ | refine GDraw_one (by decide +kernel) ?_ | refine New.mk fun _ => ?_ | refine NewS.mk fun _ _ => ?_)
        refine StopB.go ?_
        clear hst
        rename_i eb
        rw [hval]
        obtain ⟨x, hx⟩ : ∃ x, x = vals[n]! := ⟨_, rfl⟩
        obtain ⟨F, hF⟩ : ∃ F, F = frontN vals n := ⟨_, rfl⟩
        obtain ⟨eh, heh⟩ : ∃ eh, eh = (getL ss m root (n : Int)).held := ⟨_, rfl⟩
        have hFl : F.length = vals.length := by rw [hF]; exact frontN_len hn
        have hF6 : Ok64 F := by rw [hF]; exact frontN_64 hn t4
        have hF0 : F[n]! = 0 := by rw [hF, frontN_get hn hlt, if_neg (by omega)]
        have hFs : F.set n x = frontN vals (n + 1) := by rw [hF, hx]; exact (frontN_succ hlt).symm
        have hxx := t4 n hlt
        have hSF : (sumsF C F).length = cn := by rw [hF]; exact hfl n
        rw [← hx, ← hF, ← heh]
        rw [← hx] at hxx
        have hcin : 0 ≤ (n : Int) ∧ (n : Int) < leavesF C C.dims.length := by omega
        have hov := over_eq ok hcin
        have hol : (overF C n).length = (pickTo (overQ C n) (cellsF C C.dims.length).toNat).length := by rw [hov, List.length_map]
        have hpl := pickTo_len (overQ C n) (cellsF C C.dims.length).toNat
        repeat (first | refine Step.imp ?_ | refine Side.mk (by first | exact True.intro | omega | exact ⟨trivial, rfl⟩ | exact ⟨by omega, trivial, rfl⟩ | exact ⟨by omega, rfl⟩ | exact ⟨by omega, by omega, rfl⟩ | (simp only [List.length_cons, List.length_nil, List.length_append]; done) | (simp only [List.length_cons, List.length_nil, List.length_append]; omega) | decide +kernel) ?_ | refine GDraw_one (by decide +kernel) ?_ | refine New.mk fun _ => ?_ | refine NewS.mk fun _ _ => ?_)
        refine G_loop (σ := Nat × List Int) (fun s => s.1 ≤ (overF C n).length ∧ TurnTo C F n x s.1 s.2) (fun s => (overF C n).length - s.1)
          (fun s => [(54, vI s.1), (53, vI (overF C n).length), (52, .slice ao (overF C n).length cc), (6, .slice (some ⟨ub, 0, none⟩) cn cn), (0, .pointer (some ⟨vb, 0, none⟩)), (8, .pointer (some ⟨eb, 0, none⟩)), (31, vI n), (30, vI vals.length), (0 + 1, vI root), (4, .pointer (some ⟨ob, 0, none⟩))]) (fun _ => h2)
          (fun s => slo encCl 5 (.slice ao (overF C n).length cc) (overF C n) :: blk eb (.cells [vI x, .bool eh].toArray 90 (0, 0)) :: slo encW 2 (.slice (some ⟨ub, 0, none⟩) cn cn) s.2 :: blk ob (.cells [vI 0, vI 0, vI 0, vI 0, vI 0].toArray 48 (0, 0)) :: arH ab most ss :: R)
          (0, sumsF C F) ⟨Nat.zero_le _, turn_0 _ _ _ _⟩ ⟨rfl, rfl, rfl, rfl, rfl, rfl, rfl, rfl, rfl, rfl, trivial⟩ rfl inferInstance ?_
        rintro ⟨i, S⟩ ⟨hi, hTT⟩
        simp only at hi hTT ⊢
        have hSl : S.length = cn := by rw [hTT.1]; omega
        haveI : Is S.length cn := ⟨hSl⟩
        by_cases hil : i < (overF C n).length
        · haveI : Known ((i : Int) < (overF C n).length) := ⟨by omega⟩
          have hki : i < (pickTo (overQ C n) (cellsF C C.dims.length).toNat).length := by omega
          have hmem := mem_pickTo.1 (mem_get (l := pickTo (overQ C n) (cellsF C C.dims.length).toNat) (k := i) hki)
          obtain ⟨q, hp⟩ : ∃ q : Nat, (pickTo (overQ C n) (cellsF C C.dims.length).toNat)[i]! = (q : Int) := ⟨_, (Int.toNat_of_nonneg hmem.1.1).symm⟩
          rw [hp] at hmem
          have hpc : q < (cellsF C C.dims.length).toNat := by omega
          have hcl : (overF C n)[i]! = cellAt C q := by
            rw [hov, getElem!_pos _ i (by simpa using hki), List.getElem_map, ← getElem!_pos _ i hki, hp]
          have hidx : indexF C ((overF C n)[i]!).m (get4 ((overF C n)[i]!).a0 ((overF C n)[i]!).a1 ((overF C n)[i]!).a2 ((overF C n)[i]!).a3) = (q : Int) := by
            rw [hcl]
            show indexF C (quoF (nodesN C) q C.dims.length C.dims.length) (get4 (plF (nodesN C) q C.dims.length C.dims.length 0) (plF (nodesN C) q C.dims.length C.dims.length 1) (plF (nodesN C) q C.dims.length C.dims.length 2) (plF (nodesN C) q C.dims.length C.dims.length 3)) = q
            rw [index_congr ok.dims.2 (fun k hk => get4_fun _ hk)]
            exact index_cell (by omega)
          haveI : ToN (indexF C ((overF C n)[i]!).m (get4 ((overF C n)[i]!).a0 ((overF C n)[i]!).a1 ((overF C n)[i]!).a2 ((overF C n)[i]!).a3)) q := ⟨by rw [hidx]; exact Int.toNat_natCast q⟩
          obtain ⟨hSi, hTn⟩ := turn_step hTT hki hp.symm hpc
          have hcb := cellSum_bnd (C := C) hF6 (by omega) q
          rw [← hSi] at hcb
          have hTn2 : TurnTo C F n x (i + 1) (S.set q (S[q]! + sumI [x])) := by
            rw [sum_one, show S[q]! + x = S[q]! - F[n]! + x by rw [hF0, Int.sub_zero]]; exact hTn
          repeat (first | refine Step.imp ?_ | refine Side.mk (by first | exact True.intro | omega | exact ⟨trivial, rfl⟩ | exact ⟨by omega, trivial, rfl⟩ | exact ⟨by omega, rfl⟩ | exact ⟨by omega, by omega, rfl⟩ | (simp only [List.length_cons, List.length_nil, List.length_append]; done) | (simp only [List.length_cons, List.length_nil, List.length_append]; omega) | decide +kernel) ?_ | refine New.mk fun _ => ?_ | refine NewS.mk fun _ _ => ?_)
          refine GDraw_one (by decide +kernel) ?_
          repeat (first | refine Step.imp ?_ | refine Side.mk (by first | exact True.intro | omega | exact ⟨trivial, rfl⟩ | exact ⟨by omega, trivial, rfl⟩ | exact ⟨by omega, rfl⟩ | exact ⟨by omega, by omega, rfl⟩ | (simp only [List.length_cons, List.length_nil, List.length_append]; done) | (simp only [List.length_cons, List.length_nil, List.length_append]; omega) | decide +kernel) ?_ | refine New.mk fun _ => ?_ | refine NewS.mk fun _ _ => ?_)
          refine GDraw_sch (.s 0 (.s 1 (.s 2 (.s 3 (.s 4 (.s 5 (.s 6 (.s 7 (.h 8 (.h 9 (.s 10 (.h 11 .e .n)) .n) .n))))))))) (by decide +kernel) ?_
          have hsl2 : (S.set q (S[q]! + sumI [x])).length = S.length := List.length_set
          repeat' (first | refine GT_last (by decide +kernel) (hard_storeEl (by first | exact ⟨by omega, trivial, rfl⟩ | exact ⟨by omega, rfl⟩) ?_) | refine hard_callV' (fit_one (by omega) (by omega)) ?_ | refine Step.imp ?_ | refine Side.mk (by first | exact True.intro | omega | exact ⟨trivial, rfl⟩ | exact ⟨by omega, trivial, rfl⟩ | exact ⟨by omega, rfl⟩ | (simp only [List.length_cons, List.length_nil, List.length_append]; omega) | decide +kernel) ?_ | refine Both.mk ?_ ?_ | exact True.intro | refine GTo_do ?_ | (intros; refine GT_app inferInstance ?_) | refine hard_box fun _ => And.intro inferInstance ?_ | refine hard_alloc fun _ => And.intro inferInstance ?_ | refine hard_store (by first | exact ⟨trivial, rfl⟩ | exact ⟨by omega, rfl⟩) (And.intro inferInstance ?_) | refine hard_buildO (by omega) fun _ => And.intro inferInstance ?_ | refine hard_buildSlice (by omega) fun _ => And.intro inferInstance ?_ | refine hard_callP (by first | exact True.intro | omega | (simp only [List.length_cons, List.length_nil, List.length_append]; omega)) ?_ | refine hard_callV' (by first | exact True.intro | omega | (simp only [List.length_cons, List.length_nil, List.length_append]; omega)) ?_ | refine hard_callT' (by first | exact True.intro | omega) ?_ | refine hard_makeMap fun _ => And.intro inferInstance ?_ | refine hard_makeSlice (by omega) fun _ => And.intro inferInstance ?_)
          all_goals exact X_round (i + 1, S.set q (S[q]! + sumI [x])) ⟨by show i + 1 ≤ (overF C n).length; omega, hTn2⟩ (by show (overF C n).length - (i + 1) < (overF C n).length - i; omega) ⟨rfl, rfl, rfl, rfl, rfl, rfl, rfl, rfl, rfl, rfl, trivial⟩ rfl inferInstance
        · haveI : Known (¬ ((i : Int) < (overF C n).length)) := ⟨by omega⟩
          have hii : i = (overF C n).length := by omega
          subst hii
          have hSe : S = sumsF C (frontN vals (n + 1)) := by rw [← hFs]; exact turn_all (by omega) (by rw [← hol]; exact hTT)
          rw [hSe]
          repeat (first | refine Step.imp ?_ | refine Side.mk (by first | exact True.intro | omega | exact ⟨trivial, rfl⟩ | exact ⟨by omega, trivial, rfl⟩ | exact ⟨by omega, rfl⟩ | exact ⟨by omega, by omega, rfl⟩ | (simp only [List.length_cons, List.length_nil, List.length_append]; done) | (simp only [List.length_cons, List.length_nil, List.length_append]; omega) | decide +kernel) ?_ | refine GDraw_one (by decide +kernel) ?_ | refine New.mk fun _ => ?_ | refine NewS.mk fun _ _ => ?_)
          exact X_round (n + 1, h2) ⟨by show n + 1 ≤ vals.length; omega, hl2⟩ (by show vals.length - (n + 1) < vals.length - n; omega) ⟨rfl, rfl, rfl, rfl, rfl, rfl, trivial⟩ rfl inferInstance
    · haveI : Known (¬ ((n : Int) < vals.length)) := ⟨by omega⟩
      have hnn : n = vals.length := by omega
      subst hnn
      rw [frontN_all]
      repeat (first | refine Step.imp ?_ | refine Side.mk (by first | exact True.intro | omega | exact ⟨trivial, rfl⟩ | exact ⟨by omega, trivial, rfl⟩ | exact ⟨by omega, rfl⟩ | exact ⟨by omega, by omega, rfl⟩ | (simp only [List.length_cons, List.length_nil, List.length_append]; done) | (simp only [List.length_cons, List.length_nil, List.length_append]; omega) | decide +kernel) ?_ | refine GDraw_one (by decide +kernel) ?_ | refine New.mk fun _ => ?_ | refine NewS.mk fun _ _ => ?_)
      exact X_mid h1 hl1 ⟨rfl, rfl, rfl, trivial⟩ rfl inferInstance
  intro h1 hl1
  haveI := p.mono hl1
  haveI := hS.mono hl1
  have hsc : (sumsF C vals).length = cn := by omega
  haveI : Is (sumsF C vals).length cn := ⟨hsc⟩
  repeat (first | refine Step.imp ?_ | refine Side.mk (by first | exact True.intro | omega | exact ⟨trivial, rfl⟩ | exact ⟨by omega, trivial, rfl⟩ | exact ⟨by omega, rfl⟩ | exact ⟨by omega, by omega, rfl⟩ | (simp only [List.length_cons, List.length_nil, List.length_append]; done) | (simp only [List.length_cons, List.length_nil, List.length_append]; omega) | decide +kernel) ?_ | refine GDraw_one (by decide +kernel) ?_ | refine New.mk fun _ => ?_ | refine NewS.mk fun _ _ => ?_)
  rw [hsc]
  refine G_loopE (σ := Nat) (fun i => i ≤ cn ∧ ∀ j < i, FitP ((sumsF C vals)[j]!)) (fun i => cn - i) (fun i => [(79, vI i), (78, vI cn), (77, .slice (some ⟨ub, 0, none⟩) cn cn), (0, .pointer (some ⟨vb, 0, none⟩)), (4, .pointer (some ⟨ob, 0, none⟩))]) 0 ⟨Nat.zero_le _, fun j hj => by omega⟩ ⟨rfl, rfl, rfl, rfl, rfl, trivial⟩ ?_
  rintro i ⟨hi, hall⟩
  by_cases hil : i < cn
  · haveI : Known ((i : Int) < cn) := ⟨by omega⟩
    by_cases hf : FitP ((sumsF C vals)[i]!)
    · have e2 : fitE ((sumsF C vals)[i]!) = 0 := if_pos hf
      haveI : Known (¬ (fitE ((sumsF C vals)[i]!) ≠ 0)) := ⟨fun q => q e2⟩
      repeat (first | refine Step.imp ?_ | refine Side.mk (by first | exact True.intro | omega | exact ⟨trivial, rfl⟩ | exact ⟨by omega, trivial, rfl⟩ | exact ⟨by omega, rfl⟩ | exact ⟨by omega, by omega, rfl⟩ | (simp only [List.length_cons, List.length_nil, List.length_append]; done) | (simp only [List.length_cons, List.length_nil, List.length_append]; omega) | decide +kernel) ?_ | refine GDraw_one (by decide +kernel) ?_ | refine New.mk fun _ => ?_ | refine NewS.mk fun _ _ => ?_)
      refine X_roundE (i + 1) ⟨by omega, fun j hj => ?_⟩ (by omega) ⟨rfl, rfl, rfl, rfl, rfl, trivial⟩ inferInstance
      rcases Nat.lt_or_ge j i with h3 | h3
      · exact hall j h3
      · have : j = i := by omega
        subst this; exact hf
    · have e2 : fitE ((sumsF C vals)[i]!) = 8 := if_neg hf
      haveI : Known (fitE ((sumsF C vals)[i]!) ≠ 0) := ⟨by rw [e2]; decide⟩
      repeat (first | refine Step.imp ?_ | refine Side.mk (by first | exact True.intro | omega | exact ⟨trivial, rfl⟩ | exact ⟨by omega, trivial, rfl⟩ | exact ⟨by omega, rfl⟩ | exact ⟨by omega, by omega, rfl⟩ | (simp only [List.length_cons, List.length_nil, List.length_append]; done) | (simp only [List.length_cons, List.length_nil, List.length_append]; omega) | decide +kernel) ?_ | refine GDraw_one (by decide +kernel) ?_ | refine New.mk fun _ => ?_ | refine NewS.mk fun _ _ => ?_)
      refine ⟨fun hn => absurd (by omega) hn, fun _ => ?_⟩
      repeat (first | refine Step.imp ?_ | refine Side.mk (by first | exact True.intro | omega | exact ⟨trivial, rfl⟩ | exact ⟨by omega, trivial, rfl⟩ | exact ⟨by omega, rfl⟩ | exact ⟨by omega, by omega, rfl⟩ | (simp only [List.length_cons, List.length_nil, List.length_append]; done) | (simp only [List.length_cons, List.length_nil, List.length_append]; omega) | decide +kernel) ?_ | refine GDraw_one (by decide +kernel) ?_ | refine New.mk fun _ => ?_ | refine NewS.mk fun _ _ => ?_)
      exact Fin.val ((hT h1 ⟨hl1⟩).1 i ⟨by omega, hf, hall⟩) rfl hl1
  · haveI : Known (¬ ((i : Int) < cn)) := ⟨by omega⟩
    repeat (first | refine Step.imp ?_ | refine Side.mk (by first | exact True.intro | omega | exact ⟨trivial, rfl⟩ | exact ⟨by omega, trivial, rfl⟩ | exact ⟨by omega, rfl⟩ | exact ⟨by omega, by omega, rfl⟩ | (simp only [List.length_cons, List.length_nil, List.length_append]; done) | (simp only [List.length_cons, List.length_nil, List.length_append]; omega) | decide +kernel) ?_ | refine GDraw_one (by decide +kernel) ?_ | refine New.mk fun _ => ?_ | refine NewS.mk fun _ _ => ?_)
    exact Fin.val ((hT h1 ⟨hl1⟩).2 fun j hj => hall j (by omega)) rfl hl1
instance vw_over {L R : List HP} {root : Int} [p : IsVw h vb sb pb] [hS : IsSp h sb C] [ok : OkCat C] [pg : IsPg h pb ab codes m] [q : PickAr L ab most ss R] [tv : TreeV ss m root vals] : CallT Tryz.prog 29 [.pointer (some ⟨vb, 0, none⟩), vI root] h L (TreeOk ss C codes vals) R
      (fun K => ∀ h', Le h h' → (∀ j, FirstB (sumsF C vals) j → K (.tuple [.agg [vI (quoF (nodesN C) j C.dims.length C.dims.length), vI (plF (nodesN C) j C.dims.length C.dims.length 0), vI (plF (nodesN C) j C.dims.length C.dims.length 1), vI (plF (nodesN C) j C.dims.length C.dims.length 2), vI (plF (nodesN C) j C.dims.length C.dims.length 3)].toArray, .bool true].toArray) h' [arH ab most ss]) ∧
        ((∀ i < (sumsF C vals).length, FitP ((sumsF C vals)[i]!)) → K (.tuple [.agg [vI 0, vI 0, vI 0, vI 0, vI 0].toArray, .bool false].toArray) h' [arH ab most ss])) := ⟨fun hs => spec_ar (vwover_spec hs)⟩
end
end Go.Sl

/-
  The document's first cell that is beyond 64 bits, of entries that may be held.
-/
namespace Go.Sl
open Go.Proofs
set_option linter.unusedVariables false
set_option linter.unusedSimpArgs false
set_option maxRecDepth 10000
set_option synthInstance.maxSize 2000
set_option synthInstance.maxHeartbeats 200000
set_option maxHeartbeats 1000000
section
variable {h h0 : PHeap} {rb : Nat} {C : Cat} {kn : Bool} {es : List En} {vals : List Int}
theorem n11over_spec [hV : Is (es.map En.val) vals] {a : Option Addr} {ec : Nat} (hv : vals.length = (leavesF C C.dims.length).toNat) (h64 : Ok64 vals) : Spec Tryz.prog 30 [.pointer (some ⟨rb, 0, none⟩), .slice a es.length ec] h [rsp h rb C kn, slo encEn 2 (.slice a es.length ec) es]
    (fun K => ∀ h', Le h h' → (∀ j, FirstB (sumsF C vals) j → K (.tuple [.agg [vI (quoF (nodesN C) j C.dims.length C.dims.length), vI (plF (nodesN C) j C.dims.length C.dims.length 0), vI (plF (nodesN C) j C.dims.length C.dims.length 1), vI (plF (nodesN C) j C.dims.length C.dims.length 2), vI (plF (nodesN C) j C.dims.length C.dims.length 3)].toArray, .bool true].toArray) h' [rsp h' rb C false, slo encEn 2 (.slice a es.length ec) es]) ∧
      ((∀ i < (sumsF C vals).length, FitP ((sumsF C vals)[i]!)) → K (.tuple [.agg [vI 0, vI 0, vI 0, vI 0, vI 0].toArray, .bool false].toArray) h' [rsp h' rb C false, slo encEn 2 (.slice a es.length ec) es])) := by
  refine spec_enter Tryz.func30 rfl Tryz.ntmps30 Tryz.results30 (by simp) fun K R hT => ?_
  haveI : LeT h h := ⟨Hle.refl h⟩
  refine G_conv (x := rsp h rb C kn) (y := rsp h rb C false) (fun bs hb => rsp_any hb) ?_
  refine G_rsp rb fun db lv rv iv ua uc ka kc us ks hok => ?_
  have ok := hok.ok
  have hbc := cells_bound ok C.dims.length (Nat.le_refl _)
  have hsl := sumsF_len C vals
  refine G_rspIn rb hok ?_
  obtain ⟨cn, hcn⟩ : ∃ cn : Nat, cellsF C C.dims.length = (cn : Int) := ⟨_, (Int.toNat_of_nonneg hbc.1).symm⟩
  repeat (first | refine Step.imp ?_ | refine Side.mk (by first | exact True.intro | omega | exact ⟨trivial, rfl⟩ | exact ⟨by omega, trivial, rfl⟩ | exact ⟨by omega, rfl⟩ | exact ⟨by omega, by omega, rfl⟩ | (simp only [List.length_cons, List.length_nil, List.length_append]; done) | (simp only [List.length_cons, List.length_nil, List.length_append]; omega) | decide +kernel) ?_ | refine GDraw_one (by decide +kernel) ?_ | refine New.mk fun _ => ?_ | refine NewS.mk fun _ _ => ?_)
  rename_i ob
  rw [hcn]
  refine G_loop (σ := Nat × PHeap) (fun s => s.1 ≤ cn ∧ Hle h s.2 ∧ ∀ j < s.1, FitP ((sumsF C vals)[j]!)) (fun s => cn - s.1) (fun s => [(7, vI s.1), (6, vI cn), (4, .pointer (some ⟨ob, 0, none⟩)), (0, .pointer (some ⟨rb, 0, none⟩)), (0 + 1, .slice a es.length ec)]) (fun s => s.2)
    (fun s => rsp s.2 rb C false :: blk ob (.cells [vI 0, vI 0, vI 0, vI 0, vI 0].toArray 48 (0, 0)) :: slo encEn 2 (.slice a es.length ec) es :: R) (0, h) ⟨by omega, Hle.refl h, fun j hj => by omega⟩ ⟨rfl, rfl, rfl, rfl, rfl, trivial⟩ rfl inferInstance ?_
  rintro ⟨i, h1⟩ ⟨hi, hl1, hall⟩
  simp only at hi hl1 hall ⊢
  haveI : LeT h1 h1 := ⟨Hle.refl h1⟩
  repeat (first | refine Step.imp ?_ | refine Side.mk (by first | exact True.intro | omega | exact ⟨trivial, rfl⟩ | exact ⟨by omega, trivial, rfl⟩ | exact ⟨by omega, rfl⟩ | exact ⟨by omega, by omega, rfl⟩ | (simp only [List.length_cons, List.length_nil, List.length_append]; done) | (simp only [List.length_cons, List.length_nil, List.length_append]; omega) | decide +kernel) ?_ | refine GDraw_one (by decide +kernel) ?_ | refine New.mk fun _ => ?_ | refine NewS.mk fun _ _ => ?_)
  refine ⟨fun hlt => ?_, fun hge => ?_⟩
  · have hci : (0 ≤ (i : Int) ∧ (i : Int) < cellsF C C.dims.length) := by omega
    have hcr := (right_congr (C := C) (m := quoF (nodesN C) i C.dims.length C.dims.length) (fun k hk => get4_fun (plF (nodesN C) i C.dims.length C.dims.length) hk)).2 (cell_right hci)
    have hix : indexF C (quoF (nodesN C) i C.dims.length C.dims.length) (get4 (plF (nodesN C) i C.dims.length C.dims.length 0) (plF (nodesN C) i C.dims.length C.dims.length 1) (plF (nodesN C) i C.dims.length C.dims.length 2) (plF (nodesN C) i C.dims.length C.dims.length 3)) = i := by
      rw [index_congr ok.dims.2 (fun k hk => get4_fun _ hk)]; exact index_cell hci
    have hsg := sumsF_get (C := C) (vals := vals) (i := i) (by omega)
    repeat (first | refine Step.imp ?_ | refine Side.mk (by first | exact True.intro | omega | exact ⟨trivial, rfl⟩ | exact ⟨by omega, trivial, rfl⟩ | exact ⟨by omega, rfl⟩ | exact ⟨by omega, by omega, rfl⟩ | (simp only [List.length_cons, List.length_nil, List.length_append]; done) | (simp only [List.length_cons, List.length_nil, List.length_append]; omega) | decide +kernel) ?_ | refine GDraw_one (by decide +kernel) ?_ | refine New.mk fun _ => ?_ | refine NewS.mk fun _ _ => ?_)
    refine ⟨fun hn => absurd hci hn, fun _ => ?_⟩
    repeat (first | refine Step.imp ?_ | refine Side.mk (by first | exact True.intro | omega | exact ⟨trivial, rfl⟩ | exact ⟨by omega, trivial, rfl⟩ | exact ⟨by omega, rfl⟩ | exact ⟨by omega, by omega, rfl⟩ | (simp only [List.length_cons, List.length_nil, List.length_append]; done) | (simp only [List.length_cons, List.length_nil, List.length_append]; omega) | decide +kernel) ?_ | refine GDraw_one (by decide +kernel) ?_ | refine New.mk fun _ => ?_ | refine NewS.mk fun _ _ => ?_)
    refine Side.mk ⟨hv, h64⟩ ?_
    intro h2 le2
    refine ⟨fun hn => absurd hcr hn, fun _ => ?_⟩
    rw [hix, Int.toNat_natCast, ← hsg]
    have hl2 := hl1.trans le2.le
    by_cases hf : FitP ((sumsF C vals)[i]!)
    · have e2 : fitE ((sumsF C vals)[i]!) = 0 := if_pos hf
      rw [e2]
      repeat' (first | refine Step.imp ?_ | refine Side.mk (by first | exact True.intro | omega | exact ⟨trivial, rfl⟩ | exact ⟨by omega, trivial, rfl⟩ | exact ⟨by omega, rfl⟩ | exact ⟨by omega, by omega, rfl⟩ | (simp only [List.length_cons, List.length_nil, List.length_append]; done) | (simp only [List.length_cons, List.length_nil, List.length_append]; omega) | decide +kernel) ?_ | refine GDraw_one (by decide +kernel) ?_ | refine New.mk fun _ => ?_ | refine NewS.mk fun _ _ => ?_ | refine Ways.mk (fun _ => ?_) (fun _ => ?_))
      all_goals first | (exfalso; omega) | skip
      refine X_round (i + 1, h2) ⟨by show i + 1 ≤ cn; omega, hl2, fun j hj => ?_⟩ (by show cn - (i + 1) < cn - i; omega) ⟨rfl, rfl, rfl, rfl, rfl, trivial⟩ rfl inferInstance
      rcases Nat.lt_or_ge j i with h3 | h3
      · exact hall j h3
      · have hj : j < i + 1 := hj
        have : j = i := by omega
        subst this; exact hf
    · have e2 : fitE ((sumsF C vals)[i]!) = 8 := if_neg hf
      rw [e2]
      repeat' (first | refine Step.imp ?_ | refine Side.mk (by first | exact True.intro | omega | exact ⟨trivial, rfl⟩ | exact ⟨by omega, trivial, rfl⟩ | exact ⟨by omega, rfl⟩ | exact ⟨by omega, by omega, rfl⟩ | (simp only [List.length_cons, List.length_nil, List.length_append]; done) | (simp only [List.length_cons, List.length_nil, List.length_append]; omega) | decide +kernel) ?_ | refine GDraw_one (by decide +kernel) ?_ | refine New.mk fun _ => ?_ | refine NewS.mk fun _ _ => ?_ | refine Ways.mk (fun _ => ?_) (fun _ => ?_))
      all_goals first | (exfalso; omega) | skip
      exact Fin.val ((hT h2 ⟨hl2⟩).1 i ⟨by omega, hf, hall⟩) rfl hl2
  · repeat (first | refine Step.imp ?_ | refine Side.mk (by first | exact True.intro | omega | exact ⟨trivial, rfl⟩ | exact ⟨by omega, trivial, rfl⟩ | exact ⟨by omega, rfl⟩ | exact ⟨by omega, by omega, rfl⟩ | (simp only [List.length_cons, List.length_nil, List.length_append]; done) | (simp only [List.length_cons, List.length_nil, List.length_append]; omega) | decide +kernel) ?_ | refine GDraw_one (by decide +kernel) ?_ | refine New.mk fun _ => ?_ | refine NewS.mk fun _ _ => ?_)
    exact Fin.val ((hT h1 ⟨hl1⟩).2 fun j hj => hall j (by omega)) rfl hl1
instance n11_over {L M R : List HP} {a : Option Addr} {n ec : Nat} [p : PickR L rb h0 C kn M] [q : PickO M (.slice a n ec) En encEn 2 es R] [hI : Is es.length n] [hV : Is (es.map En.val) vals] [hl : LeT h0 h] : CallT Tryz.prog 30 [.pointer (some ⟨rb, 0, none⟩), .slice a n ec] h L (vals.length = (leavesF C C.dims.length).toNat ∧ Ok64 vals) R
    (fun K => ∀ h', Le h h' → (∀ j, FirstB (sumsF C vals) j → K (.tuple [.agg [vI (quoF (nodesN C) j C.dims.length C.dims.length), vI (plF (nodesN C) j C.dims.length C.dims.length 0), vI (plF (nodesN C) j C.dims.length C.dims.length 1), vI (plF (nodesN C) j C.dims.length C.dims.length 2), vI (plF (nodesN C) j C.dims.length C.dims.length 3)].toArray, .bool true].toArray) h' [rsp h' rb C false, slo encEn 2 (.slice a n ec) es]) ∧
      ((∀ i < (sumsF C vals).length, FitP ((sumsF C vals)[i]!)) → K (.tuple [.agg [vI 0, vI 0, vI 0, vI 0, vI 0].toArray, .bool false].toArray) h' [rsp h' rb C false, slo encEn 2 (.slice a n ec) es])) := ⟨fun hs => by
  have := hI.eq
  subst this
  obtain ⟨x, h1, h2⟩ := p.eq
  exact ⟨[x, slo encEn 2 (.slice a es.length ec) es], h1.trans (List.Perm.cons _ q.eq), fun K R' w hT st => n11over_spec hs.1 hs.2 K R' w hT (St.conv (h2 h hl.le) st)⟩⟩
end
end Go.Sl
