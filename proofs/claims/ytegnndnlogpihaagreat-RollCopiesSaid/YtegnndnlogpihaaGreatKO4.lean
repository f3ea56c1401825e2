/-
  Facts that the proof is made of (O4).
-/
import Derived.Test.YtegnndnlogpihaaGreatKO3
import Derived.Test.YtegnndnlogpihaaGreatKN2
/-
  Rolls: a copy.
-/
namespace Go.Sl
open Go.Proofs
set_option linter.unusedVariables false
set_option linter.unusedSimpArgs false
set_option maxRecDepth 10000
set_option synthInstance.maxSize 2000
set_option synthInstance.maxHeartbeats 200000
set_option maxHeartbeats 1000000
section
variable {h h0 : PHeap} {b sb : Nat} {C : Cat} {vals : List Int}
theorem rcopy_spec : Spec Tryz.prog 20 [.pointer (some ⟨b, 0, none⟩)] h [rollH h b sb C vals]
    (fun K => ∀ b', K (.pointer (some ⟨b', 0, none⟩)) h [rollH h b sb C vals, rollH h b' sb C vals]) := by
  refine spec_enter Tryz.func20 rfl Tryz.ntmps20 Tryz.results20 (by simp) fun K R hT => ?_
  haveI : LeT h h := ⟨Hle.refl h⟩
  refine G_roll b fun la lc sa sc hok => ?_
  haveI := foldRo (b := b) (la := la) (lc := lc) (sa := sa) (sc := sc) hok rfl rfl rfl
  have hbc := cells_bound hok.ok C.dims.length (Nat.le_refl _)
  have hbl := leaves_bound hok.ok C.dims.length (Nat.le_refl _)
  have hln := hok.len
  have hsl := sumsF_len C vals
  repeat (first | refine Step.imp ?_ | refine Side.mk (by first | exact True.intro | omega | exact ⟨trivial, rfl⟩ | exact ⟨by omega, trivial, rfl⟩ | exact ⟨by omega, rfl⟩ | exact ⟨by omega, by omega, rfl⟩ | (simp only [List.length_cons, List.length_nil, List.length_append]; done) | (simp only [List.length_cons, List.length_nil, List.length_append]; omega) | decide +kernel) ?_ | refine New.mk fun _ => ?_ | refine NewS.mk fun _ _ => ?_)
  rename_i cb
  refine GDraw_cut (σ := Nat × Nat) (fun s => [(3, .pointer (some ⟨cb, 0, none⟩)), (0, .pointer (some ⟨b, 0, none⟩))])
    (fun s => blk cb (.cells [.pointer (some ⟨sb, 0, none⟩), .slice (some ⟨s.1, 0, none⟩) vals.length vals.length, .slice (some ⟨s.2, 0, none⟩) (sumsF C vals).length (sumsF C vals).length, vI (cntB (sumsF C vals)), vI (cnt0 vals)].toArray 87 (0, 0)) ::
      mk0 [vI 0] (.slice (some ⟨s.1, 0, none⟩) vals.length vals.length) vals.length :: mk0 [vI 0, .int .u64 0] (.slice (some ⟨s.2, 0, none⟩) (sumsF C vals).length (sumsF C vals).length) (sumsF C vals).length ::
      rollB b sb (.slice la vals.length lc) (.slice sa (sumsF C vals).length sc) (cntB (sumsF C vals)) (cnt0 vals) :: slo encI 1 (.slice la vals.length lc) vals :: slo encW 2 (.slice sa (sumsF C vals).length sc) (sumsF C vals) :: R) ?_ ?_
  · refine GDraw_schC (b := b) (.s 0 (.s 1 (.s 2 (.s 3 (.s 4 (.s 6 (.s 7 (.s 8 (.s 9 (.s 10 (.h 5 (.s 12 (.h 11 (.h 13 (.s 14 (.h 15 .e .n)) .n) (.h 13 (.h 11 (.s 14 (.h 15 .e .n)) .n) .n))) (.h 11 (.h 5 (.s 12 (.h 13 (.s 14 (.h 15 .e .n)) .n)) .n) .n)))))))))))) (by decide +kernel) ?_
    repeat' (first | refine Step.imp ?_ | refine Side.mk (by first | exact True.intro | omega | exact ⟨trivial, rfl⟩ | exact ⟨by omega, trivial, rfl⟩ | exact ⟨by omega, rfl⟩ | (simp only [List.length_cons, List.length_nil, List.length_append]; omega) | decide +kernel) ?_ | refine Both.mk ?_ ?_ | exact True.intro | refine GTo_do ?_ | (intros; refine GT_app inferInstance ?_) | refine hard_box fun _ => And.intro inferInstance ?_ | refine hard_alloc fun _ => And.intro inferInstance ?_ | refine hard_store (by first | exact ⟨trivial, rfl⟩ | exact ⟨by omega, rfl⟩) (And.intro inferInstance ?_) | refine hard_buildO (by omega) fun _ => And.intro inferInstance ?_ | refine hard_buildSlice (by omega) fun _ => And.intro inferInstance ?_ | refine hard_callP (by first | exact True.intro | omega | (simp only [List.length_cons, List.length_nil, List.length_append]; omega)) ?_ | refine hard_callV' (by first | exact True.intro | omega | (simp only [List.length_cons, List.length_nil, List.length_append]; omega)) ?_ | refine hard_callT' (by first | exact True.intro | omega) ?_ | refine hard_makeMap fun _ => And.intro inferInstance ?_ | refine hard_makeSlice (by omega) fun _ => And.intro inferInstance ?_)
    all_goals (rename_i u1 u2; first | exact X_cut (u1, u2) inferInstance ⟨rfl, rfl, trivial⟩ | exact X_cut (u2, u1) inferInstance ⟨rfl, rfl, trivial⟩)
  rintro ⟨lb, ub⟩
  simp only
  refine X_conv (x := mk0 [vI 0] (.slice (some ⟨lb, 0, none⟩) vals.length vals.length) vals.length) (y := slo encI 1 (.slice (some ⟨lb, 0, none⟩) vals.length vals.length) (List.replicate vals.length 0)) (fun bs hb => mk0_slo (enc := encI) (y := 0) rfl (by simp [Value.oneCell']) hb) ?_
  refine X_conv (x := mk0 [vI 0, .int .u64 0] (.slice (some ⟨ub, 0, none⟩) (sumsF C vals).length (sumsF C vals).length) (sumsF C vals).length) (y := slo encW 2 (.slice (some ⟨ub, 0, none⟩) (sumsF C vals).length (sumsF C vals).length) (List.replicate (sumsF C vals).length 0)) (fun bs hb => mk0_slo (enc := encW) (y := 0) rfl (by simp [Value.oneCell']) hb) ?_
  haveI : Is (List.replicate vals.length (0 : Int)).length vals.length := ⟨List.length_replicate⟩
  haveI : Is (List.replicate (sumsF C vals).length (0 : Int)).length (sumsF C vals).length := ⟨List.length_replicate⟩
  haveI := foldRo (b := cb) (la := some ⟨lb, 0, none⟩) (lc := vals.length) (sa := some ⟨ub, 0, none⟩) (sc := (sumsF C vals).length) hok rfl rfl rfl
  repeat (first | refine GDraw_O (.slice (some ⟨lb, 0, none⟩) vals.length vals.length) (by decide +kernel) ?_ | refine Step.imp ?_ | refine Side.mk (by first | exact True.intro | omega | exact ⟨trivial, rfl⟩ | exact ⟨by omega, trivial, rfl⟩ | exact ⟨by omega, rfl⟩ | exact ⟨by omega, by omega, rfl⟩ | (simp only [List.length_cons, List.length_nil, List.length_append]; done) | (simp only [List.length_cons, List.length_nil, List.length_append]; omega) | decide +kernel) ?_ | refine GDraw_one (by decide +kernel) ?_ | refine New.mk fun _ => ?_ | refine NewS.mk fun _ _ => ?_)
  refine Side.mk (by rw [List.length_replicate]) ?_
  repeat (first | refine GDraw_O (.slice (some ⟨ub, 0, none⟩) (sumsF C vals).length (sumsF C vals).length) (by decide +kernel) ?_ | refine Step.imp ?_ | refine Side.mk (by first | exact True.intro | omega | exact ⟨trivial, rfl⟩ | exact ⟨by omega, trivial, rfl⟩ | exact ⟨by omega, rfl⟩ | exact ⟨by omega, by omega, rfl⟩ | (simp only [List.length_cons, List.length_nil, List.length_append]; done) | (simp only [List.length_cons, List.length_nil, List.length_append]; omega) | decide +kernel) ?_ | refine GDraw_one (by decide +kernel) ?_ | refine New.mk fun _ => ?_ | refine NewS.mk fun _ _ => ?_)
  refine Side.mk (by rw [List.length_replicate]) ?_
  repeat (first | refine Step.imp ?_ | refine Side.mk (by first | exact True.intro | omega | exact ⟨trivial, rfl⟩ | exact ⟨by omega, trivial, rfl⟩ | exact ⟨by omega, rfl⟩ | exact ⟨by omega, by omega, rfl⟩ | (simp only [List.length_cons, List.length_nil, List.length_append]; done) | (simp only [List.length_cons, List.length_nil, List.length_append]; omega) | decide +kernel) ?_ | refine GDraw_one (by decide +kernel) ?_ | refine New.mk fun _ => ?_ | refine NewS.mk fun _ _ => ?_)
  exact Fin.val (hT cb) rfl (Hle.refl _)
instance roll_copy {L R : List HP} [p : PickRo L b h0 sb C vals R] [hl : LeT h0 h] : CallT Tryz.prog 20 [.pointer (some ⟨b, 0, none⟩)] h L True R
    (fun K => ∀ b', K (.pointer (some ⟨b', 0, none⟩)) h [rollH h b sb C vals, rollH h b' sb C vals]) := ⟨fun _ => spec_roll rcopy_spec⟩
/-! ### The document's -/
theorem rrcopy_spec {rb : Nat} (hn : vals.length ≤ 4294967296) : Spec Tryz.prog 21 [.pointer (some ⟨b, 0, none⟩)] h [rrH b rb vals]
    (fun K => ∀ b', K (.pointer (some ⟨b', 0, none⟩)) h [rrH b rb vals, rrH b' rb vals]) := by
  refine spec_enter Tryz.func21 rfl Tryz.ntmps21 Tryz.results21 (by simp) fun K R hT => ?_
  refine G_rr b fun ea ec => ?_
  haveI := fun b' a c => foldRr (h := h) (b := b') (rb := rb) (vals := vals) (a := a) (c := c)
  repeat (first | refine Step.imp ?_ | refine Side.mk (by first | exact True.intro | omega | exact ⟨trivial, rfl⟩ | exact ⟨by omega, trivial, rfl⟩ | exact ⟨by omega, rfl⟩ | exact ⟨by omega, by omega, rfl⟩ | (simp only [List.length_cons, List.length_nil, List.length_append]; done) | (simp only [List.length_cons, List.length_nil, List.length_append]; omega) | decide +kernel) ?_ | refine GDraw_one (by decide +kernel) ?_ | refine New.mk fun _ => ?_ | refine NewS.mk fun _ _ => ?_)
  exact Fin.val (hT _) rfl (Hle.refl _)
instance ref_copy {L R : List HP} {rb : Nat} [p : PickRr L b rb vals R] : CallT Tryz.prog 21 [.pointer (some ⟨b, 0, none⟩)] h L (vals.length ≤ 4294967296) R
    (fun K => ∀ b', K (.pointer (some ⟨b', 0, none⟩)) h [rrH b rb vals, rrH b' rb vals]) := ⟨fun hs => spec_rr (rrcopy_spec hs)⟩
end
end Go.Sl
