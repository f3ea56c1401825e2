/-
  Facts that the proof is made of (V7).
-/
import Derived.Test.YtoekdnandjjeoaaGreatKV2
import Derived.Test.YtoekdnandjjeoaaGreatKV6
/-
  The law ViewOver, walked.
-/
namespace Go.Sl
open Go.Proofs
set_option linter.unusedVariables false
set_option linter.unusedSimpArgs false
set_option maxRecDepth 10000
set_option synthInstance.maxSize 2000
set_option synthInstance.maxHeartbeats 200000
set_option maxHeartbeats 1000000
theorem FirstB.uniq {S : List Int} {i j : Nat} (a : FirstB S i) (b : FirstB S j) : i = j := by
  rcases Nat.lt_trichotomy i j with h | h | h
  · exact absurd (b.2.2 i h) a.2.1
  · exact h
  · exact absurd (a.2.2 j h) b.2.1
section
variable {h : PHeap} {dv mv : Value} {le sc : Int} {ds : List Dm} {ms : List ByteArray}
theorem walk_ViewOver {L : List HP} {xa : Option Addr} {xc : Nat} {xs : List Int} [hd : IsDims h dv ds] [hm : FSl h mv encS 1 ms] [hx : FSl h (.slice xa xs.length xc) encI 1 xs] (hdl : ds.length ≤ 9223372036854775807) (hxl : xs.length ≤ 9223372036854775807) (hx64 : Ok64 xs) :
    Spec Tryz.prog 7 [.agg [dv, mv, vI le, vI sc].toArray, .slice xa xs.length xc] h L (fun K => ∀ h', Hle h h' → K (.bool true) h' L) := by
  obtain ⟨C, hC⟩ : ∃ C : Cat, C = ⟨ds.map Dm.pure, ms, le, sc⟩ := ⟨_, rfl⟩
  refine spec_enter Tryz.func7 rfl Tryz.ntmps7 Tryz.results7 (by simp) fun K R hT => ?_
  repeat (first | refine Step.imp ?_ | refine Side.mk (by first | exact True.intro | omega | exact ⟨trivial, rfl⟩ | exact ⟨by omega, trivial, rfl⟩ | exact ⟨by omega, rfl⟩ | exact ⟨by omega, by omega, rfl⟩ | (simp only [List.length_cons, List.length_nil, List.length_append]; done) | (simp only [List.length_cons, List.length_nil, List.length_append]; omega) | decide +kernel) ?_ | refine GDraw_one (by decide +kernel) ?_ | refine New.mk fun _ => ?_ | refine NewS.mk fun _ _ => ?_)
  refine Side.mk ⟨hdl, hxl, hx64⟩ ?_
  rw [← hC]
  refine ⟨fun hno h1 le1 => ?_, fun ok h1 xb vb sb pb ab rb mm ss root la lc le1 bg => ?_⟩
  · repeat (first | refine Step.imp ?_ | refine Side.mk (by first | exact True.intro | omega | exact ⟨trivial, rfl⟩ | exact ⟨by omega, trivial, rfl⟩ | exact ⟨by omega, rfl⟩ | exact ⟨by omega, by omega, rfl⟩ | (simp only [List.length_cons, List.length_nil, List.length_append]; done) | (simp only [List.length_cons, List.length_nil, List.length_append]; omega) | decide +kernel) ?_ | refine GDraw_one (by decide +kernel) ?_ | refine New.mk fun _ => ?_ | refine NewS.mk fun _ _ => ?_)
    intro h2 le2
    have hle := le1.le.trans le2.le
    repeat (first | refine Step.imp ?_ | refine Side.mk (by first | exact True.intro | omega | exact ⟨trivial, rfl⟩ | exact ⟨by omega, trivial, rfl⟩ | exact ⟨by omega, rfl⟩ | exact ⟨by omega, by omega, rfl⟩ | (simp only [List.length_cons, List.length_nil, List.length_append]; done) | (simp only [List.length_cons, List.length_nil, List.length_append]; omega) | decide +kernel) ?_ | refine GDraw_one (by decide +kernel) ?_ | refine New.mk fun _ => ?_ | refine NewS.mk fun _ _ => ?_)
    exact Fin.val (hT h2 hle) rfl hle
  obtain ⟨b1, b2, b3, b4, b5, b6⟩ := bg
  obtain ⟨V, hV⟩ : ∃ V, V = valsB C xs := ⟨_, rfl⟩
  obtain ⟨es, hes⟩ : ∃ es, es = esB C xs := ⟨_, rfl⟩
  haveI hVe : Is (es.map En.val) V := ⟨by rw [hV, hes]; rfl⟩
  have hVl : V.length = (leavesF C C.dims.length).toNat ∧ Ok64 V := by rw [hV]; exact ⟨valsB_len C xs, valsB_64 hx64⟩
  rw [← hV] at b5 b6
  rw [← hes]
  haveI : LeT h1 h1 := ⟨Hle.refl h1⟩
  by_cases hbig : 100 < cellsF C C.dims.length
  · haveI : Known (100 < cellsF C C.dims.length) := ⟨hbig⟩
    repeat (first | refine Step.imp ?_ | refine Side.mk (by first | exact True.intro | omega | exact ⟨trivial, rfl⟩ | exact ⟨by omega, trivial, rfl⟩ | exact ⟨by omega, rfl⟩ | exact ⟨by omega, by omega, rfl⟩ | (simp only [List.length_cons, List.length_nil, List.length_append]; done) | (simp only [List.length_cons, List.length_nil, List.length_append]; omega) | decide +kernel) ?_ | refine GDraw_one (by decide +kernel) ?_ | refine New.mk fun _ => ?_ | refine NewS.mk fun _ _ => ?_)
    intro h2 le2
    have hle := le1.le.trans le2.le
    repeat (first | refine Step.imp ?_ | refine Side.mk (by first | exact True.intro | omega | exact ⟨trivial, rfl⟩ | exact ⟨by omega, trivial, rfl⟩ | exact ⟨by omega, rfl⟩ | exact ⟨by omega, by omega, rfl⟩ | (simp only [List.length_cons, List.length_nil, List.length_append]; done) | (simp only [List.length_cons, List.length_nil, List.length_append]; omega) | decide +kernel) ?_ | refine GDraw_one (by decide +kernel) ?_ | refine New.mk fun _ => ?_ | refine NewS.mk fun _ _ => ?_)
    exact Fin.val (hT h2 hle) rfl hle
  haveI : Known (¬ (100 < cellsF C C.dims.length)) := ⟨hbig⟩
  rcases first_ex (S := sumsF C V) _ (Nat.le_refl _) with hall | ⟨j, hj⟩
  · skip
    repeat (first | refine Step.imp ?_ | refine Side.mk (by first | exact True.intro | omega | exact ⟨trivial, rfl⟩ | exact ⟨by omega, trivial, rfl⟩ | exact ⟨by omega, rfl⟩ | exact ⟨by omega, by omega, rfl⟩ | (simp only [List.length_cons, List.length_nil, List.length_append]; done) | (simp only [List.length_cons, List.length_nil, List.length_append]; omega) | decide +kernel) ?_ | refine New.mk fun _ => ?_ | refine NewS.mk fun _ _ => ?_)
    refine GDraw_schC (b := xb) (.s 0 (.s 1 (.s 2 (.s 3 (.s 4 (.s 5 (.s 6 (.s 7 (.h 8 (.s 9 (.s 10 (.s 11 (.h 12 (.h 13 (.s 14 .e) .n) .n)))) (.h 12 (.h 8 (.s 9 (.s 10 (.s 11 (.h 13 (.s 14 .e) .n)))) .n) .n)))))))))) (by decide +kernel) ?_
    repeat' (first | refine Step.imp ?_ | refine Side.mk (by first | exact True.intro | omega | exact ⟨trivial, rfl⟩ | exact ⟨by omega, trivial, rfl⟩ | exact ⟨by omega, rfl⟩ | (simp only [List.length_cons, List.length_nil, List.length_append]; omega) | decide +kernel) ?_ | refine Both.mk ?_ ?_ | exact True.intro | refine GTo_do ?_ | (intros; refine GT_app inferInstance ?_) | refine hard_box fun _ => And.intro inferInstance ?_ | refine hard_alloc fun _ => And.intro inferInstance ?_ | refine hard_store (by first | exact ⟨trivial, rfl⟩ | exact ⟨by omega, rfl⟩) (And.intro inferInstance ?_) | refine hard_buildO (by omega) fun _ => And.intro inferInstance ?_ | refine hard_buildSlice (by omega) fun _ => And.intro inferInstance ?_ | refine hard_callP (by first | exact True.intro | omega | (simp only [List.length_cons, List.length_nil, List.length_append]; omega)) ?_ | refine hard_callV' (by first | exact True.intro | omega | (simp only [List.length_cons, List.length_nil, List.length_append]; omega)) ?_ | refine hard_callT' (by first | exact True.intro | omega) ?_ | refine hard_makeMap fun _ => And.intro inferInstance ?_ | refine hard_makeSlice (by omega) fun _ => And.intro inferInstance ?_)
    all_goals
      intro h2 le2
      have hle2 := le1.le.trans le2.le
      haveI : LeT h1 h2 := ⟨le2.le⟩
      refine ⟨fun j hj => absurd (hall j hj.1) hj.2.1, fun _ => ?_⟩
    all_goals repeat' (first | refine Step.imp ?_ | refine Side.mk (by first | exact True.intro | omega | exact ⟨trivial, rfl⟩ | exact ⟨by omega, trivial, rfl⟩ | exact ⟨by omega, rfl⟩ | (simp only [List.length_cons, List.length_nil, List.length_append]; omega) | decide +kernel) ?_ | refine Both.mk ?_ ?_ | exact True.intro | refine GTo_do ?_ | (intros; refine GT_app inferInstance ?_) | refine hard_box fun _ => And.intro inferInstance ?_ | refine hard_alloc fun _ => And.intro inferInstance ?_ | refine hard_store (by first | exact ⟨trivial, rfl⟩ | exact ⟨by omega, rfl⟩) (And.intro inferInstance ?_) | refine hard_buildO (by omega) fun _ => And.intro inferInstance ?_ | refine hard_buildSlice (by omega) fun _ => And.intro inferInstance ?_ | refine hard_callP (by first | exact True.intro | omega | (simp only [List.length_cons, List.length_nil, List.length_append]; omega)) ?_ | refine hard_callV' (by first | exact True.intro | omega | (simp only [List.length_cons, List.length_nil, List.length_append]; omega)) ?_ | refine hard_callT' (by first | exact True.intro | omega) ?_ | refine hard_makeMap fun _ => And.intro inferInstance ?_ | refine hard_makeSlice (by omega) fun _ => And.intro inferInstance ?_)
    all_goals repeat (first | refine Step.imp ?_ | refine Side.mk (by first | exact True.intro | omega | exact ⟨trivial, rfl⟩ | exact ⟨by omega, trivial, rfl⟩ | exact ⟨by omega, rfl⟩ | exact ⟨by omega, by omega, rfl⟩ | (simp only [List.length_cons, List.length_nil, List.length_append]; done) | (simp only [List.length_cons, List.length_nil, List.length_append]; omega) | decide +kernel) ?_ | refine New.mk fun _ => ?_ | refine NewS.mk fun _ _ => ?_)
    all_goals refine GDraw_schC (b := xb) (.s 0 (.s 1 (.s 2 (.s 3 (.s 4 (.s 5 (.s 6 (.s 7 (.h 8 (.s 9 (.s 10 (.s 11 (.h 12 (.h 13 (.s 14 .e) .n) .n)))) (.h 12 (.h 8 (.s 9 (.s 10 (.s 11 (.h 13 (.s 14 .e) .n)))) .n) .n)))))))))) (by decide +kernel) ?_
    all_goals repeat' (first | refine Step.imp ?_ | refine Side.mk (by first | exact True.intro | omega | exact ⟨trivial, rfl⟩ | exact ⟨by omega, trivial, rfl⟩ | exact ⟨by omega, rfl⟩ | (simp only [List.length_cons, List.length_nil, List.length_append]; omega) | decide +kernel) ?_ | refine Both.mk ?_ ?_ | exact True.intro | refine GTo_do ?_ | (intros; refine GT_app inferInstance ?_) | refine hard_box fun _ => And.intro inferInstance ?_ | refine hard_alloc fun _ => And.intro inferInstance ?_ | refine hard_store (by first | exact ⟨trivial, rfl⟩ | exact ⟨by omega, rfl⟩) (And.intro inferInstance ?_) | refine hard_buildO (by omega) fun _ => And.intro inferInstance ?_ | refine hard_buildSlice (by omega) fun _ => And.intro inferInstance ?_ | refine hard_callP (by first | exact True.intro | omega | (simp only [List.length_cons, List.length_nil, List.length_append]; omega)) ?_ | refine hard_callV' (by first | exact True.intro | omega | (simp only [List.length_cons, List.length_nil, List.length_append]; omega)) ?_ | refine hard_callT' (by first | exact True.intro | omega) ?_ | refine hard_makeMap fun _ => And.intro inferInstance ?_ | refine hard_makeSlice (by omega) fun _ => And.intro inferInstance ?_)
    all_goals
      intro h3 le3
      have hle3 := hle2.trans le3.le
      refine ⟨fun j hj => absurd (hall j hj.1) hj.2.1, fun _ => ?_⟩
    all_goals repeat' (first | refine Step.imp ?_ | refine Side.mk (by first | exact True.intro | omega | exact ⟨trivial, rfl⟩ | exact ⟨by omega, trivial, rfl⟩ | exact ⟨by omega, rfl⟩ | (simp only [List.length_cons, List.length_nil, List.length_append]; omega) | decide +kernel) ?_ | refine Both.mk ?_ ?_ | exact True.intro | refine GTo_do ?_ | (intros; refine GT_app inferInstance ?_) | refine hard_box fun _ => And.intro inferInstance ?_ | refine hard_alloc fun _ => And.intro inferInstance ?_ | refine hard_store (by first | exact ⟨trivial, rfl⟩ | exact ⟨by omega, rfl⟩) (And.intro inferInstance ?_) | refine hard_buildO (by omega) fun _ => And.intro inferInstance ?_ | refine hard_buildSlice (by omega) fun _ => And.intro inferInstance ?_ | refine hard_callP (by first | exact True.intro | omega | (simp only [List.length_cons, List.length_nil, List.length_append]; omega)) ?_ | refine hard_callV' (by first | exact True.intro | omega | (simp only [List.length_cons, List.length_nil, List.length_append]; omega)) ?_ | refine hard_callT' (by first | exact True.intro | omega) ?_ | refine hard_makeMap fun _ => And.intro inferInstance ?_ | refine hard_makeSlice (by omega) fun _ => And.intro inferInstance ?_)
    all_goals repeat (first | refine Step.imp ?_ | refine Side.mk (by first | exact True.intro | omega | exact ⟨trivial, rfl⟩ | exact ⟨by omega, trivial, rfl⟩ | exact ⟨by omega, rfl⟩ | exact ⟨by omega, by omega, rfl⟩ | (simp only [List.length_cons, List.length_nil, List.length_append]; done) | (simp only [List.length_cons, List.length_nil, List.length_append]; omega) | decide +kernel) ?_ | refine GDraw_one (by decide +kernel) ?_ | refine New.mk fun _ => ?_ | refine NewS.mk fun _ _ => ?_)
    all_goals
      intro h4 le4
      have hle4 := hle3.trans le4.le
    all_goals repeat (first | refine Step.imp ?_ | refine Side.mk (by first | exact True.intro | omega | exact ⟨trivial, rfl⟩ | exact ⟨by omega, trivial, rfl⟩ | exact ⟨by omega, rfl⟩ | exact ⟨by omega, by omega, rfl⟩ | (simp only [List.length_cons, List.length_nil, List.length_append]; done) | (simp only [List.length_cons, List.length_nil, List.length_append]; omega) | decide +kernel) ?_ | refine GDraw_one (by decide +kernel) ?_ | refine New.mk fun _ => ?_ | refine NewS.mk fun _ _ => ?_)
    all_goals exact Fin.val (hT h4 hle4) rfl hle4
  · skip
    repeat (first | refine Step.imp ?_ | refine Side.mk (by first | exact True.intro | omega | exact ⟨trivial, rfl⟩ | exact ⟨by omega, trivial, rfl⟩ | exact ⟨by omega, rfl⟩ | exact ⟨by omega, by omega, rfl⟩ | (simp only [List.length_cons, List.length_nil, List.length_append]; done) | (simp only [List.length_cons, List.length_nil, List.length_append]; omega) | decide +kernel) ?_ | refine New.mk fun _ => ?_ | refine NewS.mk fun _ _ => ?_)
    refine GDraw_schC (b := xb) (.s 0 (.s 1 (.s 2 (.s 3 (.s 4 (.s 5 (.s 6 (.s 7 (.h 8 (.s 9 (.s 10 (.s 11 (.h 12 (.h 13 (.s 14 .e) .n) .n)))) (.h 12 (.h 8 (.s 9 (.s 10 (.s 11 (.h 13 (.s 14 .e) .n)))) .n) .n)))))))))) (by decide +kernel) ?_
    repeat' (first | refine Step.imp ?_ | refine Side.mk (by first | exact True.intro | omega | exact ⟨trivial, rfl⟩ | exact ⟨by omega, trivial, rfl⟩ | exact ⟨by omega, rfl⟩ | (simp only [List.length_cons, List.length_nil, List.length_append]; omega) | decide +kernel) ?_ | refine Both.mk ?_ ?_ | exact True.intro | refine GTo_do ?_ | (intros; refine GT_app inferInstance ?_) | refine hard_box fun _ => And.intro inferInstance ?_ | refine hard_alloc fun _ => And.intro inferInstance ?_ | refine hard_store (by first | exact ⟨trivial, rfl⟩ | exact ⟨by omega, rfl⟩) (And.intro inferInstance ?_) | refine hard_buildO (by omega) fun _ => And.intro inferInstance ?_ | refine hard_buildSlice (by omega) fun _ => And.intro inferInstance ?_ | refine hard_callP (by first | exact True.intro | omega | (simp only [List.length_cons, List.length_nil, List.length_append]; omega)) ?_ | refine hard_callV' (by first | exact True.intro | omega | (simp only [List.length_cons, List.length_nil, List.length_append]; omega)) ?_ | refine hard_callT' (by first | exact True.intro | omega) ?_ | refine hard_makeMap fun _ => And.intro inferInstance ?_ | refine hard_makeSlice (by omega) fun _ => And.intro inferInstance ?_)
    all_goals
      intro h2 le2
      have hle2 := le1.le.trans le2.le
      haveI : LeT h1 h2 := ⟨le2.le⟩
      refine ⟨fun j' hj' => ?_, fun hall => absurd (hall j hj.1) hj.2.1⟩
      obtain rfl := FirstB.uniq hj hj'
    all_goals repeat' (first | refine Step.imp ?_ | refine Side.mk (by first | exact True.intro | omega | exact ⟨trivial, rfl⟩ | exact ⟨by omega, trivial, rfl⟩ | exact ⟨by omega, rfl⟩ | (simp only [List.length_cons, List.length_nil, List.length_append]; omega) | decide +kernel) ?_ | refine Both.mk ?_ ?_ | exact True.intro | refine GTo_do ?_ | (intros; refine GT_app inferInstance ?_) | refine hard_box fun _ => And.intro inferInstance ?_ | refine hard_alloc fun _ => And.intro inferInstance ?_ | refine hard_store (by first | exact ⟨trivial, rfl⟩ | exact ⟨by omega, rfl⟩) (And.intro inferInstance ?_) | refine hard_buildO (by omega) fun _ => And.intro inferInstance ?_ | refine hard_buildSlice (by omega) fun _ => And.intro inferInstance ?_ | refine hard_callP (by first | exact True.intro | omega | (simp only [List.length_cons, List.length_nil, List.length_append]; omega)) ?_ | refine hard_callV' (by first | exact True.intro | omega | (simp only [List.length_cons, List.length_nil, List.length_append]; omega)) ?_ | refine hard_callT' (by first | exact True.intro | omega) ?_ | refine hard_makeMap fun _ => And.intro inferInstance ?_ | refine hard_makeSlice (by omega) fun _ => And.intro inferInstance ?_)
    all_goals repeat (first | refine Step.imp ?_ | refine Side.mk (by first | exact True.intro | omega | exact ⟨trivial, rfl⟩ | exact ⟨by omega, trivial, rfl⟩ | exact ⟨by omega, rfl⟩ | exact ⟨by omega, by omega, rfl⟩ | (simp only [List.length_cons, List.length_nil, List.length_append]; done) | (simp only [List.length_cons, List.length_nil, List.length_append]; omega) | decide +kernel) ?_ | refine New.mk fun _ => ?_ | refine NewS.mk fun _ _ => ?_)
    all_goals refine GDraw_schC (b := xb) (.s 0 (.s 1 (.s 2 (.s 3 (.s 4 (.s 5 (.s 6 (.s 7 (.h 8 (.s 9 (.s 10 (.s 11 (.h 12 (.h 13 (.s 14 .e) .n) .n)))) (.h 12 (.h 8 (.s 9 (.s 10 (.s 11 (.h 13 (.s 14 .e) .n)))) .n) .n)))))))))) (by decide +kernel) ?_
    all_goals repeat' (first | refine Step.imp ?_ | refine Side.mk (by first | exact True.intro | omega | exact ⟨trivial, rfl⟩ | exact ⟨by omega, trivial, rfl⟩ | exact ⟨by omega, rfl⟩ | (simp only [List.length_cons, List.length_nil, List.length_append]; omega) | decide +kernel) ?_ | refine Both.mk ?_ ?_ | exact True.intro | refine GTo_do ?_ | (intros; refine GT_app inferInstance ?_) | refine hard_box fun _ => And.intro inferInstance ?_ | refine hard_alloc fun _ => And.intro inferInstance ?_ | refine hard_store (by first | exact ⟨trivial, rfl⟩ | exact ⟨by omega, rfl⟩) (And.intro inferInstance ?_) | refine hard_buildO (by omega) fun _ => And.intro inferInstance ?_ | refine hard_buildSlice (by omega) fun _ => And.intro inferInstance ?_ | refine hard_callP (by first | exact True.intro | omega | (simp only [List.length_cons, List.length_nil, List.length_append]; omega)) ?_ | refine hard_callV' (by first | exact True.intro | omega | (simp only [List.length_cons, List.length_nil, List.length_append]; omega)) ?_ | refine hard_callT' (by first | exact True.intro | omega) ?_ | refine hard_makeMap fun _ => And.intro inferInstance ?_ | refine hard_makeSlice (by omega) fun _ => And.intro inferInstance ?_)
    all_goals
      intro h3 le3
      have hle3 := hle2.trans le3.le
      refine ⟨fun j' hj' => ?_, fun hall => absurd (hall j hj.1) hj.2.1⟩
      obtain rfl := FirstB.uniq hj hj'
    all_goals repeat' (first | refine Step.imp ?_ | refine Side.mk (by first | exact True.intro | omega | exact ⟨trivial, rfl⟩ | exact ⟨by omega, trivial, rfl⟩ | exact ⟨by omega, rfl⟩ | (simp only [List.length_cons, List.length_nil, List.length_append]; omega) | decide +kernel) ?_ | refine Both.mk ?_ ?_ | exact True.intro | refine GTo_do ?_ | (intros; refine GT_app inferInstance ?_) | refine hard_box fun _ => And.intro inferInstance ?_ | refine hard_alloc fun _ => And.intro inferInstance ?_ | refine hard_store (by first | exact ⟨trivial, rfl⟩ | exact ⟨by omega, rfl⟩) (And.intro inferInstance ?_) | refine hard_buildO (by omega) fun _ => And.intro inferInstance ?_ | refine hard_buildSlice (by omega) fun _ => And.intro inferInstance ?_ | refine hard_callP (by first | exact True.intro | omega | (simp only [List.length_cons, List.length_nil, List.length_append]; omega)) ?_ | refine hard_callV' (by first | exact True.intro | omega | (simp only [List.length_cons, List.length_nil, List.length_append]; omega)) ?_ | refine hard_callT' (by first | exact True.intro | omega) ?_ | refine hard_makeMap fun _ => And.intro inferInstance ?_ | refine hard_makeSlice (by omega) fun _ => And.intro inferInstance ?_)
    all_goals repeat (first | refine Step.imp ?_ | refine Side.mk (by first | exact True.intro | omega | exact ⟨trivial, rfl⟩ | exact ⟨by omega, trivial, rfl⟩ | exact ⟨by omega, rfl⟩ | exact ⟨by omega, by omega, rfl⟩ | (simp only [List.length_cons, List.length_nil, List.length_append]; done) | (simp only [List.length_cons, List.length_nil, List.length_append]; omega) | decide +kernel) ?_ | refine GDraw_one (by decide +kernel) ?_ | refine New.mk fun _ => ?_ | refine NewS.mk fun _ _ => ?_)
    all_goals
      intro h4 le4
      have hle4 := hle3.trans le4.le
    all_goals repeat (first | refine Step.imp ?_ | refine Side.mk (by first | exact True.intro | omega | exact ⟨trivial, rfl⟩ | exact ⟨by omega, trivial, rfl⟩ | exact ⟨by omega, rfl⟩ | exact ⟨by omega, by omega, rfl⟩ | (simp only [List.length_cons, List.length_nil, List.length_append]; done) | (simp only [List.length_cons, List.length_nil, List.length_append]; omega) | decide +kernel) ?_ | refine GDraw_one (by decide +kernel) ?_ | refine New.mk fun _ => ?_ | refine NewS.mk fun _ _ => ?_)
    all_goals exact Fin.val (hT h4 hle4) rfl hle4
end
end Go.Sl
