/-
  Facts that the proof is made of (V9).
-/
import Derived.Test.YtoekdnandjjeoaaGreatKV2
import Derived.Test.YtoekdnandjjeoaaGreatKV8
/-
  The law ViewParts, walked.
-/
namespace Go.Sl
open Go.Proofs
set_option linter.unusedVariables false
set_option linter.unusedSimpArgs false
set_option maxRecDepth 10000
set_option synthInstance.maxSize 2000
set_option synthInstance.maxHeartbeats 200000
set_option maxHeartbeats 1000000
section
variable {h : PHeap} {dv mv : Value} {le sc : Int} {ds : List Dm} {ms : List ByteArray}
theorem walk_ViewParts {L : List HP} {xa : Option Addr} {xc : Nat} {xs : List Int} {m a0 a1 a2 a3 dim : Int} [hd : IsDims h dv ds] [hm : FSl h mv encS 1 ms] [hx : FSl h (.slice xa xs.length xc) encI 1 xs] (hdl : ds.length ≤ 9223372036854775807) (hxl : xs.length ≤ 9223372036854775807) (hx64 : Ok64 xs) :
    Spec Tryz.prog 4 [.agg [dv, mv, vI le, vI sc].toArray, .slice xa xs.length xc, .agg [vI m, vI a0, vI a1, vI a2, vI a3].toArray, vI dim] h L (fun K => ∀ h', Hle h h' → K (.bool true) h' L) := by
  obtain ⟨C, hC⟩ : ∃ C : Cat, C = ⟨ds.map Dm.pure, ms, le, sc⟩ := ⟨_, rfl⟩
  refine spec_enter Tryz.func4 rfl Tryz.ntmps4 Tryz.results4 (by simp) fun K R hT => ?_
  repeat (first | refine Step.imp ?_ | refine Side.mk (by first | exact True.intro | omega | exact ⟨trivial, rfl⟩ | exact ⟨by omega, trivial, rfl⟩ | exact ⟨by omega, rfl⟩ | exact ⟨by omega, by omega, rfl⟩ | (simp only [List.length_cons, List.length_nil, List.length_append]; done) | (simp only [List.length_cons, List.length_nil, List.length_append]; omega) | decide +kernel) ?_ | refine GDraw_one (by decide +kernel) ?_ | refine New.mk fun _ => ?_ | refine NewS.mk fun _ _ => ?_)
  refine Side.mk ⟨hdl, hxl, hx64⟩ ?_
  rw [← hC]
  refine ⟨fun hno h1 le1 => ?_, fun ok h1 pb0 vb sb pb ab rb mm ss root la lc le1 bg => ?_⟩
  · repeat (first | refine Step.imp ?_ | refine Side.mk (by first | exact True.intro | omega | exact ⟨trivial, rfl⟩ | exact ⟨by omega, trivial, rfl⟩ | exact ⟨by omega, rfl⟩ | exact ⟨by omega, by omega, rfl⟩ | (simp only [List.length_cons, List.length_nil, List.length_append]; done) | (simp only [List.length_cons, List.length_nil, List.length_append]; omega) | decide +kernel) ?_ | refine GDraw_one (by decide +kernel) ?_ | refine New.mk fun _ => ?_ | refine NewS.mk fun _ _ => ?_)
    intro h2 le2
    have hle := le1.le.trans le2.le
    repeat (first | refine Step.imp ?_ | refine Side.mk (by first | exact True.intro | omega | exact ⟨trivial, rfl⟩ | exact ⟨by omega, trivial, rfl⟩ | exact ⟨by omega, rfl⟩ | exact ⟨by omega, by omega, rfl⟩ | (simp only [List.length_cons, List.length_nil, List.length_append]; done) | (simp only [List.length_cons, List.length_nil, List.length_append]; omega) | decide +kernel) ?_ | refine GDraw_one (by decide +kernel) ?_ | refine New.mk fun _ => ?_ | refine NewS.mk fun _ _ => ?_)
    exact Fin.val (hT h2 hle) rfl hle
  obtain ⟨b1, b2, b3, b4, b5, b6⟩ := bg
  obtain ⟨V, hV⟩ : ∃ V, V = valsB C xs := ⟨_, rfl⟩
  obtain ⟨es, hes⟩ : ∃ es, es = esB C xs := ⟨_, rfl⟩
  have hVl : V.length = (leavesF C C.dims.length).toNat ∧ Ok64 V := by rw [hV]; exact ⟨valsB_len C xs, valsB_64 hx64⟩
  rw [← hV] at b5 b6
  rw [← hes]
  haveI : LeT h1 h1 := ⟨Hle.refl h1⟩
  repeat (first | refine Step.imp ?_ | refine Side.mk (by first | exact True.intro | omega | exact ⟨trivial, rfl⟩ | exact ⟨by omega, trivial, rfl⟩ | exact ⟨by omega, rfl⟩ | exact ⟨by omega, by omega, rfl⟩ | (simp only [List.length_cons, List.length_nil, List.length_append]; done) | (simp only [List.length_cons, List.length_nil, List.length_append]; omega) | decide +kernel) ?_ | refine New.mk fun _ => ?_ | refine NewS.mk fun _ _ => ?_)
  rename_i cb
  by_cases hr : rightF C m (get4 a0 a1 a2 a3)
  rotate_left
  · skip
    repeat (first | refine Step.imp ?_ | refine Side.mk (by first | exact True.intro | omega | exact ⟨trivial, rfl⟩ | exact ⟨by omega, trivial, rfl⟩ | exact ⟨by omega, rfl⟩ | exact ⟨by omega, by omega, rfl⟩ | (simp only [List.length_cons, List.length_nil, List.length_append]; done) | (simp only [List.length_cons, List.length_nil, List.length_append]; omega) | decide +kernel) ?_ | refine GDraw_CC pb0 cb (by decide +kernel) ?_ | refine New.mk fun _ => ?_ | refine NewS.mk fun _ _ => ?_)
    intro h2 le2
    refine ⟨fun _ => ?_, fun hin => absurd hin hr⟩
    haveI := b1.mono le2.le
    haveI := b2.mono le2.le
    haveI := b4.mono le2.le
    repeat (first | refine Step.imp ?_ | refine Side.mk (by first | exact True.intro | omega | exact ⟨trivial, rfl⟩ | exact ⟨by omega, trivial, rfl⟩ | exact ⟨by omega, rfl⟩ | exact ⟨by omega, by omega, rfl⟩ | (simp only [List.length_cons, List.length_nil, List.length_append]; done) | (simp only [List.length_cons, List.length_nil, List.length_append]; omega) | decide +kernel) ?_ | refine GDraw_CC pb0 cb (by decide +kernel) ?_ | refine New.mk fun _ => ?_ | refine NewS.mk fun _ _ => ?_)
    intro h3 le3
    refine ⟨fun _ => ?_, fun hin => absurd hin hr⟩
    repeat' (first | refine Step.imp ?_ | refine Side.mk (by first | exact True.intro | omega | exact ⟨trivial, rfl⟩ | exact ⟨by omega, trivial, rfl⟩ | exact ⟨by omega, rfl⟩ | exact ⟨by omega, by omega, rfl⟩ | (simp only [List.length_cons, List.length_nil, List.length_append]; done) | (simp only [List.length_cons, List.length_nil, List.length_append]; omega) | decide +kernel) ?_ | refine GDraw_one (by decide +kernel) ?_ | refine New.mk fun _ => ?_ | refine NewS.mk fun _ _ => ?_ | refine Ways.mk (fun _ => ?_) (fun _ => ?_))
    all_goals first | (exfalso; omega) | skip
    intro h4 le4
    have hle4 := le1.le.trans (le2.le.trans (le3.le.trans le4.le))
    repeat (first | refine Step.imp ?_ | refine Side.mk (by first | exact True.intro | omega | exact ⟨trivial, rfl⟩ | exact ⟨by omega, trivial, rfl⟩ | exact ⟨by omega, rfl⟩ | exact ⟨by omega, by omega, rfl⟩ | (simp only [List.length_cons, List.length_nil, List.length_append]; done) | (simp only [List.length_cons, List.length_nil, List.length_append]; omega) | decide +kernel) ?_ | refine GDraw_one (by decide +kernel) ?_ | refine New.mk fun _ => ?_ | refine NewS.mk fun _ _ => ?_)
    exact Fin.val (hT h4 hle4) rfl hle4
  by_cases hdm : 0 ≤ dim ∧ dim < C.dims.length
  rotate_left
  · skip
    repeat (first | refine Step.imp ?_ | refine Side.mk (by first | exact True.intro | omega | exact ⟨trivial, rfl⟩ | exact ⟨by omega, trivial, rfl⟩ | exact ⟨by omega, rfl⟩ | exact ⟨by omega, by omega, rfl⟩ | (simp only [List.length_cons, List.length_nil, List.length_append]; done) | (simp only [List.length_cons, List.length_nil, List.length_append]; omega) | decide +kernel) ?_ | refine GDraw_CC pb0 cb (by decide +kernel) ?_ | refine New.mk fun _ => ?_ | refine NewS.mk fun _ _ => ?_)
    intro h2 le2
    refine ⟨fun _ => ?_, fun _ hin => absurd hin hdm⟩
    haveI := b1.mono le2.le
    haveI := b2.mono le2.le
    haveI := b4.mono le2.le
    repeat (first | refine Step.imp ?_ | refine Side.mk (by first | exact True.intro | omega | exact ⟨trivial, rfl⟩ | exact ⟨by omega, trivial, rfl⟩ | exact ⟨by omega, rfl⟩ | exact ⟨by omega, by omega, rfl⟩ | (simp only [List.length_cons, List.length_nil, List.length_append]; done) | (simp only [List.length_cons, List.length_nil, List.length_append]; omega) | decide +kernel) ?_ | refine GDraw_CC pb0 cb (by decide +kernel) ?_ | refine New.mk fun _ => ?_ | refine NewS.mk fun _ _ => ?_)
    intro h3 le3
    refine ⟨fun hin => absurd hr hin, fun _ => ?_⟩
    repeat' (first | refine Step.imp ?_ | refine Side.mk (by first | exact True.intro | omega | exact ⟨trivial, rfl⟩ | exact ⟨by omega, trivial, rfl⟩ | exact ⟨by omega, rfl⟩ | exact ⟨by omega, by omega, rfl⟩ | (simp only [List.length_cons, List.length_nil, List.length_append]; done) | (simp only [List.length_cons, List.length_nil, List.length_append]; omega) | decide +kernel) ?_ | refine GDraw_one (by decide +kernel) ?_ | refine New.mk fun _ => ?_ | refine NewS.mk fun _ _ => ?_ | refine Ways.mk (fun _ => ?_) (fun _ => ?_))
    all_goals first | (exfalso; omega) | skip
    intro h4 le4
    have hle4 := le1.le.trans (le2.le.trans (le3.le.trans le4.le))
    repeat (first | refine Step.imp ?_ | refine Side.mk (by first | exact True.intro | omega | exact ⟨trivial, rfl⟩ | exact ⟨by omega, trivial, rfl⟩ | exact ⟨by omega, rfl⟩ | exact ⟨by omega, by omega, rfl⟩ | (simp only [List.length_cons, List.length_nil, List.length_append]; done) | (simp only [List.length_cons, List.length_nil, List.length_append]; omega) | decide +kernel) ?_ | refine GDraw_one (by decide +kernel) ?_ | refine New.mk fun _ => ?_ | refine NewS.mk fun _ _ => ?_)
    exact Fin.val (hT h4 hle4) rfl hle4
  obtain ⟨d, hdd⟩ : ∃ d : Nat, dim = (d : Int) := ⟨dim.toNat, by omega⟩
  subst hdd
  obtain ⟨ks, hks⟩ : ∃ ks, ks = kidsF C d (get4 a0 a1 a2 a3 d) := ⟨_, rfl⟩
  obtain ⟨rows, hrows⟩ : ∃ rows : List Rw, rows = ks.map (rowOf C V ⟨m, a0, a1, a2, a3⟩ d) := ⟨_, rfl⟩
  have hrl : rows.length = ks.length := by rw [hrows]; exact List.length_map ..
  obtain ⟨tot, htot⟩ : ∃ tot, tot = cellSum C V (indexF C m (get4 a0 a1 a2 a3)).toNat := ⟨_, rfl⟩
  have hkl : ks.length ≤ 32 := by
    rw [hks]
    exact Nat.le_trans (kidsTo_lenle ..) (tree_small (b3.trees d (by omega)).2).1
  by_cases hall : ∀ k ∈ kidsF C d (get4 a0 a1 a2 a3 d), FitP (valF C V (setAt ⟨m, a0, a1, a2, a3⟩ d k))
  rotate_left
  · skip
    repeat (first | refine Step.imp ?_ | refine Side.mk (by first | exact True.intro | omega | exact ⟨trivial, rfl⟩ | exact ⟨by omega, trivial, rfl⟩ | exact ⟨by omega, rfl⟩ | exact ⟨by omega, by omega, rfl⟩ | (simp only [List.length_cons, List.length_nil, List.length_append]; done) | (simp only [List.length_cons, List.length_nil, List.length_append]; omega) | decide +kernel) ?_ | refine GDraw_CC pb0 cb (by decide +kernel) ?_ | refine New.mk fun _ => ?_ | refine NewS.mk fun _ _ => ?_)
    intro h2 le2
    refine ⟨fun hno => absurd ⟨hr, hdm⟩ hno, fun _ _ => ⟨fun ha => absurd ha hall, fun _ => ?_⟩⟩
    haveI := b1.mono le2.le
    haveI := b2.mono le2.le
    haveI := b4.mono le2.le
    repeat (first | refine Step.imp ?_ | refine Side.mk (by first | exact True.intro | omega | exact ⟨trivial, rfl⟩ | exact ⟨by omega, trivial, rfl⟩ | exact ⟨by omega, rfl⟩ | exact ⟨by omega, by omega, rfl⟩ | (simp only [List.length_cons, List.length_nil, List.length_append]; done) | (simp only [List.length_cons, List.length_nil, List.length_append]; omega) | decide +kernel) ?_ | refine GDraw_CC pb0 cb (by decide +kernel) ?_ | refine New.mk fun _ => ?_ | refine NewS.mk fun _ _ => ?_)
    intro h3 le3
    refine ⟨fun hin => absurd hr hin, fun _ => ?_⟩
    repeat' (first | refine Step.imp ?_ | refine Side.mk (by first | exact True.intro | omega | exact ⟨trivial, rfl⟩ | exact ⟨by omega, trivial, rfl⟩ | exact ⟨by omega, rfl⟩ | exact ⟨by omega, by omega, rfl⟩ | (simp only [List.length_cons, List.length_nil, List.length_append]; done) | (simp only [List.length_cons, List.length_nil, List.length_append]; omega) | decide +kernel) ?_ | refine GDraw_one (by decide +kernel) ?_ | refine New.mk fun _ => ?_ | refine NewS.mk fun _ _ => ?_ | refine Ways.mk (fun _ => ?_) (fun _ => ?_))
    all_goals first | (exfalso; omega) | skip
    intro h4 le4
    have hle4 := le1.le.trans (le2.le.trans (le3.le.trans le4.le))
    repeat (first | refine Step.imp ?_ | refine Side.mk (by first | exact True.intro | omega | exact ⟨trivial, rfl⟩ | exact ⟨by omega, trivial, rfl⟩ | exact ⟨by omega, rfl⟩ | exact ⟨by omega, by omega, rfl⟩ | (simp only [List.length_cons, List.length_nil, List.length_append]; done) | (simp only [List.length_cons, List.length_nil, List.length_append]; omega) | decide +kernel) ?_ | refine GDraw_one (by decide +kernel) ?_ | refine New.mk fun _ => ?_ | refine NewS.mk fun _ _ => ?_)
    exact Fin.val (hT h4 hle4) rfl hle4
  rw [← hks] at hall
  have hps : 0 < ks.length → (ks.map (fun k => valF C V (setAt ⟨m, a0, a1, a2, a3⟩ d k))).sum = tot := fun hp => by
    rw [htot, hks]
    exact parts_sum (C := C) b3 (c := ⟨m, a0, a1, a2, a3⟩) (d := d) (by omega) hr (by rw [hks] at hp; exact hp) hVl.1
  repeat (first | refine Step.imp ?_ | refine Side.mk (by first | exact True.intro | omega | exact ⟨trivial, rfl⟩ | exact ⟨by omega, trivial, rfl⟩ | exact ⟨by omega, rfl⟩ | exact ⟨by omega, by omega, rfl⟩ | (simp only [List.length_cons, List.length_nil, List.length_append]; done) | (simp only [List.length_cons, List.length_nil, List.length_append]; omega) | decide +kernel) ?_ | refine GDraw_CC pb0 cb (by decide +kernel) ?_ | refine New.mk fun _ => ?_ | refine NewS.mk fun _ _ => ?_)
  intro h2 le2
  refine ⟨fun hno => absurd ⟨hr, hdm⟩ hno, fun _ _ => ⟨fun _ => ?_, fun ha => absurd (by rw [Int.toNat_natCast, ← hks]; exact hall) ha⟩⟩
  intro ra rc
  haveI := b1.mono le2.le
  haveI := b2.mono le2.le
  haveI := b4.mono le2.le
  rw [Int.toNat_natCast, ← hks, ← hrows, ← hrl]
  repeat (first | refine Step.imp ?_ | refine Side.mk (by first | exact True.intro | omega | exact ⟨trivial, rfl⟩ | exact ⟨by omega, trivial, rfl⟩ | exact ⟨by omega, rfl⟩ | exact ⟨by omega, by omega, rfl⟩ | (simp only [List.length_cons, List.length_nil, List.length_append]; done) | (simp only [List.length_cons, List.length_nil, List.length_append]; omega) | decide +kernel) ?_ | refine GDraw_CC pb0 cb (by decide +kernel) ?_ | refine New.mk fun _ => ?_ | refine NewS.mk fun _ _ => ?_)
  intro h3 le3
  refine ⟨fun hin => absurd hr hin, fun _ => ?_⟩
  rw [← htot]
  have hle3 := le1.le.trans (le2.le.trans le3.le)
  by_cases hz : rows.length = 0
  · rw [hz]
    repeat' (first | refine Step.imp ?_ | refine Side.mk (by first | exact True.intro | omega | exact ⟨trivial, rfl⟩ | exact ⟨by omega, trivial, rfl⟩ | exact ⟨by omega, rfl⟩ | exact ⟨by omega, by omega, rfl⟩ | (simp only [List.length_cons, List.length_nil, List.length_append]; done) | (simp only [List.length_cons, List.length_nil, List.length_append]; omega) | decide +kernel) ?_ | refine GDraw_one (by decide +kernel) ?_ | refine New.mk fun _ => ?_ | refine NewS.mk fun _ _ => ?_ | refine Ways.mk (fun _ => ?_) (fun _ => ?_))
    all_goals first | (exfalso; omega) | skip
    intro h4 le4
    have hle4 := hle3.trans le4.le
    repeat (first | refine Step.imp ?_ | refine Side.mk (by first | exact True.intro | omega | exact ⟨trivial, rfl⟩ | exact ⟨by omega, trivial, rfl⟩ | exact ⟨by omega, rfl⟩ | exact ⟨by omega, by omega, rfl⟩ | (simp only [List.length_cons, List.length_nil, List.length_append]; done) | (simp only [List.length_cons, List.length_nil, List.length_append]; omega) | decide +kernel) ?_ | refine GDraw_one (by decide +kernel) ?_ | refine New.mk fun _ => ?_ | refine NewS.mk fun _ _ => ?_)
    exact Fin.val (hT h4 hle4) rfl hle4
  by_cases hf : FitP tot
  rotate_left
  · rw [show fitE tot = 8 from if_neg hf]
    haveI : Known (¬ ((rows.length : Int) = 0)) := ⟨by omega⟩
    repeat' (first | refine Step.imp ?_ | refine Side.mk (by first | exact True.intro | omega | exact ⟨trivial, rfl⟩ | exact ⟨by omega, trivial, rfl⟩ | exact ⟨by omega, rfl⟩ | exact ⟨by omega, by omega, rfl⟩ | (simp only [List.length_cons, List.length_nil, List.length_append]; done) | (simp only [List.length_cons, List.length_nil, List.length_append]; omega) | decide +kernel) ?_ | refine GDraw_one (by decide +kernel) ?_ | refine New.mk fun _ => ?_ | refine NewS.mk fun _ _ => ?_ | refine Ways.mk (fun _ => ?_) (fun _ => ?_))
    all_goals first | (exfalso; omega) | skip
    intro h4 le4
    have hle4 := hle3.trans le4.le
    repeat (first | refine Step.imp ?_ | refine Side.mk (by first | exact True.intro | omega | exact ⟨trivial, rfl⟩ | exact ⟨by omega, trivial, rfl⟩ | exact ⟨by omega, rfl⟩ | exact ⟨by omega, by omega, rfl⟩ | (simp only [List.length_cons, List.length_nil, List.length_append]; done) | (simp only [List.length_cons, List.length_nil, List.length_append]; omega) | decide +kernel) ?_ | refine GDraw_one (by decide +kernel) ?_ | refine New.mk fun _ => ?_ | refine NewS.mk fun _ _ => ?_)
    exact Fin.val (hT h4 hle4) rfl hle4
  rw [show fitE tot = 0 from if_pos hf, show fitN tot = tot from if_pos hf]
  haveI hma := fun N V h e a b => soft_addW Tryz.prog N V h e a b 2
  obtain ⟨W, hW⟩ : ∃ W : List Int, W = ks.map (fun k => valF C V (setAt ⟨m, a0, a1, a2, a3⟩ d k)) := ⟨_, rfl⟩
  rw [← hW] at hps
  have hWl : W.length = rows.length := by rw [hW, hrl]; exact List.length_map ..
  have hWr : ∀ k < rows.length, (rows[k]!).n = W[k]! := fun k hk => by
    rw [getElem!_pos rows k hk, getElem!_pos W k (by omega)]
    simp only [hrows, hW, List.getElem_map]
    rfl
  haveI : Known (¬ ((rows.length : Int) = 0)) := ⟨by omega⟩
  repeat' (first | refine Step.imp ?_ | refine Side.mk (by first | exact True.intro | omega | exact ⟨trivial, rfl⟩ | exact ⟨by omega, trivial, rfl⟩ | exact ⟨by omega, rfl⟩ | exact ⟨by omega, by omega, rfl⟩ | (simp only [List.length_cons, List.length_nil, List.length_append]; done) | (simp only [List.length_cons, List.length_nil, List.length_append]; omega) | decide +kernel) ?_ | refine GDraw_one (by decide +kernel) ?_ | refine New.mk fun _ => ?_ | refine NewS.mk fun _ _ => ?_ | refine Ways.mk (fun _ => ?_) (fun _ => ?_))
  all_goals first | (exfalso; omega) | skip
  refine G_loopE (σ := Nat) (fun k => k ≤ rows.length) (fun k => rows.length - k) (fun k => [(15, vI k), (14, vI (IntKind.i64.wrap (W.take k).sum)), (12, vI tot), (10, .slice ra rows.length rc)]) 0 (by omega) ⟨rfl, rfl, rfl, rfl, trivial⟩ fun k hk => ?_
  by_cases hlt : k < rows.length
  · haveI : Known ((k : Int) < rows.length) := ⟨by omega⟩
    have hwt : IntKind.i64.wrap (IntKind.i64.wrap (W.take k).sum + (rows[k]!).n) = IntKind.i64.wrap (W.take (k + 1)).sum := by
      rw [wrap_add, hWr k hlt, List.take_succ_eq_append_getElem (by omega), List.sum_append, getElem!_pos W k (by omega)]
      simp
    repeat (first | refine Step.imp ?_ | refine Side.mk (by first | exact True.intro | omega | exact ⟨trivial, rfl⟩ | exact ⟨by omega, trivial, rfl⟩ | exact ⟨by omega, rfl⟩ | exact ⟨by omega, by omega, rfl⟩ | (simp only [List.length_cons, List.length_nil, List.length_append]; done) | (simp only [List.length_cons, List.length_nil, List.length_append]; omega) | decide +kernel) ?_ | refine GDraw_one (by decide +kernel) ?_ | refine New.mk fun _ => ?_ | refine NewS.mk fun _ _ => ?_)
    rw [hwt]
    exact X_roundE (k + 1) (by omega) (by omega) ⟨rfl, rfl, rfl, rfl, trivial⟩ inferInstance
  · haveI : Known (¬ ((k : Int) < rows.length)) := ⟨by omega⟩
    have hk2 : k = rows.length := by omega
    subst hk2
    have hwt : IntKind.i64.wrap (W.take rows.length).sum = tot := by
      rw [← hWl, List.take_length, hps (by omega)]
      exact wrap_i64 hf
    rw [hwt]
    haveI : Known (tot = tot) := ⟨rfl⟩
    repeat (first | refine Step.imp ?_ | refine Side.mk (by first | exact True.intro | omega | exact ⟨trivial, rfl⟩ | exact ⟨by omega, trivial, rfl⟩ | exact ⟨by omega, rfl⟩ | exact ⟨by omega, by omega, rfl⟩ | (simp only [List.length_cons, List.length_nil, List.length_append]; done) | (simp only [List.length_cons, List.length_nil, List.length_append]; omega) | decide +kernel) ?_ | refine GDraw_one (by decide +kernel) ?_ | refine New.mk fun _ => ?_ | refine NewS.mk fun _ _ => ?_)
    intro h4 le4
    have hle4 := hle3.trans le4.le
    repeat (first | refine Step.imp ?_ | refine Side.mk (by first | exact True.intro | omega | exact ⟨trivial, rfl⟩ | exact ⟨by omega, trivial, rfl⟩ | exact ⟨by omega, rfl⟩ | exact ⟨by omega, by omega, rfl⟩ | (simp only [List.length_cons, List.length_nil, List.length_append]; done) | (simp only [List.length_cons, List.length_nil, List.length_append]; omega) | decide +kernel) ?_ | refine GDraw_one (by decide +kernel) ?_ | refine New.mk fun _ => ?_ | refine NewS.mk fun _ _ => ?_)
    exact Fin.val (hT h4 hle4) rfl hle4
end
end Go.Sl
