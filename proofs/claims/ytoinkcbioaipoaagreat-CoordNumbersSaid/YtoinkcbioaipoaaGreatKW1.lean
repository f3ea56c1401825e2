/-
  Facts that the proof is made of (W1).
-/
import Derived.Test.YtoinkcbioaipoaaGreatKC3
import Derived.Test.YtoinkcbioaipoaaGreatKF1
/-
  The law's first functions: is a catalogue small, what it opens.
-/
namespace Go.Sl
open Go.Proofs
set_option linter.unusedVariables false
set_option linter.unusedSimpArgs false
set_option maxRecDepth 10000
set_option synthInstance.maxSize 2000
set_option synthInstance.maxHeartbeats 200000
set_option maxHeartbeats 1000000
def smallC (C : Cat) : Prop := C.dims.length ≤ 5 ∧ C.meas.length ≤ 5 ∧ ∀ i < C.dims.length, (C.dims[i]!).2.length ≤ 33
instance (C : Cat) : Decidable (smallC C) := by unfold smallC; infer_instance
theorem okCat_small {C : Cat} (ok : OkCat C) : smallC C := ⟨by have := ok.dims; omega, by have := ok.meas; omega, fun i hi => by have := (treeErr_all (ok.trees i hi).2).2.1; omega⟩
theorem pure_get {ds : List Dm} {i : Nat} (hi : i < ds.length) : ((ds.map Dm.pure)[i]!).2 = (ds[i]!).nodes := by
  rw [getElem!_pos _ i (by simpa using hi), List.getElem_map, getElem!_pos ds i hi]; rfl
section
variable {h : PHeap} {dv mv : Value} {le sc : Int} {ds : List Dm} {ms : List ByteArray}
instance law_small {L : List HP} [hd : IsDims h dv ds] [hm : FSl h mv encS 1 ms] : CallX Tryz.prog 32 [.agg [dv, mv, vI le, vI sc].toArray] h L True
    (fun K => K (.bool (decide (smallC ⟨ds.map Dm.pure, ms, le, sc⟩))) h []) := ⟨fun _ => by
  have hl : (ds.map Dm.pure).length = ds.length := List.length_map ..
  refine spec_enter Tryz.func32 rfl Tryz.ntmps32 Tryz.results32 (by simp) fun K R hT => ?_
  by_cases hs : ds.length ≤ 5 ∧ ms.length ≤ 5
  · repeat' (first | refine Step.imp ?_ | refine Side.mk (by first | exact True.intro | omega | exact ⟨trivial, rfl⟩ | exact ⟨by omega, trivial, rfl⟩ | exact ⟨by omega, rfl⟩ | exact ⟨by omega, by omega, rfl⟩ | (simp only [List.length_cons, List.length_nil, List.length_append]; done) | (simp only [List.length_cons, List.length_nil, List.length_append]; omega) | decide +kernel) ?_ | refine GDraw_one (by decide +kernel) ?_ | refine New.mk fun _ => ?_ | refine NewS.mk fun _ _ => ?_ | refine Ways.mk (fun _ => ?_) (fun _ => ?_))
    all_goals first | (exfalso; omega) | skip
    rename_i cb _ _
    refine G_loopE (σ := Nat) (fun k => k ≤ ds.length ∧ ∀ j < k, (ds[j]!).nodes.length ≤ 33) (fun k => ds.length - k) (fun k => [(3, vI k), (1, .pointer (some ⟨cb, 0, none⟩))]) 0 ⟨by omega, by omega⟩ ⟨rfl, rfl, trivial⟩ fun k hk => ?_
    obtain ⟨hk, hall⟩ := hk
    repeat (first | refine Step.imp ?_ | refine Side.mk (by first | exact True.intro | omega | exact ⟨trivial, rfl⟩ | exact ⟨by omega, trivial, rfl⟩ | exact ⟨by omega, rfl⟩ | exact ⟨by omega, by omega, rfl⟩ | (simp only [List.length_cons, List.length_nil, List.length_append]; done) | (simp only [List.length_cons, List.length_nil, List.length_append]; omega) | decide +kernel) ?_ | refine GDraw_one (by decide +kernel) ?_ | refine New.mk fun _ => ?_ | refine NewS.mk fun _ _ => ?_)
    refine ⟨fun hlt => ?_, fun hge => ?_⟩
    · have hnd := hd.nd k (by omega)
      repeat (first | refine Step.imp ?_ | refine Side.mk (by first | exact True.intro | omega | exact ⟨trivial, rfl⟩ | exact ⟨by omega, trivial, rfl⟩ | exact ⟨by omega, rfl⟩ | exact ⟨by omega, by omega, rfl⟩ | (simp only [List.length_cons, List.length_nil, List.length_append]; done) | (simp only [List.length_cons, List.length_nil, List.length_append]; omega) | decide +kernel) ?_ | refine GDraw_one (by decide +kernel) ?_ | refine New.mk fun _ => ?_ | refine NewS.mk fun _ _ => ?_)
      refine ⟨fun hbig => ?_, fun hok => ?_⟩
      · repeat (first | refine Step.imp ?_ | refine Side.mk (by first | exact True.intro | omega | exact ⟨trivial, rfl⟩ | exact ⟨by omega, trivial, rfl⟩ | exact ⟨by omega, rfl⟩ | exact ⟨by omega, by omega, rfl⟩ | (simp only [List.length_cons, List.length_nil, List.length_append]; done) | (simp only [List.length_cons, List.length_nil, List.length_append]; omega) | decide +kernel) ?_ | refine GDraw_one (by decide +kernel) ?_ | refine New.mk fun _ => ?_ | refine NewS.mk fun _ _ => ?_)
        exact Fin.ff hT (fun hsm => by have := hsm.2.2 k (by simp only; omega); rw [show (Cat.dims ⟨ds.map Dm.pure, ms, le, sc⟩) = ds.map Dm.pure from rfl, pure_get (by omega)] at this; omega) (Hle.refl _)
      · repeat (first | refine Step.imp ?_ | refine Side.mk (by first | exact True.intro | omega | exact ⟨trivial, rfl⟩ | exact ⟨by omega, trivial, rfl⟩ | exact ⟨by omega, rfl⟩ | exact ⟨by omega, by omega, rfl⟩ | (simp only [List.length_cons, List.length_nil, List.length_append]; done) | (simp only [List.length_cons, List.length_nil, List.length_append]; omega) | decide +kernel) ?_ | refine GDraw_one (by decide +kernel) ?_ | refine New.mk fun _ => ?_ | refine NewS.mk fun _ _ => ?_)
        refine X_roundE (k + 1) ⟨by omega, fun j hj => ?_⟩ (by omega) ⟨rfl, rfl, trivial⟩ inferInstance
        rcases Nat.lt_or_ge j k with h1 | h1
        · exact hall j h1
        · have : j = k := by omega
          subst this; omega
    · repeat (first | refine Step.imp ?_ | refine Side.mk (by first | exact True.intro | omega | exact ⟨trivial, rfl⟩ | exact ⟨by omega, trivial, rfl⟩ | exact ⟨by omega, rfl⟩ | exact ⟨by omega, by omega, rfl⟩ | (simp only [List.length_cons, List.length_nil, List.length_append]; done) | (simp only [List.length_cons, List.length_nil, List.length_append]; omega) | decide +kernel) ?_ | refine GDraw_one (by decide +kernel) ?_ | refine New.mk fun _ => ?_ | refine NewS.mk fun _ _ => ?_)
      exact Fin.tt hT ⟨by simp only; omega, hs.2, fun i hi => by
        rw [show (Cat.dims ⟨ds.map Dm.pure, ms, le, sc⟩) = ds.map Dm.pure from rfl] at hi ⊢
        rw [pure_get (by omega)]; exact hall i (by omega)⟩ (Hle.refl _)
  · have hno : ¬ smallC ⟨ds.map Dm.pure, ms, le, sc⟩ := fun hsm => hs ⟨by have := hsm.1; simp only at this; omega, hsm.2.1⟩
    repeat' (first | refine Step.imp ?_ | refine Side.mk (by first | exact True.intro | omega | exact ⟨trivial, rfl⟩ | exact ⟨by omega, trivial, rfl⟩ | exact ⟨by omega, rfl⟩ | exact ⟨by omega, by omega, rfl⟩ | (simp only [List.length_cons, List.length_nil, List.length_append]; done) | (simp only [List.length_cons, List.length_nil, List.length_append]; omega) | decide +kernel) ?_ | refine GDraw_one (by decide +kernel) ?_ | refine New.mk fun _ => ?_ | refine NewS.mk fun _ _ => ?_ | refine Ways.mk (fun _ => ?_) (fun _ => ?_))
    all_goals first | exact Fin.ff hT hno (Hle.refl _) | (exfalso; omega)⟩
instance law_open {L : List HP} [hd : IsDims h dv ds] [hm : FSl h mv encS 1 ms] : CallX Tryz.prog 6 [.agg [dv, mv, vI le, vI sc].toArray] h L True
    (fun K => (¬ OkCat ⟨ds.map Dm.pure, ms, le, sc⟩ → ∀ p q h', Le h h' → K (.tuple [.pointer p, .pointer q, .bool false].toArray) h' []) ∧
      (OkCat ⟨ds.map Dm.pure, ms, le, sc⟩ → ∀ h' sb rb db, Le h h' → IsSp h' sb ⟨ds.map Dm.pure, ms, le, sc⟩ → IsRD h' db ⟨ds.map Dm.pure, ms, le, sc⟩ →
        K (.tuple [.pointer (some ⟨sb, 0, none⟩), .pointer (some ⟨rb, 0, none⟩), .bool true].toArray) h' [blk rb (.cells [.pointer (some ⟨db, 0, none⟩), .slice none 0 0, .slice none 0 0, .slice none 0 0, .slice none 0 0, .slice none 0 0].toArray 64 (0, 0))])) := ⟨fun _ => by
  obtain ⟨C, hC⟩ : ∃ C : Cat, C = ⟨ds.map Dm.pure, ms, le, sc⟩ := ⟨_, rfl⟩
  refine spec_enter Tryz.func6 rfl Tryz.ntmps6 Tryz.results6 (by simp) fun K R hT => ?_
  rw [← hC] at hT
  repeat (first | refine Step.imp ?_ | refine Side.mk (by first | exact True.intro | omega | exact ⟨trivial, rfl⟩ | exact ⟨by omega, trivial, rfl⟩ | exact ⟨by omega, rfl⟩ | exact ⟨by omega, by omega, rfl⟩ | (simp only [List.length_cons, List.length_nil, List.length_append]; done) | (simp only [List.length_cons, List.length_nil, List.length_append]; omega) | decide +kernel) ?_ | refine GDraw_one (by decide +kernel) ?_ | refine New.mk fun _ => ?_ | refine NewS.mk fun _ _ => ?_)
  rw [← hC]
  refine ⟨fun hno => ?_, fun hsm => ?_⟩
  · have hfin := hT.1 (fun ok => hno (okCat_small ok)) none none h ⟨Hle.refl h⟩
    repeat (first | refine Step.imp ?_ | refine Side.mk (by first | exact True.intro | omega | exact ⟨trivial, rfl⟩ | exact ⟨by omega, trivial, rfl⟩ | exact ⟨by omega, rfl⟩ | exact ⟨by omega, by omega, rfl⟩ | (simp only [List.length_cons, List.length_nil, List.length_append]; done) | (simp only [List.length_cons, List.length_nil, List.length_append]; omega) | decide +kernel) ?_ | refine GDraw_one (by decide +kernel) ?_ | refine New.mk fun _ => ?_ | refine NewS.mk fun _ _ => ?_)
    exact Fin.val hfin rfl (Hle.refl _)
  have hsm := Decidable.not_not.1 hsm
  have hsz : ds.length ≤ 4294967296 ∧ ms.length ≤ 4294967296 ∧ ∀ i < ds.length, (ds[i]!).nodes.length ≤ 4294967296 := by
    rw [hC] at hsm
    obtain ⟨h1, h2, h3⟩ := hsm
    simp only [List.length_map] at h1 h2 h3
    refine ⟨by omega, by omega, fun i hi => ?_⟩
    have := h3 i hi
    rw [pure_get hi] at this; omega
  repeat (first | refine Step.imp ?_ | refine Side.mk (by first | exact True.intro | omega | exact ⟨trivial, rfl⟩ | exact ⟨by omega, trivial, rfl⟩ | exact ⟨by omega, rfl⟩ | exact ⟨by omega, by omega, rfl⟩ | (simp only [List.length_cons, List.length_nil, List.length_append]; done) | (simp only [List.length_cons, List.length_nil, List.length_append]; omega) | decide +kernel) ?_ | refine GDraw_one (by decide +kernel) ?_ | refine New.mk fun _ => ?_ | refine NewS.mk fun _ _ => ?_)
  rw [← hC]
  refine ⟨fun i why h1 le1 hw hno => ?_, fun ok h1 db le1 hD => ?_⟩
  · repeat (first | refine Step.imp ?_ | refine Side.mk (by first | exact True.intro | omega | exact ⟨trivial, rfl⟩ | exact ⟨by omega, trivial, rfl⟩ | exact ⟨by omega, rfl⟩ | exact ⟨by omega, by omega, rfl⟩ | (simp only [List.length_cons, List.length_nil, List.length_append]; done) | (simp only [List.length_cons, List.length_nil, List.length_append]; omega) | decide +kernel) ?_ | refine GDraw_one (by decide +kernel) ?_ | refine New.mk fun _ => ?_ | refine NewS.mk fun _ _ => ?_)
    rw [← hC]
    refine ⟨fun i2 why2 h2 le2 hw2 _ => ?_, fun ok => absurd ok hno⟩
    have hle2 := le1.le.trans le2.le
    repeat (first | refine Step.imp ?_ | refine Side.mk (by first | exact True.intro | omega | exact ⟨trivial, rfl⟩ | exact ⟨by omega, trivial, rfl⟩ | exact ⟨by omega, rfl⟩ | exact ⟨by omega, by omega, rfl⟩ | (simp only [List.length_cons, List.length_nil, List.length_append]; done) | (simp only [List.length_cons, List.length_nil, List.length_append]; omega) | decide +kernel) ?_ | refine GDraw_one (by decide +kernel) ?_ | refine New.mk fun _ => ?_ | refine NewS.mk fun _ _ => ?_)
    refine ⟨fun hz => absurd hz hw, fun _ => ?_⟩
    repeat (first | refine Step.imp ?_ | refine Side.mk (by first | exact True.intro | omega | exact ⟨trivial, rfl⟩ | exact ⟨by omega, trivial, rfl⟩ | exact ⟨by omega, rfl⟩ | exact ⟨by omega, by omega, rfl⟩ | (simp only [List.length_cons, List.length_nil, List.length_append]; done) | (simp only [List.length_cons, List.length_nil, List.length_append]; omega) | decide +kernel) ?_ | refine GDraw_one (by decide +kernel) ?_ | refine New.mk fun _ => ?_ | refine NewS.mk fun _ _ => ?_)
    rename_i xb _
    have hfin := hT.1 hno none (some ⟨xb, 0, none⟩) h2 ⟨hle2⟩
    exact Fin.val hfin rfl hle2
  · repeat (first | refine Step.imp ?_ | refine Side.mk (by first | exact True.intro | omega | exact ⟨trivial, rfl⟩ | exact ⟨by omega, trivial, rfl⟩ | exact ⟨by omega, rfl⟩ | exact ⟨by omega, by omega, rfl⟩ | (simp only [List.length_cons, List.length_nil, List.length_append]; done) | (simp only [List.length_cons, List.length_nil, List.length_append]; omega) | decide +kernel) ?_ | refine GDraw_one (by decide +kernel) ?_ | refine New.mk fun _ => ?_ | refine NewS.mk fun _ _ => ?_)
    rw [← hC]
    refine ⟨fun i2 why2 h2 le2 hw2 hno => absurd ok hno, fun _ h2 rdb le2 hRD => ?_⟩
    haveI := ok
    repeat (first | refine Step.imp ?_ | refine Side.mk (by first | exact True.intro | omega | exact ⟨trivial, rfl⟩ | exact ⟨by omega, trivial, rfl⟩ | exact ⟨by omega, rfl⟩ | exact ⟨by omega, by omega, rfl⟩ | (simp only [List.length_cons, List.length_nil, List.length_append]; done) | (simp only [List.length_cons, List.length_nil, List.length_append]; omega) | decide +kernel) ?_ | refine GDraw_one (by decide +kernel) ?_ | refine New.mk fun _ => ?_ | refine NewS.mk fun _ _ => ?_)
    intro h3 sb le3 hSp
    have hle3 := le1.le.trans (le2.le.trans le3.le)
    repeat (first | refine Step.imp ?_ | refine Side.mk (by first | exact True.intro | omega | exact ⟨trivial, rfl⟩ | exact ⟨by omega, trivial, rfl⟩ | exact ⟨by omega, rfl⟩ | exact ⟨by omega, by omega, rfl⟩ | (simp only [List.length_cons, List.length_nil, List.length_append]; done) | (simp only [List.length_cons, List.length_nil, List.length_append]; omega) | decide +kernel) ?_ | refine GDraw_one (by decide +kernel) ?_ | refine New.mk fun _ => ?_ | refine NewS.mk fun _ _ => ?_)
    rename_i xb
    have hfin := hT.2 ok h3 sb xb rdb ⟨hle3⟩ hSp (hRD.mono le3.le)
    repeat' (first | refine Step.imp ?_ | refine Side.mk (by first | exact True.intro | omega | exact ⟨trivial, rfl⟩ | exact ⟨by omega, trivial, rfl⟩ | exact ⟨by omega, rfl⟩ | exact ⟨by omega, by omega, rfl⟩ | (simp only [List.length_cons, List.length_nil, List.length_append]; done) | (simp only [List.length_cons, List.length_nil, List.length_append]; omega) | decide +kernel) ?_ | refine GDraw_one (by decide +kernel) ?_ | refine New.mk fun _ => ?_ | refine NewS.mk fun _ _ => ?_ | refine Ways.mk (fun _ => ?_) (fun _ => ?_))
    all_goals first | (exfalso; contradiction) | exact Fin.val hfin rfl hle3⟩
end
end Go.Sl

/-
  What must come of fixed calls.
-/
namespace Go.Sl
open Go.Proofs
set_option linter.unusedVariables false
set_option linter.unusedSimpArgs false
set_option maxRecDepth 10000
set_option synthInstance.maxSize 2000
set_option synthInstance.maxHeartbeats 200000
set_option maxHeartbeats 1000000
def kNodes : List Nd := [⟨⟨#[97, 108, 108]⟩, -1⟩, ⟨⟨#[97]⟩, 0⟩, ⟨⟨#[98]⟩, 0⟩]
def kCat : Cat := ⟨[(⟨#[120]⟩, kNodes)], [⟨#[109]⟩], 9, 1⟩
theorem kOk : OkCat kCat := ⟨by decide +kernel, by decide +kernel, by decide +kernel, by decide +kernel, by decide +kernel, by decide +kernel, by decide +kernel, by decide +kernel⟩
theorem kCode : codeF kCat 0 (get4 2 0 0 0) = 1 := by decide +kernel
theorem kIndex : indexF kCat 0 (get4 2 0 0 0) = 2 := by decide +kernel
theorem kUnder : underF kCat 0 (get4 0 0 0 0) = [0, 1] := by decide +kernel
theorem kOver : overF kCat 1 = [⟨0, 0, 0, 0, 0⟩, ⟨0, 2, 0, 0, 0⟩] := by decide +kernel
section
variable {h : PHeap}
instance law_known {L : List HP} : CallX Tryz.prog 7 [] h L True (fun K => ∀ h', Le h h' → K (.bool true) h' []) := ⟨fun _ => by
  refine spec_enter Tryz.func7 rfl Tryz.ntmps7 Tryz.results7 (by simp) fun K R hT => ?_
  repeat (first | refine Step.imp ?_ | refine Side.mk (by first | exact True.intro | omega | exact ⟨trivial, rfl⟩ | exact ⟨by omega, trivial, rfl⟩ | exact ⟨by omega, rfl⟩ | exact ⟨by omega, by omega, rfl⟩ | (simp only [List.length_cons, List.length_nil, List.length_append]; done) | (simp only [List.length_cons, List.length_nil, List.length_append]; omega) | decide +kernel) ?_ | refine GDraw_one (by decide +kernel) ?_ | refine New.mk fun _ => ?_ | refine NewS.mk fun _ _ => ?_)
  rename_i nb db mb
  refine GO1_own (kk := 2) nb encNd [⟨⟨#[97, 108, 108]⟩, -1⟩, ⟨⟨#[97]⟩, 0⟩, ⟨⟨#[98]⟩, 0⟩] ?_
  refine GO1_frS (.slice (some ⟨nb, 0, none⟩) 3 3) fun h1 le1 f1 => ?_
  haveI : Mk encDm [.string ⟨#[120]⟩, .slice (some ⟨nb, 0, none⟩) 3 3] ⟨⟨#[120]⟩, .slice (some ⟨nb, 0, none⟩) 3 3, rfl, kNodes⟩ := ⟨rfl⟩
  refine GO1_own (kk := 2) db encDm [⟨⟨#[120]⟩, .slice (some ⟨nb, 0, none⟩) 3 3, rfl, kNodes⟩] ?_
  refine GO1_frS (.slice (some ⟨db, 0, none⟩) 1 1) fun h2 le2 f2 => ?_
  refine GO1_own (kk := 1) mb encS [⟨#[109]⟩] ?_
  refine GO1_frS (.slice (some ⟨mb, 0, none⟩) 1 1) fun h3 le3 f3 => ?_
  haveI hd : IsDims h3 (.slice (some ⟨db, 0, none⟩) 1 1) [⟨⟨#[120]⟩, .slice (some ⟨nb, 0, none⟩) 3 3, rfl, kNodes⟩] := ⟨FSl.mono le3.le f2, fun i hi => by
    have : i = 0 := by simp at hi; omega
    subst this; exact FSl.mono (le2.le.trans le3.le) f1⟩
  have hle3 := le1.le.trans (le2.le.trans le3.le)
  repeat (first | refine Step.imp ?_ | refine Side.mk (by first | exact True.intro | omega | exact ⟨trivial, rfl⟩ | exact ⟨by omega, trivial, rfl⟩ | exact ⟨by omega, rfl⟩ | exact ⟨by omega, by omega, rfl⟩ | (simp only [List.length_cons, List.length_nil, List.length_append]; done) | (simp only [List.length_cons, List.length_nil, List.length_append]; omega) | decide +kernel) ?_ | refine GDraw_one (by decide +kernel) ?_ | refine New.mk fun _ => ?_ | refine NewS.mk fun _ _ => ?_)
  refine ⟨fun hno => absurd kOk hno, fun _ h4 sb rb rdb le4 hSp0 hRD => ?_⟩
  haveI hSp : IsSp h4 sb kCat := hSp0
  clear hSp0
  haveI := kOk
  have hle4 := hle3.trans le4.le
  repeat (first | refine Step.imp ?_ | refine Side.mk (by first | exact True.intro | omega | exact ⟨trivial, rfl⟩ | exact ⟨by omega, trivial, rfl⟩ | exact ⟨by omega, rfl⟩ | exact ⟨by omega, by omega, rfl⟩ | (simp only [List.length_cons, List.length_nil, List.length_append]; done) | (simp only [List.length_cons, List.length_nil, List.length_append]; omega) | decide +kernel) ?_ | refine GDraw_one (by decide +kernel) ?_ | refine New.mk fun _ => ?_ | refine NewS.mk fun _ _ => ?_)
  haveI : Known (codeF kCat 0 (get4 2 0 0 0) = 1) := ⟨kCode⟩
  haveI : Known (indexF kCat 0 (get4 2 0 0 0) = 2) := ⟨kIndex⟩
  haveI : Known (underF kCat 0 (get4 0 0 0 0) = [0, 1]) := ⟨kUnder⟩
  haveI : Known (overF kCat 1 = [⟨0, 0, 0, 0, 0⟩, ⟨0, 2, 0, 0, 0⟩]) := ⟨kOver⟩
  have hul : (underF kCat 0 (get4 0 0 0 0)).length = 2 := by rw [kUnder]; rfl
  have hol : (overF kCat 1).length = 2 := by rw [kOver]; rfl
  refine GDraw_sch (.s 0 (.s 1 (.h 2 (.s 3 (.s 4 (.s 5 (.s 6 (.h 7 (.s 8 (.s 9 (.s 10 (.s 11 (.s 12 (.h 13 (.h 14 (.h 15 (.s 16 (.s 17 (.s 18 (.s 20 (.s 21 (.h 19 (.h 22 (.h 23 (.s 24 (.s 25 (.s 26 (.h 27 (.h 28 (.s 29 (.s 30 (.s 31 .e))) .n) .n)))) .n) .n) (.h 22 (.h 19 (.h 23 (.s 24 (.s 25 (.s 26 (.h 27 (.h 28 (.s 29 (.s 30 (.s 31 .e))) .n) .n)))) .n) .n) .n))))))) .n) .n) (.h 14 (.h 13 (.h 15 (.s 16 (.s 17 (.s 18 (.s 20 (.s 21 (.h 19 (.h 22 (.h 23 (.s 24 (.s 25 (.s 26 (.h 27 (.h 28 (.s 29 (.s 30 (.s 31 .e))) .n) .n)))) .n) .n) (.h 22 (.h 19 (.h 23 (.s 24 (.s 25 (.s 26 (.h 27 (.h 28 (.s 29 (.s 30 (.s 31 .e))) .n) .n)))) .n) .n) .n))))))) .n) .n) .n))))))) .n))))) .n))) (by decide +kernel) ?_
  repeat' (first | refine Step.imp ?_ | refine Side.mk (by first | exact True.intro | omega | exact ⟨trivial, rfl⟩ | exact ⟨by omega, trivial, rfl⟩ | exact ⟨by omega, rfl⟩ | (simp only [List.length_cons, List.length_nil, List.length_append]; omega) | decide +kernel) ?_ | refine Both.mk ?_ ?_ | exact True.intro | refine GTo_do ?_ | (intros; refine GT_app inferInstance ?_) | refine hard_box fun _ => And.intro inferInstance ?_ | refine hard_alloc fun _ => And.intro inferInstance ?_ | refine hard_buildO (by omega) fun _ => And.intro inferInstance ?_ | refine hard_buildSlice (by omega) fun _ => And.intro inferInstance ?_ | refine hard_callP (by first | exact True.intro | omega | (simp only [List.length_cons, List.length_nil, List.length_append]; omega)) ?_ | refine hard_callV' (by first | exact True.intro | omega | (simp only [List.length_cons, List.length_nil, List.length_append]; omega)) ?_ | refine hard_callT' (by first | exact True.intro | omega) ?_ | refine hard_makeMap fun _ => And.intro inferInstance ?_ | refine hard_makeSlice (by omega) fun _ => And.intro inferInstance ?_)
  all_goals exact Fin.val (hT _ ⟨LeT.le⟩) rfl LeT.le⟩
end
end Go.Sl
