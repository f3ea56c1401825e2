/-
  Facts that the proof is made of (O2).
-/
import Derived.Test.YtegnndnlogpihaaGreatKO1
/-
  Rolls: two that are alike; the first cell that is beyond 64 bits; what there is not.
-/
namespace Go.Sl
open Go.Proofs
set_option linter.unusedVariables false
set_option linter.unusedSimpArgs false
set_option maxRecDepth 10000
set_option synthInstance.maxSize 2000
set_option synthInstance.maxHeartbeats 200000
set_option maxHeartbeats 1000000
section
variable {h h0 : PHeap} {b sb : Nat} {C : Cat} {vals : List Int}
instance roll_turn {L R : List HP} {c x : Int} [p : PickRo L b h0 sb C vals R] [hl : LeT h0 h] : CallT Tryz.prog 10 [.pointer (some ⟨b, 0, none⟩), vI c, vI x] h L (-9223372036854775808 ≤ x ∧ x ≤ 9223372036854775807) R
    (fun K => ∀ h', Le h h' → (¬ (0 ≤ c ∧ c < vals.length) → K (vI 17) h' [rollH h' b sb C vals]) ∧ ((0 ≤ c ∧ c < vals.length) → K (vI 0) h' [rollH h' b sb C (vals.set c.toNat x)])) := ⟨fun hs => spec_roll (turn_spec hs)⟩
instance eq64 {L : List HP} {u v : Value} {xs ys : List Int} [hv : Rds L h v encI 1 xs] [hu : Rds L h u encI 1 ys] : CallX Tryz.prog 41 [v, u] h L (xs.length ≤ 4294967296) (fun K => K (.bool (decide (xs = ys))) h []) := ⟨fun hn => by
  refine spec_enter Tryz.func41 rfl Tryz.ntmps41 Tryz.results41 (by simp) fun K R hT => ?_
  repeat (first | refine Step.imp ?_ | refine Side.mk (by first | exact True.intro | omega | exact ⟨trivial, rfl⟩ | exact ⟨by omega, trivial, rfl⟩ | exact ⟨by omega, rfl⟩ | exact ⟨by omega, by omega, rfl⟩ | (simp only [List.length_cons, List.length_nil, List.length_append]; done) | (simp only [List.length_cons, List.length_nil, List.length_append]; omega) | decide +kernel) ?_ | refine GDraw_one (by decide +kernel) ?_ | refine New.mk fun _ => ?_ | refine NewS.mk fun _ _ => ?_)
  refine ⟨fun hne => ?_, fun heq => ?_⟩
  · repeat (first | refine Step.imp ?_ | refine Side.mk (by first | exact True.intro | omega | exact ⟨trivial, rfl⟩ | exact ⟨by omega, trivial, rfl⟩ | exact ⟨by omega, rfl⟩ | exact ⟨by omega, by omega, rfl⟩ | (simp only [List.length_cons, List.length_nil, List.length_append]; done) | (simp only [List.length_cons, List.length_nil, List.length_append]; omega) | decide +kernel) ?_ | refine GDraw_one (by decide +kernel) ?_ | refine New.mk fun _ => ?_ | refine NewS.mk fun _ _ => ?_)
    exact Fin.ff hT (fun he => hne (by rw [he])) (Hle.refl _)
  have hl : xs.length = ys.length := by omega
  repeat (first | refine Step.imp ?_ | refine Side.mk (by first | exact True.intro | omega | exact ⟨trivial, rfl⟩ | exact ⟨by omega, trivial, rfl⟩ | exact ⟨by omega, rfl⟩ | exact ⟨by omega, by omega, rfl⟩ | (simp only [List.length_cons, List.length_nil, List.length_append]; done) | (simp only [List.length_cons, List.length_nil, List.length_append]; omega) | decide +kernel) ?_ | refine GDraw_one (by decide +kernel) ?_ | refine New.mk fun _ => ?_ | refine NewS.mk fun _ _ => ?_)
  refine G_loopE (σ := Nat) (fun k => k ≤ xs.length ∧ ∀ j < k, xs[j]! = ys[j]!) (fun k => xs.length - k) (fun k => [(13, vI k), (12, vI xs.length), (0, v), (1, u)]) 0 ⟨by omega, by omega⟩ ⟨rfl, rfl, rfl, rfl, trivial⟩ fun k hk => ?_
  obtain ⟨hk, hall⟩ := hk
  repeat (first | refine Step.imp ?_ | refine Side.mk (by first | exact True.intro | omega | exact ⟨trivial, rfl⟩ | exact ⟨by omega, trivial, rfl⟩ | exact ⟨by omega, rfl⟩ | exact ⟨by omega, by omega, rfl⟩ | (simp only [List.length_cons, List.length_nil, List.length_append]; done) | (simp only [List.length_cons, List.length_nil, List.length_append]; omega) | decide +kernel) ?_ | refine GDraw_one (by decide +kernel) ?_ | refine New.mk fun _ => ?_ | refine NewS.mk fun _ _ => ?_)
  refine ⟨fun hlt => ?_, fun hge => ?_⟩
  · repeat (first | refine Step.imp ?_ | refine Side.mk (by first | exact True.intro | omega | exact ⟨trivial, rfl⟩ | exact ⟨by omega, trivial, rfl⟩ | exact ⟨by omega, rfl⟩ | exact ⟨by omega, by omega, rfl⟩ | (simp only [List.length_cons, List.length_nil, List.length_append]; done) | (simp only [List.length_cons, List.length_nil, List.length_append]; omega) | decide +kernel) ?_ | refine GDraw_one (by decide +kernel) ?_ | refine New.mk fun _ => ?_ | refine NewS.mk fun _ _ => ?_)
    refine ⟨fun hne => ?_, fun he => ?_⟩
    · repeat (first | refine Step.imp ?_ | refine Side.mk (by first | exact True.intro | omega | exact ⟨trivial, rfl⟩ | exact ⟨by omega, trivial, rfl⟩ | exact ⟨by omega, rfl⟩ | exact ⟨by omega, by omega, rfl⟩ | (simp only [List.length_cons, List.length_nil, List.length_append]; done) | (simp only [List.length_cons, List.length_nil, List.length_append]; omega) | decide +kernel) ?_ | refine GDraw_one (by decide +kernel) ?_ | refine New.mk fun _ => ?_ | refine NewS.mk fun _ _ => ?_)
      exact Fin.ff hT (fun he => hne (by rw [he])) (Hle.refl _)
    · repeat (first | refine Step.imp ?_ | refine Side.mk (by first | exact True.intro | omega | exact ⟨trivial, rfl⟩ | exact ⟨by omega, trivial, rfl⟩ | exact ⟨by omega, rfl⟩ | exact ⟨by omega, by omega, rfl⟩ | (simp only [List.length_cons, List.length_nil, List.length_append]; done) | (simp only [List.length_cons, List.length_nil, List.length_append]; omega) | decide +kernel) ?_ | refine GDraw_one (by decide +kernel) ?_ | refine New.mk fun _ => ?_ | refine NewS.mk fun _ _ => ?_)
      refine X_roundE (k + 1) ⟨by omega, fun j hj => ?_⟩ (by omega) ⟨rfl, rfl, rfl, rfl, trivial⟩ inferInstance
      rcases Nat.lt_or_ge j k with h1 | h1
      · exact hall j h1
      · have : j = k := by omega
        subst this; exact Decidable.not_not.1 he
  · repeat (first | refine Step.imp ?_ | refine Side.mk (by first | exact True.intro | omega | exact ⟨trivial, rfl⟩ | exact ⟨by omega, trivial, rfl⟩ | exact ⟨by omega, rfl⟩ | exact ⟨by omega, by omega, rfl⟩ | (simp only [List.length_cons, List.length_nil, List.length_append]; done) | (simp only [List.length_cons, List.length_nil, List.length_append]; omega) | decide +kernel) ?_ | refine GDraw_one (by decide +kernel) ?_ | refine New.mk fun _ => ?_ | refine NewS.mk fun _ _ => ?_)
    exact Fin.tt hT (list_eq hl fun j hj => hall j (by omega)) (Hle.refl _)⟩
/-! ### What there is not -/
instance rollN_full : CallV Tryz.prog 12 [.pointer none] h True (vI 0) := ⟨fun _ => by
  refine spec_enter Tryz.func12 rfl Tryz.ntmps12 Tryz.results12 (by simp) fun K R hT => ?_
  repeat' (first | refine Step.imp ?_ | refine Side.mk (by first | exact True.intro | omega | exact ⟨trivial, rfl⟩ | exact ⟨by omega, trivial, rfl⟩ | exact ⟨by omega, rfl⟩ | exact ⟨by omega, by omega, rfl⟩ | (simp only [List.length_cons, List.length_nil, List.length_append]; done) | (simp only [List.length_cons, List.length_nil, List.length_append]; omega) | decide +kernel) ?_ | refine GDraw_one (by decide +kernel) ?_ | refine New.mk fun _ => ?_ | refine NewS.mk fun _ _ => ?_ | refine Ways.mk (fun _ => ?_) (fun _ => ?_))
  all_goals first | (exfalso; contradiction) | exact Fin.val hT rfl (Hle.refl _)⟩
instance rollN_space : CallV Tryz.prog 24 [.pointer none] h True (.pointer none) := ⟨fun _ => by
  refine spec_enter Tryz.func24 rfl Tryz.ntmps24 Tryz.results24 (by simp) fun K R hT => ?_
  repeat' (first | refine Step.imp ?_ | refine Side.mk (by first | exact True.intro | omega | exact ⟨trivial, rfl⟩ | exact ⟨by omega, trivial, rfl⟩ | exact ⟨by omega, rfl⟩ | exact ⟨by omega, by omega, rfl⟩ | (simp only [List.length_cons, List.length_nil, List.length_append]; done) | (simp only [List.length_cons, List.length_nil, List.length_append]; omega) | decide +kernel) ?_ | refine GDraw_one (by decide +kernel) ?_ | refine New.mk fun _ => ?_ | refine NewS.mk fun _ _ => ?_ | refine Ways.mk (fun _ => ?_) (fun _ => ?_))
  all_goals first | (exfalso; contradiction) | exact Fin.val hT rfl (Hle.refl _)⟩
instance rollN_copy : CallV Tryz.prog 20 [.pointer none] h True (.pointer none) := ⟨fun _ => by
  refine spec_enter Tryz.func20 rfl Tryz.ntmps20 Tryz.results20 (by simp) fun K R hT => ?_
  repeat' (first | refine Step.imp ?_ | refine Side.mk (by first | exact True.intro | omega | exact ⟨trivial, rfl⟩ | exact ⟨by omega, trivial, rfl⟩ | exact ⟨by omega, rfl⟩ | exact ⟨by omega, by omega, rfl⟩ | (simp only [List.length_cons, List.length_nil, List.length_append]; done) | (simp only [List.length_cons, List.length_nil, List.length_append]; omega) | decide +kernel) ?_ | refine GDraw_one (by decide +kernel) ?_ | refine New.mk fun _ => ?_ | refine NewS.mk fun _ _ => ?_ | refine Ways.mk (fun _ => ?_) (fun _ => ?_))
  all_goals first | (exfalso; contradiction) | exact Fin.val hT rfl (Hle.refl _)⟩
instance rollN_may {c : Int} : CallV Tryz.prog 29 [.pointer none, vI c] h True (vI 1) := ⟨fun _ => by
  refine spec_enter Tryz.func29 rfl Tryz.ntmps29 Tryz.results29 (by simp) fun K R hT => ?_
  repeat' (first | refine Step.imp ?_ | refine Side.mk (by first | exact True.intro | omega | exact ⟨trivial, rfl⟩ | exact ⟨by omega, trivial, rfl⟩ | exact ⟨by omega, rfl⟩ | exact ⟨by omega, by omega, rfl⟩ | (simp only [List.length_cons, List.length_nil, List.length_append]; done) | (simp only [List.length_cons, List.length_nil, List.length_append]; omega) | decide +kernel) ?_ | refine GDraw_one (by decide +kernel) ?_ | refine New.mk fun _ => ?_ | refine NewS.mk fun _ _ => ?_ | refine Ways.mk (fun _ => ?_) (fun _ => ?_))
  all_goals first | (exfalso; contradiction) | exact Fin.val hT rfl (Hle.refl _)⟩
instance rollN_turn {c x : Int} : CallV Tryz.prog 10 [.pointer none, vI c, vI x] h True (vI 1) := ⟨fun _ => by
  refine spec_enter Tryz.func10 rfl Tryz.ntmps10 Tryz.results10 (by simp) fun K R hT => ?_
  haveI : Known ((1 : Int) ≠ 0) := ⟨by omega⟩
  repeat (first | refine Step.imp ?_ | refine Side.mk (by first | exact True.intro | omega | exact ⟨trivial, rfl⟩ | exact ⟨by omega, trivial, rfl⟩ | exact ⟨by omega, rfl⟩ | exact ⟨by omega, by omega, rfl⟩ | (simp only [List.length_cons, List.length_nil, List.length_append]; done) | (simp only [List.length_cons, List.length_nil, List.length_append]; omega) | decide +kernel) ?_ | refine GDraw_one (by decide +kernel) ?_ | refine New.mk fun _ => ?_ | refine NewS.mk fun _ _ => ?_)
  exact Fin.val hT rfl (Hle.refl _)⟩
instance rollN_leaf {c : Int} : CallV Tryz.prog 14 [.pointer none, vI c] h True (.tuple [vI 0, vI 1].toArray) := ⟨fun _ => by
  refine spec_enter Tryz.func14 rfl Tryz.ntmps14 Tryz.results14 (by simp) fun K R hT => ?_
  haveI : Known ((1 : Int) ≠ 0) := ⟨by omega⟩
  repeat (first | refine Step.imp ?_ | refine Side.mk (by first | exact True.intro | omega | exact ⟨trivial, rfl⟩ | exact ⟨by omega, trivial, rfl⟩ | exact ⟨by omega, rfl⟩ | exact ⟨by omega, by omega, rfl⟩ | (simp only [List.length_cons, List.length_nil, List.length_append]; done) | (simp only [List.length_cons, List.length_nil, List.length_append]; omega) | decide +kernel) ?_ | refine GDraw_one (by decide +kernel) ?_ | refine New.mk fun _ => ?_ | refine NewS.mk fun _ _ => ?_)
  exact Fin.val hT rfl (Hle.refl _)⟩
instance rollN_value {m a0 a1 a2 a3 : Int} : CallV Tryz.prog 15 [.pointer none, .agg [vI m, vI a0, vI a1, vI a2, vI a3].toArray] h True (.tuple [vI 0, vI 1].toArray) := ⟨fun _ => by
  refine spec_enter Tryz.func15 rfl Tryz.ntmps15 Tryz.results15 (by simp) fun K R hT => ?_
  repeat' (first | refine Step.imp ?_ | refine Side.mk (by first | exact True.intro | omega | exact ⟨trivial, rfl⟩ | exact ⟨by omega, trivial, rfl⟩ | exact ⟨by omega, rfl⟩ | exact ⟨by omega, by omega, rfl⟩ | (simp only [List.length_cons, List.length_nil, List.length_append]; done) | (simp only [List.length_cons, List.length_nil, List.length_append]; omega) | decide +kernel) ?_ | refine GDraw_one (by decide +kernel) ?_ | refine New.mk fun _ => ?_ | refine NewS.mk fun _ _ => ?_ | refine Ways.mk (fun _ => ?_) (fun _ => ?_))
  all_goals first | (exfalso; contradiction) | exact Fin.val hT rfl (Hle.refl _)⟩
instance rollN_over : CallV Tryz.prog 18 [.pointer none] h True (.tuple [.agg [vI 0, vI 0, vI 0, vI 0, vI 0].toArray, .bool false].toArray) := ⟨fun _ => by
  refine spec_enter Tryz.func18 rfl Tryz.ntmps18 Tryz.results18 (by simp) fun K R hT => ?_
  repeat' (first | refine Step.imp ?_ | refine Side.mk (by first | exact True.intro | omega | exact ⟨trivial, rfl⟩ | exact ⟨by omega, trivial, rfl⟩ | exact ⟨by omega, rfl⟩ | exact ⟨by omega, by omega, rfl⟩ | (simp only [List.length_cons, List.length_nil, List.length_append]; done) | (simp only [List.length_cons, List.length_nil, List.length_append]; omega) | decide +kernel) ?_ | refine GDraw_one (by decide +kernel) ?_ | refine New.mk fun _ => ?_ | refine NewS.mk fun _ _ => ?_ | refine Ways.mk (fun _ => ?_) (fun _ => ?_))
  all_goals first | (exfalso; contradiction) | exact Fin.val hT rfl (Hle.refl _)⟩
instance rollN_same : CallV Tryz.prog 22 [.pointer none, .pointer none] h True (.bool true) := ⟨fun _ => by
  refine spec_enter Tryz.func22 rfl Tryz.ntmps22 Tryz.results22 (by simp) fun K R hT => ?_
  repeat' (first | refine Step.imp ?_ | refine Side.mk (by first | exact True.intro | omega | exact ⟨trivial, rfl⟩ | exact ⟨by omega, trivial, rfl⟩ | exact ⟨by omega, rfl⟩ | exact ⟨by omega, by omega, rfl⟩ | (simp only [List.length_cons, List.length_nil, List.length_append]; done) | (simp only [List.length_cons, List.length_nil, List.length_append]; omega) | decide +kernel) ?_ | refine GDraw_one (by decide +kernel) ?_ | refine New.mk fun _ => ?_ | refine NewS.mk fun _ _ => ?_ | refine Ways.mk (fun _ => ?_) (fun _ => ?_))
  all_goals first | (exfalso; contradiction) | exact Fin.val hT rfl (Hle.refl _)⟩
/-! ### Alike -/
theorem same_spec {b' sb' : Nat} {C' : Cat} {vals' : List Int} (hv : vals.length ≤ 4294967296) : Spec Tryz.prog 22 [.pointer (some ⟨b, 0, none⟩), .pointer (some ⟨b', 0, none⟩)] h [rollH h b sb C vals, rollH h b' sb' C' vals']
    (fun K => K (.bool (decide (vals = vals'))) h [rollH h b sb C vals, rollH h b' sb' C' vals']) := by
  refine spec_enter Tryz.func22 rfl Tryz.ntmps22 Tryz.results22 (by simp) fun K R hT => ?_
  haveI : LeT h h := ⟨Hle.refl h⟩
  repeat (first | refine Step.imp ?_ | refine Side.mk (by first | exact True.intro | omega | exact ⟨trivial, rfl⟩ | exact ⟨by omega, trivial, rfl⟩ | exact ⟨by omega, rfl⟩ | exact ⟨by omega, by omega, rfl⟩ | (simp only [List.length_cons, List.length_nil, List.length_append]; done) | (simp only [List.length_cons, List.length_nil, List.length_append]; omega) | decide +kernel) ?_ | refine New.mk fun _ => ?_ | refine NewS.mk fun _ _ => ?_)
  unfold GDraw
  refine G_roll b fun la lc sa sc hok => ?_
  refine G_roll b' fun la' lc' sa' sc' hok' => ?_
  haveI := foldRo (b := b) (la := la) (lc := lc) (sa := sa) (sc := sc) hok rfl rfl rfl
  haveI := foldRo (b := b') (la := la') (lc := lc') (sa := sa') (sc := sc') hok' rfl rfl rfl
  repeat (first | refine Step.imp ?_ | refine Side.mk (by first | exact True.intro | omega | exact ⟨trivial, rfl⟩ | exact ⟨by omega, trivial, rfl⟩ | exact ⟨by omega, rfl⟩ | exact ⟨by omega, by omega, rfl⟩ | (simp only [List.length_cons, List.length_nil, List.length_append]; done) | (simp only [List.length_cons, List.length_nil, List.length_append]; omega) | decide +kernel) ?_ | refine GDraw_one (by decide +kernel) ?_ | refine New.mk fun _ => ?_ | refine NewS.mk fun _ _ => ?_)
  exact Fin.val hT rfl (Hle.refl _)
end
end Go.Sl

/-
  Rolls: two that are alike, called; the first cell that is beyond 64 bits.
-/
namespace Go.Sl
open Go.Proofs
set_option linter.unusedVariables false
set_option linter.unusedSimpArgs false
set_option maxRecDepth 10000
set_option synthInstance.maxSize 2000
set_option synthInstance.maxHeartbeats 200000
set_option maxHeartbeats 1000000
/-- The first sum that does not fit. -/
def FirstB (S : List Int) (j : Nat) : Prop := j < S.length ∧ ¬ FitP (S[j]!) ∧ ∀ i < j, FitP (S[i]!)
section
variable {h h0 h1 : PHeap} {b sb : Nat} {C : Cat} {vals : List Int}
instance roll_same {L M R : List HP} {b' sb' : Nat} {C' : Cat} {vals' : List Int} [p : PickRo L b h0 sb C vals M] [q : PickRo M b' h1 sb' C' vals' R] [hl : LeT h0 h] [hl1 : LeT h1 h] : CallT Tryz.prog 22 [.pointer (some ⟨b, 0, none⟩), .pointer (some ⟨b', 0, none⟩)] h L (vals.length ≤ 4294967296) R
    (fun K => K (.bool (decide (vals = vals'))) h [rollH h b sb C vals, rollH h b' sb' C' vals']) := ⟨fun hs => ⟨[rollH h0 b sb C vals, rollH h1 b' sb' C' vals'], p.eq.trans (List.Perm.cons _ q.eq), fun K R' w hT st =>
    same_spec hs K R' w hT ((St.conv (rollH_mono hl1.le) ((St.conv (rollH_mono hl.le) st).perm (List.Perm.swap _ _ _))).perm (List.Perm.swap _ _ _))⟩⟩
instance over1 {v : Int} {a c : Value} [hw : WVal a c v] : CallV Tryz.prog 39 [.agg [a, c].toArray] h True (.bool (decide (¬ FitP v))) := ⟨fun _ => by
  obtain ⟨rfl, rfl⟩ := hw.eq
  refine spec_enter Tryz.func39 rfl Tryz.ntmps39 Tryz.results39 (by simp) fun K R hT => ?_
  repeat (first | refine Step.imp ?_ | refine Side.mk (by first | exact True.intro | omega | exact ⟨trivial, rfl⟩ | exact ⟨by omega, trivial, rfl⟩ | exact ⟨by omega, rfl⟩ | exact ⟨by omega, by omega, rfl⟩ | (simp only [List.length_cons, List.length_nil, List.length_append]; done) | (simp only [List.length_cons, List.length_nil, List.length_append]; omega) | decide +kernel) ?_ | refine GDraw_one (by decide +kernel) ?_ | refine New.mk fun _ => ?_ | refine NewS.mk fun _ _ => ?_)
  exact Fin.val hT rfl (Hle.refl _)⟩
instance indexW {L : List HP} {u : Value} {S : List Int} [hv : Rds L h u encW 2 S] : CallX Tryz.prog 38 [u, .func (.func 39) #[] #[]] h L (S.length ≤ 4294967296)
    (fun K => (∀ j, FirstB S j → K (vI j) h []) ∧ ((∀ i < S.length, FitP (S[i]!)) → K (vI (-1)) h [])) := ⟨fun hn => by
  refine spec_enter Tryz.func38 rfl Tryz.ntmps38 Tryz.results38 (by simp) fun K R hT => ?_
  repeat (first | refine Step.imp ?_ | refine Side.mk (by first | exact True.intro | omega | exact ⟨trivial, rfl⟩ | exact ⟨by omega, trivial, rfl⟩ | exact ⟨by omega, rfl⟩ | exact ⟨by omega, by omega, rfl⟩ | (simp only [List.length_cons, List.length_nil, List.length_append]; done) | (simp only [List.length_cons, List.length_nil, List.length_append]; omega) | decide +kernel) ?_ | refine GDraw_one (by decide +kernel) ?_ | refine New.mk fun _ => ?_ | refine NewS.mk fun _ _ => ?_)
  refine G_loopE (σ := Nat) (fun k => k ≤ S.length ∧ ∀ j < k, FitP (S[j]!)) (fun k => S.length - k) (fun k => [(8, vI k), (7, vI S.length), (0, u), (1, .func (.func 39) #[] #[])]) 0 ⟨by omega, by omega⟩ ⟨rfl, rfl, rfl, rfl, trivial⟩ fun k hk => ?_
  obtain ⟨hk, hall⟩ := hk
  repeat (first | refine Step.imp ?_ | refine Side.mk (by first | exact True.intro | omega | exact ⟨trivial, rfl⟩ | exact ⟨by omega, trivial, rfl⟩ | exact ⟨by omega, rfl⟩ | exact ⟨by omega, by omega, rfl⟩ | (simp only [List.length_cons, List.length_nil, List.length_append]; done) | (simp only [List.length_cons, List.length_nil, List.length_append]; omega) | decide +kernel) ?_ | refine GDraw_one (by decide +kernel) ?_ | refine New.mk fun _ => ?_ | refine NewS.mk fun _ _ => ?_)
  refine ⟨fun hlt => ?_, fun hge => ?_⟩
  · repeat (first | refine Step.imp ?_ | refine Side.mk (by first | exact True.intro | omega | exact ⟨trivial, rfl⟩ | exact ⟨by omega, trivial, rfl⟩ | exact ⟨by omega, rfl⟩ | exact ⟨by omega, by omega, rfl⟩ | (simp only [List.length_cons, List.length_nil, List.length_append]; done) | (simp only [List.length_cons, List.length_nil, List.length_append]; omega) | decide +kernel) ?_ | refine GDraw_one (by decide +kernel) ?_ | refine New.mk fun _ => ?_ | refine NewS.mk fun _ _ => ?_)
    refine ⟨fun hbad => ?_, fun hok => ?_⟩
    · repeat (first | refine Step.imp ?_ | refine Side.mk (by first | exact True.intro | omega | exact ⟨trivial, rfl⟩ | exact ⟨by omega, trivial, rfl⟩ | exact ⟨by omega, rfl⟩ | exact ⟨by omega, by omega, rfl⟩ | (simp only [List.length_cons, List.length_nil, List.length_append]; done) | (simp only [List.length_cons, List.length_nil, List.length_append]; omega) | decide +kernel) ?_ | refine GDraw_one (by decide +kernel) ?_ | refine New.mk fun _ => ?_ | refine NewS.mk fun _ _ => ?_)
      exact Fin.val (hT.1 k ⟨by omega, hbad, hall⟩) rfl (Hle.refl _)
    · repeat (first | refine Step.imp ?_ | refine Side.mk (by first | exact True.intro | omega | exact ⟨trivial, rfl⟩ | exact ⟨by omega, trivial, rfl⟩ | exact ⟨by omega, rfl⟩ | exact ⟨by omega, by omega, rfl⟩ | (simp only [List.length_cons, List.length_nil, List.length_append]; done) | (simp only [List.length_cons, List.length_nil, List.length_append]; omega) | decide +kernel) ?_ | refine GDraw_one (by decide +kernel) ?_ | refine New.mk fun _ => ?_ | refine NewS.mk fun _ _ => ?_)
      refine X_roundE (k + 1) ⟨by omega, fun j hj => ?_⟩ (by omega) ⟨rfl, rfl, rfl, rfl, trivial⟩ inferInstance
      rcases Nat.lt_or_ge j k with h1 | h1
      · exact hall j h1
      · have : j = k := by omega
        subst this; exact Decidable.not_not.1 hok
  · repeat (first | refine Step.imp ?_ | refine Side.mk (by first | exact True.intro | omega | exact ⟨trivial, rfl⟩ | exact ⟨by omega, trivial, rfl⟩ | exact ⟨by omega, rfl⟩ | exact ⟨by omega, by omega, rfl⟩ | (simp only [List.length_cons, List.length_nil, List.length_append]; done) | (simp only [List.length_cons, List.length_nil, List.length_append]; omega) | decide +kernel) ?_ | refine GDraw_one (by decide +kernel) ?_ | refine New.mk fun _ => ?_ | refine NewS.mk fun _ _ => ?_)
    exact Fin.val (hT.2 fun i hi => hall i (by omega)) rfl (Hle.refl _)⟩
end
end Go.Sl

/-
  Rolls: the first cell that is beyond 64 bits.
-/
namespace Go.Sl
open Go.Proofs
set_option linter.unusedVariables false
set_option linter.unusedSimpArgs false
set_option maxRecDepth 10000
set_option synthInstance.maxSize 2000
set_option synthInstance.maxHeartbeats 200000
set_option maxHeartbeats 1000000
theorem cntB_none {S : List Int} : cntB S = 0 ↔ ∀ i < S.length, FitP (S[i]!) := by
  have h1 : cntB S = 0 ↔ (S.filter fun v => !decide (FitP v)) = [] := by
    unfold cntB
    rw [← List.length_eq_zero_iff]
    omega
  rw [h1, List.filter_eq_nil_iff]
  constructor
  · intro h i hi
    have := h (S[i]!) (by rw [getElem!_pos S i hi]; exact List.getElem_mem hi)
    simpa using this
  · intro h v hv
    obtain ⟨i, hi, rfl⟩ := List.mem_iff_getElem.1 hv
    have := h i hi
    rw [getElem!_pos S i hi] at this
    simpa using this
theorem first_ex {S : List Int} : ∀ n ≤ S.length, (∀ i < n, FitP (S[i]!)) ∨ ∃ j, FirstB S j
  | 0, _ => .inl fun i hi => by omega
  | n + 1, hn => by
    rcases first_ex (S := S) n (by omega) with h | h
    · by_cases hf : FitP (S[n]!)
      · refine .inl fun i hi => ?_
        rcases Nat.lt_or_ge i n with h2 | h2
        · exact h i h2
        · have : i = n := by omega
          subst this; exact hf
      · exact .inr ⟨n, by omega, hf, h⟩
    · exact .inr h
section
variable {h h0 : PHeap} {b sb : Nat} {C : Cat} {vals : List Int}
theorem over_spec : Spec Tryz.prog 18 [.pointer (some ⟨b, 0, none⟩)] h [rollH h b sb C vals]
    (fun K => (∀ j, FirstB (sumsF C vals) j → K (.tuple [.agg [vI (quoF (nodesN C) j C.dims.length C.dims.length), vI (plF (nodesN C) j C.dims.length C.dims.length 0), vI (plF (nodesN C) j C.dims.length C.dims.length 1), vI (plF (nodesN C) j C.dims.length C.dims.length 2), vI (plF (nodesN C) j C.dims.length C.dims.length 3)].toArray, .bool true].toArray) h [rollH h b sb C vals]) ∧
      ((∀ i < (sumsF C vals).length, FitP ((sumsF C vals)[i]!)) → K (.tuple [.agg [vI 0, vI 0, vI 0, vI 0, vI 0].toArray, .bool false].toArray) h [rollH h b sb C vals])) := by
  refine spec_enter Tryz.func18 rfl Tryz.ntmps18 Tryz.results18 (by simp) fun K R hT => ?_
  haveI : LeT h h := ⟨Hle.refl h⟩
  refine G_roll b fun la lc sa sc hok => ?_
  haveI := hok.sp
  haveI := hok.ok
  have hbc := cells_bound hok.ok C.dims.length (Nat.le_refl _)
  have hsl := sumsF_len C vals
  haveI := foldRo (b := b) (la := la) (lc := lc) (sa := sa) (sc := sc) hok rfl rfl rfl
  rcases first_ex (S := sumsF C vals) _ (Nat.le_refl _) with hall | ⟨j, hj⟩
  · haveI : Known (cntB (sumsF C vals) = 0) := ⟨cntB_none.2 hall⟩
    repeat (first | refine Step.imp ?_ | refine Side.mk (by first | exact True.intro | omega | exact ⟨trivial, rfl⟩ | exact ⟨by omega, trivial, rfl⟩ | exact ⟨by omega, rfl⟩ | exact ⟨by omega, by omega, rfl⟩ | (simp only [List.length_cons, List.length_nil, List.length_append]; done) | (simp only [List.length_cons, List.length_nil, List.length_append]; omega) | decide +kernel) ?_ | refine GDraw_one (by decide +kernel) ?_ | refine New.mk fun _ => ?_ | refine NewS.mk fun _ _ => ?_)
    exact Fin.val (hT.2 hall) rfl (Hle.refl _)
  · haveI : Known (¬ cntB (sumsF C vals) = 0) := ⟨fun h => hj.2.1 (cntB_none.1 h j hj.1)⟩
    have hj1 := hj.1
    repeat (first | refine Step.imp ?_ | refine Side.mk (by first | exact True.intro | omega | exact ⟨trivial, rfl⟩ | exact ⟨by omega, trivial, rfl⟩ | exact ⟨by omega, rfl⟩ | exact ⟨by omega, by omega, rfl⟩ | (simp only [List.length_cons, List.length_nil, List.length_append]; done) | (simp only [List.length_cons, List.length_nil, List.length_append]; omega) | decide +kernel) ?_ | refine GDraw_one (by decide +kernel) ?_ | refine New.mk fun _ => ?_ | refine NewS.mk fun _ _ => ?_)
    refine ⟨fun j' hj' => ?_, fun hall => absurd (hall j hj.1) hj.2.1⟩
    have hjj : j' = j := by
      rcases Nat.lt_trichotomy j j' with h | h | h
      · exact absurd (hj'.2.2 j h) hj.2.1
      · exact h.symm
      · exact absurd (hj.2.2 j' h) hj'.2.1
    subst hjj
    repeat (first | refine Step.imp ?_ | refine Side.mk (by first | exact True.intro | omega | exact ⟨trivial, rfl⟩ | exact ⟨by omega, trivial, rfl⟩ | exact ⟨by omega, rfl⟩ | exact ⟨by omega, by omega, rfl⟩ | (simp only [List.length_cons, List.length_nil, List.length_append]; done) | (simp only [List.length_cons, List.length_nil, List.length_append]; omega) | decide +kernel) ?_ | refine GDraw_one (by decide +kernel) ?_ | refine New.mk fun _ => ?_ | refine NewS.mk fun _ _ => ?_)
    refine ⟨fun hn => absurd ⟨by omega, by omega⟩ hn, fun _ => ?_⟩
    repeat (first | refine Step.imp ?_ | refine Side.mk (by first | exact True.intro | omega | exact ⟨trivial, rfl⟩ | exact ⟨by omega, trivial, rfl⟩ | exact ⟨by omega, rfl⟩ | exact ⟨by omega, by omega, rfl⟩ | (simp only [List.length_cons, List.length_nil, List.length_append]; done) | (simp only [List.length_cons, List.length_nil, List.length_append]; omega) | decide +kernel) ?_ | refine GDraw_one (by decide +kernel) ?_ | refine New.mk fun _ => ?_ | refine NewS.mk fun _ _ => ?_)
    exact Fin.val (hT.1 j' hj) rfl (Hle.refl _)
instance roll_over {L R : List HP} [p : PickRo L b h0 sb C vals R] [hl : LeT h0 h] : CallT Tryz.prog 18 [.pointer (some ⟨b, 0, none⟩)] h L True R
    (fun K => (∀ j, FirstB (sumsF C vals) j → K (.tuple [.agg [vI (quoF (nodesN C) j C.dims.length C.dims.length), vI (plF (nodesN C) j C.dims.length C.dims.length 0), vI (plF (nodesN C) j C.dims.length C.dims.length 1), vI (plF (nodesN C) j C.dims.length C.dims.length 2), vI (plF (nodesN C) j C.dims.length C.dims.length 3)].toArray, .bool true].toArray) h [rollH h b sb C vals]) ∧
      ((∀ i < (sumsF C vals).length, FitP ((sumsF C vals)[i]!)) → K (.tuple [.agg [vI 0, vI 0, vI 0, vI 0, vI 0].toArray, .bool false].toArray) h [rollH h b sb C vals])) := ⟨fun _ => spec_roll over_spec⟩
end
end Go.Sl
