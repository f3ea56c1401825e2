/-
  Facts that the proof is made of (part 4 of 8).
-/
import Derived.Test.YtoinkcbioaipoaaMRCoordNil3
/-
  The library's small functions on slices, at the kinds of elements that occur.
-/
namespace Go.Sl
open Go.Proofs
set_option linter.unusedVariables false
set_option linter.unusedSimpArgs false
set_option maxRecDepth 10000
set_option synthInstance.maxSize 2000
set_option synthInstance.maxHeartbeats 200000
set_option maxHeartbeats 1000000
def idxI {α : Type} [DecidableEq α] (xs : List α) (y : α) : Int := match xs.findIdx? (fun x => decide (x = y)) with | some i => i | none => -1
theorem idxI_none {α : Type} [DecidableEq α] [Inhabited α] {xs : List α} {y : α} (h : ∀ j < xs.length, xs[j]! ≠ y) : idxI xs y = -1 := by
  unfold idxI
  rw [List.findIdx?_eq_none_iff.2]
  intro x hx
  obtain ⟨j, hj, rfl⟩ := List.mem_iff_getElem.1 hx
  have := h j hj
  rw [getElem!_pos xs j hj] at this
  simpa using this
theorem idxI_some {α : Type} [DecidableEq α] [Inhabited α] {xs : List α} {y : α} {k : Nat} (hk : k < xs.length) (h : ∀ j < k, xs[j]! ≠ y) (he : y = xs[k]!) : idxI xs y = k := by
  unfold idxI
  have : xs.findIdx? (fun x => decide (x = y)) = some k := by
    rw [List.findIdx?_eq_some_iff_getElem]
    refine ⟨hk, ?_, fun j hj => ?_⟩
    · rw [he, getElem!_pos xs k hk]; simp
    · have := h j hj
      rw [getElem!_pos xs j (by omega)] at this
      simpa using this
  rw [this]
theorem idxI_nonneg {α : Type} [DecidableEq α] (xs : List α) (y : α) : 0 ≤ idxI xs y ↔ y ∈ xs := by
  unfold idxI
  cases h : xs.findIdx? (fun x => decide (x = y)) with
  | none =>
    have := List.findIdx?_eq_none_iff.1 h
    simp only [Int.reduceNeg, Int.reduceLE, false_iff]
    intro hm
    have := this y hm
    simp at this
  | some i =>
    simp only [Int.natCast_nonneg, true_iff]
    rw [List.findIdx?_eq_some_iff_getElem] at h
    obtain ⟨hi, he, _⟩ := h
    have : xs[i] = y := by simpa using he
    rw [← this]; exact List.getElem_mem hi
instance (y : ByteArray) (xs : List ByteArray) : Decidable (y ∈ xs) := decidable_of_iff _ (idxI_nonneg xs y)

/-- The place of the first one; -1: there is none. -/
instance ints_index {h : PHeap} {L : List HP} {v : Value} {xs : List Int} {y : Int} [hs : Rds L h v encI 1 xs] : CallX Try.prog 69 [v, vI y] h L (xs.length ≤ 4294967296) (fun K => K (vI (idxI xs y)) h []) := ⟨fun hn => by
  have hW : ∀ k, k ≤ xs.length → (∀ j < k, xs[j]! ≠ y) → k = xs.length → idxI xs y = -1 := fun k _ h1 h2 => idxI_none (h2 ▸ h1)
  refine spec_enter Try.func69 rfl Try.ntmps69 Try.results69 (by simp) fun K R hT => ?_
  repeat (first | refine Step.imp ?_ | refine Side.mk (by first | exact True.intro | omega | exact ⟨trivial, rfl⟩ | exact ⟨by omega, trivial, rfl⟩ | exact ⟨by omega, rfl⟩ | exact ⟨by omega, by omega, rfl⟩ | (simp only [List.length_cons, List.length_nil, List.length_append]; done) | (simp only [List.length_cons, List.length_nil, List.length_append]; omega) | decide +kernel) ?_ | refine GDraw_one (by decide +kernel) ?_ | refine New.mk fun _ => ?_ | refine NewS.mk fun _ _ => ?_)
  refine G_loopE (σ := Nat) (fun k => k ≤ xs.length ∧ ∀ j < k, xs[j]! ≠ y) (fun k => xs.length - k) (fun k => [(8, vI k), (7, vI xs.length), (0, v), (1, vI y)]) 0 ⟨by omega, by omega⟩ ⟨rfl, rfl, rfl, rfl, trivial⟩ fun k hk => ?_
  obtain ⟨hk, hno⟩ := hk
  repeat (first | refine Step.imp ?_ | refine Side.mk (by first | exact True.intro | omega | exact ⟨trivial, rfl⟩ | exact ⟨by omega, trivial, rfl⟩ | exact ⟨by omega, rfl⟩ | exact ⟨by omega, by omega, rfl⟩ | (simp only [List.length_cons, List.length_nil, List.length_append]; done) | (simp only [List.length_cons, List.length_nil, List.length_append]; omega) | decide +kernel) ?_ | refine GDraw_one (by decide +kernel) ?_ | refine New.mk fun _ => ?_ | refine NewS.mk fun _ _ => ?_)
  refine ⟨fun hlt => ?_, fun hge => ?_⟩
  · repeat (first | refine Step.imp ?_ | refine Side.mk (by first | exact True.intro | omega | exact ⟨trivial, rfl⟩ | exact ⟨by omega, trivial, rfl⟩ | exact ⟨by omega, rfl⟩ | exact ⟨by omega, by omega, rfl⟩ | (simp only [List.length_cons, List.length_nil, List.length_append]; done) | (simp only [List.length_cons, List.length_nil, List.length_append]; omega) | decide +kernel) ?_ | refine GDraw_one (by decide +kernel) ?_ | refine New.mk fun _ => ?_ | refine NewS.mk fun _ _ => ?_)
    refine ⟨fun he => ?_, fun hne => ?_⟩
    · repeat (first | refine Step.imp ?_ | refine Side.mk (by first | exact True.intro | omega | exact ⟨trivial, rfl⟩ | exact ⟨by omega, trivial, rfl⟩ | exact ⟨by omega, rfl⟩ | exact ⟨by omega, by omega, rfl⟩ | (simp only [List.length_cons, List.length_nil, List.length_append]; done) | (simp only [List.length_cons, List.length_nil, List.length_append]; omega) | decide +kernel) ?_ | refine GDraw_one (by decide +kernel) ?_ | refine New.mk fun _ => ?_ | refine NewS.mk fun _ _ => ?_)
      exact Fin.val hT (by rw [idxI_some (by omega) hno he]) (Hle.refl _)
    · repeat (first | refine Step.imp ?_ | refine Side.mk (by first | exact True.intro | omega | exact ⟨trivial, rfl⟩ | exact ⟨by omega, trivial, rfl⟩ | exact ⟨by omega, rfl⟩ | exact ⟨by omega, by omega, rfl⟩ | (simp only [List.length_cons, List.length_nil, List.length_append]; done) | (simp only [List.length_cons, List.length_nil, List.length_append]; omega) | decide +kernel) ?_ | refine GDraw_one (by decide +kernel) ?_ | refine New.mk fun _ => ?_ | refine NewS.mk fun _ _ => ?_)
      refine X_roundE (k + 1) ⟨by omega, fun j hj => ?_⟩ (by omega) ⟨rfl, rfl, rfl, rfl, trivial⟩ inferInstance
      rcases Nat.lt_or_ge j k with h1 | h1
      · exact hno j h1
      · have : j = k := by omega
        subst this; exact fun e => hne e.symm
  · repeat (first | refine Step.imp ?_ | refine Side.mk (by first | exact True.intro | omega | exact ⟨trivial, rfl⟩ | exact ⟨by omega, trivial, rfl⟩ | exact ⟨by omega, rfl⟩ | exact ⟨by omega, by omega, rfl⟩ | (simp only [List.length_cons, List.length_nil, List.length_append]; done) | (simp only [List.length_cons, List.length_nil, List.length_append]; omega) | decide +kernel) ?_ | refine GDraw_one (by decide +kernel) ?_ | refine New.mk fun _ => ?_ | refine NewS.mk fun _ _ => ?_)
    exact Fin.val hT (by rw [idxI_none (fun j hj => hno j (by omega))]) (Hle.refl _)⟩
instance ints_contains {h : PHeap} {L : List HP} {v : Value} {xs : List Int} {y : Int} [hs : Rds L h v encI 1 xs] : CallX Try.prog 49 [v, vI y] h L (xs.length ≤ 4294967296) (fun K => K (.bool (decide (y ∈ xs))) h []) := ⟨fun hn => by
  have hI := idxI_nonneg xs y
  refine spec_enter Try.func49 rfl Try.ntmps49 Try.results49 (by simp) fun K R hT => ?_
  repeat (first | refine Step.imp ?_ | refine Side.mk (by first | exact True.intro | omega | exact ⟨trivial, rfl⟩ | exact ⟨by omega, trivial, rfl⟩ | exact ⟨by omega, rfl⟩ | exact ⟨by omega, by omega, rfl⟩ | (simp only [List.length_cons, List.length_nil, List.length_append]; done) | (simp only [List.length_cons, List.length_nil, List.length_append]; omega) | decide +kernel) ?_ | refine GDraw_one (by decide +kernel) ?_ | refine New.mk fun _ => ?_ | refine NewS.mk fun _ _ => ?_)
  exact Fin.dec hT hI (Hle.refl _)⟩

/-- The place of the first one; -1: there is none. -/
instance strs_index {h : PHeap} {L : List HP} {v : Value} {xs : List ByteArray} {y : ByteArray} [hs : Rds L h v encS 1 xs] : CallX Try.prog 82 [v, .string y] h L (xs.length ≤ 4294967296) (fun K => K (vI (idxI xs y)) h []) := ⟨fun hn => by
  have hW : ∀ k, k ≤ xs.length → (∀ j < k, xs[j]! ≠ y) → k = xs.length → idxI xs y = -1 := fun k _ h1 h2 => idxI_none (h2 ▸ h1)
  refine spec_enter Try.func82 rfl Try.ntmps82 Try.results82 (by simp) fun K R hT => ?_
  repeat (first | refine Step.imp ?_ | refine Side.mk (by first | exact True.intro | omega | exact ⟨trivial, rfl⟩ | exact ⟨by omega, trivial, rfl⟩ | exact ⟨by omega, rfl⟩ | exact ⟨by omega, by omega, rfl⟩ | (simp only [List.length_cons, List.length_nil, List.length_append]; done) | (simp only [List.length_cons, List.length_nil, List.length_append]; omega) | decide +kernel) ?_ | refine GDraw_one (by decide +kernel) ?_ | refine New.mk fun _ => ?_ | refine NewS.mk fun _ _ => ?_)
  refine G_loopE (σ := Nat) (fun k => k ≤ xs.length ∧ ∀ j < k, xs[j]! ≠ y) (fun k => xs.length - k) (fun k => [(8, vI k), (7, vI xs.length), (0, v), (1, .string y)]) 0 ⟨by omega, by omega⟩ ⟨rfl, rfl, rfl, rfl, trivial⟩ fun k hk => ?_
  obtain ⟨hk, hno⟩ := hk
  repeat (first | refine Step.imp ?_ | refine Side.mk (by first | exact True.intro | omega | exact ⟨trivial, rfl⟩ | exact ⟨by omega, trivial, rfl⟩ | exact ⟨by omega, rfl⟩ | exact ⟨by omega, by omega, rfl⟩ | (simp only [List.length_cons, List.length_nil, List.length_append]; done) | (simp only [List.length_cons, List.length_nil, List.length_append]; omega) | decide +kernel) ?_ | refine GDraw_one (by decide +kernel) ?_ | refine New.mk fun _ => ?_ | refine NewS.mk fun _ _ => ?_)
  refine ⟨fun hlt => ?_, fun hge => ?_⟩
  · repeat (first | refine Step.imp ?_ | refine Side.mk (by first | exact True.intro | omega | exact ⟨trivial, rfl⟩ | exact ⟨by omega, trivial, rfl⟩ | exact ⟨by omega, rfl⟩ | exact ⟨by omega, by omega, rfl⟩ | (simp only [List.length_cons, List.length_nil, List.length_append]; done) | (simp only [List.length_cons, List.length_nil, List.length_append]; omega) | decide +kernel) ?_ | refine GDraw_one (by decide +kernel) ?_ | refine New.mk fun _ => ?_ | refine NewS.mk fun _ _ => ?_)
    refine ⟨fun he => ?_, fun hne => ?_⟩
    · repeat (first | refine Step.imp ?_ | refine Side.mk (by first | exact True.intro | omega | exact ⟨trivial, rfl⟩ | exact ⟨by omega, trivial, rfl⟩ | exact ⟨by omega, rfl⟩ | exact ⟨by omega, by omega, rfl⟩ | (simp only [List.length_cons, List.length_nil, List.length_append]; done) | (simp only [List.length_cons, List.length_nil, List.length_append]; omega) | decide +kernel) ?_ | refine GDraw_one (by decide +kernel) ?_ | refine New.mk fun _ => ?_ | refine NewS.mk fun _ _ => ?_)
      exact Fin.val hT (by rw [idxI_some (by omega) hno he]) (Hle.refl _)
    · repeat (first | refine Step.imp ?_ | refine Side.mk (by first | exact True.intro | omega | exact ⟨trivial, rfl⟩ | exact ⟨by omega, trivial, rfl⟩ | exact ⟨by omega, rfl⟩ | exact ⟨by omega, by omega, rfl⟩ | (simp only [List.length_cons, List.length_nil, List.length_append]; done) | (simp only [List.length_cons, List.length_nil, List.length_append]; omega) | decide +kernel) ?_ | refine GDraw_one (by decide +kernel) ?_ | refine New.mk fun _ => ?_ | refine NewS.mk fun _ _ => ?_)
      refine X_roundE (k + 1) ⟨by omega, fun j hj => ?_⟩ (by omega) ⟨rfl, rfl, rfl, rfl, trivial⟩ inferInstance
      rcases Nat.lt_or_ge j k with h1 | h1
      · exact hno j h1
      · have : j = k := by omega
        subst this; exact fun e => hne e.symm
  · repeat (first | refine Step.imp ?_ | refine Side.mk (by first | exact True.intro | omega | exact ⟨trivial, rfl⟩ | exact ⟨by omega, trivial, rfl⟩ | exact ⟨by omega, rfl⟩ | exact ⟨by omega, by omega, rfl⟩ | (simp only [List.length_cons, List.length_nil, List.length_append]; done) | (simp only [List.length_cons, List.length_nil, List.length_append]; omega) | decide +kernel) ?_ | refine GDraw_one (by decide +kernel) ?_ | refine New.mk fun _ => ?_ | refine NewS.mk fun _ _ => ?_)
    exact Fin.val hT (by rw [idxI_none (fun j hj => hno j (by omega))]) (Hle.refl _)⟩
instance strs_contains {h : PHeap} {L : List HP} {v : Value} {xs : List ByteArray} {y : ByteArray} [hs : Rds L h v encS 1 xs] : CallX Try.prog 61 [v, .string y] h L (xs.length ≤ 4294967296) (fun K => K (.bool (decide (y ∈ xs))) h []) := ⟨fun hn => by
  have hI := idxI_nonneg xs y
  refine spec_enter Try.func61 rfl Try.ntmps61 Try.results61 (by simp) fun K R hT => ?_
  repeat (first | refine Step.imp ?_ | refine Side.mk (by first | exact True.intro | omega | exact ⟨trivial, rfl⟩ | exact ⟨by omega, trivial, rfl⟩ | exact ⟨by omega, rfl⟩ | exact ⟨by omega, by omega, rfl⟩ | (simp only [List.length_cons, List.length_nil, List.length_append]; done) | (simp only [List.length_cons, List.length_nil, List.length_append]; omega) | decide +kernel) ?_ | refine GDraw_one (by decide +kernel) ?_ | refine New.mk fun _ => ?_ | refine NewS.mk fun _ _ => ?_)
  exact Fin.dec hT hI (Hle.refl _)⟩

theorem ints_clone {h : PHeap} {Lp : List HP} {v : Value} {xs : List Int} [hs : Rds Lp h v encI 1 xs] (hn : xs.length ≤ 4294967296) (hnil : isNilV v = true → xs = []) : Spec Try.prog 53 [v] h Lp (fun K => ∀ a c, K (.slice a xs.length c) h (slo encI 1 (.slice a xs.length c) xs :: Lp)) := by
  refine spec_enter Try.func53 rfl Try.ntmps53 Try.results53 (by simp) fun K R hT => ?_
  repeat (first | refine Step.imp ?_ | refine Side.mk (by first | exact True.intro | omega | exact ⟨trivial, rfl⟩ | exact ⟨by omega, trivial, rfl⟩ | exact ⟨by omega, rfl⟩ | exact ⟨by omega, by omega, rfl⟩ | (simp only [List.length_cons, List.length_nil, List.length_append]; done) | (simp only [List.length_cons, List.length_nil, List.length_append]; omega) | decide +kernel) ?_ | refine GDraw_one (by decide +kernel) ?_ | refine New.mk fun _ => ?_ | refine NewS.mk fun _ _ => ?_)
  refine ⟨fun hb => ?_, fun _ => ?_⟩
  · have := hnil hb
    subst this
    refine G_nil encI 1 none ?_
    repeat (first | refine Step.imp ?_ | refine Side.mk (by first | exact True.intro | omega | exact ⟨trivial, rfl⟩ | exact ⟨by omega, trivial, rfl⟩ | exact ⟨by omega, rfl⟩ | exact ⟨by omega, by omega, rfl⟩ | (simp only [List.length_cons, List.length_nil, List.length_append]; done) | (simp only [List.length_cons, List.length_nil, List.length_append]; omega) | decide +kernel) ?_ | refine GDraw_one (by decide +kernel) ?_ | refine New.mk fun _ => ?_ | refine NewS.mk fun _ _ => ?_)
    exact Fin.val (hT none 0) rfl (Hle.refl _)
  · repeat (first | refine Step.imp ?_ | refine Side.mk (by first | exact True.intro | omega | exact ⟨trivial, rfl⟩ | exact ⟨by omega, trivial, rfl⟩ | exact ⟨by omega, rfl⟩ | exact ⟨by omega, by omega, rfl⟩ | (simp only [List.length_cons, List.length_nil, List.length_append]; done) | (simp only [List.length_cons, List.length_nil, List.length_append]; omega) | decide +kernel) ?_ | refine GDraw_one (by decide +kernel) ?_ | refine New.mk fun _ => ?_ | refine NewS.mk fun _ _ => ?_)
    exact Fin.val (hT _ _) rfl (Hle.refl _)
instance ints_cloneF {h : PHeap} {L : List HP} {v : Value} {xs : List Int} [hs : FSl h v encI 1 xs] : CallT Try.prog 53 [v] h L (xs.length ≤ 4294967296) L (fun K => ∀ a c, K (.slice a xs.length c) h [slo encI 1 (.slice a xs.length c) xs]) :=
  ⟨fun hn => ⟨[], .refl _, ints_clone hn hs.nil⟩⟩

theorem strs_clone {h : PHeap} {Lp : List HP} {v : Value} {xs : List ByteArray} [hs : Rds Lp h v encS 1 xs] (hn : xs.length ≤ 4294967296) (hnil : isNilV v = true → xs = []) : Spec Try.prog 57 [v] h Lp (fun K => ∀ a c, K (.slice a xs.length c) h (slo encS 1 (.slice a xs.length c) xs :: Lp)) := by
  refine spec_enter Try.func57 rfl Try.ntmps57 Try.results57 (by simp) fun K R hT => ?_
  repeat (first | refine Step.imp ?_ | refine Side.mk (by first | exact True.intro | omega | exact ⟨trivial, rfl⟩ | exact ⟨by omega, trivial, rfl⟩ | exact ⟨by omega, rfl⟩ | exact ⟨by omega, by omega, rfl⟩ | (simp only [List.length_cons, List.length_nil, List.length_append]; done) | (simp only [List.length_cons, List.length_nil, List.length_append]; omega) | decide +kernel) ?_ | refine GDraw_one (by decide +kernel) ?_ | refine New.mk fun _ => ?_ | refine NewS.mk fun _ _ => ?_)
  refine ⟨fun hb => ?_, fun _ => ?_⟩
  · have := hnil hb
    subst this
    refine G_nil encS 1 none ?_
    repeat (first | refine Step.imp ?_ | refine Side.mk (by first | exact True.intro | omega | exact ⟨trivial, rfl⟩ | exact ⟨by omega, trivial, rfl⟩ | exact ⟨by omega, rfl⟩ | exact ⟨by omega, by omega, rfl⟩ | (simp only [List.length_cons, List.length_nil, List.length_append]; done) | (simp only [List.length_cons, List.length_nil, List.length_append]; omega) | decide +kernel) ?_ | refine GDraw_one (by decide +kernel) ?_ | refine New.mk fun _ => ?_ | refine NewS.mk fun _ _ => ?_)
    exact Fin.val (hT none 0) rfl (Hle.refl _)
  · repeat (first | refine Step.imp ?_ | refine Side.mk (by first | exact True.intro | omega | exact ⟨trivial, rfl⟩ | exact ⟨by omega, trivial, rfl⟩ | exact ⟨by omega, rfl⟩ | exact ⟨by omega, by omega, rfl⟩ | (simp only [List.length_cons, List.length_nil, List.length_append]; done) | (simp only [List.length_cons, List.length_nil, List.length_append]; omega) | decide +kernel) ?_ | refine GDraw_one (by decide +kernel) ?_ | refine New.mk fun _ => ?_ | refine NewS.mk fun _ _ => ?_)
    exact Fin.val (hT _ _) rfl (Hle.refl _)
instance strs_cloneF {h : PHeap} {L : List HP} {v : Value} {xs : List ByteArray} [hs : FSl h v encS 1 xs] : CallT Try.prog 57 [v] h L (xs.length ≤ 4294967296) L (fun K => ∀ a c, K (.slice a xs.length c) h [slo encS 1 (.slice a xs.length c) xs]) :=
  ⟨fun hn => ⟨[], .refl _, strs_clone hn hs.nil⟩⟩

theorem nds_clone {h : PHeap} {Lp : List HP} {v : Value} {xs : List Nd} [hs : Rds Lp h v encNd 2 xs] (hn : xs.length ≤ 4294967296) (hnil : isNilV v = true → xs = []) : Spec Try.prog 59 [v] h Lp (fun K => ∀ a c, K (.slice a xs.length c) h (slo encNd 2 (.slice a xs.length c) xs :: Lp)) := by
  refine spec_enter Try.func59 rfl Try.ntmps59 Try.results59 (by simp) fun K R hT => ?_
  repeat (first | refine Step.imp ?_ | refine Side.mk (by first | exact True.intro | omega | exact ⟨trivial, rfl⟩ | exact ⟨by omega, trivial, rfl⟩ | exact ⟨by omega, rfl⟩ | exact ⟨by omega, by omega, rfl⟩ | (simp only [List.length_cons, List.length_nil, List.length_append]; done) | (simp only [List.length_cons, List.length_nil, List.length_append]; omega) | decide +kernel) ?_ | refine GDraw_one (by decide +kernel) ?_ | refine New.mk fun _ => ?_ | refine NewS.mk fun _ _ => ?_)
  refine ⟨fun hb => ?_, fun _ => ?_⟩
  · have := hnil hb
    subst this
    refine G_nil encNd 2 none ?_
    repeat (first | refine Step.imp ?_ | refine Side.mk (by first | exact True.intro | omega | exact ⟨trivial, rfl⟩ | exact ⟨by omega, trivial, rfl⟩ | exact ⟨by omega, rfl⟩ | exact ⟨by omega, by omega, rfl⟩ | (simp only [List.length_cons, List.length_nil, List.length_append]; done) | (simp only [List.length_cons, List.length_nil, List.length_append]; omega) | decide +kernel) ?_ | refine GDraw_one (by decide +kernel) ?_ | refine New.mk fun _ => ?_ | refine NewS.mk fun _ _ => ?_)
    exact Fin.val (hT none 0) rfl (Hle.refl _)
  · repeat (first | refine Step.imp ?_ | refine Side.mk (by first | exact True.intro | omega | exact ⟨trivial, rfl⟩ | exact ⟨by omega, trivial, rfl⟩ | exact ⟨by omega, rfl⟩ | exact ⟨by omega, by omega, rfl⟩ | (simp only [List.length_cons, List.length_nil, List.length_append]; done) | (simp only [List.length_cons, List.length_nil, List.length_append]; omega) | decide +kernel) ?_ | refine GDraw_one (by decide +kernel) ?_ | refine New.mk fun _ => ?_ | refine NewS.mk fun _ _ => ?_)
    exact Fin.val (hT _ _) rfl (Hle.refl _)
instance nds_cloneF {h : PHeap} {L : List HP} {v : Value} {xs : List Nd} [hs : FSl h v encNd 2 xs] : CallT Try.prog 59 [v] h L (xs.length ≤ 4294967296) L (fun K => ∀ a c, K (.slice a xs.length c) h [slo encNd 2 (.slice a xs.length c) xs]) :=
  ⟨fun hn => ⟨[], .refl _, nds_clone hn hs.nil⟩⟩

theorem dims_clone {h : PHeap} {Lp : List HP} {v : Value} {xs : List Dm} [hs : Rds Lp h v encDm 2 xs] (hn : xs.length ≤ 4294967296) (hnil : isNilV v = true → xs = []) : Spec Try.prog 58 [v] h Lp (fun K => ∀ a c, K (.slice a xs.length c) h (slo encDm 2 (.slice a xs.length c) xs :: Lp)) := by
  refine spec_enter Try.func58 rfl Try.ntmps58 Try.results58 (by simp) fun K R hT => ?_
  repeat (first | refine Step.imp ?_ | refine Side.mk (by first | exact True.intro | omega | exact ⟨trivial, rfl⟩ | exact ⟨by omega, trivial, rfl⟩ | exact ⟨by omega, rfl⟩ | exact ⟨by omega, by omega, rfl⟩ | (simp only [List.length_cons, List.length_nil, List.length_append]; done) | (simp only [List.length_cons, List.length_nil, List.length_append]; omega) | decide +kernel) ?_ | refine GDraw_one (by decide +kernel) ?_ | refine New.mk fun _ => ?_ | refine NewS.mk fun _ _ => ?_)
  refine ⟨fun hb => ?_, fun _ => ?_⟩
  · have := hnil hb
    subst this
    refine G_nil encDm 2 none ?_
    repeat (first | refine Step.imp ?_ | refine Side.mk (by first | exact True.intro | omega | exact ⟨trivial, rfl⟩ | exact ⟨by omega, trivial, rfl⟩ | exact ⟨by omega, rfl⟩ | exact ⟨by omega, by omega, rfl⟩ | (simp only [List.length_cons, List.length_nil, List.length_append]; done) | (simp only [List.length_cons, List.length_nil, List.length_append]; omega) | decide +kernel) ?_ | refine GDraw_one (by decide +kernel) ?_ | refine New.mk fun _ => ?_ | refine NewS.mk fun _ _ => ?_)
    exact Fin.val (hT none 0) rfl (Hle.refl _)
  · repeat (first | refine Step.imp ?_ | refine Side.mk (by first | exact True.intro | omega | exact ⟨trivial, rfl⟩ | exact ⟨by omega, trivial, rfl⟩ | exact ⟨by omega, rfl⟩ | exact ⟨by omega, by omega, rfl⟩ | (simp only [List.length_cons, List.length_nil, List.length_append]; done) | (simp only [List.length_cons, List.length_nil, List.length_append]; omega) | decide +kernel) ?_ | refine GDraw_one (by decide +kernel) ?_ | refine New.mk fun _ => ?_ | refine NewS.mk fun _ _ => ?_)
    exact Fin.val (hT _ _) rfl (Hle.refl _)
instance dims_cloneF {h : PHeap} {L : List HP} {v : Value} {xs : List Dm} [hs : FSl h v encDm 2 xs] : CallT Try.prog 58 [v] h L (xs.length ≤ 4294967296) L (fun K => ∀ a c, K (.slice a xs.length c) h [slo encDm 2 (.slice a xs.length c) xs]) :=
  ⟨fun hn => ⟨[], .refl _, dims_clone hn hs.nil⟩⟩
end Go.Sl

/-
  A tree of members, as it lies in memory, and the functions that only read it.
-/
namespace Go.Sl
open Go.Proofs
set_option linter.unusedVariables false
set_option linter.unusedSimpArgs false
set_option maxRecDepth 10000
set_option synthInstance.maxSize 2000
set_option synthInstance.maxHeartbeats 200000
set_option maxHeartbeats 1000000

structure Tr where
  nodes : List Nd
  kids : List (List Int)
  order : List Int
  leaves : List Int
  spans : List Sp
deriving Inhabited

/-- The names so far. -/
def namesTo (nodes : List Nd) (i : Nat) : List (ByteArray × Value) := (List.range i).map fun (j : Nat) => ((nodes[j]!).name, vI (j : Int))
/-- A tree at block b, that is never changed. -/
class IsTree (h : PHeap) (b : Nat) (T : outParam Tr) : Prop where
  out : ∃ nv mb kv ov lv sv kvs ty fr, Pt h b (.cells [nv, .map (some mb), kv, ov, lv, sv].toArray ty fr) ∧ FSl h nv encNd 2 T.nodes ∧ FSl h kv encV 1 kvs ∧ kvs.length = T.kids.length ∧
    (∀ i < T.kids.length, FSl h (kvs[i]!) encI 1 (T.kids[i]!)) ∧ FSl h ov encI 1 T.order ∧ FSl h lv encI 1 T.leaves ∧ FSl h sv encSp 2 T.spans ∧ FMap h mb (namesTo T.nodes T.nodes.length)
theorem IsTree.mono {h h' : PHeap} {b : Nat} {T : Tr} (hl : Hle h h') (t : IsTree h b T) : IsTree h' b T := ⟨by
  obtain ⟨nv, mb, kv, ov, lv, sv, kvs, ty, fr, h1, h2, h3, h4, h5, h6, h7, h8, h9⟩ := t.out
  exact ⟨nv, mb, kv, ov, lv, sv, kvs, ty, fr, Pt.mono hl h1, FSl.mono hl h2, FSl.mono hl h3, h4, fun i hi => FSl.mono hl (h5 i hi), FSl.mono hl h6, FSl.mono hl h7, FSl.mono hl h8, ⟨h9.fz.mono hl⟩⟩⟩
instance (priority := low) {h h' : PHeap} {b : Nat} {T : Tr} [l : Le h h'] [t : IsTree h b T] : IsTree h' b T := t.mono l.le
/-- All its lists are as long as they should be. -/
class TrLen (T : Tr) : Prop where
  kids : T.kids.length = T.nodes.length
  spans : T.spans.length = T.nodes.length
  small : T.nodes.length ≤ 32
  leaves : T.leaves.length ≤ 32

section
variable {h : PHeap} {b : Nat} {T : Tr}

instance tree_is {i : Int} [hI : IsTree h b T] : CallV Try.prog 50 [.pointer (some ⟨b, 0, none⟩), vI i] h True (.bool (decide (0 ≤ i ∧ i < T.nodes.length))) := ⟨fun _ => by
  obtain ⟨nv, mb, kv, ov, lv, sv, kvs, ty, fr, h1, h2, h3, h4, h5, h6, h7, h8, h8m⟩ := hI.out
  refine spec_enter Try.func50 rfl Try.ntmps50 Try.results50 (by simp) fun K R hT => ?_
  repeat' (first | refine Step.imp ?_ | refine Side.mk (by first | exact True.intro | omega | exact ⟨trivial, rfl⟩ | exact ⟨by omega, trivial, rfl⟩ | exact ⟨by omega, rfl⟩ | exact ⟨by omega, by omega, rfl⟩ | (simp only [List.length_cons, List.length_nil, List.length_append]; done) | (simp only [List.length_cons, List.length_nil, List.length_append]; omega) | decide +kernel) ?_ | refine GDraw_one (by decide +kernel) ?_ | refine New.mk fun _ => ?_ | refine NewS.mk fun _ _ => ?_ | refine Ways.mk (fun _ => ?_) (fun _ => ?_))
  all_goals first | exact Fin.val hT rfl (Hle.refl _) | (exfalso; omega) | (exfalso; contradiction) | exact Fin.dec hT (by omega) (Hle.refl _) | exact Fin.tt hT (by omega) (Hle.refl _) | exact Fin.ff hT (by omega) (Hle.refl _)⟩

instance tree_len [hI : IsTree h b T] : CallV Try.prog 34 [.pointer (some ⟨b, 0, none⟩)] h True (vI T.nodes.length) := ⟨fun _ => by
  obtain ⟨nv, mb, kv, ov, lv, sv, kvs, ty, fr, h1, h2, h3, h4, h5, h6, h7, h8, h8m⟩ := hI.out
  refine spec_enter Try.func34 rfl Try.ntmps34 Try.results34 (by simp) fun K R hT => ?_
  repeat' (first | refine Step.imp ?_ | refine Side.mk (by first | exact True.intro | omega | exact ⟨trivial, rfl⟩ | exact ⟨by omega, trivial, rfl⟩ | exact ⟨by omega, rfl⟩ | exact ⟨by omega, by omega, rfl⟩ | (simp only [List.length_cons, List.length_nil, List.length_append]; done) | (simp only [List.length_cons, List.length_nil, List.length_append]; omega) | decide +kernel) ?_ | refine GDraw_one (by decide +kernel) ?_ | refine New.mk fun _ => ?_ | refine NewS.mk fun _ _ => ?_ | refine Ways.mk (fun _ => ?_) (fun _ => ?_))
  all_goals first | exact Fin.val hT rfl (Hle.refl _) | (exfalso; omega) | (exfalso; contradiction) | exact Fin.dec hT (by omega) (Hle.refl _) | exact Fin.tt hT (by omega) (Hle.refl _) | exact Fin.ff hT (by omega) (Hle.refl _)⟩

/-- Has a member none below it? -/
def Tr.leafB (T : Tr) (i : Int) : Prop := 0 ≤ i ∧ i < T.nodes.length ∧ (T.kids[i.toNat]!).length = 0
instance (T : Tr) (i : Int) : Decidable (T.leafB i) := by unfold Tr.leafB; infer_instance
instance tree_leaf {i : Int} [hI : IsTree h b T] [hl : TrLen T] : CallV Try.prog 54 [.pointer (some ⟨b, 0, none⟩), vI i] h True (.bool (decide (T.leafB i))) := ⟨fun _ => by
  have hk := hl.kids
  unfold Tr.leafB
  by_cases hi : 0 ≤ i ∧ i < T.nodes.length
  · obtain ⟨nv, mb, kv, ov, lv, sv, kvs, ty, fr, h1, h2, h3, h4, h5, h6, h7, h8, h8m⟩ := hI.out
    have h9 := h5 i.toNat (by omega)
    refine spec_enter Try.func54 rfl Try.ntmps54 Try.results54 (by simp) fun K R hT => ?_
    repeat' (first | refine Step.imp ?_ | refine Side.mk (by first | exact True.intro | omega | exact ⟨trivial, rfl⟩ | exact ⟨by omega, trivial, rfl⟩ | exact ⟨by omega, rfl⟩ | exact ⟨by omega, by omega, rfl⟩ | (simp only [List.length_cons, List.length_nil, List.length_append]; done) | (simp only [List.length_cons, List.length_nil, List.length_append]; omega) | decide +kernel) ?_ | refine GDraw_one (by decide +kernel) ?_ | refine New.mk fun _ => ?_ | refine NewS.mk fun _ _ => ?_ | refine Ways.mk (fun _ => ?_) (fun _ => ?_))
    all_goals first | exact Fin.val hT rfl (Hle.refl _) | (exfalso; omega) | (exfalso; contradiction) | exact Fin.dec hT (by omega) (Hle.refl _) | exact Fin.tt hT (by omega) (Hle.refl _) | exact Fin.ff hT (by omega) (Hle.refl _)
  · refine spec_enter Try.func54 rfl Try.ntmps54 Try.results54 (by simp) fun K R hT => ?_
    repeat' (first | refine Step.imp ?_ | refine Side.mk (by first | exact True.intro | omega | exact ⟨trivial, rfl⟩ | exact ⟨by omega, trivial, rfl⟩ | exact ⟨by omega, rfl⟩ | exact ⟨by omega, by omega, rfl⟩ | (simp only [List.length_cons, List.length_nil, List.length_append]; done) | (simp only [List.length_cons, List.length_nil, List.length_append]; omega) | decide +kernel) ?_ | refine GDraw_one (by decide +kernel) ?_ | refine New.mk fun _ => ?_ | refine NewS.mk fun _ _ => ?_ | refine Ways.mk (fun _ => ?_) (fun _ => ?_))
    all_goals first | exact Fin.val hT rfl (Hle.refl _) | (exfalso; omega) | (exfalso; contradiction) | exact Fin.dec hT (by omega) (Hle.refl _) | exact Fin.tt hT (by omega) (Hle.refl _) | exact Fin.ff hT (by omega) (Hle.refl _)⟩

def Tr.rankF (T : Tr) (i : Int) : Int := if T.leafB i then (T.spans[i.toNat]!).fr else -1
instance tree_rank {i : Int} [hI : IsTree h b T] [hl : TrLen T] : CallV Try.prog 38 [.pointer (some ⟨b, 0, none⟩), vI i] h True (vI (T.rankF i)) := ⟨fun _ => by
  have hk := hl.spans
  unfold Tr.rankF
  by_cases hi : T.leafB i
  · obtain ⟨nv, mb, kv, ov, lv, sv, kvs, ty, fr, h1, h2, h3, h4, h5, h6, h7, h8, h8m⟩ := hI.out
    have hi' := hi
    unfold Tr.leafB at hi'
    refine spec_enter Try.func38 rfl Try.ntmps38 Try.results38 (by simp) fun K R hT => ?_
    repeat' (first | refine Step.imp ?_ | refine Side.mk (by first | exact True.intro | omega | exact ⟨trivial, rfl⟩ | exact ⟨by omega, trivial, rfl⟩ | exact ⟨by omega, rfl⟩ | exact ⟨by omega, by omega, rfl⟩ | (simp only [List.length_cons, List.length_nil, List.length_append]; done) | (simp only [List.length_cons, List.length_nil, List.length_append]; omega) | decide +kernel) ?_ | refine GDraw_one (by decide +kernel) ?_ | refine New.mk fun _ => ?_ | refine NewS.mk fun _ _ => ?_ | refine Ways.mk (fun _ => ?_) (fun _ => ?_))
    all_goals simp only [hi, if_true] at hT
    all_goals first | exact Fin.val hT rfl (Hle.refl _) | (exfalso; omega) | (exfalso; contradiction) | exact Fin.dec hT (by omega) (Hle.refl _) | exact Fin.tt hT (by omega) (Hle.refl _) | exact Fin.ff hT (by omega) (Hle.refl _)
  · refine spec_enter Try.func38 rfl Try.ntmps38 Try.results38 (by simp) fun K R hT => ?_
    simp only [hi, if_false] at hT
    repeat' (first | refine Step.imp ?_ | refine Side.mk (by first | exact True.intro | omega | exact ⟨trivial, rfl⟩ | exact ⟨by omega, trivial, rfl⟩ | exact ⟨by omega, rfl⟩ | exact ⟨by omega, by omega, rfl⟩ | (simp only [List.length_cons, List.length_nil, List.length_append]; done) | (simp only [List.length_cons, List.length_nil, List.length_append]; omega) | decide +kernel) ?_ | refine GDraw_one (by decide +kernel) ?_ | refine New.mk fun _ => ?_ | refine NewS.mk fun _ _ => ?_ | refine Ways.mk (fun _ => ?_) (fun _ => ?_))
    all_goals first | exact Fin.val hT rfl (Hle.refl _) | (exfalso; omega) | (exfalso; contradiction) | exact Fin.dec hT (by omega) (Hle.refl _) | exact Fin.tt hT (by omega) (Hle.refl _) | exact Fin.ff hT (by omega) (Hle.refl _)⟩

def Tr.spanF (T : Tr) (i : Int) : Sp := if 0 ≤ i ∧ i < T.nodes.length then T.spans[i.toNat]! else ⟨0, 0⟩
instance tree_span {i : Int} [hI : IsTree h b T] [hl : TrLen T] : CallV Try.prog 28 [.pointer (some ⟨b, 0, none⟩), vI i] h True (.tuple [vI (T.spanF i).fr, vI (T.spanF i).to].toArray) := ⟨fun _ => by
  have hk := hl.spans
  unfold Tr.spanF
  by_cases hi : 0 ≤ i ∧ i < T.nodes.length
  · obtain ⟨nv, mb, kv, ov, lv, sv, kvs, ty, fr, h1, h2, h3, h4, h5, h6, h7, h8, h8m⟩ := hI.out
    refine spec_enter Try.func28 rfl Try.ntmps28 Try.results28 (by simp) fun K R hT => ?_
    repeat' (first | refine Step.imp ?_ | refine Side.mk (by first | exact True.intro | omega | exact ⟨trivial, rfl⟩ | exact ⟨by omega, trivial, rfl⟩ | exact ⟨by omega, rfl⟩ | exact ⟨by omega, by omega, rfl⟩ | (simp only [List.length_cons, List.length_nil, List.length_append]; done) | (simp only [List.length_cons, List.length_nil, List.length_append]; omega) | decide +kernel) ?_ | refine GDraw_one (by decide +kernel) ?_ | refine New.mk fun _ => ?_ | refine NewS.mk fun _ _ => ?_ | refine Ways.mk (fun _ => ?_) (fun _ => ?_))
    all_goals simp only [hi, and_self, if_true] at hT
    all_goals first | exact Fin.val hT rfl (Hle.refl _) | (exfalso; omega) | (exfalso; contradiction) | exact Fin.dec hT (by omega) (Hle.refl _) | exact Fin.tt hT (by omega) (Hle.refl _) | exact Fin.ff hT (by omega) (Hle.refl _)
  · refine spec_enter Try.func28 rfl Try.ntmps28 Try.results28 (by simp) fun K R hT => ?_
    simp only [hi, if_false] at hT
    repeat' (first | refine Step.imp ?_ | refine Side.mk (by first | exact True.intro | omega | exact ⟨trivial, rfl⟩ | exact ⟨by omega, trivial, rfl⟩ | exact ⟨by omega, rfl⟩ | exact ⟨by omega, by omega, rfl⟩ | (simp only [List.length_cons, List.length_nil, List.length_append]; done) | (simp only [List.length_cons, List.length_nil, List.length_append]; omega) | decide +kernel) ?_ | refine GDraw_one (by decide +kernel) ?_ | refine New.mk fun _ => ?_ | refine NewS.mk fun _ _ => ?_ | refine Ways.mk (fun _ => ?_) (fun _ => ?_))
    all_goals first | exact Fin.val hT rfl (Hle.refl _) | (exfalso; omega) | (exfalso; contradiction) | exact Fin.dec hT (by omega) (Hle.refl _) | exact Fin.tt hT (by omega) (Hle.refl _) | exact Fin.ff hT (by omega) (Hle.refl _)⟩
end
end Go.Sl

/-
  A tree's functions that climb: what is above a member.
-/
namespace Go.Sl
open Go.Proofs
set_option linter.unusedVariables false
set_option linter.unusedSimpArgs false
set_option maxRecDepth 10000
set_option synthInstance.maxSize 2000
set_option synthInstance.maxHeartbeats 200000
set_option maxHeartbeats 1000000

/-- One and all above it. -/
def aboveF (nodes : List Nd) : Nat → Int → List Int
  | 0, _ => []
  | f + 1, i => if 0 ≤ i ∧ i < (nodes.length : Int) then i :: aboveF nodes f (nodes[i.toNat]!).up else []
/-- No member is above itself: there is a depth. -/
class Acyc (nodes : List Nd) : Prop where
  eq : ∃ d : Int → Nat, ∀ i : Int, 0 ≤ i → i < (nodes.length : Int) → d (nodes[i.toNat]!).up < d i ∧ d i ≤ 32
def above (nodes : List Nd) (i : Int) : List Int := aboveF nodes 33 i
theorem aboveF_len (nodes : List Nd) : ∀ (f : Nat) (i : Int), (aboveF nodes f i).length ≤ f
  | 0, _ => by simp [aboveF]
  | f + 1, i => by
    unfold aboveF
    split
    · have := aboveF_len nodes f (nodes[i.toNat]!).up; rw [List.length_cons]; omega
    · simp
theorem aboveF_enough {nodes : List Nd} {d : Int → Nat} (hd : ∀ i : Int, 0 ≤ i → i < (nodes.length : Int) → d (nodes[i.toNat]!).up < d i ∧ d i ≤ 32) : ∀ (f g : Nat) (i : Int), d i < f → d i < g → aboveF nodes f i = aboveF nodes g i
  | 0, _, _, h, _ => by omega
  | _, 0, _, _, h => by omega
  | f + 1, g + 1, i, hf, hg => by
    unfold aboveF
    split
    · rename_i hi
      have := hd i hi.1 hi.2
      rw [aboveF_enough hd f g _ (by omega) (by omega)]
    · rfl
theorem above_step {nodes : List Nd} [ha : Acyc nodes] {i : Int} (h : 0 ≤ i ∧ i < nodes.length) : above nodes i = i :: above nodes (nodes[i.toNat]!).up := by
  obtain ⟨d, hd⟩ := ha.eq
  have := hd i h.1 h.2
  unfold above
  rw [aboveF, if_pos h, aboveF_enough hd 32 33 _ (by omega) (by omega)]
theorem above_no {nodes : List Nd} {i : Int} (h : ¬ (0 ≤ i ∧ i < nodes.length)) : above nodes i = [] := by
  unfold above aboveF; rw [if_neg h]

section
variable {h : PHeap} {b : Nat} {nodes : List Nd} {Lp : List HP} {nv : Value} {rest : List Value} {ty : TypeId} {fr : Nat × Nat}

instance is_own {L : List HP} {i : Int} [hp : Rdb L h b (.cells (nv :: rest).toArray ty fr)] [hn : FSl h nv encNd 2 nodes] : CallX Try.prog 50 [.pointer (some ⟨b, 0, none⟩), vI i] h L True (fun K => K (.bool (decide (0 ≤ i ∧ i < nodes.length))) h []) := ⟨fun _ => by
  refine spec_enter Try.func50 rfl Try.ntmps50 Try.results50 (by simp) fun K R hT => ?_
  repeat' (first | refine Step.imp ?_ | refine Side.mk (by first | exact True.intro | omega | exact ⟨trivial, rfl⟩ | exact ⟨by omega, trivial, rfl⟩ | exact ⟨by omega, rfl⟩ | exact ⟨by omega, by omega, rfl⟩ | (simp only [List.length_cons, List.length_nil, List.length_append]; done) | (simp only [List.length_cons, List.length_nil, List.length_append]; omega) | decide +kernel) ?_ | refine GDraw_one (by decide +kernel) ?_ | refine New.mk fun _ => ?_ | refine NewS.mk fun _ _ => ?_ | refine Ways.mk (fun _ => ?_) (fun _ => ?_))
  all_goals first | exact Fin.val hT rfl (Hle.refl _) | (exfalso; omega) | (exfalso; contradiction) | exact Fin.dec hT (by omega) (Hle.refl _) | exact Fin.tt hT (by omega) (Hle.refl _) | exact Fin.ff hT (by omega) (Hle.refl _)⟩

instance above_own {L : List HP} {i0 : Int} [hp : Rdb L h b (.cells (nv :: rest).toArray ty fr)] [hn : FSl h nv encNd 2 nodes] [ha : Acyc nodes] : CallX Try.prog 39 [.pointer (some ⟨b, 0, none⟩), vI i0] h L True (fun K => ∀ a c, K (.slice a (above nodes i0).length c) h [slo encI 1 (.slice a (above nodes i0).length c) (above nodes i0)]) := ⟨fun _ => by
  obtain ⟨d, hd⟩ := ha.eq
  have hlen := aboveF_len nodes 33 i0
  have hall : (above nodes i0).length ≤ 33 := hlen
  refine spec_enter Try.func39 rfl Try.ntmps39 Try.results39 (by simp) fun K R hT => ?_
  refine G_nil encI 1 none ?_
  repeat (first | refine Step.imp ?_ | refine Side.mk (by first | exact True.intro | omega | exact ⟨trivial, rfl⟩ | exact ⟨by omega, trivial, rfl⟩ | exact ⟨by omega, rfl⟩ | exact ⟨by omega, by omega, rfl⟩ | (simp only [List.length_cons, List.length_nil, List.length_append]; done) | (simp only [List.length_cons, List.length_nil, List.length_append]; omega) | decide +kernel) ?_ | refine GDraw_one (by decide +kernel) ?_ | refine New.mk fun _ => ?_ | refine NewS.mk fun _ _ => ?_)
  refine G_loop (σ := Int × List Int × Option Addr × Nat) (fun s => s.2.1 ++ above nodes s.1 = above nodes i0) (fun s => d s.1) (fun s => [(1, vI s.1), (5, .slice s.2.2.1 s.2.1.length s.2.2.2), (0, .pointer (some ⟨b, 0, none⟩))]) (fun _ => h) (fun s => slo encI 1 (.slice s.2.2.1 s.2.1.length s.2.2.2) s.2.1 :: (L ++ R)) (i0, [], none, 0) (by simp) ⟨rfl, rfl, rfl, trivial⟩ rfl inferInstance ?_
  rintro ⟨i, acc, a, c⟩ hinv
  simp only at hinv ⊢
  have hl2 : acc.length ≤ 33 := by have := congrArg List.length hinv; rw [List.length_append] at this; omega
  repeat (first | refine Step.imp ?_ | refine Side.mk (by first | exact True.intro | omega | exact ⟨trivial, rfl⟩ | exact ⟨by omega, trivial, rfl⟩ | exact ⟨by omega, rfl⟩ | exact ⟨by omega, by omega, rfl⟩ | (simp only [List.length_cons, List.length_nil, List.length_append]; done) | (simp only [List.length_cons, List.length_nil, List.length_append]; omega) | decide +kernel) ?_ | refine GDraw_one (by decide +kernel) ?_ | refine New.mk fun _ => ?_ | refine NewS.mk fun _ _ => ?_)
  refine ⟨fun hi => ?_, fun hi => ?_⟩
  · have hdi := hd i hi.1 hi.2
    repeat (first | refine Step.imp ?_ | refine Side.mk (by first | exact True.intro | omega | exact ⟨trivial, rfl⟩ | exact ⟨by omega, trivial, rfl⟩ | exact ⟨by omega, rfl⟩ | exact ⟨by omega, by omega, rfl⟩ | (simp only [List.length_cons, List.length_nil, List.length_append]; done) | (simp only [List.length_cons, List.length_nil, List.length_append]; omega) | decide +kernel) ?_ | refine GDraw_one (by decide +kernel) ?_ | refine New.mk fun _ => ?_ | refine NewS.mk fun _ _ => ?_)
    rename_i b' a' c'
    refine X_round ((nodes[i.toNat]!).up, acc ++ [i], a', c') ?_ hdi.1 ⟨rfl, by simp only [List.length_append, List.length_cons, List.length_nil, Nat.zero_add], rfl, trivial⟩ rfl (by first | infer_instance | (simp only [List.length_append, List.length_cons, List.length_nil, Nat.zero_add]; infer_instance))
    simp only [List.append_assoc, List.singleton_append]
    rw [← hinv, above_step hi]
  · have hacc : acc = above nodes i0 := by rw [← hinv, above_no hi]; simp
    subst hacc
    repeat (first | refine Step.imp ?_ | refine Side.mk (by first | exact True.intro | omega | exact ⟨trivial, rfl⟩ | exact ⟨by omega, trivial, rfl⟩ | exact ⟨by omega, rfl⟩ | exact ⟨by omega, by omega, rfl⟩ | (simp only [List.length_cons, List.length_nil, List.length_append]; done) | (simp only [List.length_cons, List.length_nil, List.length_append]; omega) | decide +kernel) ?_ | refine GDraw_one (by decide +kernel) ?_ | refine New.mk fun _ => ?_ | refine NewS.mk fun _ _ => ?_)
    exact Fin.val (hT _ _) rfl (Hle.refl _)⟩
end
end Go.Sl

/-
  Names.
-/
namespace Go.Sl
open Go.Proofs
set_option linter.unusedVariables false
set_option linter.unusedSimpArgs false
set_option maxRecDepth 10000
set_option synthInstance.maxSize 2000
set_option synthInstance.maxHeartbeats 200000
set_option maxHeartbeats 1000000
def bitsB (op : BinOp) (k : IntKind) (x y : Int) : Int := match (Op.intBits op k x y) with | .pure (.int _ n) => n | _ => 0
section
variable {P : Program} {N : NN} {e : Env} {h : PHeap} {V : List HP}
instance {a b : Operand} {t ty' : TypeId} {k : IntKind} {x y : Int} [ha : Is (lkO e a) (some (.int k x))] [hb : Is (lkO e b) (some (.int k y))] : Soft P N V h e (.binOp .or t a b ty') True (.int k (bitsB .or k x y)) :=
  ⟨fun _ _ d ty pos af g ac w se _ => run_int .or (se.eval ha.eq) (se.eval hb.eq) (fun w => by
    simp only [binOp, ne_eq, not_true_eq_false, if_false]; rfl) w⟩
instance {a b : Operand} {t ty' : TypeId} {k : IntKind} {x y : Int} [ha : Is (lkO e a) (some (.int k x))] [hb : Is (lkO e b) (some (.int k y))] : Soft P N V h e (.binOp .and t a b ty') True (.int k (bitsB .and k x y)) :=
  ⟨fun _ _ d ty pos af g ac w se _ => run_int .and (se.eval ha.eq) (se.eval hb.eq) (fun w => by
    simp only [binOp, ne_eq, not_true_eq_false, if_false]; rfl) w⟩
end
def isLetter (c : Int) : Prop := (65 ≤ c ∧ c ≤ 90) ∨ (97 ≤ c ∧ c ≤ 122)
instance (c : Int) : Decidable (isLetter c) := by unfold isLetter; infer_instance
theorem letter_bits : ∀ n : _root_.Fin 256, (97 ≤ bitsB .or .u8 (n.val : Int) 32 ∧ bitsB .or .u8 (n.val : Int) 32 ≤ 122) ↔ isLetter (n.val : Int) := by decide +kernel
theorem letter_iff {c : Int} (h : 0 ≤ c ∧ c ≤ 255) : (97 ≤ bitsB .or .u8 c 32 ∧ bitsB .or .u8 c 32 ≤ 122) ↔ isLetter c := by
  have := letter_bits ⟨c.toNat, by omega⟩
  have e : ((c.toNat : Nat) : Int) = c := by omega
  simp only [e] at this
  exact this
theorem bAt_range (s : ByteArray) (k : Nat) : 0 ≤ bAt s k ∧ bAt s k ≤ 255 := by
  unfold bAt
  have := (s.data.getD k 0).toNat_lt
  omega
section
variable {h : PHeap}
instance letter_ok {c : Int} : CallV Try.prog 81 [.int .u8 c] h (0 ≤ c ∧ c ≤ 255) (.bool (decide (isLetter c))) := ⟨fun hc => by
  have hl := letter_iff hc
  unfold isLetter at hl
  refine spec_enter Try.func81 rfl Try.ntmps81 Try.results81 (by simp) fun K R hT => ?_
  repeat' (first | refine Step.imp ?_ | refine Side.mk (by first | exact True.intro | omega | exact ⟨trivial, rfl⟩ | exact ⟨by omega, trivial, rfl⟩ | exact ⟨by omega, rfl⟩ | exact ⟨by omega, by omega, rfl⟩ | (simp only [List.length_cons, List.length_nil, List.length_append]; done) | (simp only [List.length_cons, List.length_nil, List.length_append]; omega) | decide +kernel) ?_ | refine GDraw_one (by decide +kernel) ?_ | refine New.mk fun _ => ?_ | refine NewS.mk fun _ _ => ?_ | refine Ways.mk (fun _ => ?_) (fun _ => ?_))
  all_goals first | exact Fin.dec hT (by unfold isLetter; omega) (Hle.refl _) | exact Fin.ff hT (by unfold isLetter; omega) (Hle.refl _)⟩

def okChar (c : Int) : Prop := isLetter c ∨ c = 95 ∨ (48 ≤ c ∧ c ≤ 57)
def okName (s : ByteArray) : Prop := s.size ≠ 0 ∧ s.size ≤ 12 ∧ isLetter (bAt s 0) ∧ ∀ k < s.size, okChar (bAt s k)
instance (c : Int) : Decidable (okChar c) := by unfold okChar; infer_instance
instance (s : ByteArray) : Decidable (okName s) := by unfold okName; infer_instance
theorem size_zero {s : ByteArray} : s.size = 0 ↔ s = ByteArray.empty := by
  constructor
  · intro h; cases s with | mk d => congr; exact Array.eq_empty_of_size_eq_zero h
  · rintro rfl; rfl
instance name_ok {s : ByteArray} : CallV Try.prog 60 [.string s] h True (.bool (decide (okName s))) := ⟨fun _ => by
  have h0 := bAt_range s 0
  have hz := @size_zero s
  refine spec_enter Try.func60 rfl Try.ntmps60 Try.results60 (by simp) fun K R hT => ?_
  by_cases hs : s.size ≠ 0 ∧ s.size ≤ 12 ∧ isLetter (bAt s 0)
  · repeat' (first | refine Step.imp ?_ | refine Side.mk (by first | exact True.intro | omega | exact ⟨trivial, rfl⟩ | exact ⟨by omega, trivial, rfl⟩ | exact ⟨by omega, rfl⟩ | exact ⟨by omega, by omega, rfl⟩ | (simp only [List.length_cons, List.length_nil, List.length_append]; done) | (simp only [List.length_cons, List.length_nil, List.length_append]; omega) | decide +kernel) ?_ | refine GDraw_one (by decide +kernel) ?_ | refine New.mk fun _ => ?_ | refine NewS.mk fun _ _ => ?_ | refine Ways.mk (fun _ => ?_) (fun _ => ?_))
    · exfalso; exact hs.1 (hz.2 (by assumption))
    · exfalso; omega
    · exfalso; exact absurd hs.2.2 (by assumption)
    · refine G_loopE (σ := Nat) (fun k => k ≤ s.size ∧ ∀ j < k, okChar (bAt s j)) (fun k => s.size - k) (fun k => [(20, vI k), (19, vI s.size), (0, .string s)]) 0 ⟨by omega, by omega⟩ ⟨rfl, rfl, rfl, trivial⟩ fun k hk => ?_
      obtain ⟨hk, hall⟩ := hk
      have hb := bAt_range s k
      repeat (first | refine Step.imp ?_ | refine Side.mk (by first | exact True.intro | omega | exact ⟨trivial, rfl⟩ | exact ⟨by omega, trivial, rfl⟩ | exact ⟨by omega, rfl⟩ | exact ⟨by omega, by omega, rfl⟩ | (simp only [List.length_cons, List.length_nil, List.length_append]; done) | (simp only [List.length_cons, List.length_nil, List.length_append]; omega) | decide +kernel) ?_ | refine GDraw_one (by decide +kernel) ?_ | refine New.mk fun _ => ?_ | refine NewS.mk fun _ _ => ?_)
      refine ⟨fun hlt => ?_, fun hge => ?_⟩
      · have hnext : okChar (bAt s k) → ∀ j < k + 1, okChar (bAt s j) := fun hc j hj => by
          rcases Nat.lt_or_ge j k with h1 | h1
          · exact hall j h1
          · have : j = k := by omega
            subst this; exact hc
        repeat' (first | refine Step.imp ?_ | refine Side.mk (by first | exact True.intro | omega | exact ⟨trivial, rfl⟩ | exact ⟨by omega, trivial, rfl⟩ | exact ⟨by omega, rfl⟩ | exact ⟨by omega, by omega, rfl⟩ | (simp only [List.length_cons, List.length_nil, List.length_append]; done) | (simp only [List.length_cons, List.length_nil, List.length_append]; omega) | decide +kernel) ?_ | refine GDraw_one (by decide +kernel) ?_ | refine New.mk fun _ => ?_ | refine NewS.mk fun _ _ => ?_ | refine Ways.mk (fun _ => ?_) (fun _ => ?_))
        all_goals first
          | exact Fin.ff hT (fun hn => (by have := hn.2.2.2 k (by omega); unfold okChar at this; first | (rcases this with h1 | h1 | h1 <;> first | contradiction | omega))) (Hle.refl _)
          | (refine X_roundE (k + 1) ?_ ?_ ?_ inferInstance; exact ⟨by omega, hnext (by unfold okChar; first | (left; exact Decidable.not_not.1 (by assumption)) | (right; left; exact Decidable.not_not.1 (by assumption)) | (right; right; omega))⟩; omega; exact ⟨rfl, rfl, rfl, trivial⟩)
      · have hfull : okName s := ⟨hs.1, hs.2.1, hs.2.2, fun j hj => hall j (by omega)⟩
        repeat (first | refine Step.imp ?_ | refine Side.mk (by first | exact True.intro | omega | exact ⟨trivial, rfl⟩ | exact ⟨by omega, trivial, rfl⟩ | exact ⟨by omega, rfl⟩ | exact ⟨by omega, by omega, rfl⟩ | (simp only [List.length_cons, List.length_nil, List.length_append]; done) | (simp only [List.length_cons, List.length_nil, List.length_append]; omega) | decide +kernel) ?_ | refine GDraw_one (by decide +kernel) ?_ | refine New.mk fun _ => ?_ | refine NewS.mk fun _ _ => ?_)
        exact Fin.tt hT hfull (Hle.refl _)
  · have hno : ¬ okName s := fun hn => hs ⟨hn.1, hn.2.1, hn.2.2.1⟩
    by_cases he : s.size = 0
    · have := hz.1 he
      subst this
      repeat' (first | refine Step.imp ?_ | refine Side.mk (by first | exact True.intro | omega | exact ⟨trivial, rfl⟩ | exact ⟨by omega, trivial, rfl⟩ | exact ⟨by omega, rfl⟩ | exact ⟨by omega, by omega, rfl⟩ | (simp only [List.length_cons, List.length_nil, List.length_append]; done) | (simp only [List.length_cons, List.length_nil, List.length_append]; omega) | decide +kernel) ?_ | refine GDraw_one (by decide +kernel) ?_ | refine New.mk fun _ => ?_ | refine NewS.mk fun _ _ => ?_ | refine Ways.mk (fun _ => ?_) (fun _ => ?_))
      all_goals first | exact Fin.ff hT hno (Hle.refl _) | exact absurd rfl (by assumption)
    · have hpos : 0 < s.size := by omega
      repeat' (first | refine Step.imp ?_ | refine Side.mk (by first | exact True.intro | omega | exact ⟨trivial, rfl⟩ | exact ⟨by omega, trivial, rfl⟩ | exact ⟨by omega, rfl⟩ | exact ⟨by omega, by omega, rfl⟩ | (simp only [List.length_cons, List.length_nil, List.length_append]; done) | (simp only [List.length_cons, List.length_nil, List.length_append]; omega) | decide +kernel) ?_ | refine GDraw_one (by decide +kernel) ?_ | refine New.mk fun _ => ?_ | refine NewS.mk fun _ _ => ?_ | refine Ways.mk (fun _ => ?_) (fun _ => ?_))
      all_goals first
        | exact Fin.ff hT hno (Hle.refl _)
        | (exfalso; refine hs ⟨by omega, by omega, Decidable.not_not.1 (by assumption)⟩)⟩
end
end Go.Sl

/-
  What is asked of each member of a tree that is being made.
-/
namespace Go.Sl
open Go.Proofs
set_option linter.unusedVariables false
set_option linter.unusedSimpArgs false
set_option maxRecDepth 10000
set_option synthInstance.maxSize 2000
set_option synthInstance.maxHeartbeats 200000
set_option maxHeartbeats 1000000

section
variable {h : PHeap} {b : Nat} {nodes : List Nd} {Lp : List HP} {nv : Value} {rest : List Value} {ty : TypeId} {fr : Nat × Nat}

instance depth_own {L : List HP} {i0 : Int} [hp : Rdb L h b (.cells (nv :: rest).toArray ty fr)] [hn : FSl h nv encNd 2 nodes] [ha : Acyc nodes] : CallX Try.prog 101 [.pointer (some ⟨b, 0, none⟩), vI i0] h L True (fun K => K (vI (max 0 ((above nodes i0).length - 1))) h []) := ⟨fun _ => by
  have hlen := aboveF_len nodes 33 i0
  have hall : (above nodes i0).length ≤ 33 := hlen
  refine spec_enter Try.func101 rfl Try.ntmps101 Try.results101 (by simp) fun K R hT => ?_
  repeat (first | refine Step.imp ?_ | refine Side.mk (by first | exact True.intro | omega | exact ⟨trivial, rfl⟩ | exact ⟨by omega, trivial, rfl⟩ | exact ⟨by omega, rfl⟩ | exact ⟨by omega, by omega, rfl⟩ | (simp only [List.length_cons, List.length_nil, List.length_append]; done) | (simp only [List.length_cons, List.length_nil, List.length_append]; omega) | decide +kernel) ?_ | refine GDraw_one (by decide +kernel) ?_ | refine New.mk fun _ => ?_ | refine NewS.mk fun _ _ => ?_)
  intro a c
  repeat (first | refine Step.imp ?_ | refine Side.mk (by first | exact True.intro | omega | exact ⟨trivial, rfl⟩ | exact ⟨by omega, trivial, rfl⟩ | exact ⟨by omega, rfl⟩ | exact ⟨by omega, by omega, rfl⟩ | (simp only [List.length_cons, List.length_nil, List.length_append]; done) | (simp only [List.length_cons, List.length_nil, List.length_append]; omega) | decide +kernel) ?_ | refine GDraw_one (by decide +kernel) ?_ | refine New.mk fun _ => ?_ | refine NewS.mk fun _ _ => ?_)
  exact Fin.val hT rfl (Hle.refl _)⟩

/-- A member's name. -/
def ckName (nodes : List Nd) (i : Nat) : Int := if okName (nodes[i]!).name then 0 else 3
instance named_own {L : List HP} {i : Nat} [hp : Rdb L h b (.cells (nv :: rest).toArray ty fr)] [hn : FSl h nv encNd 2 nodes] : CallX Try.prog 83 [.pointer (some ⟨b, 0, none⟩), vI i] h L (i < nodes.length) (fun K => K (vI (ckName nodes i)) h []) := ⟨fun hi => by
  refine spec_enter Try.func83 rfl Try.ntmps83 Try.results83 (by simp) fun K R hT => ?_
  unfold ckName at hT
  repeat' (first | refine Step.imp ?_ | refine Side.mk (by first | exact True.intro | omega | exact ⟨trivial, rfl⟩ | exact ⟨by omega, trivial, rfl⟩ | exact ⟨by omega, rfl⟩ | exact ⟨by omega, by omega, rfl⟩ | (simp only [List.length_cons, List.length_nil, List.length_append]; done) | (simp only [List.length_cons, List.length_nil, List.length_append]; omega) | decide +kernel) ?_ | refine GDraw_one (by decide +kernel) ?_ | refine New.mk fun _ => ?_ | refine NewS.mk fun _ _ => ?_ | refine Ways.mk (fun _ => ?_) (fun _ => ?_))
  all_goals (split at hT)
  all_goals first | exact Fin.val hT rfl (Hle.refl _) | (exfalso; contradiction)⟩

/-- Does it lie where there is a place? -/
def ckRange (nodes : List Nd) (i : Nat) : Int := if (nodes[i]!).up < -1 ∨ (nodes.length : Int) ≤ (nodes[i]!).up then 17 else 0
instance ranged_own {L : List HP} {i : Nat} [hp : Rdb L h b (.cells (nv :: rest).toArray ty fr)] [hn : FSl h nv encNd 2 nodes] : CallX Try.prog 85 [.pointer (some ⟨b, 0, none⟩), vI i] h L (i < nodes.length) (fun K => K (vI (ckRange nodes i)) h []) := ⟨fun hi => by
  refine spec_enter Try.func85 rfl Try.ntmps85 Try.results85 (by simp) fun K R hT => ?_
  unfold ckRange at hT
  repeat' (first | refine Step.imp ?_ | refine Side.mk (by first | exact True.intro | omega | exact ⟨trivial, rfl⟩ | exact ⟨by omega, trivial, rfl⟩ | exact ⟨by omega, rfl⟩ | exact ⟨by omega, by omega, rfl⟩ | (simp only [List.length_cons, List.length_nil, List.length_append]; done) | (simp only [List.length_cons, List.length_nil, List.length_append]; omega) | decide +kernel) ?_ | refine GDraw_one (by decide +kernel) ?_ | refine New.mk fun _ => ?_ | refine NewS.mk fun _ _ => ?_ | refine Ways.mk (fun _ => ?_) (fun _ => ?_))
  all_goals (split at hT)
  all_goals first | exact Fin.val hT rfl (Hle.refl _) | (exfalso; omega)⟩

/-- Does the climb from k meet i? -/
def chase (nodes : List Nd) (i : Int) : Nat → Int → Bool
  | 0, _ => false
  | f + 1, k => if k < 0 then false else if k = i then true else chase nodes i f (nodes[k.toNat]!).up
def ckLoop (nodes : List Nd) (i : Nat) : Int := if chase nodes i nodes.length (nodes[i]!).up then 15 else 0
class UpsIn (nodes : List Nd) : Prop where
  eq : ∀ i < nodes.length, -1 ≤ (nodes[i]!).up ∧ (nodes[i]!).up < nodes.length
instance looped_own {L : List HP} {i : Nat} [hp : Rdb L h b (.cells (nv :: rest).toArray ty fr)] [hn : FSl h nv encNd 2 nodes] [hu : UpsIn nodes] : CallX Try.prog 86 [.pointer (some ⟨b, 0, none⟩), vI i] h L (i < nodes.length ∧ nodes.length ≤ 32) (fun K => K (vI (ckLoop nodes i)) h []) := ⟨fun ⟨hi, hsm⟩ => by
  have hr := hu.eq
  refine spec_enter Try.func86 rfl Try.ntmps86 Try.results86 (by simp) fun K R hT => ?_
  have h0 := hr i hi
  repeat (first | refine Step.imp ?_ | refine Side.mk (by first | exact True.intro | omega | exact ⟨trivial, rfl⟩ | exact ⟨by omega, trivial, rfl⟩ | exact ⟨by omega, rfl⟩ | exact ⟨by omega, by omega, rfl⟩ | (simp only [List.length_cons, List.length_nil, List.length_append]; done) | (simp only [List.length_cons, List.length_nil, List.length_append]; omega) | decide +kernel) ?_ | refine GDraw_one (by decide +kernel) ?_ | refine New.mk fun _ => ?_ | refine NewS.mk fun _ _ => ?_)
  refine G_loopE (σ := Nat × Int) (fun s => s.1 ≤ nodes.length ∧ -1 ≤ s.2 ∧ s.2 < nodes.length ∧ chase nodes i nodes.length (nodes[i]!).up = chase nodes i (nodes.length - s.1) s.2) (fun s => nodes.length - s.1) (fun s => [(19, vI s.1), (18, vI nodes.length), (5, vI s.2), (1, vI i), (0, .pointer (some ⟨b, 0, none⟩))]) (0, (nodes[i]!).up) ⟨by omega, h0.1, h0.2, rfl⟩ ⟨rfl, rfl, rfl, rfl, rfl, trivial⟩ ?_
  rintro ⟨n, k⟩ ⟨h1, h2, h3, h4⟩
  simp only at h1 h2 h3 h4 ⊢
  repeat (first | refine Step.imp ?_ | refine Side.mk (by first | exact True.intro | omega | exact ⟨trivial, rfl⟩ | exact ⟨by omega, trivial, rfl⟩ | exact ⟨by omega, rfl⟩ | exact ⟨by omega, by omega, rfl⟩ | (simp only [List.length_cons, List.length_nil, List.length_append]; done) | (simp only [List.length_cons, List.length_nil, List.length_append]; omega) | decide +kernel) ?_ | refine GDraw_one (by decide +kernel) ?_ | refine New.mk fun _ => ?_ | refine NewS.mk fun _ _ => ?_)
  refine ⟨fun hlt => ?_, fun hge => ?_⟩
  · rw [show nodes.length - n = (nodes.length - (n + 1)) + 1 by omega, chase] at h4
    repeat (first | refine Step.imp ?_ | refine Side.mk (by first | exact True.intro | omega | exact ⟨trivial, rfl⟩ | exact ⟨by omega, trivial, rfl⟩ | exact ⟨by omega, rfl⟩ | exact ⟨by omega, by omega, rfl⟩ | (simp only [List.length_cons, List.length_nil, List.length_append]; done) | (simp only [List.length_cons, List.length_nil, List.length_append]; omega) | decide +kernel) ?_ | refine GDraw_one (by decide +kernel) ?_ | refine New.mk fun _ => ?_ | refine NewS.mk fun _ _ => ?_)
    refine ⟨fun hneg => ?_, fun hpos => ?_⟩
    · rw [if_pos hneg] at h4
      unfold ckLoop at hT
      repeat (first | refine Step.imp ?_ | refine Side.mk (by first | exact True.intro | omega | exact ⟨trivial, rfl⟩ | exact ⟨by omega, trivial, rfl⟩ | exact ⟨by omega, rfl⟩ | exact ⟨by omega, by omega, rfl⟩ | (simp only [List.length_cons, List.length_nil, List.length_append]; done) | (simp only [List.length_cons, List.length_nil, List.length_append]; omega) | decide +kernel) ?_ | refine GDraw_one (by decide +kernel) ?_ | refine New.mk fun _ => ?_ | refine NewS.mk fun _ _ => ?_)
      exact Fin.val hT (by rw [h4]; rfl) (Hle.refl _)
    · rw [if_neg hpos] at h4
      repeat (first | refine Step.imp ?_ | refine Side.mk (by first | exact True.intro | omega | exact ⟨trivial, rfl⟩ | exact ⟨by omega, trivial, rfl⟩ | exact ⟨by omega, rfl⟩ | exact ⟨by omega, by omega, rfl⟩ | (simp only [List.length_cons, List.length_nil, List.length_append]; done) | (simp only [List.length_cons, List.length_nil, List.length_append]; omega) | decide +kernel) ?_ | refine GDraw_one (by decide +kernel) ?_ | refine New.mk fun _ => ?_ | refine NewS.mk fun _ _ => ?_)
      refine ⟨fun heq => ?_, fun hne => ?_⟩
      · rw [if_pos heq] at h4
        unfold ckLoop at hT
        repeat (first | refine Step.imp ?_ | refine Side.mk (by first | exact True.intro | omega | exact ⟨trivial, rfl⟩ | exact ⟨by omega, trivial, rfl⟩ | exact ⟨by omega, rfl⟩ | exact ⟨by omega, by omega, rfl⟩ | (simp only [List.length_cons, List.length_nil, List.length_append]; done) | (simp only [List.length_cons, List.length_nil, List.length_append]; omega) | decide +kernel) ?_ | refine GDraw_one (by decide +kernel) ?_ | refine New.mk fun _ => ?_ | refine NewS.mk fun _ _ => ?_)
        exact Fin.val hT (by rw [h4]; rfl) (Hle.refl _)
      · rw [if_neg hne] at h4
        have h5 := hr k.toNat (by omega)
        repeat (first | refine Step.imp ?_ | refine Side.mk (by first | exact True.intro | omega | exact ⟨trivial, rfl⟩ | exact ⟨by omega, trivial, rfl⟩ | exact ⟨by omega, rfl⟩ | exact ⟨by omega, by omega, rfl⟩ | (simp only [List.length_cons, List.length_nil, List.length_append]; done) | (simp only [List.length_cons, List.length_nil, List.length_append]; omega) | decide +kernel) ?_ | refine GDraw_one (by decide +kernel) ?_ | refine New.mk fun _ => ?_ | refine NewS.mk fun _ _ => ?_)
        refine X_roundE (n + 1, (nodes[k.toNat]!).up) ?_ ?_ ?_ ?_
        · exact ⟨by omega, h5.1, h5.2, h4⟩
        · show nodes.length - (n + 1) < nodes.length - n
          omega
        · exact ⟨rfl, rfl, rfl, rfl, rfl, trivial⟩
        · infer_instance
  · have : nodes.length - n = 0 := by omega
    rw [this, chase] at h4
    unfold ckLoop at hT
    repeat (first | refine Step.imp ?_ | refine Side.mk (by first | exact True.intro | omega | exact ⟨trivial, rfl⟩ | exact ⟨by omega, trivial, rfl⟩ | exact ⟨by omega, rfl⟩ | exact ⟨by omega, by omega, rfl⟩ | (simp only [List.length_cons, List.length_nil, List.length_append]; done) | (simp only [List.length_cons, List.length_nil, List.length_append]; omega) | decide +kernel) ?_ | refine GDraw_one (by decide +kernel) ?_ | refine New.mk fun _ => ?_ | refine NewS.mk fun _ _ => ?_)
    exact Fin.val hT (by rw [h4]; rfl) (Hle.refl _)⟩

def ckDeep (nodes : List Nd) (i : Nat) : Int := if 6 ≤ max 0 (((above nodes i).length : Int) - 1) then 16 else 0
instance deep_own {L : List HP} {i : Nat} [hp : Rdb L h b (.cells (nv :: rest).toArray ty fr)] [hn : FSl h nv encNd 2 nodes] [ha : Acyc nodes] : CallX Try.prog 87 [.pointer (some ⟨b, 0, none⟩), vI i] h L True (fun K => K (vI (ckDeep nodes i)) h []) := ⟨fun _ => by
  refine spec_enter Try.func87 rfl Try.ntmps87 Try.results87 (by simp) fun K R hT => ?_
  unfold ckDeep at hT
  repeat' (first | refine Step.imp ?_ | refine Side.mk (by first | exact True.intro | omega | exact ⟨trivial, rfl⟩ | exact ⟨by omega, trivial, rfl⟩ | exact ⟨by omega, rfl⟩ | exact ⟨by omega, by omega, rfl⟩ | (simp only [List.length_cons, List.length_nil, List.length_append]; done) | (simp only [List.length_cons, List.length_nil, List.length_append]; omega) | decide +kernel) ?_ | refine GDraw_one (by decide +kernel) ?_ | refine New.mk fun _ => ?_ | refine NewS.mk fun _ _ => ?_ | refine Ways.mk (fun _ => ?_) (fun _ => ?_))
  all_goals (split at hT)
  all_goals first | exact Fin.val hT rfl (Hle.refl _) | (exfalso; omega)⟩

def ckTwice (nodes : List Nd) (i : Nat) : Int := if mhas (namesTo nodes i) (nodes[i]!).name then 4 else 0
theorem namesTo_succ (nodes : List Nd) (i : Nat) : namesTo nodes (i + 1) = namesTo nodes i ++ [((nodes[i]!).name, vI i)] := by
  unfold namesTo; rw [List.range_succ, List.map_append]; rfl
theorem once_own {L : List HP} {i mb : Nat} [hp : Rdb L h b (.cells (nv :: .map (some mb) :: rest).toArray ty fr)] [hn : FSl h nv encNd 2 nodes] (hi : i < nodes.length) :
    Spec Try.prog 84 [.pointer (some ⟨b, 0, none⟩), vI i] h (mapO mb (namesTo nodes i) :: L) (fun K => K (vI (ckTwice nodes i)) h (mapO mb (if ckTwice nodes i = 0 then namesTo nodes (i + 1) else namesTo nodes i) :: L)) := by
  refine spec_enter Try.func84 rfl Try.ntmps84 Try.results84 (by simp) fun K R hT => ?_
  by_cases hm : mhas (namesTo nodes i) (nodes[i]!).name = true
  · simp only [ckTwice, hm, if_true, show ((4 : Int) = 0) = False by simp, if_false] at hT
    repeat (first | refine Step.imp ?_ | refine Side.mk (by first | exact True.intro | omega | exact ⟨trivial, rfl⟩ | exact ⟨by omega, trivial, rfl⟩ | exact ⟨by omega, rfl⟩ | exact ⟨by omega, by omega, rfl⟩ | (simp only [List.length_cons, List.length_nil, List.length_append]; done) | (simp only [List.length_cons, List.length_nil, List.length_append]; omega) | decide +kernel) ?_ | refine GDraw_one (by decide +kernel) ?_ | refine New.mk fun _ => ?_ | refine NewS.mk fun _ _ => ?_)
    refine ⟨fun _ => ?_, fun hf => absurd hm (by rw [hf]; simp)⟩
    repeat (first | refine Step.imp ?_ | refine Side.mk (by first | exact True.intro | omega | exact ⟨trivial, rfl⟩ | exact ⟨by omega, trivial, rfl⟩ | exact ⟨by omega, rfl⟩ | exact ⟨by omega, by omega, rfl⟩ | (simp only [List.length_cons, List.length_nil, List.length_append]; done) | (simp only [List.length_cons, List.length_nil, List.length_append]; omega) | decide +kernel) ?_ | refine GDraw_one (by decide +kernel) ?_ | refine New.mk fun _ => ?_ | refine NewS.mk fun _ _ => ?_)
    exact Fin.val hT rfl (Hle.refl _)
  · have hm' : mhas (namesTo nodes i) (nodes[i]!).name = false := by simpa using hm
    simp only [ckTwice, hm', Bool.false_eq_true, if_false, if_true] at hT
    repeat (first | refine Step.imp ?_ | refine Side.mk (by first | exact True.intro | omega | exact ⟨trivial, rfl⟩ | exact ⟨by omega, trivial, rfl⟩ | exact ⟨by omega, rfl⟩ | exact ⟨by omega, by omega, rfl⟩ | (simp only [List.length_cons, List.length_nil, List.length_append]; done) | (simp only [List.length_cons, List.length_nil, List.length_append]; omega) | decide +kernel) ?_ | refine GDraw_one (by decide +kernel) ?_ | refine New.mk fun _ => ?_ | refine NewS.mk fun _ _ => ?_)
    refine ⟨fun hf => absurd hf hm, fun _ => ?_⟩
    repeat (first | refine Step.imp ?_ | refine Side.mk (by first | exact True.intro | omega | exact ⟨trivial, rfl⟩ | exact ⟨by omega, trivial, rfl⟩ | exact ⟨by omega, rfl⟩ | exact ⟨by omega, by omega, rfl⟩ | (simp only [List.length_cons, List.length_nil, List.length_append]; done) | (simp only [List.length_cons, List.length_nil, List.length_append]; omega) | decide +kernel) ?_ | refine GDraw_one (by decide +kernel) ?_ | refine New.mk fun _ => ?_ | refine NewS.mk fun _ _ => ?_)
    rw [namesTo_succ] at hT
    exact Fin.val hT rfl (Hle.refl _)
end
end Go.Sl

/-
  The walk of a tree: its order, its leaves, its spans.
-/
namespace Go.Sl
open Go.Proofs
set_option linter.unusedVariables false
set_option linter.unusedSimpArgs false
set_option maxRecDepth 10000
set_option synthInstance.maxSize 2000
set_option synthInstance.maxHeartbeats 200000
set_option maxHeartbeats 1000000

structure WS where
  order : List Int
  leaves : List Int
  spans : List Sp
def openW (kids : List (List Int)) (s : WS) (i : Int) : WS := ⟨s.order ++ [i], if (kids[i.toNat]!).length = 0 then s.leaves ++ [i] else s.leaves, s.spans.set i.toNat ⟨s.leaves.length, (s.spans[i.toNat]!).to⟩⟩
def closeW (i : Int) (s : WS) : WS := { s with spans := s.spans.set i.toNat ⟨(s.spans[i.toNat]!).fr, s.leaves.length⟩ }
def downW (kids : List (List Int)) : Nat → WS → Int → WS
  | 0, s, _ => s
  | f + 1, s, i => closeW i ((kids[i.toNat]!).foldl (downW kids f) (openW kids s i))
/-- One and all below it. -/
def pre (kids : List (List Int)) : Nat → Int → List Int
  | 0, _ => []
  | f + 1, i => i :: (kids[i.toNat]!).flatMap (pre kids f)
def leafK (kids : List (List Int)) (i : Int) : Bool := decide ((kids[i.toNat]!).length = 0)
mutual
theorem downW_order (kids : List (List Int)) : ∀ (f : Nat) (s : WS) (i : Int), (downW kids f s i).order = s.order ++ pre kids f i
  | 0, s, i => by simp [downW, pre]
  | f + 1, s, i => by
    simp only [downW, closeW, pre]
    rw [foldW_order kids f]
    simp [openW]
theorem foldW_order (kids : List (List Int)) (f : Nat) : ∀ (l : List Int) (s : WS), (l.foldl (downW kids f) s).order = s.order ++ l.flatMap (pre kids f)
  | [], s => by simp
  | k :: l, s => by
    rw [List.foldl_cons, foldW_order kids f l, downW_order kids f, List.flatMap_cons, List.append_assoc]
end
mutual
theorem downW_leaves (kids : List (List Int)) : ∀ (f : Nat) (s : WS) (i : Int), (downW kids f s i).leaves = s.leaves ++ (pre kids f i).filter (leafK kids)
  | 0, s, i => by simp [downW, pre]
  | f + 1, s, i => by
    simp only [downW, closeW, pre]
    rw [foldW_leaves kids f]
    simp only [openW, List.filter_cons, leafK]
    by_cases hz : (kids[i.toNat]!).length = 0
    · simp only [hz, if_true, decide_true]; simp [leafK]
    · simp only [hz, if_false, decide_false, Bool.false_eq_true]
theorem foldW_leaves (kids : List (List Int)) (f : Nat) : ∀ (l : List Int) (s : WS), (l.foldl (downW kids f) s).leaves = s.leaves ++ (l.flatMap (pre kids f)).filter (leafK kids)
  | [], s => by simp
  | k :: l, s => by
    rw [List.foldl_cons, foldW_leaves kids f l, downW_leaves kids f, List.flatMap_cons, List.filter_append, List.append_assoc]
end
mutual
theorem downW_spans (kids : List (List Int)) : ∀ (f : Nat) (s : WS) (i : Int), (downW kids f s i).spans.length = s.spans.length
  | 0, s, i => rfl
  | f + 1, s, i => by
    simp only [downW, closeW, List.length_set]
    rw [foldW_spans kids f]
    simp [openW]
theorem foldW_spans (kids : List (List Int)) (f : Nat) : ∀ (l : List Int) (s : WS), (l.foldl (downW kids f) s).spans.length = s.spans.length
  | [], s => rfl
  | k :: l, s => by
    rw [List.foldl_cons, foldW_spans kids f l, downW_spans kids f]
end

section
variable {h : PHeap} {b tb db : Nat} {nv mv kv sv : Value} {kids : List (List Int)} {ty : TypeId}
/-- What a walk changes. -/
@[reducible] def WL (b : Nat) (nv mv kv sv : Value) (ty : TypeId) (ao : Option Addr) (no co : Nat) (al : Option Addr) (nl cl : Nat) (order leaves : List Int) (spans : List Sp) (R : List HP) : List HP :=
  blk b (.cells [nv, mv, kv, .slice ao no co, .slice al nl cl, sv].toArray ty (0, 0)) :: slo encI 1 (.slice ao no co) order :: slo encI 1 (.slice al nl cl) leaves :: slo encSp 2 sv spans :: R
class WalkF (h : PHeap) (b : outParam Nat) (tb db : Nat) (nv mv kv sv : outParam Value) (kids : outParam (List (List Int))) (ty : outParam TypeId) (f : outParam Nat) (ok : outParam (Int → Prop)) : Prop where
  spec : ∀ (i : Int) (order leaves : List Int) (spans : List Sp) ao co al cl, ok i → spans.length = kids.length → order.length + (pre kids f i).length ≤ 4294967296 → leaves.length + (pre kids f i).length ≤ 4294967296 →
    Spec Try.prog 88 [vI i, .pointer (some ⟨tb, 0, none⟩), .pointer (some ⟨db, 0, none⟩)] h (WL b nv mv kv sv ty ao order.length co al leaves.length cl order leaves spans [])
      (fun K => ∀ ao co al cl, K (.tuple ([] : List Value).toArray) h (WL b nv mv kv sv ty ao (downW kids f ⟨order, leaves, spans⟩ i).order.length co al (downW kids f ⟨order, leaves, spans⟩ i).leaves.length cl (downW kids f ⟨order, leaves, spans⟩ i).order (downW kids f ⟨order, leaves, spans⟩ i).leaves (downW kids f ⟨order, leaves, spans⟩ i).spans []))
instance walk_call {L R1 R2 R3 M : List HP} {f : Nat} {ok : Int → Prop} {i : Int} {order leaves : List Int} {spans : List Sp} {ao al : Option Addr} {no co nl cl : Nat} [hw : WalkF h b tb db nv mv kv sv kids ty f ok] [p0 : PickB L b (.cells [nv, mv, kv, .slice ao no co, .slice al nl cl, sv].toArray ty (0, 0)) R1] [p1 : PickO R1 (.slice ao no co) Int encI 1 order R2] [p2 : PickO R2 (.slice al nl cl) Int encI 1 leaves R3] [p3 : PickO R3 sv Sp encSp 2 spans M]
    [e1 : Is order.length no] [e2 : Is leaves.length nl] :
    CallT Try.prog 88 [vI i, .pointer (some ⟨tb, 0, none⟩), .pointer (some ⟨db, 0, none⟩)] h L
      (ok i ∧ spans.length = kids.length ∧ order.length + (pre kids f i).length ≤ 4294967296 ∧ leaves.length + (pre kids f i).length ≤ 4294967296) M
      (fun K => ∀ ao co al cl, K (.tuple ([] : List Value).toArray) h (WL b nv mv kv sv ty ao (downW kids f ⟨order, leaves, spans⟩ i).order.length co al (downW kids f ⟨order, leaves, spans⟩ i).leaves.length cl (downW kids f ⟨order, leaves, spans⟩ i).order (downW kids f ⟨order, leaves, spans⟩ i).leaves (downW kids f ⟨order, leaves, spans⟩ i).spans [])) :=
  ⟨fun ⟨h1, h2, h3, h4⟩ => ⟨WL b nv mv kv sv ty ao order.length co al leaves.length cl order leaves spans [], by
    have := e1.eq
    have := e2.eq
    subst_vars
    exact p0.eq.trans (List.Perm.cons _ (p1.eq.trans (List.Perm.cons _ (p2.eq.trans (List.Perm.cons _ p3.eq))))), hw.spec i order leaves spans ao co al cl h1 h2 h3 h4⟩⟩

theorem flat_take {α β : Type} [Inhabited α] (g : α → List β) (l : List α) (n : Nat) (hn : n < l.length) : ((l.take n).flatMap g).length + (g (l[n]!)).length ≤ (l.flatMap g).length := by
  conv => rhs; rw [← List.take_append_drop n l]
  rw [List.flatMap_append, List.length_append, List.drop_eq_getElem_cons hn, List.flatMap_cons, List.length_append, getElem!_pos l n hn]
  omega
theorem take_fold {α σ : Type} [Inhabited α] (g : σ → α → σ) (s : σ) (l : List α) (n : Nat) (hn : n < l.length) : (l.take (n + 1)).foldl g s = g ((l.take n).foldl g s) (l[n]!) := by
  rw [List.take_succ_eq_append_getElem hn, List.foldl_append, getElem!_pos l n hn]; rfl
theorem leaves_le {kids : List (List Int)} {f : Nat} {l : List Int} {s : WS} : (l.foldl (downW kids f) s).leaves.length ≤ s.leaves.length + (l.flatMap (pre kids f)).length := by
  rw [foldW_leaves, List.length_append]
  have := List.length_filter_le (leafK kids) (l.flatMap (pre kids f))
  omega

theorem walk_down {kvs : List Value} {tt td : TypeId} {ft fd : Nat × Nat} [ht : Pt h tb (.cells [.pointer (some ⟨b, 0, none⟩)].toArray tt ft)] [hd : Pt h db (.cells [.func (.func 88) #[] [.pointer (some ⟨tb, 0, none⟩), .pointer (some ⟨db, 0, none⟩)].toArray].toArray td fd)]
    [hk : FSl h kv encV 1 kvs] (hl : kvs.length = kids.length) (hks : ∀ i < kids.length, FSl h (kvs[i]!) encI 1 (kids[i]!)) {r : Int → Nat} (hr : ∀ i : Int, 0 ≤ i → i < kids.length → ∀ k ∈ kids[i.toNat]!, 0 ≤ k ∧ k < kids.length ∧ r k < r i) (hn : kids.length ≤ 4294967296) (hkn : ∀ i < kids.length, (kids[i]!).length ≤ 4294967296) :
    ∀ f, WalkF h b tb db nv mv kv sv kids ty f (fun i => 0 ≤ i ∧ i < kids.length ∧ r i < f) := by
  intro f
  induction f with
  | zero => exact ⟨fun i order leaves spans ao co al cl hi => by omega⟩
  | succ f ih =>
    refine ⟨fun i order leaves spans ao co al cl hi hsp hb1 hb2 => ?_⟩
    obtain ⟨hi0, hi1, hif⟩ := hi
    have hki := hks i.toNat (by omega)
    have hri := hr i hi0 hi1
    have hkni := hkn i.toNat (by omega)
    have hpl : (pre kids (f + 1) i).length = 1 + ((kids[i.toNat]!).flatMap (pre kids f)).length := by simp [pre]; omega
    refine spec_enter Try.func88 rfl Try.ntmps88 Try.results88 (by simp) fun K R hT => ?_
    repeat (first | refine GDraw_O (.slice ao order.length co) (by decide +kernel) ?_ | refine Step.imp ?_ | refine Side.mk (by first | exact True.intro | omega | exact ⟨trivial, rfl⟩ | exact ⟨by omega, trivial, rfl⟩ | exact ⟨by omega, rfl⟩ | exact ⟨by omega, by omega, rfl⟩ | (simp only [List.length_cons, List.length_nil, List.length_append]; done) | (simp only [List.length_cons, List.length_nil, List.length_append]; omega) | decide +kernel) ?_ | refine GDraw_one (by decide +kernel) ?_ | refine New.mk fun _ => ?_ | refine NewS.mk fun _ _ => ?_)
    rename_i b0 ao1 co1
    have hor : ∀ n (s1 : WS), (((kids[i.toNat]!).take n).foldl (downW kids f) s1).order.length = s1.order.length + (((kids[i.toNat]!).take n).flatMap (pre kids f)).length := fun n s1 => by rw [foldW_order, List.length_append]
    refine ⟨fun hz => ?_, fun hz => ?_⟩
    · repeat (first | refine GDraw_O (.slice al leaves.length cl) (by decide +kernel) ?_ | refine Step.imp ?_ | refine Side.mk (by first | exact True.intro | omega | exact ⟨trivial, rfl⟩ | exact ⟨by omega, trivial, rfl⟩ | exact ⟨by omega, rfl⟩ | exact ⟨by omega, by omega, rfl⟩ | (simp only [List.length_cons, List.length_nil, List.length_append]; done) | (simp only [List.length_cons, List.length_nil, List.length_append]; omega) | decide +kernel) ?_ | refine GDraw_one (by decide +kernel) ?_ | refine New.mk fun _ => ?_ | refine NewS.mk fun _ _ => ?_)
      rename_i bx al1 cl1
      obtain ⟨s1, hs1⟩ : ∃ s1, s1 = openW kids ⟨order, leaves, spans⟩ i := ⟨_, rfl⟩
      have hs1' : s1 = ⟨order ++ [i], leaves ++ [i], spans.set i.toNat ⟨leaves.length, (spans[i.toNat]!).to⟩⟩ := by rw [hs1, openW, if_pos (by omega)]
      have hs1o : s1.order.length = order.length + 1 := by rw [hs1']; simp
      have hs1l : s1.leaves.length ≤ leaves.length + 1 := by rw [hs1']; simp
      have hs1s : s1.spans.length = kids.length := by rw [hs1']; simp [hsp]
      refine G_loop (σ := Nat × (Option Addr × Nat) × (Option Addr × Nat)) (fun s => s.1 ≤ (kids[i.toNat]!).length) (fun s => (kids[i.toNat]!).length - s.1)
        (fun s => [(55, vI s.1), (54, vI (kids[i.toNat]!).length), (53, kvs[i.toNat]!), (0, vI i), (1, .pointer (some ⟨tb, 0, none⟩)), (2, .pointer (some ⟨db, 0, none⟩))]) (fun _ => h)
        (fun s => WL b nv mv kv sv ty s.2.1.1 (((kids[i.toNat]!).take s.1).foldl (downW kids f) s1).order.length s.2.1.2 s.2.2.1 (((kids[i.toNat]!).take s.1).foldl (downW kids f) s1).leaves.length s.2.2.2 (((kids[i.toNat]!).take s.1).foldl (downW kids f) s1).order (((kids[i.toNat]!).take s.1).foldl (downW kids f) s1).leaves (((kids[i.toNat]!).take s.1).foldl (downW kids f) s1).spans R)
        (0, (ao1, co1), (al1, cl1)) (Nat.zero_le _) ⟨rfl, rfl, rfl, rfl, rfl, rfl, trivial⟩ rfl ?_ ?_
      · simp only [List.take_zero, List.foldl_nil, hs1', List.length_append, List.length_cons, List.length_nil, Nat.zero_add]
        infer_instance
      rintro ⟨n, ⟨ao, co⟩, ⟨al, cl⟩⟩ hn1
      simp only at hn1 ⊢
      have hF := hor n s1
      have hFl := leaves_le (kids := kids) (f := f) (l := (kids[i.toNat]!).take n) (s := s1)
      have hFs := foldW_spans kids f ((kids[i.toNat]!).take n) s1
      repeat (first | refine Step.imp ?_ | refine Side.mk (by first | exact True.intro | omega | exact ⟨trivial, rfl⟩ | exact ⟨by omega, trivial, rfl⟩ | exact ⟨by omega, rfl⟩ | exact ⟨by omega, by omega, rfl⟩ | (simp only [List.length_cons, List.length_nil, List.length_append]; done) | (simp only [List.length_cons, List.length_nil, List.length_append]; omega) | decide +kernel) ?_ | refine GDraw_one (by decide +kernel) ?_ | refine New.mk fun _ => ?_ | refine NewS.mk fun _ _ => ?_)
      refine ⟨fun hlt => ?_, fun hge => ?_⟩
      · have hft := flat_take (pre kids f) (kids[i.toNat]!) n (by omega)
        have hfd := take_fold (downW kids f) s1 (kids[i.toNat]!) n (by omega)
        have hrk := hri ((kids[i.toNat]!)[n]!) (by rw [getElem!_pos _ n (by omega)]; exact List.getElem_mem _)
        repeat (first | refine Step.imp ?_ | refine Side.mk (by first | exact True.intro | omega | exact ⟨trivial, rfl⟩ | exact ⟨by omega, trivial, rfl⟩ | exact ⟨by omega, rfl⟩ | exact ⟨by omega, by omega, rfl⟩ | (simp only [List.length_cons, List.length_nil, List.length_append]; done) | (simp only [List.length_cons, List.length_nil, List.length_append]; omega) | decide +kernel) ?_ | refine GDraw_one (by decide +kernel) ?_ | refine New.mk fun _ => ?_ | refine NewS.mk fun _ _ => ?_)
        intro ao' co' al' cl'
        repeat (first | refine Step.imp ?_ | refine Side.mk (by first | exact True.intro | omega | exact ⟨trivial, rfl⟩ | exact ⟨by omega, trivial, rfl⟩ | exact ⟨by omega, rfl⟩ | exact ⟨by omega, by omega, rfl⟩ | (simp only [List.length_cons, List.length_nil, List.length_append]; done) | (simp only [List.length_cons, List.length_nil, List.length_append]; omega) | decide +kernel) ?_ | refine GDraw_one (by decide +kernel) ?_ | refine New.mk fun _ => ?_ | refine NewS.mk fun _ _ => ?_)
        refine X_round (n + 1, (ao', co'), (al', cl')) ?_ ?_ ?_ ?_ ?_
        · show n + 1 ≤ (kids[i.toNat]!).length
          omega
        · show (kids[i.toNat]!).length - (n + 1) < (kids[i.toNat]!).length - n
          omega
        · exact ⟨rfl, rfl, rfl, rfl, rfl, rfl, trivial⟩
        · rfl
        · simp only [hfd]
          infer_instance
      · have hn2 : n = (kids[i.toNat]!).length := by omega
        subst hn2
        simp only [List.take_length] at hF hFl hFs ⊢
        simp only [downW, closeW] at hT
        rw [← hs1] at hT
        repeat (first | refine Step.imp ?_ | refine Side.mk (by first | exact True.intro | omega | exact ⟨trivial, rfl⟩ | exact ⟨by omega, trivial, rfl⟩ | exact ⟨by omega, rfl⟩ | exact ⟨by omega, by omega, rfl⟩ | (simp only [List.length_cons, List.length_nil, List.length_append]; done) | (simp only [List.length_cons, List.length_nil, List.length_append]; omega) | decide +kernel) ?_ | refine GDraw_one (by decide +kernel) ?_ | refine New.mk fun _ => ?_ | refine NewS.mk fun _ _ => ?_)
        exact Fin.val (hT ao co al cl) rfl (Hle.refl _)
    · repeat (first | refine Step.imp ?_ | refine Side.mk (by first | exact True.intro | omega | exact ⟨trivial, rfl⟩ | exact ⟨by omega, trivial, rfl⟩ | exact ⟨by omega, rfl⟩ | exact ⟨by omega, by omega, rfl⟩ | (simp only [List.length_cons, List.length_nil, List.length_append]; done) | (simp only [List.length_cons, List.length_nil, List.length_append]; omega) | decide +kernel) ?_ | refine GDraw_one (by decide +kernel) ?_ | refine New.mk fun _ => ?_ | refine NewS.mk fun _ _ => ?_)
      obtain ⟨s1, hs1⟩ : ∃ s1, s1 = openW kids ⟨order, leaves, spans⟩ i := ⟨_, rfl⟩
      have hs1' : s1 = ⟨order ++ [i], leaves, spans.set i.toNat ⟨leaves.length, (spans[i.toNat]!).to⟩⟩ := by rw [hs1, openW, if_neg (by omega)]
      have hs1o : s1.order.length = order.length + 1 := by rw [hs1']; simp
      have hs1l : s1.leaves.length ≤ leaves.length + 1 := by rw [hs1']; simp
      have hs1s : s1.spans.length = kids.length := by rw [hs1']; simp [hsp]
      refine G_loop (σ := Nat × (Option Addr × Nat) × (Option Addr × Nat)) (fun s => s.1 ≤ (kids[i.toNat]!).length) (fun s => (kids[i.toNat]!).length - s.1)
        (fun s => [(55, vI s.1), (54, vI (kids[i.toNat]!).length), (53, kvs[i.toNat]!), (0, vI i), (1, .pointer (some ⟨tb, 0, none⟩)), (2, .pointer (some ⟨db, 0, none⟩))]) (fun _ => h)
        (fun s => WL b nv mv kv sv ty s.2.1.1 (((kids[i.toNat]!).take s.1).foldl (downW kids f) s1).order.length s.2.1.2 s.2.2.1 (((kids[i.toNat]!).take s.1).foldl (downW kids f) s1).leaves.length s.2.2.2 (((kids[i.toNat]!).take s.1).foldl (downW kids f) s1).order (((kids[i.toNat]!).take s.1).foldl (downW kids f) s1).leaves (((kids[i.toNat]!).take s.1).foldl (downW kids f) s1).spans R)
        (0, (ao1, co1), (al, cl)) (Nat.zero_le _) ⟨rfl, rfl, rfl, rfl, rfl, rfl, trivial⟩ rfl ?_ ?_
      · simp only [List.take_zero, List.foldl_nil, hs1', List.length_append, List.length_cons, List.length_nil, Nat.zero_add]
        infer_instance
      rintro ⟨n, ⟨ao, co⟩, ⟨al, cl⟩⟩ hn1
      simp only at hn1 ⊢
      have hF := hor n s1
      have hFl := leaves_le (kids := kids) (f := f) (l := (kids[i.toNat]!).take n) (s := s1)
      have hFs := foldW_spans kids f ((kids[i.toNat]!).take n) s1
      repeat (first | refine Step.imp ?_ | refine Side.mk (by first | exact True.intro | omega | exact ⟨trivial, rfl⟩ | exact ⟨by omega, trivial, rfl⟩ | exact ⟨by omega, rfl⟩ | exact ⟨by omega, by omega, rfl⟩ | (simp only [List.length_cons, List.length_nil, List.length_append]; done) | (simp only [List.length_cons, List.length_nil, List.length_append]; omega) | decide +kernel) ?_ | refine GDraw_one (by decide +kernel) ?_ | refine New.mk fun _ => ?_ | refine NewS.mk fun _ _ => ?_)
      refine ⟨fun hlt => ?_, fun hge => ?_⟩
      · have hft := flat_take (pre kids f) (kids[i.toNat]!) n (by omega)
        have hfd := take_fold (downW kids f) s1 (kids[i.toNat]!) n (by omega)
        have hrk := hri ((kids[i.toNat]!)[n]!) (by rw [getElem!_pos _ n (by omega)]; exact List.getElem_mem _)
        repeat (first | refine Step.imp ?_ | refine Side.mk (by first | exact True.intro | omega | exact ⟨trivial, rfl⟩ | exact ⟨by omega, trivial, rfl⟩ | exact ⟨by omega, rfl⟩ | exact ⟨by omega, by omega, rfl⟩ | (simp only [List.length_cons, List.length_nil, List.length_append]; done) | (simp only [List.length_cons, List.length_nil, List.length_append]; omega) | decide +kernel) ?_ | refine GDraw_one (by decide +kernel) ?_ | refine New.mk fun _ => ?_ | refine NewS.mk fun _ _ => ?_)
        intro ao' co' al' cl'
        repeat (first | refine Step.imp ?_ | refine Side.mk (by first | exact True.intro | omega | exact ⟨trivial, rfl⟩ | exact ⟨by omega, trivial, rfl⟩ | exact ⟨by omega, rfl⟩ | exact ⟨by omega, by omega, rfl⟩ | (simp only [List.length_cons, List.length_nil, List.length_append]; done) | (simp only [List.length_cons, List.length_nil, List.length_append]; omega) | decide +kernel) ?_ | refine GDraw_one (by decide +kernel) ?_ | refine New.mk fun _ => ?_ | refine NewS.mk fun _ _ => ?_)
        refine X_round (n + 1, (ao', co'), (al', cl')) ?_ ?_ ?_ ?_ ?_
        · show n + 1 ≤ (kids[i.toNat]!).length
          omega
        · show (kids[i.toNat]!).length - (n + 1) < (kids[i.toNat]!).length - n
          omega
        · exact ⟨rfl, rfl, rfl, rfl, rfl, rfl, trivial⟩
        · rfl
        · simp only [hfd]
          infer_instance
      · have hn2 : n = (kids[i.toNat]!).length := by omega
        subst hn2
        simp only [List.take_length] at hF hFl hFs ⊢
        simp only [downW, closeW] at hT
        rw [← hs1] at hT
        repeat (first | refine Step.imp ?_ | refine Side.mk (by first | exact True.intro | omega | exact ⟨trivial, rfl⟩ | exact ⟨by omega, trivial, rfl⟩ | exact ⟨by omega, rfl⟩ | exact ⟨by omega, by omega, rfl⟩ | (simp only [List.length_cons, List.length_nil, List.length_append]; done) | (simp only [List.length_cons, List.length_nil, List.length_append]; omega) | decide +kernel) ?_ | refine GDraw_one (by decide +kernel) ?_ | refine New.mk fun _ => ?_ | refine NewS.mk fun _ _ => ?_)
        exact Fin.val (hT ao co al cl) rfl (Hle.refl _)

def rootsTo (nodes : List Nd) (n : Nat) : List Int := ((List.range n).filter (fun j => decide ((nodes[j]!).up < 0))).map (fun (j : Nat) => (j : Int))
theorem rootsTo_succ (nodes : List Nd) (n : Nat) : rootsTo nodes (n + 1) = if (nodes[n]!).up < 0 then rootsTo nodes n ++ [(n : Int)] else rootsTo nodes n := by
  unfold rootsTo
  rw [List.range_succ, List.filter_append]
  by_cases hn : (nodes[n]!).up < 0 <;> simp only [List.filter_cons, hn, decide_true, decide_false, if_true, if_false, List.filter_nil, List.map_append, List.map_cons, List.map_nil, List.append_nil, Bool.false_eq_true]
theorem roots_len (kids : List (List Int)) (nodes : List Nd) (f : Nat) {n m : Nat} (h : n ≤ m) : ((rootsTo nodes n).flatMap (pre kids f)).length ≤ ((rootsTo nodes m).flatMap (pre kids f)).length := by
  induction m with
  | zero => have : n = 0 := by omega
            subst this; exact Nat.le_refl _
  | succ m ih =>
    rcases Nat.lt_or_ge n (m + 1) with h1 | h1
    · have := ih (by omega)
      rw [rootsTo_succ]
      split
      · rw [List.flatMap_append, List.length_append]; omega
      · exact this
    · have : n = m + 1 := by omega
      subst this; exact Nat.le_refl _
def finalW (kids : List (List Int)) (nodes : List Nd) (f : Nat) (spans : List Sp) (n : Nat) : WS := (rootsTo nodes n).foldl (downW kids f) ⟨[], [], spans⟩
theorem walk_own {kvs : List Value} {nodes : List Nd} {spans : List Sp} {L : List HP} [hnn : FSl h nv encNd 2 nodes] [hk : FSl h kv encV 1 kvs] (hl : kvs.length = kids.length) (hks : ∀ i < kids.length, FSl h (kvs[i]!) encI 1 (kids[i]!)) {r : Int → Nat} (hr : ∀ i : Int, 0 ≤ i → i < kids.length → ∀ k ∈ kids[i.toNat]!, 0 ≤ k ∧ k < kids.length ∧ r k < r i)
    (hn : kids.length ≤ 4294967296) (hkn : ∀ i < kids.length, (kids[i]!).length ≤ 4294967296) (hnk : nodes.length = kids.length) (hsp : spans.length = kids.length) {f : Nat} (hf : ∀ i : Int, 0 ≤ i → i < kids.length → r i < f) (htot : ((rootsTo nodes nodes.length).flatMap (pre kids f)).length ≤ 4294967296) :
    Spec Try.prog 63 [.pointer (some ⟨b, 0, none⟩)] h (blk b (.cells [nv, mv, kv, .slice none 0 0, .slice none 0 0, sv].toArray ty (0, 0)) :: slo encSp 2 sv spans :: L)
      (fun K => ∀ h' ov lv, Hle h h' → Pt h' b (.cells [nv, mv, kv, ov, lv, sv].toArray ty (0, 0)) → FSl h' ov encI 1 (finalW kids nodes f spans nodes.length).order → FSl h' lv encI 1 (finalW kids nodes f spans nodes.length).leaves → FSl h' sv encSp 2 (finalW kids nodes f spans nodes.length).spans → K (.tuple ([] : List Value).toArray) h' L) := by
  refine spec_enter Try.func63 rfl Try.ntmps63 Try.results63 (by simp) fun K R hT => ?_
  refine Step.imp ?_
  refine G_nil encI 1 none ?_
  refine G_nil encI 1 none ?_
  repeat (first | refine Step.imp ?_ | refine Side.mk (by first | exact True.intro | omega | exact ⟨trivial, rfl⟩ | exact ⟨by omega, trivial, rfl⟩ | exact ⟨by omega, rfl⟩ | exact ⟨by omega, by omega, rfl⟩ | (simp only [List.length_cons, List.length_nil, List.length_append]; done) | (simp only [List.length_cons, List.length_nil, List.length_append]; omega) | decide +kernel) ?_ | refine GDraw_one (by decide +kernel) ?_ | refine New.mk fun _ => ?_ | refine NewS.mk fun _ _ => ?_)
  rename_i tb db
  refine G_freezeB db fun h1 le1 fz1 => ?_
  refine G_freezeB tb fun h2 le2 fz2 => ?_
  have hl1 := le1.le
  have hl2 := le2.le
  haveI hw := walk_down (h := h2) (b := b) (tb := tb) (db := db) (nv := nv) (mv := mv) (kv := kv) (sv := sv) (ty := ty) hl (fun i hi => FSl.mono (hl1.trans hl2) (hks i hi)) hr hn hkn f
  have hor : ∀ n, (finalW kids nodes f spans n).order.length = ((rootsTo nodes n).flatMap (pre kids f)).length := fun n => by unfold finalW; rw [foldW_order, List.length_append]; simp
  have hle : ∀ n, (finalW kids nodes f spans n).leaves.length ≤ ((rootsTo nodes n).flatMap (pre kids f)).length := fun n => by unfold finalW; have := leaves_le (kids := kids) (f := f) (l := rootsTo nodes n) (s := ⟨[], [], spans⟩); simpa using this
  have hsl : ∀ n, (finalW kids nodes f spans n).spans.length = kids.length := fun n => by unfold finalW; rw [foldW_spans]; exact hsp
  refine G_loop (σ := Nat × (Option Addr × Nat) × (Option Addr × Nat)) (fun s => s.1 ≤ nodes.length) (fun s => nodes.length - s.1)
    (fun s => [(11, vI s.1), (10, vI nodes.length), (9, nv), (1, .pointer (some ⟨tb, 0, none⟩)), (2, .pointer (some ⟨db, 0, none⟩))]) (fun _ => h2)
    (fun s => WL b nv mv kv sv ty s.2.1.1 (finalW kids nodes f spans s.1).order.length s.2.1.2 s.2.2.1 (finalW kids nodes f spans s.1).leaves.length s.2.2.2 (finalW kids nodes f spans s.1).order (finalW kids nodes f spans s.1).leaves (finalW kids nodes f spans s.1).spans (L ++ R))
    (0, (none, 0), (none, 0)) (Nat.zero_le _) ⟨rfl, rfl, rfl, rfl, rfl, trivial⟩ rfl ?_ ?_
  · show Sub _ (WL b nv mv kv sv ty none 0 0 none 0 0 [] [] spans (L ++ R))
    infer_instance
  rintro ⟨n, ⟨ao, co⟩, ⟨al, cl⟩⟩ hn1
  simp only at hn1 ⊢
  have h3 := hor n
  have h4 := hle n
  have h5 := hsl n
  repeat (first | refine Step.imp ?_ | refine Side.mk (by first | exact True.intro | omega | exact ⟨trivial, rfl⟩ | exact ⟨by omega, trivial, rfl⟩ | exact ⟨by omega, rfl⟩ | exact ⟨by omega, by omega, rfl⟩ | (simp only [List.length_cons, List.length_nil, List.length_append]; done) | (simp only [List.length_cons, List.length_nil, List.length_append]; omega) | decide +kernel) ?_ | refine GDraw_one (by decide +kernel) ?_ | refine New.mk fun _ => ?_ | refine NewS.mk fun _ _ => ?_)
  refine ⟨fun hlt => ?_, fun hge => ?_⟩
  · have hfs : (nodes[n]!).up < 0 → finalW kids nodes f spans (n + 1) = downW kids f (finalW kids nodes f spans n) n := fun hx => by unfold finalW; rw [rootsTo_succ, if_pos hx, List.foldl_append]; rfl
    have hfn : ¬ (nodes[n]!).up < 0 → finalW kids nodes f spans (n + 1) = finalW kids nodes f spans n := fun hx => by unfold finalW; rw [rootsTo_succ, if_neg hx]
    have hrl := roots_len kids nodes f (n := n + 1) (m := nodes.length) (by omega)
    have hrs : (nodes[n]!).up < 0 → ((rootsTo nodes (n + 1)).flatMap (pre kids f)).length = ((rootsTo nodes n).flatMap (pre kids f)).length + (pre kids f n).length := fun hx => by rw [rootsTo_succ, if_pos hx, List.flatMap_append, List.length_append]; simp
    have hfr := hf n (by omega) (by omega)
    repeat (first | refine Step.imp ?_ | refine Side.mk (by first | exact True.intro | omega | exact ⟨trivial, rfl⟩ | exact ⟨by omega, trivial, rfl⟩ | exact ⟨by omega, rfl⟩ | exact ⟨by omega, by omega, rfl⟩ | (simp only [List.length_cons, List.length_nil, List.length_append]; done) | (simp only [List.length_cons, List.length_nil, List.length_append]; omega) | decide +kernel) ?_ | refine GDraw_one (by decide +kernel) ?_ | refine New.mk fun _ => ?_ | refine NewS.mk fun _ _ => ?_)
    refine ⟨fun hx => ?_, fun hx => ?_⟩
    · have hrs := hrs hx
      repeat (first | refine Step.imp ?_ | refine Side.mk (by first | exact True.intro | omega | exact ⟨trivial, rfl⟩ | exact ⟨by omega, trivial, rfl⟩ | exact ⟨by omega, rfl⟩ | exact ⟨by omega, by omega, rfl⟩ | (simp only [List.length_cons, List.length_nil, List.length_append]; done) | (simp only [List.length_cons, List.length_nil, List.length_append]; omega) | decide +kernel) ?_ | refine GDraw_one (by decide +kernel) ?_ | refine New.mk fun _ => ?_ | refine NewS.mk fun _ _ => ?_)
      intro ao' co' al' cl'
      repeat (first | refine Step.imp ?_ | refine Side.mk (by first | exact True.intro | omega | exact ⟨trivial, rfl⟩ | exact ⟨by omega, trivial, rfl⟩ | exact ⟨by omega, rfl⟩ | exact ⟨by omega, by omega, rfl⟩ | (simp only [List.length_cons, List.length_nil, List.length_append]; done) | (simp only [List.length_cons, List.length_nil, List.length_append]; omega) | decide +kernel) ?_ | refine GDraw_one (by decide +kernel) ?_ | refine New.mk fun _ => ?_ | refine NewS.mk fun _ _ => ?_)
      refine X_round (n + 1, (ao', co'), (al', cl')) ?_ ?_ ?_ ?_ ?_
      · show n + 1 ≤ nodes.length
        omega
      · show nodes.length - (n + 1) < nodes.length - n
        omega
      · exact ⟨rfl, rfl, rfl, rfl, rfl, trivial⟩
      · rfl
      · simp only [hfs hx]
        infer_instance
    · repeat (first | refine Step.imp ?_ | refine Side.mk (by first | exact True.intro | omega | exact ⟨trivial, rfl⟩ | exact ⟨by omega, trivial, rfl⟩ | exact ⟨by omega, rfl⟩ | exact ⟨by omega, by omega, rfl⟩ | (simp only [List.length_cons, List.length_nil, List.length_append]; done) | (simp only [List.length_cons, List.length_nil, List.length_append]; omega) | decide +kernel) ?_ | refine GDraw_one (by decide +kernel) ?_ | refine New.mk fun _ => ?_ | refine NewS.mk fun _ _ => ?_)
      refine X_round (n + 1, (ao, co), (al, cl)) ?_ ?_ ?_ ?_ ?_
      · show n + 1 ≤ nodes.length
        omega
      · show nodes.length - (n + 1) < nodes.length - n
        omega
      · exact ⟨rfl, rfl, rfl, rfl, rfl, trivial⟩
      · rfl
      · simp only [hfn hx]
        infer_instance
  · have hn2 : n = nodes.length := by omega
    subst hn2
    refine G_freezeB b fun h6 le6 f6 => ?_
    refine G_freezeS (.slice ao (finalW kids nodes f spans nodes.length).order.length co) fun h7 le7 f7 => ?_
    refine G_freezeS (.slice al (finalW kids nodes f spans nodes.length).leaves.length cl) fun h8 le8 f8 => ?_
    refine G_freezeS sv fun h9 le9 f9 => ?_
    have hle9 := (((hl1.trans hl2).trans le6.le).trans le7.le).trans (le8.le.trans le9.le)
    have hfin := hT h9 _ _ hle9 (Pt.mono le9.le (Pt.mono le8.le (Pt.mono le7.le f6))) (FSl.mono le9.le (FSl.mono le8.le f7)) (FSl.mono le9.le f8) f9
    repeat (first | refine Step.imp ?_ | refine Side.mk (by first | exact True.intro | omega | exact ⟨trivial, rfl⟩ | exact ⟨by omega, trivial, rfl⟩ | exact ⟨by omega, rfl⟩ | exact ⟨by omega, by omega, rfl⟩ | (simp only [List.length_cons, List.length_nil, List.length_append]; done) | (simp only [List.length_cons, List.length_nil, List.length_append]; omega) | decide +kernel) ?_ | refine GDraw_one (by decide +kernel) ?_ | refine New.mk fun _ => ?_ | refine NewS.mk fun _ _ => ?_)
    exact Fin.val hfin rfl hle9
end
end Go.Sl

/-
  A tree that is made: what is asked of its members, one after another.
-/
namespace Go.Sl
open Go.Proofs
set_option linter.unusedVariables false
set_option linter.unusedSimpArgs false
set_option maxRecDepth 10000
set_option synthInstance.maxSize 2000
set_option synthInstance.maxHeartbeats 200000
set_option maxHeartbeats 1000000
def ckStep (nodes : List Nd) (s i : Nat) : Int := if s = 0 then ckName nodes i else if s = 1 then ckTwice nodes i else if s = 2 then ckRange nodes i else if s = 3 then ckLoop nodes i else ckDeep nodes i
section
variable {h : PHeap} {b : Nat} {nodes : List Nd} {nv : Value} {rest : List Value} {ty : TypeId} {fr : Nat × Nat}
instance once_call {L R : List HP} {i mb : Nat} {m : List (ByteArray × Value)} [hp0 : Rdb L h b (.cells (nv :: .map (some mb) :: rest).toArray ty fr)] [p : PickMp L mb m R] [hp : Rdb R h b (.cells (nv :: .map (some mb) :: rest).toArray ty fr)] [hn : FSl h nv encNd 2 nodes] :
    CallT Try.prog 84 [.pointer (some ⟨b, 0, none⟩), vI i] h L (i < nodes.length ∧ m = namesTo nodes i) [] (fun K => K (vI (ckTwice nodes i)) h (mapO mb (if ckTwice nodes i = 0 then namesTo nodes (i + 1) else namesTo nodes i) :: R)) :=
  ⟨fun ⟨hi, hm⟩ => ⟨mapO mb m :: R, by rw [List.append_nil]; exact p.eq, by subst hm; exact once_own hi⟩⟩
/-- The names that a check leaves. -/
def mapAft (nodes : List Nd) (s i : Nat) (m : List (ByteArray × Value)) : List (ByteArray × Value) := if s = 1 ∧ ckTwice nodes i = 0 then namesTo nodes (i + 1) else m
theorem wrong_own {L : List HP} {s i mb : Nat} {m : List (ByteArray × Value)} [hp : Rdb L h b (.cells (nv :: .map (some mb) :: rest).toArray ty fr)] [hn : FSl h nv encNd 2 nodes] (hi : i < nodes.length) (h32 : nodes.length ≤ 32) (hs : s < 5) (h3 : 3 ≤ s → UpsIn nodes) (h4 : 4 ≤ s → Acyc nodes) (hm : s = 1 → m = namesTo nodes i) :
    Spec Try.prog 62 [.pointer (some ⟨b, 0, none⟩), vI s, vI i] h (mapO mb m :: L) (fun K => K (vI (ckStep nodes s i)) h (mapO mb (mapAft nodes s i m) :: L)) := by
  have hcase : s = 0 ∨ s = 1 ∨ s = 2 ∨ s = 3 ∨ s = 4 := by omega
  have hma : s ≠ 1 → mapAft nodes s i m = m := fun h => by unfold mapAft; simp [h]
  rcases hcase with rfl | rfl | rfl | rfl | rfl
  · rw [hma (by omega)]
    refine spec_enter Try.func62 rfl Try.ntmps62 Try.results62 (by simp) fun K R hT => ?_
    repeat' (first | refine Step.imp ?_ | refine Side.mk (by first | exact True.intro | omega | exact ⟨trivial, rfl⟩ | exact ⟨by omega, trivial, rfl⟩ | exact ⟨by omega, rfl⟩ | exact ⟨by omega, by omega, rfl⟩ | (simp only [List.length_cons, List.length_nil, List.length_append]; done) | (simp only [List.length_cons, List.length_nil, List.length_append]; omega) | decide +kernel) ?_ | refine GDraw_one (by decide +kernel) ?_ | refine New.mk fun _ => ?_ | refine NewS.mk fun _ _ => ?_ | refine Ways.mk (fun _ => ?_) (fun _ => ?_))
    all_goals first | exact Fin.val hT rfl (Hle.refl _) | (exfalso; omega)
  · have hm := hm rfl
    subst hm
    have hma : mapAft nodes 1 i (namesTo nodes i) = (if ckTwice nodes i = 0 then namesTo nodes (i + 1) else namesTo nodes i) := by unfold mapAft; simp
    rw [hma]
    refine spec_enter Try.func62 rfl Try.ntmps62 Try.results62 (by simp) fun K R hT => ?_
    repeat' (first | refine Step.imp ?_ | refine Side.mk (by first | exact True.intro | omega | exact ⟨trivial, rfl⟩ | exact ⟨by omega, trivial, rfl⟩ | exact ⟨by omega, rfl⟩ | exact ⟨by omega, by omega, rfl⟩ | (simp only [List.length_cons, List.length_nil, List.length_append]; done) | (simp only [List.length_cons, List.length_nil, List.length_append]; omega) | decide +kernel) ?_ | refine GDraw_one (by decide +kernel) ?_ | refine New.mk fun _ => ?_ | refine NewS.mk fun _ _ => ?_ | refine Ways.mk (fun _ => ?_) (fun _ => ?_))
    all_goals first | exact Fin.val hT rfl (Hle.refl _) | (exfalso; omega)
  · rw [hma (by omega)]
    refine spec_enter Try.func62 rfl Try.ntmps62 Try.results62 (by simp) fun K R hT => ?_
    repeat' (first | refine Step.imp ?_ | refine Side.mk (by first | exact True.intro | omega | exact ⟨trivial, rfl⟩ | exact ⟨by omega, trivial, rfl⟩ | exact ⟨by omega, rfl⟩ | exact ⟨by omega, by omega, rfl⟩ | (simp only [List.length_cons, List.length_nil, List.length_append]; done) | (simp only [List.length_cons, List.length_nil, List.length_append]; omega) | decide +kernel) ?_ | refine GDraw_one (by decide +kernel) ?_ | refine New.mk fun _ => ?_ | refine NewS.mk fun _ _ => ?_ | refine Ways.mk (fun _ => ?_) (fun _ => ?_))
    all_goals first | exact Fin.val hT rfl (Hle.refl _) | (exfalso; omega)
  · rw [hma (by omega)]
    haveI := h3 (by omega)
    refine spec_enter Try.func62 rfl Try.ntmps62 Try.results62 (by simp) fun K R hT => ?_
    repeat' (first | refine Step.imp ?_ | refine Side.mk (by first | exact True.intro | omega | exact ⟨trivial, rfl⟩ | exact ⟨by omega, trivial, rfl⟩ | exact ⟨by omega, rfl⟩ | exact ⟨by omega, by omega, rfl⟩ | (simp only [List.length_cons, List.length_nil, List.length_append]; done) | (simp only [List.length_cons, List.length_nil, List.length_append]; omega) | decide +kernel) ?_ | refine GDraw_one (by decide +kernel) ?_ | refine New.mk fun _ => ?_ | refine NewS.mk fun _ _ => ?_ | refine Ways.mk (fun _ => ?_) (fun _ => ?_))
    all_goals first | exact Fin.val hT rfl (Hle.refl _) | (exfalso; omega)
  · rw [hma (by omega)]
    haveI := h4 (by omega)
    refine spec_enter Try.func62 rfl Try.ntmps62 Try.results62 (by simp) fun K R hT => ?_
    repeat' (first | refine Step.imp ?_ | refine Side.mk (by first | exact True.intro | omega | exact ⟨trivial, rfl⟩ | exact ⟨by omega, trivial, rfl⟩ | exact ⟨by omega, rfl⟩ | exact ⟨by omega, by omega, rfl⟩ | (simp only [List.length_cons, List.length_nil, List.length_append]; done) | (simp only [List.length_cons, List.length_nil, List.length_append]; omega) | decide +kernel) ?_ | refine GDraw_one (by decide +kernel) ?_ | refine New.mk fun _ => ?_ | refine NewS.mk fun _ _ => ?_ | refine Ways.mk (fun _ => ?_) (fun _ => ?_))
    all_goals first | exact Fin.val hT rfl (Hle.refl _) | (exfalso; omega)
instance wrong_call {L R : List HP} {s i mb : Nat} {m : List (ByteArray × Value)} [hp0 : Rdb L h b (.cells (nv :: .map (some mb) :: rest).toArray ty fr)] [p : PickMp L mb m R] [hp : Rdb R h b (.cells (nv :: .map (some mb) :: rest).toArray ty fr)] [hn : FSl h nv encNd 2 nodes] :
    CallT Try.prog 62 [.pointer (some ⟨b, 0, none⟩), vI s, vI i] h L (i < nodes.length ∧ nodes.length ≤ 32 ∧ s < 5 ∧ (3 ≤ s → UpsIn nodes) ∧ (4 ≤ s → Acyc nodes) ∧ (s = 1 → m = namesTo nodes i)) [] (fun K => K (vI (ckStep nodes s i)) h (mapO mb (mapAft nodes s i m) :: R)) :=
  ⟨fun ⟨h1, h2, h3, h4, h5, h6⟩ => ⟨mapO mb m :: R, by rw [List.append_nil]; exact p.eq, wrong_own h1 h2 h3 h4 h5 h6⟩⟩
end
end Go.Sl

/-
  Plain facts on members above each other: no loops, depths, what is below, counts.
-/
namespace Go.Sl
open Go.Proofs
set_option linter.unusedVariables false
set_option linter.unusedSimpArgs false
set_option maxRecDepth 10000
set_option synthInstance.maxSize 2000
set_option synthInstance.maxHeartbeats 200000
set_option maxHeartbeats 1000000
def upF (nodes : List Nd) (k : Int) : Int := (nodes[k.toNat]!).up
def iterF (nodes : List Nd) : Nat → Int → Int
  | 0, k => k
  | t + 1, k => iterF nodes t (upF nodes k)
theorem iterF_add (nodes : List Nd) : ∀ (a b : Nat) (k : Int), iterF nodes (a + b) k = iterF nodes b (iterF nodes a k)
  | 0, b, k => by rw [Nat.zero_add]; rfl
  | a + 1, b, k => by rw [Nat.add_right_comm]; exact iterF_add nodes a b _
theorem chase_of (nodes : List Nd) (i : Int) : ∀ (f m : Nat) (k : Int), m < f → iterF nodes m k = i → (∀ t ≤ m, 0 ≤ iterF nodes t k) → chase nodes i f k = true
  | 0, _, _, h, _, _ => by omega
  | f + 1, m, k, h, he, hp => by
    have h0 := hp 0 (by omega)
    simp only [iterF] at h0
    unfold chase
    rw [if_neg (by omega)]
    split
    · rfl
    · rename_i hne
      cases m with
      | zero => exact absurd he hne
      | succ m => exact chase_of nodes i f m _ (by omega) he (fun t ht => hp (t + 1) (by omega))
theorem nodup_len : ∀ (n : Nat) (l : List Int), l.Nodup → (∀ x ∈ l, 0 ≤ x ∧ x < n) → l.length ≤ n
  | 0, l, _, h => by
    cases l with
    | nil => simp
    | cons x l => have := h x (by simp); omega
  | n + 1, l, hd, h => by
    by_cases hm : (n : Int) ∈ l
    · have h1 := nodup_len n (l.erase n) (hd.erase _) (fun x hx => by
        have h2 := h x (List.mem_of_mem_erase hx)
        have h3 : x ≠ n := fun e => by subst e; exact (hd.not_mem_erase) hx
        omega)
      rw [List.length_erase_of_mem hm] at h1; omega
    · have h1 := nodup_len n l hd (fun x hx => by
        have h2 := h x hx
        have h3 : x ≠ n := fun e => by subst e; exact hm hx
        omega)
      omega
theorem dup_of_long (n : Nat) (g : Nat → Int) (h : ∀ t ≤ n, 0 ≤ g t ∧ g t < n) : ∃ a b, a < b ∧ b ≤ n ∧ g a = g b := by
  refine Classical.byContradiction fun hno => ?_
  have hinj : ∀ a b, a < b → b ≤ n → g a ≠ g b := fun a b h1 h2 h3 => hno ⟨a, b, h1, h2, h3⟩
  have hnd : ((List.range (n + 1)).map g).Nodup := by
    rw [List.nodup_iff_pairwise_ne, List.pairwise_map]
    refine List.Pairwise.imp_of_mem ?_ (List.pairwise_lt_range (n := n + 1))
    intro a b ha hb hab
    exact hinj a b hab (by have := List.mem_range.1 hb; omega)
  have := nodup_len n _ hnd (fun x hx => by
    obtain ⟨t, ht, rfl⟩ := List.mem_map.1 hx
    exact h t (by have := List.mem_range.1 ht; omega))
  simp at this
  omega
theorem climbs {nodes : List Nd} (hu : UpsIn nodes) (hl : ∀ i < nodes.length, ckLoop nodes i = 0) {i : Int} (hi : 0 ≤ i ∧ i < nodes.length) : ∃ t ≤ nodes.length, iterF nodes t i < 0 := by
  refine Classical.byContradiction fun hno => ?_
  have hpos : ∀ t ≤ nodes.length, 0 ≤ iterF nodes t i := fun t ht => by
    have : ¬ iterF nodes t i < 0 := fun h => hno ⟨t, ht, h⟩
    omega
  have hrange : ∀ t ≤ nodes.length, 0 ≤ iterF nodes t i ∧ iterF nodes t i < nodes.length := by
    intro t
    induction t with
    | zero => intro _; exact hi
    | succ t ih =>
      intro ht
      have h1 := ih (by omega)
      refine ⟨hpos _ ht, ?_⟩
      rw [iterF_add]
      exact (hu.eq _ (by omega)).2
  obtain ⟨a, b, h1, h2, h3⟩ := dup_of_long nodes.length (fun t => iterF nodes t i) hrange
  obtain ⟨m, rfl⟩ : ∃ m, b = a + (m + 1) := ⟨b - a - 1, by omega⟩
  rw [iterF_add] at h3
  have ha := hrange a (by omega)
  have hc := chase_of nodes (iterF nodes a i) nodes.length m (upF nodes (iterF nodes a i)) (by omega) h3.symm (fun t ht => by
    have := hpos (a + (t + 1)) (by omega)
    rw [iterF_add] at this; exact this)
  have hk := hl (iterF nodes a i).toNat (by omega)
  unfold ckLoop at hk
  rw [show (((iterF nodes a i).toNat : Nat) : Int) = iterF nodes a i by omega] at hk
  unfold upF at hc
  rw [if_pos hc] at hk
  cases hk
def dep (nodes : List Nd) : Nat → Int → Nat
  | 0, _ => 0
  | f + 1, k => if k < 0 then 0 else dep nodes f (upF nodes k) + 1
theorem dep_iter (nodes : List Nd) : ∀ (t f : Nat) (k : Int), iterF nodes t k < 0 → t ≤ f → dep nodes f k ≤ t ∧ ∀ g, t ≤ g → dep nodes g k = dep nodes f k
  | 0, f, k, h, hf => by
    simp only [iterF] at h
    have h0 : ∀ g, dep nodes g k = 0 := fun g => by cases g <;> simp [dep, h]
    exact ⟨by rw [h0]; omega, fun g _ => by rw [h0, h0]⟩
  | t + 1, f, k, h, hf => by
    obtain ⟨f, rfl⟩ : ∃ f', f = f' + 1 := ⟨f - 1, by omega⟩
    obtain ⟨h1, h2⟩ := dep_iter nodes t f (upF nodes k) h (by omega)
    refine ⟨by unfold dep; split <;> omega, fun g hg => ?_⟩
    obtain ⟨g, rfl⟩ : ∃ g', g = g' + 1 := ⟨g - 1, by omega⟩
    unfold dep
    split
    · rfl
    · rw [h2 g (by omega)]
theorem acyc_of {nodes : List Nd} (hn : nodes.length ≤ 32) (hu : UpsIn nodes) (hl : ∀ i < nodes.length, ckLoop nodes i = 0) : Acyc nodes := ⟨dep nodes 33, fun i h0 h1 => by
  obtain ⟨t, ht, hneg⟩ := climbs hu hl ⟨h0, h1⟩
  obtain ⟨h2, h3⟩ := dep_iter nodes t 33 i hneg (by omega)
  refine ⟨?_, by omega⟩
  cases t with
  | zero => simp only [iterF] at hneg; omega
  | succ t =>
    have h4 := dep_iter nodes t 33 (upF nodes i) hneg (by omega)
    have h5 := h4.2 32 (by omega)
    have : dep nodes 33 i = if i < 0 then 0 else dep nodes 32 (upF nodes i) + 1 := rfl
    rw [if_neg (by omega)] at this
    rw [this, h5]
    exact Nat.lt_succ_self _⟩
theorem upsIn_of {nodes : List Nd} (h : ∀ i < nodes.length, ckRange nodes i = 0) : UpsIn nodes := ⟨fun i hi => by
  have := h i hi
  unfold ckRange at this
  split at this
  · cases this
  · omega⟩

/-- Those just below one, among the first n. -/
def kidsTo (nodes : List Nd) (n : Nat) (i : Nat) : List Int := ((List.range n).filter (fun j => decide ((nodes[j]!).up = (i : Int)))).map (fun (j : Nat) => (j : Int))
def kidsOf (nodes : List Nd) : List (List Int) := (List.range nodes.length).map (kidsTo nodes nodes.length)
theorem kidsOf_len (nodes : List Nd) : (kidsOf nodes).length = nodes.length := by simp [kidsOf]
theorem kidsOf_get {nodes : List Nd} {i : Nat} (h : i < nodes.length) : (kidsOf nodes)[i]! = kidsTo nodes nodes.length i := by
  rw [getElem!_pos _ i (by rw [kidsOf_len]; exact h)]; simp [kidsOf]
theorem kidsTo_succ (nodes : List Nd) (n i : Nat) : kidsTo nodes (n + 1) i = if (nodes[n]!).up = (i : Int) then kidsTo nodes n i ++ [(n : Int)] else kidsTo nodes n i := by
  unfold kidsTo
  rw [List.range_succ, List.filter_append]
  by_cases hn : (nodes[n]!).up = (i : Int) <;> simp only [List.filter_cons, hn, decide_true, decide_false, if_true, if_false, List.filter_nil, List.map_append, List.map_cons, List.map_nil, List.append_nil, Bool.false_eq_true]
theorem mem_kidsTo {nodes : List Nd} {n i : Nat} {k : Int} : k ∈ kidsTo nodes n i ↔ 0 ≤ k ∧ k < n ∧ upF nodes k = i := by
  unfold kidsTo upF
  rw [List.mem_map]
  constructor
  · rintro ⟨j, hj, rfl⟩
    rw [List.mem_filter, List.mem_range] at hj
    simp only [decide_eq_true_eq] at hj
    simp only [Int.toNat_natCast]
    exact ⟨by omega, by omega, hj.2⟩
  · rintro ⟨h1, h2, h3⟩
    refine ⟨k.toNat, ?_, by omega⟩
    rw [List.mem_filter, List.mem_range]
    exact ⟨by omega, by simpa using h3⟩
theorem cast_inj : ∀ a b : Nat, ((a : Nat) : Int) = b → a = b := fun a b h => by omega
theorem nodup_cast {l : List Nat} (h : l.Nodup) : (l.map (fun (j : Nat) => (j : Int))).Nodup := by
  rw [List.nodup_iff_pairwise_ne, List.pairwise_map]
  exact List.Pairwise.imp (fun hab he => hab (cast_inj _ _ he)) (List.nodup_iff_pairwise_ne.1 h)
theorem kidsTo_nodup (nodes : List Nd) (n i : Nat) : (kidsTo nodes n i).Nodup := nodup_cast ((List.nodup_range).filter _)
theorem rootsTo_nodup (nodes : List Nd) (n : Nat) : (rootsTo nodes n).Nodup := nodup_cast ((List.nodup_range).filter _)
theorem mem_rootsTo {nodes : List Nd} {n : Nat} {k : Int} : k ∈ rootsTo nodes n ↔ 0 ≤ k ∧ k < n ∧ upF nodes k < 0 := by
  unfold rootsTo upF
  rw [List.mem_map]
  constructor
  · rintro ⟨j, hj, rfl⟩
    rw [List.mem_filter, List.mem_range] at hj
    simp only [decide_eq_true_eq] at hj
    simp only [Int.toNat_natCast]
    exact ⟨by omega, by omega, hj.2⟩
  · rintro ⟨h1, h2, h3⟩
    refine ⟨k.toNat, ?_, by omega⟩
    rw [List.mem_filter, List.mem_range]
    exact ⟨by omega, by simpa using h3⟩
theorem count_one : ∀ {l : List Int} (h : l.Nodup) (k : Int), l.count k = if k ∈ l then 1 else 0
  | [], _, k => by simp
  | x :: l, h, k => by
    have h' := List.nodup_cons.1 h
    rw [List.count_cons, count_one h'.2]
    by_cases e : x = k
    · subst e; simp [h'.1]
    · have : ¬ k = x := fun he => e he.symm
      simp [e, this]

/-! ### Counts -/
theorem sum_zero {α : Type} {g : α → Nat} : ∀ (l : List α), (∀ x ∈ l, g x = 0) → (l.map g).sum = 0
  | [], _ => rfl
  | x :: l, h => by rw [List.map_cons, List.sum_cons, h x (by simp), sum_zero l (fun y hy => h y (by simp [hy]))]
theorem sum_add {α : Type} {f g k : α → Nat} : ∀ (l : List α), (∀ x ∈ l, f x = g x + k x) → (l.map f).sum = (l.map g).sum + (l.map k).sum
  | [], _ => rfl
  | x :: l, h => by
    simp only [List.map_cons, List.sum_cons]
    rw [h x (by simp), sum_add l (fun y hy => h y (by simp [hy]))]; omega
theorem sum_ind (j : Int) : ∀ (l : List Int), (l.map (fun k => if j = k then 1 else 0)).sum = l.count j
  | [] => rfl
  | x :: l => by
    rw [List.map_cons, List.sum_cons, sum_ind j l, List.count_cons]
    by_cases e : x = j
    · subst e; simp; omega
    · have : ¬ j = x := fun h => e h.symm
      simp [e, this]
section
variable {nodes : List Nd} [ha : Acyc nodes]
theorem above_ind {p : Int → Prop} (h0 : ∀ j : Int, ¬ (0 ≤ j ∧ j < nodes.length) → p j) (h1 : ∀ j : Int, 0 ≤ j ∧ j < nodes.length → p (upF nodes j) → p j) (j : Int) : p j := by
  obtain ⟨d, hd⟩ := ha.eq
  have : ∀ n j, d j < n → p j := by
    intro n
    induction n with
    | zero => intro j h; omega
    | succ n ih =>
      intro j h
      by_cases hj : 0 ≤ j ∧ j < nodes.length
      · have := hd j hj.1 hj.2
        exact h1 j hj (ih _ (by unfold upF; omega))
      · exact h0 j hj
  exact this _ j (Nat.lt_succ_self _)
theorem above_count {j i : Int} (hj : 0 ≤ j ∧ j < nodes.length) : (above nodes j).count i = (above nodes (upF nodes j)).count i + if j = i then 1 else 0 := by
  rw [above_step hj, List.count_cons]
  simp only [beq_iff_eq]; rfl
omit ha in
theorem count_kids {i j : Int} (hi : 0 ≤ i ∧ i < nodes.length) (hj : 0 ≤ j ∧ j < nodes.length) : (kidsTo nodes nodes.length i.toNat).count j = if upF nodes j = i then 1 else 0 := by
  rw [count_one (kidsTo_nodup _ _ _)]
  have : (j ∈ kidsTo nodes nodes.length i.toNat) ↔ upF nodes j = i := by rw [mem_kidsTo]; constructor <;> intro h <;> omega
  simp [this]
theorem count_split {i : Int} (hi : 0 ≤ i ∧ i < nodes.length) : ∀ j : Int, (above nodes j).count i = (if j = i then 1 else 0) + ((kidsTo nodes nodes.length i.toNat).map (fun k => (above nodes j).count k)).sum := by
  refine above_ind (nodes := nodes) (fun j hj => ?_) (fun j hj ih => ?_)
  · have hne : ¬ j = i := fun e => hj (by rw [e]; exact hi)
    rw [above_no hj, if_neg hne, sum_zero _ (fun _ _ => by simp)]; simp
  · rw [above_count hj, ih]
    rw [sum_add (g := fun k => (above nodes (upF nodes j)).count k) (k := fun k => if j = k then 1 else 0) _ (fun k _ => above_count hj), sum_ind, count_kids hi hj]
    omega
theorem pre_count {r : Int → Nat} (hr : ∀ i : Int, 0 ≤ i → i < nodes.length → ∀ k ∈ (kidsOf nodes)[i.toNat]!, 0 ≤ k ∧ k < nodes.length ∧ r k < r i) : ∀ (f : Nat) (i : Int), 0 ≤ i ∧ i < nodes.length → r i < f → ∀ j, (pre (kidsOf nodes) f i).count j = (above nodes j).count i
  | 0, _, _, h, _ => by omega
  | f + 1, i, hi, hf, j => by
    rw [count_split hi j]
    unfold pre
    rw [List.count_cons, List.count_flatMap]
    have hk : (kidsOf nodes)[i.toNat]! = kidsTo nodes nodes.length i.toNat := kidsOf_get (by omega)
    have hkr := hr i hi.1 hi.2
    rw [hk] at hkr
    rw [hk]
    have : (kidsTo nodes nodes.length i.toNat).map (List.count j ∘ pre (kidsOf nodes) f) = (kidsTo nodes nodes.length i.toNat).map (fun k => (above nodes j).count k) := by
      refine List.map_congr_left fun k hk => ?_
      have := hkr k hk
      exact pre_count hr f k ⟨this.1, this.2.1⟩ (by omega) j
    rw [this]
    have : (i == j) = decide (j = i) := by
      by_cases e : i = j
      · subst e; simp
      · have : ¬ j = i := fun h => e h.symm
        simp [e, this]
    rw [this]
    by_cases e : j = i <;> simp [e] <;> omega
theorem roots_count (hu : UpsIn nodes) : ∀ j : Int, 0 ≤ j ∧ j < nodes.length → ((rootsTo nodes nodes.length).map (fun k => (above nodes j).count k)).sum = 1 := by
  refine above_ind (nodes := nodes) (fun j hj h => absurd h hj) (fun j hj ih _ => ?_)
  rw [sum_add (g := fun k => (above nodes (upF nodes j)).count k) (k := fun k => if j = k then 1 else 0) _ (fun k _ => above_count hj), sum_ind, count_one (rootsTo_nodup _ _)]
  have hm : (j ∈ rootsTo nodes nodes.length) ↔ upF nodes j < 0 := by rw [mem_rootsTo]; constructor <;> intro h <;> omega
  simp only [hm]
  by_cases hun : upF nodes j < 0
  · rw [if_pos hun, sum_zero _ (fun k _ => by rw [above_no (by omega)]; rfl)]
  · rw [if_neg hun]
    by_cases h2 : upF nodes j < nodes.length
    · rw [ih ⟨by omega, h2⟩]
    · exfalso
      have := (hu.eq j.toNat (by omega)).2
      unfold upF at h2; omega
end
end Go.Sl

/-
  A tree that is made.
-/
namespace Go.Sl
open Go.Proofs
set_option linter.unusedVariables false
set_option linter.unusedSimpArgs false
set_option maxRecDepth 10000
set_option synthInstance.maxSize 2000
set_option synthInstance.maxHeartbeats 200000
set_option maxHeartbeats 1000000
/-! ### The order -/
def orderF (nodes : List Nd) : List Int := (rootsTo nodes nodes.length).flatMap (pre (kidsOf nodes) 40)
theorem kids_wf {nodes : List Nd} (ha : Acyc nodes) : ∃ r : Int → Nat, (∀ i, r i < 40) ∧ ∀ i : Int, 0 ≤ i → i < (kidsOf nodes).length → ∀ k ∈ (kidsOf nodes)[i.toNat]!, 0 ≤ k ∧ k < (kidsOf nodes).length ∧ r k < r i := by
  obtain ⟨d, hd⟩ := ha.eq
  refine ⟨fun i => 33 - d i, fun i => by show 33 - d i < 40; omega, fun i h0 h1 k hk => ?_⟩
  rw [kidsOf_len] at h1 ⊢
  rw [kidsOf_get (by omega), mem_kidsTo] at hk
  obtain ⟨h2, h3, h4⟩ := hk
  have := hd k h2 h3
  unfold upF at h4
  rw [h4, show ((i.toNat : Nat) : Int) = i by omega] at this
  refine ⟨h2, h3, ?_⟩
  show 33 - d k < 33 - d i
  omega
theorem order_count {nodes : List Nd} (ha : Acyc nodes) (hu : UpsIn nodes) (j : Int) : (orderF nodes).count j = if 0 ≤ j ∧ j < nodes.length then 1 else 0 := by
  obtain ⟨r, h40, hr⟩ := kids_wf ha
  rw [kidsOf_len] at hr
  unfold orderF
  rw [List.count_flatMap]
  have : (rootsTo nodes nodes.length).map (List.count j ∘ pre (kidsOf nodes) 40) = (rootsTo nodes nodes.length).map (fun k => (above nodes j).count k) := by
    refine List.map_congr_left fun k hk => ?_
    rw [mem_rootsTo] at hk
    exact pre_count hr 40 k ⟨hk.1, hk.2.1⟩ (h40 k) j
  rw [this]
  split
  · rename_i hj; exact roots_count hu j hj
  · rename_i hj; exact sum_zero _ fun k _ => by rw [above_no hj]; rfl
theorem order_nodup {nodes : List Nd} (ha : Acyc nodes) (hu : UpsIn nodes) : (orderF nodes).Nodup := by
  rw [List.nodup_iff_count]
  intro j; rw [order_count ha hu]; split <;> omega
theorem order_mem {nodes : List Nd} (ha : Acyc nodes) (hu : UpsIn nodes) (j : Int) : j ∈ orderF nodes ↔ 0 ≤ j ∧ j < nodes.length := by
  rw [← List.count_pos_iff, order_count ha hu]; split <;> simp [*]
theorem order_len {nodes : List Nd} (ha : Acyc nodes) (hu : UpsIn nodes) : (orderF nodes).length ≤ nodes.length :=
  nodup_len _ _ (order_nodup ha hu) fun x hx => (order_mem ha hu x).1 hx

/-! ### What is wrong first -/
def firstBad (ck : Nat → Int) (n : Nat) : Option (Nat × Int) := (List.range n).findSome? fun i => if ck i ≠ 0 then some (i, ck i) else none
def treeErr (nodes : List Nd) : Option (Nat × Int) :=
  if nodes.length = 0 ∨ 32 < nodes.length then some (0, 5) else (List.range 5).findSome? fun s => firstBad (ckStep nodes s) nodes.length
theorem findSome_first {α : Type} {f : Nat → Option α} : ∀ {n i : Nat} {y : α}, i < n → (∀ j < i, f j = none) → f i = some y → (List.range n).findSome? f = some y
  | 0, _, _, h, _, _ => by omega
  | n + 1, i, y, h, h0, h1 => by
    rw [List.range_succ, List.findSome?_append]
    rcases Nat.lt_or_ge i n with h2 | h2
    · rw [findSome_first h2 h0 h1]; rfl
    · have : i = n := by omega
      subst this
      have : (List.range i).findSome? f = none := by
        rw [List.findSome?_eq_none_iff]; intro x hx; exact h0 x (List.mem_range.1 hx)
      rw [this]; simp [h1]
theorem findSome_none {α : Type} {f : Nat → Option α} {n : Nat} (h : ∀ j < n, f j = none) : (List.range n).findSome? f = none := by
  rw [List.findSome?_eq_none_iff]; intro x hx; exact h x (List.mem_range.1 hx)
theorem firstBad_none {ck : Nat → Int} {n : Nat} (h : ∀ i < n, ck i = 0) : firstBad ck n = none := findSome_none fun j hj => by simp [h j hj]
theorem firstBad_some {ck : Nat → Int} {n i : Nat} (hi : i < n) (h : ∀ j < i, ck j = 0) (hb : ck i ≠ 0) : firstBad ck n = some (i, ck i) := findSome_first hi (fun j hj => by simp [h j hj]) (by simp [hb])
theorem treeErr_some {nodes : List Nd} (hn : ¬ (nodes.length = 0 ∨ 32 < nodes.length)) {s i : Nat} (hs : s < 5) (hi : i < nodes.length) (h0 : ∀ s' < s, ∀ j < nodes.length, ckStep nodes s' j = 0) (h1 : ∀ j < i, ckStep nodes s j = 0) (hb : ckStep nodes s i ≠ 0) : treeErr nodes = some (i, ckStep nodes s i) := by
  unfold treeErr; rw [if_neg hn]
  exact findSome_first hs (fun s' hs' => firstBad_none (h0 s' hs')) (firstBad_some hi h1 hb)
theorem treeErr_none {nodes : List Nd} (hn : ¬ (nodes.length = 0 ∨ 32 < nodes.length)) (h0 : ∀ s' < 5, ∀ j < nodes.length, ckStep nodes s' j = 0) : treeErr nodes = none := by
  unfold treeErr; rw [if_neg hn]
  exact findSome_none fun s hs => firstBad_none (h0 s hs)

/-! ### Kids -/
abbrev KS := Option Addr × Nat × List Int
@[reducible] def encK (x : KS) : List Value := [.slice x.1 x.2.2.length x.2.1]
def inn (x : KS) : HP := slo encI 1 (.slice x.1 x.2.2.length x.2.1) x.2.2
instance : EncOne encK := ⟨fun y u hu => by simp at hu; subst hu; rfl⟩
theorem perm_out {α : Type} : ∀ {l : List α} {j : Nat} (hj : j < l.length), l.Perm (l[j] :: l.eraseIdx j)
  | [], _, h => by simp at h
  | x :: l, 0, _ => .refl _
  | x :: l, j + 1, h => (List.Perm.cons x (perm_out (l := l) (j := j) (by simpa using h))).trans (.swap _ _ _)
theorem inns_out {ks : List KS} {j : Nat} (hj : j < ks.length) : (ks.map inn).Perm (inn (ks[j]!) :: (ks.eraseIdx j).map inn) := by
  have : ks.Perm (ks[j]! :: ks.eraseIdx j) := by
    rw [getElem!_pos ks j hj]
    exact perm_out hj
  exact (this.map inn)
theorem inns_in {ks : List KS} {j : Nat} {y : KS} (hj : j < ks.length) : (inn y :: (ks.eraseIdx j).map inn).Perm ((ks.set j y).map inn) := by
  have h1 := inns_out (ks := ks.set j y) (j := j) (by simpa using hj)
  rw [getElem!_pos _ j (by simpa using hj)] at h1
  simp only [List.getElem_set_self, List.eraseIdx_set_eq] at h1
  exact h1.symm
theorem inns_out' {ks : List KS} {j : Nat} (T : List HP) (hj : j < ks.length) : (ks.map inn ++ T).Perm (slo encI 1 (.slice (ks[j]!).1 (ks[j]!).2.2.length (ks[j]!).2.1) (ks[j]!).2.2 :: ((ks.eraseIdx j).map inn ++ T)) := (inns_out hj).append_right T
theorem inns_in' {ks : List KS} {j : Nat} {a : Option Addr} {c : Nat} {l : List Int} (T : List HP) (hj : j < ks.length) : (slo encI 1 (.slice a l.length c) l :: ((ks.eraseIdx j).map inn ++ T)).Perm ((ks.set j (a, c, l)).map inn ++ T) := (inns_in (y := (a, c, l)) hj).append_right T
theorem perm4 {A : List HP} {x y z u : HP} {T : List HP} : (A ++ (x :: y :: z :: u :: T)).Perm (x :: y :: z :: u :: (A ++ T)) := List.perm_append_comm_assoc A [x, y, z, u] T
theorem Sub.perm {L V V' : List HP} (s : Sub L V) (p : V.Perm V') : Sub L V' := ⟨by
  obtain ⟨Z, hz⟩ := s.eq
  exact ⟨Z, hz.trans (p.append_right Z)⟩⟩
section
variable {P : Program} {N : NN} {k : List It} {Q : Post} {e : Env} {h : PHeap} {L : List HP}
theorem G_inns {c : Code} : ∀ (n : Nat), G P N c k Q e h ((List.replicate n ((none, 0, []) : KS)).map inn ++ L) → G P N c k Q e h L
  | 0, g => g
  | n + 1, g => by
    refine G_inns n ?_
    refine G_nil encI 1 none ?_
    exact g
theorem X_freezeAll {x : Exit} : ∀ {ks : List KS} {h : PHeap} {L : List HP}, (∀ h', Le h h' → (∀ y ∈ ks, FSl h' (.slice y.1 y.2.2.length y.2.1) encI 1 y.2.2) → X P N x k Q e h' L) → X P N x k Q e h (ks.map inn ++ L)
  | [], h, L, g => g h ⟨Hle.refl h⟩ (fun _ hy => by cases hy)
  | y :: ks, h, L, g => by
    refine X_freeze (x := inn y) ⟨.refl _⟩ fun h1 hl1 f1 => ?_
    refine X_freezeAll fun h2 hl2 f2 => ?_
    refine g h2 ⟨hl1.trans hl2.le⟩ fun z hz => ?_
    rcases List.mem_cons.1 hz with rfl | hz
    · exact FSl.mono hl2.le f1.slo
    · exact f2 z hz
theorem G_freezeAll {c : Code} : ∀ {ks : List KS} {h : PHeap} {L : List HP}, (∀ h', Le h h' → (∀ y ∈ ks, FSl h' (.slice y.1 y.2.2.length y.2.1) encI 1 y.2.2) → G P N c k Q e h' L) → G P N c k Q e h (ks.map inn ++ L)
  | [], h, L, g => g h ⟨Hle.refl h⟩ (fun _ hy => by cases hy)
  | y :: ks, h, L, g => by
    refine G_freeze (x := inn y) ⟨.refl _⟩ fun h1 hl1 f1 => ?_
    refine G_freezeAll fun h2 hl2 f2 => ?_
    refine g h2 ⟨hl1.trans hl2.le⟩ fun z hz => ?_
    rcases List.mem_cons.1 hz with rfl | hz
    · exact FSl.mono hl2.le f1.slo
    · exact f2 z hz
end
/-- The same cells, read otherwise. -/
theorem FSl.as {α β : Type} {h : PHeap} {v : Value} {enc : α → List Value} {enc' : β → List Value} {n : Nat} {xs : List α} (f : FSl h v enc n xs) (g : α → β) (hg : ∀ x, enc' (g x) = enc x) : FSl h v enc' n (xs.map g) := ⟨by
  obtain ⟨bs, ⟨h1, h2⟩, hb⟩ := f.fz
  have hf : (xs.map g).flatMap enc' = xs.flatMap enc := by
    rw [List.flatMap_map]; exact congrArg (fun f => List.flatMap f xs) (funext hg)
  refine ⟨bs, ⟨fun y hy => ?_, ?_⟩, hb⟩
  · obtain ⟨x, hx, rfl⟩ := List.mem_map.1 hy
    rw [hg]; exact h1 x hx
  · rcases h2 with ⟨ha, rfl, rfl⟩ | ⟨b, off, cap, pre, post, T, fr, rfl, hp, hcap, rfl⟩
    · exact .inl ⟨ha, rfl, rfl⟩
    · exact .inr ⟨b, off, cap, pre, post, T, fr, by rw [List.length_map], hp, by rw [List.length_map]; exact hcap, by rw [hf]⟩⟩
def mkTree (nodes : List Nd) : Tr :=
  let w := finalW (kidsOf nodes) nodes 40 (List.replicate nodes.length ⟨0, 0⟩) nodes.length
  ⟨nodes, kidsOf nodes, w.order, w.leaves, w.spans⟩
end Go.Sl
