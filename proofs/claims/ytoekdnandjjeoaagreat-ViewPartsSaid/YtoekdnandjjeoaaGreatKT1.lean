/-
  Facts that the proof is made of (T1).
-/
import Derived.Test.YtoekdnandjjeoaaGreatKY
/-
  The library's small functions on slices, at the kinds of elements that occur.
-/
namespace Go.Sl
open Go.Proofs
set_option linter.unusedVariables false
set_option linter.unusedSimpArgs false
set_option maxRecDepth 10000
set_option synthInstance.maxSize 2000
set_option synthInstance.maxHeartbeats 200000
set_option maxHeartbeats 1000000
def idxI {α : Type} [DecidableEq α] (xs : List α) (y : α) : Int := match xs.findIdx? (fun x => decide (x = y)) with | some i => i | none => -1
theorem idxI_none {α : Type} [DecidableEq α] [Inhabited α] {xs : List α} {y : α} (h : ∀ j < xs.length, xs[j]! ≠ y) : idxI xs y = -1 := by
  unfold idxI
  rw [List.findIdx?_eq_none_iff.2]
  intro x hx
  obtain ⟨j, hj, rfl⟩ := List.mem_iff_getElem.1 hx
  have := h j hj
  rw [getElem!_pos xs j hj] at this
  simpa using this
theorem idxI_some {α : Type} [DecidableEq α] [Inhabited α] {xs : List α} {y : α} {k : Nat} (hk : k < xs.length) (h : ∀ j < k, xs[j]! ≠ y) (he : y = xs[k]!) : idxI xs y = k := by
  unfold idxI
  have : xs.findIdx? (fun x => decide (x = y)) = some k := by
    rw [List.findIdx?_eq_some_iff_getElem]
    refine ⟨hk, ?_, fun j hj => ?_⟩
    · rw [he, getElem!_pos xs k hk]; simp
    · have := h j hj
      rw [getElem!_pos xs j (by omega)] at this
      simpa using this
  rw [this]
theorem idxI_nonneg {α : Type} [DecidableEq α] (xs : List α) (y : α) : 0 ≤ idxI xs y ↔ y ∈ xs := by
  unfold idxI
  cases h : xs.findIdx? (fun x => decide (x = y)) with
  | none =>
    have := List.findIdx?_eq_none_iff.1 h
    simp only [Int.reduceNeg, Int.reduceLE, false_iff]
    intro hm
    have := this y hm
    simp at this
  | some i =>
    simp only [Int.natCast_nonneg, true_iff]
    rw [List.findIdx?_eq_some_iff_getElem] at h
    obtain ⟨hi, he, _⟩ := h
    have : xs[i] = y := by simpa using he
    rw [← this]; exact List.getElem_mem hi
instance (y : ByteArray) (xs : List ByteArray) : Decidable (y ∈ xs) := decidable_of_iff _ (idxI_nonneg xs y)

/-- The place of the first one; -1: there is none. -/
instance strs_index {h : PHeap} {L : List HP} {v : Value} {xs : List ByteArray} {y : ByteArray} [hs : Rds L h v encS 1 xs] : CallX Tryz.prog 122 [v, .string y] h L (xs.length ≤ 4294967296) (fun K => K (vI (idxI xs y)) h []) := ⟨fun hn => by
  have hW : ∀ k, k ≤ xs.length → (∀ j < k, xs[j]! ≠ y) → k = xs.length → idxI xs y = -1 := fun k _ h1 h2 => idxI_none (h2 ▸ h1)
  refine spec_enter Tryz.func122 rfl Tryz.ntmps122 Tryz.results122 (by simp) fun K R hT => ?_
  repeat (first | refine Step.imp ?_ | refine Side.mk (by first | exact True.intro | omega | exact ⟨trivial, rfl⟩ | exact ⟨by omega, trivial, rfl⟩ | exact ⟨by omega, rfl⟩ | exact ⟨by omega, by omega, rfl⟩ | (simp only [List.length_cons, List.length_nil, List.length_append]; done) | (simp only [List.length_cons, List.length_nil, List.length_append]; omega) | decide +kernel) ?_ | refine GDraw_one (by decide +kernel) ?_ | refine New.mk fun _ => ?_ | refine NewS.mk fun _ _ => ?_)
  refine G_loopE (σ := Nat) (fun k => k ≤ xs.length ∧ ∀ j < k, xs[j]! ≠ y) (fun k => xs.length - k) (fun k => [(8, vI k), (7, vI xs.length), (0, v), (1, .string y)]) 0 ⟨by omega, by omega⟩ ⟨rfl, rfl, rfl, rfl, trivial⟩ fun k hk => ?_
  obtain ⟨hk, hno⟩ := hk
  repeat (first | refine Step.imp ?_ | refine Side.mk (by first | exact True.intro | omega | exact ⟨trivial, rfl⟩ | exact ⟨by omega, trivial, rfl⟩ | exact ⟨by omega, rfl⟩ | exact ⟨by omega, by omega, rfl⟩ | (simp only [List.length_cons, List.length_nil, List.length_append]; done) | (simp only [List.length_cons, List.length_nil, List.length_append]; omega) | decide +kernel) ?_ | refine GDraw_one (by decide +kernel) ?_ | refine New.mk fun _ => ?_ | refine NewS.mk fun _ _ => ?_)
  refine ⟨fun hlt => ?_, fun hge => ?_⟩
  · repeat (first | refine Step.imp ?_ | refine Side.mk (by first | exact True.intro | omega | exact ⟨trivial, rfl⟩ | exact ⟨by omega, trivial, rfl⟩ | exact ⟨by omega, rfl⟩ | exact ⟨by omega, by omega, rfl⟩ | (simp only [List.length_cons, List.length_nil, List.length_append]; done) | (simp only [List.length_cons, List.length_nil, List.length_append]; omega) | decide +kernel) ?_ | refine GDraw_one (by decide +kernel) ?_ | refine New.mk fun _ => ?_ | refine NewS.mk fun _ _ => ?_)
    refine ⟨fun he => ?_, fun hne => ?_⟩
    · repeat (first | refine Step.imp ?_ | refine Side.mk (by first | exact True.intro | omega | exact ⟨trivial, rfl⟩ | exact ⟨by omega, trivial, rfl⟩ | exact ⟨by omega, rfl⟩ | exact ⟨by omega, by omega, rfl⟩ | (simp only [List.length_cons, List.length_nil, List.length_append]; done) | (simp only [List.length_cons, List.length_nil, List.length_append]; omega) | decide +kernel) ?_ | refine GDraw_one (by decide +kernel) ?_ | refine New.mk fun _ => ?_ | refine NewS.mk fun _ _ => ?_)
      exact Fin.val hT (by rw [idxI_some (by omega) hno he]) (Hle.refl _)
    · repeat (first | refine Step.imp ?_ | refine Side.mk (by first | exact True.intro | omega | exact ⟨trivial, rfl⟩ | exact ⟨by omega, trivial, rfl⟩ | exact ⟨by omega, rfl⟩ | exact ⟨by omega, by omega, rfl⟩ | (simp only [List.length_cons, List.length_nil, List.length_append]; done) | (simp only [List.length_cons, List.length_nil, List.length_append]; omega) | decide +kernel) ?_ | refine GDraw_one (by decide +kernel) ?_ | refine New.mk fun _ => ?_ | refine NewS.mk fun _ _ => ?_)
      refine X_roundE (k + 1) ⟨by omega, fun j hj => ?_⟩ (by omega) ⟨rfl, rfl, rfl, rfl, trivial⟩ inferInstance
      rcases Nat.lt_or_ge j k with h1 | h1
      · exact hno j h1
      · have : j = k := by omega
        subst this; exact fun e => hne e.symm
  · repeat (first | refine Step.imp ?_ | refine Side.mk (by first | exact True.intro | omega | exact ⟨trivial, rfl⟩ | exact ⟨by omega, trivial, rfl⟩ | exact ⟨by omega, rfl⟩ | exact ⟨by omega, by omega, rfl⟩ | (simp only [List.length_cons, List.length_nil, List.length_append]; done) | (simp only [List.length_cons, List.length_nil, List.length_append]; omega) | decide +kernel) ?_ | refine GDraw_one (by decide +kernel) ?_ | refine New.mk fun _ => ?_ | refine NewS.mk fun _ _ => ?_)
    exact Fin.val hT (by rw [idxI_none (fun j hj => hno j (by omega))]) (Hle.refl _)⟩
instance strs_contains {h : PHeap} {L : List HP} {v : Value} {xs : List ByteArray} {y : ByteArray} [hs : Rds L h v encS 1 xs] : CallX Tryz.prog 90 [v, .string y] h L (xs.length ≤ 4294967296) (fun K => K (.bool (decide (y ∈ xs))) h []) := ⟨fun hn => by
  have hI := idxI_nonneg xs y
  refine spec_enter Tryz.func90 rfl Tryz.ntmps90 Tryz.results90 (by simp) fun K R hT => ?_
  repeat (first | refine Step.imp ?_ | refine Side.mk (by first | exact True.intro | omega | exact ⟨trivial, rfl⟩ | exact ⟨by omega, trivial, rfl⟩ | exact ⟨by omega, rfl⟩ | exact ⟨by omega, by omega, rfl⟩ | (simp only [List.length_cons, List.length_nil, List.length_append]; done) | (simp only [List.length_cons, List.length_nil, List.length_append]; omega) | decide +kernel) ?_ | refine GDraw_one (by decide +kernel) ?_ | refine New.mk fun _ => ?_ | refine NewS.mk fun _ _ => ?_)
  exact Fin.dec hT hI (Hle.refl _)⟩

theorem ints_clone {h : PHeap} {Lp : List HP} {v : Value} {xs : List Int} [hs : Rds Lp h v encI 1 xs] (hn : xs.length ≤ 4294967296) (hnil : isNilV v = true → xs = []) : Spec Tryz.prog 93 [v] h Lp (fun K => ∀ a c, K (.slice a xs.length c) h (slo encI 1 (.slice a xs.length c) xs :: Lp)) := by
  refine spec_enter Tryz.func93 rfl Tryz.ntmps93 Tryz.results93 (by simp) fun K R hT => ?_
  repeat (first | refine Step.imp ?_ | refine Side.mk (by first | exact True.intro | omega | exact ⟨trivial, rfl⟩ | exact ⟨by omega, trivial, rfl⟩ | exact ⟨by omega, rfl⟩ | exact ⟨by omega, by omega, rfl⟩ | (simp only [List.length_cons, List.length_nil, List.length_append]; done) | (simp only [List.length_cons, List.length_nil, List.length_append]; omega) | decide +kernel) ?_ | refine GDraw_one (by decide +kernel) ?_ | refine New.mk fun _ => ?_ | refine NewS.mk fun _ _ => ?_)
  refine ⟨fun hb => ?_, fun _ => ?_⟩
  · have := hnil hb
    subst this
    refine G_nil encI 1 none ?_
    repeat (first | refine Step.imp ?_ | refine Side.mk (by first | exact True.intro | omega | exact ⟨trivial, rfl⟩ | exact ⟨by omega, trivial, rfl⟩ | exact ⟨by omega, rfl⟩ | exact ⟨by omega, by omega, rfl⟩ | (simp only [List.length_cons, List.length_nil, List.length_append]; done) | (simp only [List.length_cons, List.length_nil, List.length_append]; omega) | decide +kernel) ?_ | refine GDraw_one (by decide +kernel) ?_ | refine New.mk fun _ => ?_ | refine NewS.mk fun _ _ => ?_)
    exact Fin.val (hT none 0) rfl (Hle.refl _)
  · repeat (first | refine Step.imp ?_ | refine Side.mk (by first | exact True.intro | omega | exact ⟨trivial, rfl⟩ | exact ⟨by omega, trivial, rfl⟩ | exact ⟨by omega, rfl⟩ | exact ⟨by omega, by omega, rfl⟩ | (simp only [List.length_cons, List.length_nil, List.length_append]; done) | (simp only [List.length_cons, List.length_nil, List.length_append]; omega) | decide +kernel) ?_ | refine GDraw_one (by decide +kernel) ?_ | refine New.mk fun _ => ?_ | refine NewS.mk fun _ _ => ?_)
    exact Fin.val (hT _ _) rfl (Hle.refl _)
instance ints_cloneF {h : PHeap} {L : List HP} {v : Value} {xs : List Int} [hs : FSl h v encI 1 xs] : CallT Tryz.prog 93 [v] h L (xs.length ≤ 4294967296) L (fun K => ∀ a c, K (.slice a xs.length c) h [slo encI 1 (.slice a xs.length c) xs]) :=
  ⟨fun hn => ⟨[], .refl _, ints_clone hn hs.nil⟩⟩

theorem strs_clone {h : PHeap} {Lp : List HP} {v : Value} {xs : List ByteArray} [hs : Rds Lp h v encS 1 xs] (hn : xs.length ≤ 4294967296) (hnil : isNilV v = true → xs = []) : Spec Tryz.prog 86 [v] h Lp (fun K => ∀ a c, K (.slice a xs.length c) h (slo encS 1 (.slice a xs.length c) xs :: Lp)) := by
  refine spec_enter Tryz.func86 rfl Tryz.ntmps86 Tryz.results86 (by simp) fun K R hT => ?_
  repeat (first | refine Step.imp ?_ | refine Side.mk (by first | exact True.intro | omega | exact ⟨trivial, rfl⟩ | exact ⟨by omega, trivial, rfl⟩ | exact ⟨by omega, rfl⟩ | exact ⟨by omega, by omega, rfl⟩ | (simp only [List.length_cons, List.length_nil, List.length_append]; done) | (simp only [List.length_cons, List.length_nil, List.length_append]; omega) | decide +kernel) ?_ | refine GDraw_one (by decide +kernel) ?_ | refine New.mk fun _ => ?_ | refine NewS.mk fun _ _ => ?_)
  refine ⟨fun hb => ?_, fun _ => ?_⟩
  · have := hnil hb
    subst this
    refine G_nil encS 1 none ?_
    repeat (first | refine Step.imp ?_ | refine Side.mk (by first | exact True.intro | omega | exact ⟨trivial, rfl⟩ | exact ⟨by omega, trivial, rfl⟩ | exact ⟨by omega, rfl⟩ | exact ⟨by omega, by omega, rfl⟩ | (simp only [List.length_cons, List.length_nil, List.length_append]; done) | (simp only [List.length_cons, List.length_nil, List.length_append]; omega) | decide +kernel) ?_ | refine GDraw_one (by decide +kernel) ?_ | refine New.mk fun _ => ?_ | refine NewS.mk fun _ _ => ?_)
    exact Fin.val (hT none 0) rfl (Hle.refl _)
  · repeat (first | refine Step.imp ?_ | refine Side.mk (by first | exact True.intro | omega | exact ⟨trivial, rfl⟩ | exact ⟨by omega, trivial, rfl⟩ | exact ⟨by omega, rfl⟩ | exact ⟨by omega, by omega, rfl⟩ | (simp only [List.length_cons, List.length_nil, List.length_append]; done) | (simp only [List.length_cons, List.length_nil, List.length_append]; omega) | decide +kernel) ?_ | refine GDraw_one (by decide +kernel) ?_ | refine New.mk fun _ => ?_ | refine NewS.mk fun _ _ => ?_)
    exact Fin.val (hT _ _) rfl (Hle.refl _)
instance strs_cloneF {h : PHeap} {L : List HP} {v : Value} {xs : List ByteArray} [hs : FSl h v encS 1 xs] : CallT Tryz.prog 86 [v] h L (xs.length ≤ 4294967296) L (fun K => ∀ a c, K (.slice a xs.length c) h [slo encS 1 (.slice a xs.length c) xs]) :=
  ⟨fun hn => ⟨[], .refl _, strs_clone hn hs.nil⟩⟩

theorem nds_clone {h : PHeap} {Lp : List HP} {v : Value} {xs : List Nd} [hs : Rds Lp h v encNd 2 xs] (hn : xs.length ≤ 4294967296) (hnil : isNilV v = true → xs = []) : Spec Tryz.prog 88 [v] h Lp (fun K => ∀ a c, K (.slice a xs.length c) h (slo encNd 2 (.slice a xs.length c) xs :: Lp)) := by
  refine spec_enter Tryz.func88 rfl Tryz.ntmps88 Tryz.results88 (by simp) fun K R hT => ?_
  repeat (first | refine Step.imp ?_ | refine Side.mk (by first | exact True.intro | omega | exact ⟨trivial, rfl⟩ | exact ⟨by omega, trivial, rfl⟩ | exact ⟨by omega, rfl⟩ | exact ⟨by omega, by omega, rfl⟩ | (simp only [List.length_cons, List.length_nil, List.length_append]; done) | (simp only [List.length_cons, List.length_nil, List.length_append]; omega) | decide +kernel) ?_ | refine GDraw_one (by decide +kernel) ?_ | refine New.mk fun _ => ?_ | refine NewS.mk fun _ _ => ?_)
  refine ⟨fun hb => ?_, fun _ => ?_⟩
  · have := hnil hb
    subst this
    refine G_nil encNd 2 none ?_
    repeat (first | refine Step.imp ?_ | refine Side.mk (by first | exact True.intro | omega | exact ⟨trivial, rfl⟩ | exact ⟨by omega, trivial, rfl⟩ | exact ⟨by omega, rfl⟩ | exact ⟨by omega, by omega, rfl⟩ | (simp only [List.length_cons, List.length_nil, List.length_append]; done) | (simp only [List.length_cons, List.length_nil, List.length_append]; omega) | decide +kernel) ?_ | refine GDraw_one (by decide +kernel) ?_ | refine New.mk fun _ => ?_ | refine NewS.mk fun _ _ => ?_)
    exact Fin.val (hT none 0) rfl (Hle.refl _)
  · repeat (first | refine Step.imp ?_ | refine Side.mk (by first | exact True.intro | omega | exact ⟨trivial, rfl⟩ | exact ⟨by omega, trivial, rfl⟩ | exact ⟨by omega, rfl⟩ | exact ⟨by omega, by omega, rfl⟩ | (simp only [List.length_cons, List.length_nil, List.length_append]; done) | (simp only [List.length_cons, List.length_nil, List.length_append]; omega) | decide +kernel) ?_ | refine GDraw_one (by decide +kernel) ?_ | refine New.mk fun _ => ?_ | refine NewS.mk fun _ _ => ?_)
    exact Fin.val (hT _ _) rfl (Hle.refl _)
instance nds_cloneF {h : PHeap} {L : List HP} {v : Value} {xs : List Nd} [hs : FSl h v encNd 2 xs] : CallT Tryz.prog 88 [v] h L (xs.length ≤ 4294967296) L (fun K => ∀ a c, K (.slice a xs.length c) h [slo encNd 2 (.slice a xs.length c) xs]) :=
  ⟨fun hn => ⟨[], .refl _, nds_clone hn hs.nil⟩⟩

theorem dims_clone {h : PHeap} {Lp : List HP} {v : Value} {xs : List Dm} [hs : Rds Lp h v encDm 2 xs] (hn : xs.length ≤ 4294967296) (hnil : isNilV v = true → xs = []) : Spec Tryz.prog 87 [v] h Lp (fun K => ∀ a c, K (.slice a xs.length c) h (slo encDm 2 (.slice a xs.length c) xs :: Lp)) := by
  refine spec_enter Tryz.func87 rfl Tryz.ntmps87 Tryz.results87 (by simp) fun K R hT => ?_
  repeat (first | refine Step.imp ?_ | refine Side.mk (by first | exact True.intro | omega | exact ⟨trivial, rfl⟩ | exact ⟨by omega, trivial, rfl⟩ | exact ⟨by omega, rfl⟩ | exact ⟨by omega, by omega, rfl⟩ | (simp only [List.length_cons, List.length_nil, List.length_append]; done) | (simp only [List.length_cons, List.length_nil, List.length_append]; omega) | decide +kernel) ?_ | refine GDraw_one (by decide +kernel) ?_ | refine New.mk fun _ => ?_ | refine NewS.mk fun _ _ => ?_)
  refine ⟨fun hb => ?_, fun _ => ?_⟩
  · have := hnil hb
    subst this
    refine G_nil encDm 2 none ?_
    repeat (first | refine Step.imp ?_ | refine Side.mk (by first | exact True.intro | omega | exact ⟨trivial, rfl⟩ | exact ⟨by omega, trivial, rfl⟩ | exact ⟨by omega, rfl⟩ | exact ⟨by omega, by omega, rfl⟩ | (simp only [List.length_cons, List.length_nil, List.length_append]; done) | (simp only [List.length_cons, List.length_nil, List.length_append]; omega) | decide +kernel) ?_ | refine GDraw_one (by decide +kernel) ?_ | refine New.mk fun _ => ?_ | refine NewS.mk fun _ _ => ?_)
    exact Fin.val (hT none 0) rfl (Hle.refl _)
  · repeat (first | refine Step.imp ?_ | refine Side.mk (by first | exact True.intro | omega | exact ⟨trivial, rfl⟩ | exact ⟨by omega, trivial, rfl⟩ | exact ⟨by omega, rfl⟩ | exact ⟨by omega, by omega, rfl⟩ | (simp only [List.length_cons, List.length_nil, List.length_append]; done) | (simp only [List.length_cons, List.length_nil, List.length_append]; omega) | decide +kernel) ?_ | refine GDraw_one (by decide +kernel) ?_ | refine New.mk fun _ => ?_ | refine NewS.mk fun _ _ => ?_)
    exact Fin.val (hT _ _) rfl (Hle.refl _)
instance dims_cloneF {h : PHeap} {L : List HP} {v : Value} {xs : List Dm} [hs : FSl h v encDm 2 xs] : CallT Tryz.prog 87 [v] h L (xs.length ≤ 4294967296) L (fun K => ∀ a c, K (.slice a xs.length c) h [slo encDm 2 (.slice a xs.length c) xs]) :=
  ⟨fun hn => ⟨[], .refl _, dims_clone hn hs.nil⟩⟩
end Go.Sl

/-
  Names.
-/
namespace Go.Sl
open Go.Proofs
set_option linter.unusedVariables false
set_option linter.unusedSimpArgs false
set_option maxRecDepth 10000
set_option synthInstance.maxSize 2000
set_option synthInstance.maxHeartbeats 200000
set_option maxHeartbeats 1000000
def bitsB (op : BinOp) (k : IntKind) (x y : Int) : Int := match (Op.intBits op k x y) with | .pure (.int _ n) => n | _ => 0
section
variable {P : Program} {N : NN} {e : Env} {h : PHeap} {V : List HP}
instance {a b : Operand} {t ty' : TypeId} {k : IntKind} {x y : Int} [ha : Is (lkO e a) (some (.int k x))] [hb : Is (lkO e b) (some (.int k y))] : Soft P N V h e (.binOp .or t a b ty') True (.int k (bitsB .or k x y)) :=
  ⟨fun _ _ d ty pos af g ac w se _ => run_int .or (se.eval ha.eq) (se.eval hb.eq) (fun w => by
    simp only [binOp, ne_eq, not_true_eq_false, if_false]; rfl) w⟩
instance {a b : Operand} {t ty' : TypeId} {k : IntKind} {x y : Int} [ha : Is (lkO e a) (some (.int k x))] [hb : Is (lkO e b) (some (.int k y))] : Soft P N V h e (.binOp .and t a b ty') True (.int k (bitsB .and k x y)) :=
  ⟨fun _ _ d ty pos af g ac w se _ => run_int .and (se.eval ha.eq) (se.eval hb.eq) (fun w => by
    simp only [binOp, ne_eq, not_true_eq_false, if_false]; rfl) w⟩
end
def isLetter (c : Int) : Prop := (65 ≤ c ∧ c ≤ 90) ∨ (97 ≤ c ∧ c ≤ 122)
instance (c : Int) : Decidable (isLetter c) := by unfold isLetter; infer_instance
theorem letter_bits : ∀ n : _root_.Fin 256, (97 ≤ bitsB .or .u8 (n.val : Int) 32 ∧ bitsB .or .u8 (n.val : Int) 32 ≤ 122) ↔ isLetter (n.val : Int) := by decide +kernel
theorem letter_iff {c : Int} (h : 0 ≤ c ∧ c ≤ 255) : (97 ≤ bitsB .or .u8 c 32 ∧ bitsB .or .u8 c 32 ≤ 122) ↔ isLetter c := by
  have := letter_bits ⟨c.toNat, by omega⟩
  have e : ((c.toNat : Nat) : Int) = c := by omega
  simp only [e] at this
  exact this
theorem bAt_range (s : ByteArray) (k : Nat) : 0 ≤ bAt s k ∧ bAt s k ≤ 255 := by
  unfold bAt
  have := (s.data.getD k 0).toNat_lt
  omega
section
variable {h : PHeap}
instance letter_ok {c : Int} : CallV Tryz.prog 121 [.int .u8 c] h (0 ≤ c ∧ c ≤ 255) (.bool (decide (isLetter c))) := ⟨fun hc => by
  have hl := letter_iff hc
  unfold isLetter at hl
  refine spec_enter Tryz.func121 rfl Tryz.ntmps121 Tryz.results121 (by simp) fun K R hT => ?_
  repeat' (first | refine Step.imp ?_ | refine Side.mk (by first | exact True.intro | omega | exact ⟨trivial, rfl⟩ | exact ⟨by omega, trivial, rfl⟩ | exact ⟨by omega, rfl⟩ | exact ⟨by omega, by omega, rfl⟩ | (simp only [List.length_cons, List.length_nil, List.length_append]; done) | (simp only [List.length_cons, List.length_nil, List.length_append]; omega) | decide +kernel) ?_ | refine GDraw_one (by decide +kernel) ?_ | refine New.mk fun _ => ?_ | refine NewS.mk fun _ _ => ?_ | refine Ways.mk (fun _ => ?_) (fun _ => ?_))
  all_goals first | exact Fin.dec hT (by unfold isLetter; omega) (Hle.refl _) | exact Fin.ff hT (by unfold isLetter; omega) (Hle.refl _)⟩

def okChar (c : Int) : Prop := isLetter c ∨ c = 95 ∨ (48 ≤ c ∧ c ≤ 57)
def okName (s : ByteArray) : Prop := s.size ≠ 0 ∧ s.size ≤ 12 ∧ isLetter (bAt s 0) ∧ ∀ k < s.size, okChar (bAt s k)
instance (c : Int) : Decidable (okChar c) := by unfold okChar; infer_instance
instance (s : ByteArray) : Decidable (okName s) := by unfold okName; infer_instance
theorem size_zero {s : ByteArray} : s.size = 0 ↔ s = ByteArray.empty := by
  constructor
  · intro h; cases s with | mk d => congr; exact Array.eq_empty_of_size_eq_zero h
  · rintro rfl; rfl
instance name_ok {s : ByteArray} : CallV Tryz.prog 89 [.string s] h True (.bool (decide (okName s))) := ⟨fun _ => by
  have h0 := bAt_range s 0
  have hz := @size_zero s
  refine spec_enter Tryz.func89 rfl Tryz.ntmps89 Tryz.results89 (by simp) fun K R hT => ?_
  by_cases hs : s.size ≠ 0 ∧ s.size ≤ 12 ∧ isLetter (bAt s 0)
  · repeat' (first | refine Step.imp ?_ | refine Side.mk (by first | exact True.intro | omega | exact ⟨trivial, rfl⟩ | exact ⟨by omega, trivial, rfl⟩ | exact ⟨by omega, rfl⟩ | exact ⟨by omega, by omega, rfl⟩ | (simp only [List.length_cons, List.length_nil, List.length_append]; done) | (simp only [List.length_cons, List.length_nil, List.length_append]; omega) | decide +kernel) ?_ | refine GDraw_one (by decide +kernel) ?_ | refine New.mk fun _ => ?_ | refine NewS.mk fun _ _ => ?_ | refine Ways.mk (fun _ => ?_) (fun _ => ?_))
    · exfalso; exact hs.1 (hz.2 (by assumption))
    · exfalso; omega
    · exfalso; exact absurd hs.2.2 (by assumption)
    · refine G_loopE (σ := Nat) (fun k => k ≤ s.size ∧ ∀ j < k, okChar (bAt s j)) (fun k => s.size - k) (fun k => [(20, vI k), (19, vI s.size), (0, .string s)]) 0 ⟨by omega, by omega⟩ ⟨rfl, rfl, rfl, trivial⟩ fun k hk => ?_
      obtain ⟨hk, hall⟩ := hk
      have hb := bAt_range s k
      repeat (first | refine Step.imp ?_ | refine Side.mk (by first | exact True.intro | omega | exact ⟨trivial, rfl⟩ | exact ⟨by omega, trivial, rfl⟩ | exact ⟨by omega, rfl⟩ | exact ⟨by omega, by omega, rfl⟩ | (simp only [List.length_cons, List.length_nil, List.length_append]; done) | (simp only [List.length_cons, List.length_nil, List.length_append]; omega) | decide +kernel) ?_ | refine GDraw_one (by decide +kernel) ?_ | refine New.mk fun _ => ?_ | refine NewS.mk fun _ _ => ?_)
      refine ⟨fun hlt => ?_, fun hge => ?_⟩
      · have hnext : okChar (bAt s k) → ∀ j < k + 1, okChar (bAt s j) := fun hc j hj => by
          rcases Nat.lt_or_ge j k with h1 | h1
          · exact hall j h1
          · have : j = k := by omega
            subst this; exact hc
        repeat' (first | refine Step.imp ?_ | refine Side.mk (by first | exact True.intro | omega | exact ⟨trivial, rfl⟩ | exact ⟨by omega, trivial, rfl⟩ | exact ⟨by omega, rfl⟩ | exact ⟨by omega, by omega, rfl⟩ | (simp only [List.length_cons, List.length_nil, List.length_append]; done) | (simp only [List.length_cons, List.length_nil, List.length_append]; omega) | decide +kernel) ?_ | refine GDraw_one (by decide +kernel) ?_ | refine New.mk fun _ => ?_ | refine NewS.mk fun _ _ => ?_ | refine Ways.mk (fun _ => ?_) (fun _ => ?_))
        all_goals first
          | exact Fin.ff hT (fun hn => (by have := hn.2.2.2 k (by omega); unfold okChar at this; first | (rcases this with h1 | h1 | h1 <;> first | contradiction | omega))) (Hle.refl _)
          | (refine X_roundE (k + 1) ?_ ?_ ?_ inferInstance; exact ⟨by omega, hnext (by unfold okChar; first | (left; exact Decidable.not_not.1 (by assumption)) | (right; left; exact Decidable.not_not.1 (by assumption)) | (right; right; omega))⟩; omega; exact ⟨rfl, rfl, rfl, trivial⟩)
      · have hfull : okName s := ⟨hs.1, hs.2.1, hs.2.2, fun j hj => hall j (by omega)⟩
        repeat (first | refine Step.imp ?_ | refine Side.mk (by first | exact True.intro | omega | exact ⟨trivial, rfl⟩ | exact ⟨by omega, trivial, rfl⟩ | exact ⟨by omega, rfl⟩ | exact ⟨by omega, by omega, rfl⟩ | (simp only [List.length_cons, List.length_nil, List.length_append]; done) | (simp only [List.length_cons, List.length_nil, List.length_append]; omega) | decide +kernel) ?_ | refine GDraw_one (by decide +kernel) ?_ | refine New.mk fun _ => ?_ | refine NewS.mk fun _ _ => ?_)
        exact Fin.tt hT hfull (Hle.refl _)
  · have hno : ¬ okName s := fun hn => hs ⟨hn.1, hn.2.1, hn.2.2.1⟩
    by_cases he : s.size = 0
    · have := hz.1 he
      subst this
      repeat' (first | refine Step.imp ?_ | refine Side.mk (by first | exact True.intro | omega | exact ⟨trivial, rfl⟩ | exact ⟨by omega, trivial, rfl⟩ | exact ⟨by omega, rfl⟩ | exact ⟨by omega, by omega, rfl⟩ | (simp only [List.length_cons, List.length_nil, List.length_append]; done) | (simp only [List.length_cons, List.length_nil, List.length_append]; omega) | decide +kernel) ?_ | refine GDraw_one (by decide +kernel) ?_ | refine New.mk fun _ => ?_ | refine NewS.mk fun _ _ => ?_ | refine Ways.mk (fun _ => ?_) (fun _ => ?_))
      all_goals first | exact Fin.ff hT hno (Hle.refl _) | exact absurd rfl (by assumption)
    · have hpos : 0 < s.size := by omega
      repeat' (first | refine Step.imp ?_ | refine Side.mk (by first | exact True.intro | omega | exact ⟨trivial, rfl⟩ | exact ⟨by omega, trivial, rfl⟩ | exact ⟨by omega, rfl⟩ | exact ⟨by omega, by omega, rfl⟩ | (simp only [List.length_cons, List.length_nil, List.length_append]; done) | (simp only [List.length_cons, List.length_nil, List.length_append]; omega) | decide +kernel) ?_ | refine GDraw_one (by decide +kernel) ?_ | refine New.mk fun _ => ?_ | refine NewS.mk fun _ _ => ?_ | refine Ways.mk (fun _ => ?_) (fun _ => ?_))
      all_goals first
        | exact Fin.ff hT hno (Hle.refl _)
        | (exfalso; refine hs ⟨by omega, by omega, Decidable.not_not.1 (by assumption)⟩)⟩
end
end Go.Sl

/-
  A tree of members, as it lies in memory, and the functions that only read it.
-/
namespace Go.Sl
open Go.Proofs
set_option linter.unusedVariables false
set_option linter.unusedSimpArgs false
set_option maxRecDepth 10000
set_option synthInstance.maxSize 2000
set_option synthInstance.maxHeartbeats 200000
set_option maxHeartbeats 1000000

structure Tr where
  nodes : List Nd
  kids : List (List Int)
  order : List Int
  leaves : List Int
  spans : List Sp
deriving Inhabited

/-- The names so far. -/
def namesTo (nodes : List Nd) (i : Nat) : List (ByteArray × Value) := (List.range i).map fun (j : Nat) => ((nodes[j]!).name, vI (j : Int))
/-- A tree at block b, that is never changed. -/
class IsTree (h : PHeap) (b : Nat) (T : outParam Tr) : Prop where
  out : ∃ nv mb kv ov lv sv kvs ty fr, Pt h b (.cells [nv, .map (some mb), kv, ov, lv, sv].toArray ty fr) ∧ FSl h nv encNd 2 T.nodes ∧ FSl h kv encV 1 kvs ∧ kvs.length = T.kids.length ∧
    (∀ i < T.kids.length, FSl h (kvs[i]!) encI 1 (T.kids[i]!)) ∧ FSl h ov encI 1 T.order ∧ FSl h lv encI 1 T.leaves ∧ FSl h sv encSp 2 T.spans ∧ FMap h mb (namesTo T.nodes T.nodes.length)
theorem IsTree.mono {h h' : PHeap} {b : Nat} {T : Tr} (hl : Hle h h') (t : IsTree h b T) : IsTree h' b T := ⟨by
  obtain ⟨nv, mb, kv, ov, lv, sv, kvs, ty, fr, h1, h2, h3, h4, h5, h6, h7, h8, h9⟩ := t.out
  exact ⟨nv, mb, kv, ov, lv, sv, kvs, ty, fr, Pt.mono hl h1, FSl.mono hl h2, FSl.mono hl h3, h4, fun i hi => FSl.mono hl (h5 i hi), FSl.mono hl h6, FSl.mono hl h7, FSl.mono hl h8, ⟨h9.fz.mono hl⟩⟩⟩
instance (priority := low) {h h' : PHeap} {b : Nat} {T : Tr} [l : Le h h'] [t : IsTree h b T] : IsTree h' b T := t.mono l.le
/-- All its lists are as long as they should be. -/
class TrLen (T : Tr) : Prop where
  kids : T.kids.length = T.nodes.length
  spans : T.spans.length = T.nodes.length
  small : T.nodes.length ≤ 32
  leaves : T.leaves.length ≤ 32

section
variable {h : PHeap} {b : Nat} {T : Tr}

instance tree_is {i : Int} [hI : IsTree h b T] : CallV Tryz.prog 100 [.pointer (some ⟨b, 0, none⟩), vI i] h True (.bool (decide (0 ≤ i ∧ i < T.nodes.length))) := ⟨fun _ => by
  obtain ⟨nv, mb, kv, ov, lv, sv, kvs, ty, fr, h1, h2, h3, h4, h5, h6, h7, h8, h8m⟩ := hI.out
  refine spec_enter Tryz.func100 rfl Tryz.ntmps100 Tryz.results100 (by simp) fun K R hT => ?_
  repeat' (first | refine Step.imp ?_ | refine Side.mk (by first | exact True.intro | omega | exact ⟨trivial, rfl⟩ | exact ⟨by omega, trivial, rfl⟩ | exact ⟨by omega, rfl⟩ | exact ⟨by omega, by omega, rfl⟩ | (simp only [List.length_cons, List.length_nil, List.length_append]; done) | (simp only [List.length_cons, List.length_nil, List.length_append]; omega) | decide +kernel) ?_ | refine GDraw_one (by decide +kernel) ?_ | refine New.mk fun _ => ?_ | refine NewS.mk fun _ _ => ?_ | refine Ways.mk (fun _ => ?_) (fun _ => ?_))
  all_goals first | exact Fin.val hT rfl (Hle.refl _) | (exfalso; omega) | (exfalso; contradiction) | exact Fin.dec hT (by omega) (Hle.refl _) | exact Fin.tt hT (by omega) (Hle.refl _) | exact Fin.ff hT (by omega) (Hle.refl _)⟩

instance tree_len [hI : IsTree h b T] : CallV Tryz.prog 44 [.pointer (some ⟨b, 0, none⟩)] h True (vI T.nodes.length) := ⟨fun _ => by
  obtain ⟨nv, mb, kv, ov, lv, sv, kvs, ty, fr, h1, h2, h3, h4, h5, h6, h7, h8, h8m⟩ := hI.out
  refine spec_enter Tryz.func44 rfl Tryz.ntmps44 Tryz.results44 (by simp) fun K R hT => ?_
  repeat' (first | refine Step.imp ?_ | refine Side.mk (by first | exact True.intro | omega | exact ⟨trivial, rfl⟩ | exact ⟨by omega, trivial, rfl⟩ | exact ⟨by omega, rfl⟩ | exact ⟨by omega, by omega, rfl⟩ | (simp only [List.length_cons, List.length_nil, List.length_append]; done) | (simp only [List.length_cons, List.length_nil, List.length_append]; omega) | decide +kernel) ?_ | refine GDraw_one (by decide +kernel) ?_ | refine New.mk fun _ => ?_ | refine NewS.mk fun _ _ => ?_ | refine Ways.mk (fun _ => ?_) (fun _ => ?_))
  all_goals first | exact Fin.val hT rfl (Hle.refl _) | (exfalso; omega) | (exfalso; contradiction) | exact Fin.dec hT (by omega) (Hle.refl _) | exact Fin.tt hT (by omega) (Hle.refl _) | exact Fin.ff hT (by omega) (Hle.refl _)⟩

/-- Has a member none below it? -/
def Tr.leafB (T : Tr) (i : Int) : Prop := 0 ≤ i ∧ i < T.nodes.length ∧ (T.kids[i.toNat]!).length = 0
instance (T : Tr) (i : Int) : Decidable (T.leafB i) := by unfold Tr.leafB; infer_instance
def Tr.rankF (T : Tr) (i : Int) : Int := if T.leafB i then (T.spans[i.toNat]!).fr else -1
def Tr.spanF (T : Tr) (i : Int) : Sp := if 0 ≤ i ∧ i < T.nodes.length then T.spans[i.toNat]! else ⟨0, 0⟩
instance tree_span {i : Int} [hI : IsTree h b T] [hl : TrLen T] : CallV Tryz.prog 136 [.pointer (some ⟨b, 0, none⟩), vI i] h True (.tuple [vI (T.spanF i).fr, vI (T.spanF i).to].toArray) := ⟨fun _ => by
  have hk := hl.spans
  unfold Tr.spanF
  by_cases hi : 0 ≤ i ∧ i < T.nodes.length
  · obtain ⟨nv, mb, kv, ov, lv, sv, kvs, ty, fr, h1, h2, h3, h4, h5, h6, h7, h8, h8m⟩ := hI.out
    refine spec_enter Tryz.func136 rfl Tryz.ntmps136 Tryz.results136 (by simp) fun K R hT => ?_
    repeat' (first | refine Step.imp ?_ | refine Side.mk (by first | exact True.intro | omega | exact ⟨trivial, rfl⟩ | exact ⟨by omega, trivial, rfl⟩ | exact ⟨by omega, rfl⟩ | exact ⟨by omega, by omega, rfl⟩ | (simp only [List.length_cons, List.length_nil, List.length_append]; done) | (simp only [List.length_cons, List.length_nil, List.length_append]; omega) | decide +kernel) ?_ | refine GDraw_one (by decide +kernel) ?_ | refine New.mk fun _ => ?_ | refine NewS.mk fun _ _ => ?_ | refine Ways.mk (fun _ => ?_) (fun _ => ?_))
    all_goals simp only [hi, and_self, if_true] at hT
    all_goals first | exact Fin.val hT rfl (Hle.refl _) | (exfalso; omega) | (exfalso; contradiction) | exact Fin.dec hT (by omega) (Hle.refl _) | exact Fin.tt hT (by omega) (Hle.refl _) | exact Fin.ff hT (by omega) (Hle.refl _)
  · refine spec_enter Tryz.func136 rfl Tryz.ntmps136 Tryz.results136 (by simp) fun K R hT => ?_
    simp only [hi, if_false] at hT
    repeat' (first | refine Step.imp ?_ | refine Side.mk (by first | exact True.intro | omega | exact ⟨trivial, rfl⟩ | exact ⟨by omega, trivial, rfl⟩ | exact ⟨by omega, rfl⟩ | exact ⟨by omega, by omega, rfl⟩ | (simp only [List.length_cons, List.length_nil, List.length_append]; done) | (simp only [List.length_cons, List.length_nil, List.length_append]; omega) | decide +kernel) ?_ | refine GDraw_one (by decide +kernel) ?_ | refine New.mk fun _ => ?_ | refine NewS.mk fun _ _ => ?_ | refine Ways.mk (fun _ => ?_) (fun _ => ?_))
    all_goals first | exact Fin.val hT rfl (Hle.refl _) | (exfalso; omega) | (exfalso; contradiction) | exact Fin.dec hT (by omega) (Hle.refl _) | exact Fin.tt hT (by omega) (Hle.refl _) | exact Fin.ff hT (by omega) (Hle.refl _)⟩
end
end Go.Sl

/-
  A tree's functions that climb: what is above a member.
-/
namespace Go.Sl
open Go.Proofs
set_option linter.unusedVariables false
set_option linter.unusedSimpArgs false
set_option maxRecDepth 10000
set_option synthInstance.maxSize 2000
set_option synthInstance.maxHeartbeats 200000
set_option maxHeartbeats 1000000

/-- One and all above it. -/
def aboveF (nodes : List Nd) : Nat → Int → List Int
  | 0, _ => []
  | f + 1, i => if 0 ≤ i ∧ i < (nodes.length : Int) then i :: aboveF nodes f (nodes[i.toNat]!).up else []
/-- No member is above itself: there is a depth. -/
class Acyc (nodes : List Nd) : Prop where
  eq : ∃ d : Int → Nat, ∀ i : Int, 0 ≤ i → i < (nodes.length : Int) → d (nodes[i.toNat]!).up < d i ∧ d i ≤ 32
def above (nodes : List Nd) (i : Int) : List Int := aboveF nodes 33 i
theorem aboveF_len (nodes : List Nd) : ∀ (f : Nat) (i : Int), (aboveF nodes f i).length ≤ f
  | 0, _ => by simp [aboveF]
  | f + 1, i => by
    unfold aboveF
    split
    · have := aboveF_len nodes f (nodes[i.toNat]!).up; rw [List.length_cons]; omega
    · simp
theorem aboveF_enough {nodes : List Nd} {d : Int → Nat} (hd : ∀ i : Int, 0 ≤ i → i < (nodes.length : Int) → d (nodes[i.toNat]!).up < d i ∧ d i ≤ 32) : ∀ (f g : Nat) (i : Int), d i < f → d i < g → aboveF nodes f i = aboveF nodes g i
  | 0, _, _, h, _ => by omega
  | _, 0, _, _, h => by omega
  | f + 1, g + 1, i, hf, hg => by
    unfold aboveF
    split
    · rename_i hi
      have := hd i hi.1 hi.2
      rw [aboveF_enough hd f g _ (by omega) (by omega)]
    · rfl
theorem above_step {nodes : List Nd} [ha : Acyc nodes] {i : Int} (h : 0 ≤ i ∧ i < nodes.length) : above nodes i = i :: above nodes (nodes[i.toNat]!).up := by
  obtain ⟨d, hd⟩ := ha.eq
  have := hd i h.1 h.2
  unfold above
  rw [aboveF, if_pos h, aboveF_enough hd 32 33 _ (by omega) (by omega)]
theorem above_no {nodes : List Nd} {i : Int} (h : ¬ (0 ≤ i ∧ i < nodes.length)) : above nodes i = [] := by
  unfold above aboveF; rw [if_neg h]

section
variable {h : PHeap} {b : Nat} {nodes : List Nd} {Lp : List HP} {nv : Value} {rest : List Value} {ty : TypeId} {fr : Nat × Nat}

instance is_own {L : List HP} {i : Int} [hp : Rdb L h b (.cells (nv :: rest).toArray ty fr)] [hn : FSl h nv encNd 2 nodes] : CallX Tryz.prog 100 [.pointer (some ⟨b, 0, none⟩), vI i] h L True (fun K => K (.bool (decide (0 ≤ i ∧ i < nodes.length))) h []) := ⟨fun _ => by
  refine spec_enter Tryz.func100 rfl Tryz.ntmps100 Tryz.results100 (by simp) fun K R hT => ?_
  repeat' (first | refine Step.imp ?_ | refine Side.mk (by first | exact True.intro | omega | exact ⟨trivial, rfl⟩ | exact ⟨by omega, trivial, rfl⟩ | exact ⟨by omega, rfl⟩ | exact ⟨by omega, by omega, rfl⟩ | (simp only [List.length_cons, List.length_nil, List.length_append]; done) | (simp only [List.length_cons, List.length_nil, List.length_append]; omega) | decide +kernel) ?_ | refine GDraw_one (by decide +kernel) ?_ | refine New.mk fun _ => ?_ | refine NewS.mk fun _ _ => ?_ | refine Ways.mk (fun _ => ?_) (fun _ => ?_))
  all_goals first | exact Fin.val hT rfl (Hle.refl _) | (exfalso; omega) | (exfalso; contradiction) | exact Fin.dec hT (by omega) (Hle.refl _) | exact Fin.tt hT (by omega) (Hle.refl _) | exact Fin.ff hT (by omega) (Hle.refl _)⟩

instance above_own {L : List HP} {i0 : Int} [hp : Rdb L h b (.cells (nv :: rest).toArray ty fr)] [hn : FSl h nv encNd 2 nodes] [ha : Acyc nodes] : CallX Tryz.prog 112 [.pointer (some ⟨b, 0, none⟩), vI i0] h L True (fun K => ∀ a c, K (.slice a (above nodes i0).length c) h [slo encI 1 (.slice a (above nodes i0).length c) (above nodes i0)]) := ⟨fun _ => by
  obtain ⟨d, hd⟩ := ha.eq
  have hlen := aboveF_len nodes 33 i0
  have hall : (above nodes i0).length ≤ 33 := hlen
  refine spec_enter Tryz.func112 rfl Tryz.ntmps112 Tryz.results112 (by simp) fun K R hT => ?_
  refine G_nil encI 1 none ?_
  repeat (first | refine Step.imp ?_ | refine Side.mk (by first | exact True.intro | omega | exact ⟨trivial, rfl⟩ | exact ⟨by omega, trivial, rfl⟩ | exact ⟨by omega, rfl⟩ | exact ⟨by omega, by omega, rfl⟩ | (simp only [List.length_cons, List.length_nil, List.length_append]; done) | (simp only [List.length_cons, List.length_nil, List.length_append]; omega) | decide +kernel) ?_ | refine GDraw_one (by decide +kernel) ?_ | refine New.mk fun _ => ?_ | refine NewS.mk fun _ _ => ?_)
  refine G_loop (σ := Int × List Int × Option Addr × Nat) (fun s => s.2.1 ++ above nodes s.1 = above nodes i0) (fun s => d s.1) (fun s => [(1, vI s.1), (5, .slice s.2.2.1 s.2.1.length s.2.2.2), (0, .pointer (some ⟨b, 0, none⟩))]) (fun _ => h) (fun s => slo encI 1 (.slice s.2.2.1 s.2.1.length s.2.2.2) s.2.1 :: (L ++ R)) (i0, [], none, 0) (by simp) ⟨rfl, rfl, rfl, trivial⟩ rfl inferInstance ?_
  rintro ⟨i, acc, a, c⟩ hinv
  simp only at hinv ⊢
  have hl2 : acc.length ≤ 33 := by have := congrArg List.length hinv; rw [List.length_append] at this; omega
  repeat (first | refine Step.imp ?_ | refine Side.mk (by first | exact True.intro | omega | exact ⟨trivial, rfl⟩ | exact ⟨by omega, trivial, rfl⟩ | exact ⟨by omega, rfl⟩ | exact ⟨by omega, by omega, rfl⟩ | (simp only [List.length_cons, List.length_nil, List.length_append]; done) | (simp only [List.length_cons, List.length_nil, List.length_append]; omega) | decide +kernel) ?_ | refine GDraw_one (by decide +kernel) ?_ | refine New.mk fun _ => ?_ | refine NewS.mk fun _ _ => ?_)
  refine ⟨fun hi => ?_, fun hi => ?_⟩
  · have hdi := hd i hi.1 hi.2
    repeat (first | refine Step.imp ?_ | refine Side.mk (by first | exact True.intro | omega | exact ⟨trivial, rfl⟩ | exact ⟨by omega, trivial, rfl⟩ | exact ⟨by omega, rfl⟩ | exact ⟨by omega, by omega, rfl⟩ | (simp only [List.length_cons, List.length_nil, List.length_append]; done) | (simp only [List.length_cons, List.length_nil, List.length_append]; omega) | decide +kernel) ?_ | refine GDraw_one (by decide +kernel) ?_ | refine New.mk fun _ => ?_ | refine NewS.mk fun _ _ => ?_)
    rename_i b' a' c'
    refine X_round ((nodes[i.toNat]!).up, acc ++ [i], a', c') ?_ hdi.1 ⟨rfl, by simp only [List.length_append, List.length_cons, List.length_nil, Nat.zero_add], rfl, trivial⟩ rfl (by first | infer_instance | (simp only [List.length_append, List.length_cons, List.length_nil, Nat.zero_add]; infer_instance))
    simp only [List.append_assoc, List.singleton_append]
    rw [← hinv, above_step hi]
  · have hacc : acc = above nodes i0 := by rw [← hinv, above_no hi]; simp
    subst hacc
    repeat (first | refine Step.imp ?_ | refine Side.mk (by first | exact True.intro | omega | exact ⟨trivial, rfl⟩ | exact ⟨by omega, trivial, rfl⟩ | exact ⟨by omega, rfl⟩ | exact ⟨by omega, by omega, rfl⟩ | (simp only [List.length_cons, List.length_nil, List.length_append]; done) | (simp only [List.length_cons, List.length_nil, List.length_append]; omega) | decide +kernel) ?_ | refine GDraw_one (by decide +kernel) ?_ | refine New.mk fun _ => ?_ | refine NewS.mk fun _ _ => ?_)
    exact Fin.val (hT _ _) rfl (Hle.refl _)⟩
end
end Go.Sl

/-
  What is asked of each member of a tree that is being made.
-/
namespace Go.Sl
open Go.Proofs
set_option linter.unusedVariables false
set_option linter.unusedSimpArgs false
set_option maxRecDepth 10000
set_option synthInstance.maxSize 2000
set_option synthInstance.maxHeartbeats 200000
set_option maxHeartbeats 1000000

section
variable {h : PHeap} {b : Nat} {nodes : List Nd} {Lp : List HP} {nv : Value} {rest : List Value} {ty : TypeId} {fr : Nat × Nat}

instance depth_own {L : List HP} {i0 : Int} [hp : Rdb L h b (.cells (nv :: rest).toArray ty fr)] [hn : FSl h nv encNd 2 nodes] [ha : Acyc nodes] : CallX Tryz.prog 150 [.pointer (some ⟨b, 0, none⟩), vI i0] h L True (fun K => K (vI (max 0 ((above nodes i0).length - 1))) h []) := ⟨fun _ => by
  have hlen := aboveF_len nodes 33 i0
  have hall : (above nodes i0).length ≤ 33 := hlen
  refine spec_enter Tryz.func150 rfl Tryz.ntmps150 Tryz.results150 (by simp) fun K R hT => ?_
  repeat (first | refine Step.imp ?_ | refine Side.mk (by first | exact True.intro | omega | exact ⟨trivial, rfl⟩ | exact ⟨by omega, trivial, rfl⟩ | exact ⟨by omega, rfl⟩ | exact ⟨by omega, by omega, rfl⟩ | (simp only [List.length_cons, List.length_nil, List.length_append]; done) | (simp only [List.length_cons, List.length_nil, List.length_append]; omega) | decide +kernel) ?_ | refine GDraw_one (by decide +kernel) ?_ | refine New.mk fun _ => ?_ | refine NewS.mk fun _ _ => ?_)
  intro a c
  repeat (first | refine Step.imp ?_ | refine Side.mk (by first | exact True.intro | omega | exact ⟨trivial, rfl⟩ | exact ⟨by omega, trivial, rfl⟩ | exact ⟨by omega, rfl⟩ | exact ⟨by omega, by omega, rfl⟩ | (simp only [List.length_cons, List.length_nil, List.length_append]; done) | (simp only [List.length_cons, List.length_nil, List.length_append]; omega) | decide +kernel) ?_ | refine GDraw_one (by decide +kernel) ?_ | refine New.mk fun _ => ?_ | refine NewS.mk fun _ _ => ?_)
  exact Fin.val hT rfl (Hle.refl _)⟩

/-- A member's name. -/
def ckName (nodes : List Nd) (i : Nat) : Int := if okName (nodes[i]!).name then 0 else 3
instance named_own {L : List HP} {i : Nat} [hp : Rdb L h b (.cells (nv :: rest).toArray ty fr)] [hn : FSl h nv encNd 2 nodes] : CallX Tryz.prog 123 [.pointer (some ⟨b, 0, none⟩), vI i] h L (i < nodes.length) (fun K => K (vI (ckName nodes i)) h []) := ⟨fun hi => by
  refine spec_enter Tryz.func123 rfl Tryz.ntmps123 Tryz.results123 (by simp) fun K R hT => ?_
  unfold ckName at hT
  repeat' (first | refine Step.imp ?_ | refine Side.mk (by first | exact True.intro | omega | exact ⟨trivial, rfl⟩ | exact ⟨by omega, trivial, rfl⟩ | exact ⟨by omega, rfl⟩ | exact ⟨by omega, by omega, rfl⟩ | (simp only [List.length_cons, List.length_nil, List.length_append]; done) | (simp only [List.length_cons, List.length_nil, List.length_append]; omega) | decide +kernel) ?_ | refine GDraw_one (by decide +kernel) ?_ | refine New.mk fun _ => ?_ | refine NewS.mk fun _ _ => ?_ | refine Ways.mk (fun _ => ?_) (fun _ => ?_))
  all_goals (split at hT)
  all_goals first | exact Fin.val hT rfl (Hle.refl _) | (exfalso; contradiction)⟩

/-- Does it lie where there is a place? -/
def ckRange (nodes : List Nd) (i : Nat) : Int := if (nodes[i]!).up < -1 ∨ (nodes.length : Int) ≤ (nodes[i]!).up then 17 else 0
instance ranged_own {L : List HP} {i : Nat} [hp : Rdb L h b (.cells (nv :: rest).toArray ty fr)] [hn : FSl h nv encNd 2 nodes] : CallX Tryz.prog 125 [.pointer (some ⟨b, 0, none⟩), vI i] h L (i < nodes.length) (fun K => K (vI (ckRange nodes i)) h []) := ⟨fun hi => by
  refine spec_enter Tryz.func125 rfl Tryz.ntmps125 Tryz.results125 (by simp) fun K R hT => ?_
  unfold ckRange at hT
  repeat' (first | refine Step.imp ?_ | refine Side.mk (by first | exact True.intro | omega | exact ⟨trivial, rfl⟩ | exact ⟨by omega, trivial, rfl⟩ | exact ⟨by omega, rfl⟩ | exact ⟨by omega, by omega, rfl⟩ | (simp only [List.length_cons, List.length_nil, List.length_append]; done) | (simp only [List.length_cons, List.length_nil, List.length_append]; omega) | decide +kernel) ?_ | refine GDraw_one (by decide +kernel) ?_ | refine New.mk fun _ => ?_ | refine NewS.mk fun _ _ => ?_ | refine Ways.mk (fun _ => ?_) (fun _ => ?_))
  all_goals (split at hT)
  all_goals first | exact Fin.val hT rfl (Hle.refl _) | (exfalso; omega)⟩

/-- Does the climb from k meet i? -/
def chase (nodes : List Nd) (i : Int) : Nat → Int → Bool
  | 0, _ => false
  | f + 1, k => if k < 0 then false else if k = i then true else chase nodes i f (nodes[k.toNat]!).up
def ckLoop (nodes : List Nd) (i : Nat) : Int := if chase nodes i nodes.length (nodes[i]!).up then 15 else 0
class UpsIn (nodes : List Nd) : Prop where
  eq : ∀ i < nodes.length, -1 ≤ (nodes[i]!).up ∧ (nodes[i]!).up < nodes.length
instance looped_own {L : List HP} {i : Nat} [hp : Rdb L h b (.cells (nv :: rest).toArray ty fr)] [hn : FSl h nv encNd 2 nodes] [hu : UpsIn nodes] : CallX Tryz.prog 126 [.pointer (some ⟨b, 0, none⟩), vI i] h L (i < nodes.length ∧ nodes.length ≤ 32) (fun K => K (vI (ckLoop nodes i)) h []) := ⟨fun ⟨hi, hsm⟩ => by
  have hr := hu.eq
  refine spec_enter Tryz.func126 rfl Tryz.ntmps126 Tryz.results126 (by simp) fun K R hT => ?_
  have h0 := hr i hi
  repeat (first | refine Step.imp ?_ | refine Side.mk (by first | exact True.intro | omega | exact ⟨trivial, rfl⟩ | exact ⟨by omega, trivial, rfl⟩ | exact ⟨by omega, rfl⟩ | exact ⟨by omega, by omega, rfl⟩ | (simp only [List.length_cons, List.length_nil, List.length_append]; done) | (simp only [List.length_cons, List.length_nil, List.length_append]; omega) | decide +kernel) ?_ | refine GDraw_one (by decide +kernel) ?_ | refine New.mk fun _ => ?_ | refine NewS.mk fun _ _ => ?_)
  refine G_loopE (σ := Nat × Int) (fun s => s.1 ≤ nodes.length ∧ -1 ≤ s.2 ∧ s.2 < nodes.length ∧ chase nodes i nodes.length (nodes[i]!).up = chase nodes i (nodes.length - s.1) s.2) (fun s => nodes.length - s.1) (fun s => [(19, vI s.1), (18, vI nodes.length), (5, vI s.2), (1, vI i), (0, .pointer (some ⟨b, 0, none⟩))]) (0, (nodes[i]!).up) ⟨by omega, h0.1, h0.2, rfl⟩ ⟨rfl, rfl, rfl, rfl, rfl, trivial⟩ ?_
  rintro ⟨n, k⟩ ⟨h1, h2, h3, h4⟩
  simp only at h1 h2 h3 h4 ⊢
  repeat (first | refine Step.imp ?_ | refine Side.mk (by first | exact True.intro | omega | exact ⟨trivial, rfl⟩ | exact ⟨by omega, trivial, rfl⟩ | exact ⟨by omega, rfl⟩ | exact ⟨by omega, by omega, rfl⟩ | (simp only [List.length_cons, List.length_nil, List.length_append]; done) | (simp only [List.length_cons, List.length_nil, List.length_append]; omega) | decide +kernel) ?_ | refine GDraw_one (by decide +kernel) ?_ | refine New.mk fun _ => ?_ | refine NewS.mk fun _ _ => ?_)
  refine ⟨fun hlt => ?_, fun hge => ?_⟩
  · rw [show nodes.length - n = (nodes.length - (n + 1)) + 1 by omega, chase] at h4
    repeat (first | refine Step.imp ?_ | refine Side.mk (by first | exact True.intro | omega | exact ⟨trivial, rfl⟩ | exact ⟨by omega, trivial, rfl⟩ | exact ⟨by omega, rfl⟩ | exact ⟨by omega, by omega, rfl⟩ | (simp only [List.length_cons, List.length_nil, List.length_append]; done) | (simp only [List.length_cons, List.length_nil, List.length_append]; omega) | decide +kernel) ?_ | refine GDraw_one (by decide +kernel) ?_ | refine New.mk fun _ => ?_ | refine NewS.mk fun _ _ => ?_)
    refine ⟨fun hneg => ?_, fun hpos => ?_⟩
    · rw [if_pos hneg] at h4
      unfold ckLoop at hT
      repeat (first | refine Step.imp ?_ | refine Side.mk (by first | exact True.intro | omega | exact ⟨trivial, rfl⟩ | exact ⟨by omega, trivial, rfl⟩ | exact ⟨by omega, rfl⟩ | exact ⟨by omega, by omega, rfl⟩ | (simp only [List.length_cons, List.length_nil, List.length_append]; done) | (simp only [List.length_cons, List.length_nil, List.length_append]; omega) | decide +kernel) ?_ | refine GDraw_one (by decide +kernel) ?_ | refine New.mk fun _ => ?_ | refine NewS.mk fun _ _ => ?_)
      exact Fin.val hT (by rw [h4]; rfl) (Hle.refl _)
    · rw [if_neg hpos] at h4
      repeat (first | refine Step.imp ?_ | refine Side.mk (by first | exact True.intro | omega | exact ⟨trivial, rfl⟩ | exact ⟨by omega, trivial, rfl⟩ | exact ⟨by omega, rfl⟩ | exact ⟨by omega, by omega, rfl⟩ | (simp only [List.length_cons, List.length_nil, List.length_append]; done) | (simp only [List.length_cons, List.length_nil, List.length_append]; omega) | decide +kernel) ?_ | refine GDraw_one (by decide +kernel) ?_ | refine New.mk fun _ => ?_ | refine NewS.mk fun _ _ => ?_)
      refine ⟨fun heq => ?_, fun hne => ?_⟩
      · rw [if_pos heq] at h4
        unfold ckLoop at hT
        repeat (first | refine Step.imp ?_ | refine Side.mk (by first | exact True.intro | omega | exact ⟨trivial, rfl⟩ | exact ⟨by omega, trivial, rfl⟩ | exact ⟨by omega, rfl⟩ | exact ⟨by omega, by omega, rfl⟩ | (simp only [List.length_cons, List.length_nil, List.length_append]; done) | (simp only [List.length_cons, List.length_nil, List.length_append]; omega) | decide +kernel) ?_ | refine GDraw_one (by decide +kernel) ?_ | refine New.mk fun _ => ?_ | refine NewS.mk fun _ _ => ?_)
        exact Fin.val hT (by rw [h4]; rfl) (Hle.refl _)
      · rw [if_neg hne] at h4
        have h5 := hr k.toNat (by omega)
        repeat (first | refine Step.imp ?_ | refine Side.mk (by first | exact True.intro | omega | exact ⟨trivial, rfl⟩ | exact ⟨by omega, trivial, rfl⟩ | exact ⟨by omega, rfl⟩ | exact ⟨by omega, by omega, rfl⟩ | (simp only [List.length_cons, List.length_nil, List.length_append]; done) | (simp only [List.length_cons, List.length_nil, List.length_append]; omega) | decide +kernel) ?_ | refine GDraw_one (by decide +kernel) ?_ | refine New.mk fun _ => ?_ | refine NewS.mk fun _ _ => ?_)
        refine X_roundE (n + 1, (nodes[k.toNat]!).up) ?_ ?_ ?_ ?_
        · exact ⟨by omega, h5.1, h5.2, h4⟩
        · show nodes.length - (n + 1) < nodes.length - n
          omega
        · exact ⟨rfl, rfl, rfl, rfl, rfl, trivial⟩
        · infer_instance
  · have : nodes.length - n = 0 := by omega
    rw [this, chase] at h4
    unfold ckLoop at hT
    repeat (first | refine Step.imp ?_ | refine Side.mk (by first | exact True.intro | omega | exact ⟨trivial, rfl⟩ | exact ⟨by omega, trivial, rfl⟩ | exact ⟨by omega, rfl⟩ | exact ⟨by omega, by omega, rfl⟩ | (simp only [List.length_cons, List.length_nil, List.length_append]; done) | (simp only [List.length_cons, List.length_nil, List.length_append]; omega) | decide +kernel) ?_ | refine GDraw_one (by decide +kernel) ?_ | refine New.mk fun _ => ?_ | refine NewS.mk fun _ _ => ?_)
    exact Fin.val hT (by rw [h4]; rfl) (Hle.refl _)⟩

def ckDeep (nodes : List Nd) (i : Nat) : Int := if 6 ≤ max 0 (((above nodes i).length : Int) - 1) then 16 else 0
instance deep_own {L : List HP} {i : Nat} [hp : Rdb L h b (.cells (nv :: rest).toArray ty fr)] [hn : FSl h nv encNd 2 nodes] [ha : Acyc nodes] : CallX Tryz.prog 127 [.pointer (some ⟨b, 0, none⟩), vI i] h L True (fun K => K (vI (ckDeep nodes i)) h []) := ⟨fun _ => by
  refine spec_enter Tryz.func127 rfl Tryz.ntmps127 Tryz.results127 (by simp) fun K R hT => ?_
  unfold ckDeep at hT
  repeat' (first | refine Step.imp ?_ | refine Side.mk (by first | exact True.intro | omega | exact ⟨trivial, rfl⟩ | exact ⟨by omega, trivial, rfl⟩ | exact ⟨by omega, rfl⟩ | exact ⟨by omega, by omega, rfl⟩ | (simp only [List.length_cons, List.length_nil, List.length_append]; done) | (simp only [List.length_cons, List.length_nil, List.length_append]; omega) | decide +kernel) ?_ | refine GDraw_one (by decide +kernel) ?_ | refine New.mk fun _ => ?_ | refine NewS.mk fun _ _ => ?_ | refine Ways.mk (fun _ => ?_) (fun _ => ?_))
  all_goals (split at hT)
  all_goals first | exact Fin.val hT rfl (Hle.refl _) | (exfalso; omega)⟩

def ckTwice (nodes : List Nd) (i : Nat) : Int := if mhas (namesTo nodes i) (nodes[i]!).name then 4 else 0
theorem namesTo_succ (nodes : List Nd) (i : Nat) : namesTo nodes (i + 1) = namesTo nodes i ++ [((nodes[i]!).name, vI i)] := by
  unfold namesTo; rw [List.range_succ, List.map_append]; rfl
theorem once_own {L : List HP} {i mb : Nat} [hp : Rdb L h b (.cells (nv :: .map (some mb) :: rest).toArray ty fr)] [hn : FSl h nv encNd 2 nodes] (hi : i < nodes.length) :
    Spec Tryz.prog 124 [.pointer (some ⟨b, 0, none⟩), vI i] h (mapO mb (namesTo nodes i) :: L) (fun K => K (vI (ckTwice nodes i)) h (mapO mb (if ckTwice nodes i = 0 then namesTo nodes (i + 1) else namesTo nodes i) :: L)) := by
  refine spec_enter Tryz.func124 rfl Tryz.ntmps124 Tryz.results124 (by simp) fun K R hT => ?_
  by_cases hm : mhas (namesTo nodes i) (nodes[i]!).name = true
  · simp only [ckTwice, hm, if_true, show ((4 : Int) = 0) = False by simp, if_false] at hT
    repeat (first | refine Step.imp ?_ | refine Side.mk (by first | exact True.intro | omega | exact ⟨trivial, rfl⟩ | exact ⟨by omega, trivial, rfl⟩ | exact ⟨by omega, rfl⟩ | exact ⟨by omega, by omega, rfl⟩ | (simp only [List.length_cons, List.length_nil, List.length_append]; done) | (simp only [List.length_cons, List.length_nil, List.length_append]; omega) | decide +kernel) ?_ | refine GDraw_one (by decide +kernel) ?_ | refine New.mk fun _ => ?_ | refine NewS.mk fun _ _ => ?_)
    refine ⟨fun _ => ?_, fun hf => absurd hm (by rw [hf]; simp)⟩
    repeat (first | refine Step.imp ?_ | refine Side.mk (by first | exact True.intro | omega | exact ⟨trivial, rfl⟩ | exact ⟨by omega, trivial, rfl⟩ | exact ⟨by omega, rfl⟩ | exact ⟨by omega, by omega, rfl⟩ | (simp only [List.length_cons, List.length_nil, List.length_append]; done) | (simp only [List.length_cons, List.length_nil, List.length_append]; omega) | decide +kernel) ?_ | refine GDraw_one (by decide +kernel) ?_ | refine New.mk fun _ => ?_ | refine NewS.mk fun _ _ => ?_)
    exact Fin.val hT rfl (Hle.refl _)
  · have hm' : mhas (namesTo nodes i) (nodes[i]!).name = false := by simpa using hm
    simp only [ckTwice, hm', Bool.false_eq_true, if_false, if_true] at hT
    repeat (first | refine Step.imp ?_ | refine Side.mk (by first | exact True.intro | omega | exact ⟨trivial, rfl⟩ | exact ⟨by omega, trivial, rfl⟩ | exact ⟨by omega, rfl⟩ | exact ⟨by omega, by omega, rfl⟩ | (simp only [List.length_cons, List.length_nil, List.length_append]; done) | (simp only [List.length_cons, List.length_nil, List.length_append]; omega) | decide +kernel) ?_ | refine GDraw_one (by decide +kernel) ?_ | refine New.mk fun _ => ?_ | refine NewS.mk fun _ _ => ?_)
    refine ⟨fun hf => absurd hf hm, fun _ => ?_⟩
    repeat (first | refine Step.imp ?_ | refine Side.mk (by first | exact True.intro | omega | exact ⟨trivial, rfl⟩ | exact ⟨by omega, trivial, rfl⟩ | exact ⟨by omega, rfl⟩ | exact ⟨by omega, by omega, rfl⟩ | (simp only [List.length_cons, List.length_nil, List.length_append]; done) | (simp only [List.length_cons, List.length_nil, List.length_append]; omega) | decide +kernel) ?_ | refine GDraw_one (by decide +kernel) ?_ | refine New.mk fun _ => ?_ | refine NewS.mk fun _ _ => ?_)
    rw [namesTo_succ] at hT
    exact Fin.val hT rfl (Hle.refl _)
end
end Go.Sl
