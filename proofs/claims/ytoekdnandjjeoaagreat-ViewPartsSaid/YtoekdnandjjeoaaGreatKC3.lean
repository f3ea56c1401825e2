/-
  Facts that the proof is made of (C3).
-/
import Derived.Test.YtoekdnandjjeoaaGreatKC2
import Derived.Test.YtoekdnandjjeoaaGreatKY
/-
  The library's sort, of few numbers.
-/
namespace Go.Sl
open Go.Proofs
set_option linter.unusedVariables false
set_option linter.unusedSimpArgs false
set_option maxRecDepth 10000
set_option synthInstance.maxSize 2000
set_option synthInstance.maxHeartbeats 200000
set_option maxHeartbeats 1000000
section
variable {h : PHeap}
instance isnan_int {n : Int} : CallV Tryz.prog 176 [vI n] h True (.bool false) := ⟨fun _ => by
  refine spec_enter Tryz.func176 rfl Tryz.ntmps176 Tryz.results176 (by simp) fun K R hT => ?_
  repeat (first | refine Step.imp ?_ | refine Side.mk (by first | exact True.intro | omega | exact ⟨trivial, rfl⟩ | exact ⟨by omega, trivial, rfl⟩ | exact ⟨by omega, rfl⟩ | exact ⟨by omega, by omega, rfl⟩ | (simp only [List.length_cons, List.length_nil, List.length_append]; done) | (simp only [List.length_cons, List.length_nil, List.length_append]; omega) | decide +kernel) ?_ | refine GDraw_one (by decide +kernel) ?_ | refine New.mk fun _ => ?_ | refine NewS.mk fun _ _ => ?_)
  exact Fin.val hT (by simp) (Hle.refl _)⟩
instance less_int {m n : Int} : CallV Tryz.prog 162 [vI m, vI n] h True (.bool (decide (m < n))) := ⟨fun _ => by
  refine spec_enter Tryz.func162 rfl Tryz.ntmps162 Tryz.results162 (by simp) fun K R hT => ?_
  repeat' (first | refine Step.imp ?_ | refine Side.mk (by first | exact True.intro | omega | exact ⟨trivial, rfl⟩ | exact ⟨by omega, trivial, rfl⟩ | exact ⟨by omega, rfl⟩ | exact ⟨by omega, by omega, rfl⟩ | (simp only [List.length_cons, List.length_nil, List.length_append]; done) | (simp only [List.length_cons, List.length_nil, List.length_append]; omega) | decide +kernel) ?_ | refine GDraw_one (by decide +kernel) ?_ | refine New.mk fun _ => ?_ | refine NewS.mk fun _ _ => ?_ | refine Ways.mk (fun _ => ?_) (fun _ => ?_))
  all_goals first | exact Fin.val hT rfl (Hle.refl _) | (exfalso; omega) | (exfalso; contradiction) | exact Fin.dec hT (by omega) (Hle.refl _) | exact Fin.tt hT (by omega) (Hle.refl _) | exact Fin.ff hT (by omega) (Hle.refl _)⟩
instance bits_len64 {n : Int} {L : List HP} : CallX Tryz.prog 166 [.int .u64 n] h L (0 ≤ n ∧ n < 256) (fun K => ∀ m, K (vI m) h []) := ⟨fun hn => by
  refine spec_enter Tryz.func166 rfl Tryz.ntmps166 Tryz.results166 (by simp) fun K R hT => ?_
  repeat' (first | refine Step.imp ?_ | refine Side.mk (by first | exact True.intro | omega | exact ⟨trivial, rfl⟩ | exact ⟨by omega, trivial, rfl⟩ | exact ⟨by omega, rfl⟩ | exact ⟨by omega, by omega, rfl⟩ | (simp only [List.length_cons, List.length_nil, List.length_append]; done) | (simp only [List.length_cons, List.length_nil, List.length_append]; omega) | decide +kernel) ?_ | refine GDraw_one (by decide +kernel) ?_ | refine New.mk fun _ => ?_ | refine NewS.mk fun _ _ => ?_ | refine Ways.mk (fun _ => ?_) (fun _ => ?_))
  all_goals first | (exfalso; omega) | skip
  have hw : IntKind.u8.wrap n = n := IntWalk.u8_in n (by omega)
  refine Side.mk ⟨by rw [hw]; omega, by rw [hw]; exact Int.lt_of_lt_of_le hn.2 (by decide)⟩ ?_
  repeat (first | refine Step.imp ?_ | refine Side.mk (by first | exact True.intro | omega | exact ⟨trivial, rfl⟩ | exact ⟨by omega, trivial, rfl⟩ | exact ⟨by omega, rfl⟩ | exact ⟨by omega, by omega, rfl⟩ | (simp only [List.length_cons, List.length_nil, List.length_append]; done) | (simp only [List.length_cons, List.length_nil, List.length_append]; omega) | decide +kernel) ?_ | refine GDraw_one (by decide +kernel) ?_ | refine New.mk fun _ => ?_ | refine NewS.mk fun _ _ => ?_)
  generalize hg : bAt _ _ = z
  have hz : 0 ≤ z ∧ z ≤ 255 := by rw [← hg]; exact bAt_range _ _
  rw [wrap_i64 (by omega)]
  repeat (first | refine Step.imp ?_ | refine Side.mk (by first | exact True.intro | omega | exact ⟨trivial, rfl⟩ | exact ⟨by omega, trivial, rfl⟩ | exact ⟨by omega, rfl⟩ | exact ⟨by omega, by omega, rfl⟩ | (simp only [List.length_cons, List.length_nil, List.length_append]; done) | (simp only [List.length_cons, List.length_nil, List.length_append]; omega) | decide +kernel) ?_ | refine GDraw_one (by decide +kernel) ?_ | refine New.mk fun _ => ?_ | refine NewS.mk fun _ _ => ?_)
  exact Fin.val (hT _) rfl (Hle.refl _)⟩
instance bits_len {n : Int} {L : List HP} : CallX Tryz.prog 143 [.int .u64 n] h L (0 ≤ n ∧ n < 256) (fun K => ∀ m, K (vI m) h []) := ⟨fun hn => by
  refine spec_enter Tryz.func143 rfl Tryz.ntmps143 Tryz.results143 (by simp) fun K R hT => ?_
  repeat (first | refine Step.imp ?_ | refine Side.mk (by first | exact True.intro | omega | exact ⟨trivial, rfl⟩ | exact ⟨by omega, trivial, rfl⟩ | exact ⟨by omega, rfl⟩ | exact ⟨by omega, by omega, rfl⟩ | (simp only [List.length_cons, List.length_nil, List.length_append]; done) | (simp only [List.length_cons, List.length_nil, List.length_append]; omega) | decide +kernel) ?_ | refine GDraw_one (by decide +kernel) ?_ | refine New.mk fun _ => ?_ | refine NewS.mk fun _ _ => ?_)
  intro m
  repeat (first | refine Step.imp ?_ | refine Side.mk (by first | exact True.intro | omega | exact ⟨trivial, rfl⟩ | exact ⟨by omega, trivial, rfl⟩ | exact ⟨by omega, rfl⟩ | exact ⟨by omega, by omega, rfl⟩ | (simp only [List.length_cons, List.length_nil, List.length_append]; done) | (simp only [List.length_cons, List.length_nil, List.length_append]; omega) | decide +kernel) ?_ | refine GDraw_one (by decide +kernel) ?_ | refine New.mk fun _ => ?_ | refine NewS.mk fun _ _ => ?_)
  exact Fin.val (hT _) rfl (Hle.refl _)⟩
end
end Go.Sl

/-
  The library's sort, of few numbers: by insertion.
-/
namespace Go.Sl
open Go.Proofs
set_option linter.unusedVariables false
set_option linter.unusedSimpArgs false
set_option maxRecDepth 10000
set_option synthInstance.maxSize 2000
set_option synthInstance.maxHeartbeats 200000
set_option maxHeartbeats 1000000
def Sorted (ys : List Int) : Prop := ∀ p q, p < q → q < ys.length → ys[p]! ≤ ys[q]!
instance {j : Nat} : ToN (((j + 1 : Nat) : Int) - 1) j := ⟨by omega⟩
def swp (l : List Int) (j : Nat) : List Int := (l.set (j + 1) (l[j]!)).set j (l[j + 1]!)
theorem swp_len (l : List Int) (j : Nat) : (swp l j).length = l.length := by simp [swp]
theorem swp_get {l : List Int} {j : Nat} (h : j + 1 < l.length) (p : Nat) : (swp l j)[p]! = if p = j then l[j + 1]! else if p = j + 1 then l[j]! else l[p]! := by
  unfold swp
  rw [getSet (by simp; omega), getSet h]
  by_cases h1 : p = j
  · subst h1; simp
  · by_cases h2 : p = j + 1
    · subst h2; simp
    · rw [if_neg (fun e => h1 e.symm), if_neg (fun e => h2 e.symm), if_neg h1, if_neg h2]
theorem swp_perm : ∀ {l : List Int} {j : Nat}, j + 1 < l.length → (swp l j).Perm l
  | [], _, h => by simp at h
  | [_], j, h => by simp at h
  | x :: y :: l, 0, _ => by simpa [swp] using List.Perm.swap x y l
  | x :: l, j + 1, h => by
    have ih := swp_perm (l := l) (j := j) (by simpa using h)
    have : swp (x :: l) (j + 1) = x :: swp l j := by simp [swp]
    rw [this]; exact List.Perm.cons x ih
section
variable {h : PHeap}
theorem ins_sort {v : Value} {xs : List Int} {L : List HP} (hn : xs.length ≤ 4294967296) : Spec Tryz.prog 156 [v, vI 0, vI xs.length] h (slo encI 1 v xs :: L) (fun K => ∀ ys, ys.Perm xs → Sorted ys → K (.tuple ([] : List Value).toArray) h (slo encI 1 v ys :: L)) := by
  refine spec_enter Tryz.func156 rfl Tryz.ntmps156 Tryz.results156 (by simp) fun K R hT => ?_
  repeat (first | refine Step.imp ?_ | refine Side.mk (by first | exact True.intro | omega | exact ⟨trivial, rfl⟩ | exact ⟨by omega, trivial, rfl⟩ | exact ⟨by omega, rfl⟩ | exact ⟨by omega, by omega, rfl⟩ | (simp only [List.length_cons, List.length_nil, List.length_append]; done) | (simp only [List.length_cons, List.length_nil, List.length_append]; omega) | decide +kernel) ?_ | refine GDraw_one (by decide +kernel) ?_ | refine New.mk fun _ => ?_ | refine NewS.mk fun _ _ => ?_)
  refine G_loop (σ := Nat × List Int) (fun s => s.2.Perm xs ∧ (∀ p q, p < q → q < s.1 + 1 → q < xs.length → s.2[p]! ≤ s.2[q]!) ∧ s.1 ≤ xs.length) (fun s => xs.length - s.1)
    (fun s => [(6, vI (s.1 + 1)), (2, vI xs.length), (1, vI 0), (0, v)]) (fun _ => h) (fun s => slo encI 1 v s.2 :: (L ++ R)) (0, xs) ⟨.refl _, fun p q h1 h2 _ => by omega, by omega⟩ ⟨rfl, rfl, rfl, rfl, trivial⟩ rfl inferInstance ?_
  rintro ⟨i, cur⟩ ⟨hp, hs, hi⟩
  simp only at hp hs hi ⊢
  have hcl := hp.length_eq
  repeat (first | refine Step.imp ?_ | refine Side.mk (by first | exact True.intro | omega | exact ⟨trivial, rfl⟩ | exact ⟨by omega, trivial, rfl⟩ | exact ⟨by omega, rfl⟩ | exact ⟨by omega, by omega, rfl⟩ | (simp only [List.length_cons, List.length_nil, List.length_append]; done) | (simp only [List.length_cons, List.length_nil, List.length_append]; omega) | decide +kernel) ?_ | refine GDraw_one (by decide +kernel) ?_ | refine New.mk fun _ => ?_ | refine NewS.mk fun _ _ => ?_)
  refine ⟨fun hlt => ?_, fun hge => ?_⟩
  · repeat (first | refine Step.imp ?_ | refine Side.mk (by first | exact True.intro | omega | exact ⟨trivial, rfl⟩ | exact ⟨by omega, trivial, rfl⟩ | exact ⟨by omega, rfl⟩ | exact ⟨by omega, by omega, rfl⟩ | (simp only [List.length_cons, List.length_nil, List.length_append]; done) | (simp only [List.length_cons, List.length_nil, List.length_append]; omega) | decide +kernel) ?_ | refine GDraw_one (by decide +kernel) ?_ | refine New.mk fun _ => ?_ | refine NewS.mk fun _ _ => ?_)
    refine G_loop (σ := Nat × List Int) (fun s => s.2.Perm xs ∧ s.1 ≤ i + 1 ∧ (∀ p q, p < q → q ≤ i + 1 → p ≠ s.1 → q ≠ s.1 → s.2[p]! ≤ s.2[q]!) ∧ (∀ q, s.1 < q → q ≤ i + 1 → s.2[s.1]! ≤ s.2[q]!)) (fun s => s.1)
      (fun s => [(7, vI s.1), (6, vI (i + 1)), (2, vI xs.length), (1, vI 0), (0, v)]) (fun _ => h) (fun s => slo encI 1 v s.2 :: (L ++ R)) (i + 1, cur) ⟨hp, by omega, fun p q h1 h2 h3 h4 => hs p q h1 (by omega) (by omega), fun q h1 h2 => by omega⟩ ⟨rfl, rfl, rfl, rfl, rfl, trivial⟩ rfl inferInstance ?_
    rintro ⟨j, c2⟩ ⟨hp2, hj, hs2, hs3⟩
    simp only at hp2 hj hs2 hs3 ⊢
    have hcl2 := hp2.length_eq
    cases j with
    | zero =>
      have hsorted : ∀ p q, p < q → q ≤ i + 1 → c2[p]! ≤ c2[q]! := fun p q h1 h2 => by
        by_cases h0 : p = 0
        · subst h0; exact hs3 q h1 h2
        · exact hs2 p q h1 h2 h0 (by omega)
      repeat' (first | refine Step.imp ?_ | refine Side.mk (by first | exact True.intro | omega | exact ⟨trivial, rfl⟩ | exact ⟨by omega, trivial, rfl⟩ | exact ⟨by omega, rfl⟩ | exact ⟨by omega, by omega, rfl⟩ | (simp only [List.length_cons, List.length_nil, List.length_append]; done) | (simp only [List.length_cons, List.length_nil, List.length_append]; omega) | decide +kernel) ?_ | refine GDraw_one (by decide +kernel) ?_ | refine New.mk fun _ => ?_ | refine NewS.mk fun _ _ => ?_ | refine Ways.mk (fun _ => ?_) (fun _ => ?_))
      all_goals first | (exfalso; omega) | skip
      refine X_round (i + 1, c2) ?_ ?_ ?_ ?_ ?_
      · refine ⟨hp2, fun p q h1 h2 h3 => ?_, by show i + 1 ≤ xs.length; omega⟩
        exact hsorted p q h1 (by have h2 : q < i + 1 + 1 := h2; omega)
      · show xs.length - (i + 1) < xs.length - i
        omega
      · exact ⟨rfl, rfl, rfl, rfl, trivial⟩
      · rfl
      · infer_instance
    | succ j =>
      have hset : (c2.set (j + 1) (c2[j]!)).length = c2.length := by simp
      repeat' (first | refine Step.imp ?_ | refine Side.mk (by first | exact True.intro | omega | exact ⟨trivial, rfl⟩ | exact ⟨by omega, trivial, rfl⟩ | exact ⟨by omega, rfl⟩ | exact ⟨by omega, by omega, rfl⟩ | (simp only [List.length_cons, List.length_nil, List.length_append]; done) | (simp only [List.length_cons, List.length_nil, List.length_append]; omega) | decide +kernel) ?_ | refine GDraw_one (by decide +kernel) ?_ | refine New.mk fun _ => ?_ | refine NewS.mk fun _ _ => ?_ | refine Ways.mk (fun _ => ?_) (fun _ => ?_))
      all_goals first | (exfalso; omega) | skip
      · have hlt2 : c2[j + 1]! < c2[j]! := by assumption
        have hg := swp_get (l := c2) (j := j) (by omega)
        refine X_round (j, swp c2 j) ?_ ?_ ?_ ?_ ?_
        · refine ⟨(swp_perm (by omega)).trans hp2, by show j ≤ i + 1; omega, fun p q h1 h2 h3 h4 => ?_, fun q h1 h2 => ?_⟩
          · show (swp c2 j)[p]! ≤ (swp c2 j)[q]!
            have h3 : p ≠ j := h3
            have h4 : q ≠ j := h4
            rw [hg p, hg q, if_neg h3, if_neg h4]
            by_cases hp1 : p = j + 1
            · subst hp1
              rw [if_pos rfl, if_neg (by omega)]
              exact hs2 j q (by omega) h2 (by omega) (by omega)
            · rw [if_neg hp1]
              by_cases hq1 : q = j + 1
              · subst hq1
                rw [if_pos rfl]
                exact hs2 p j (by omega) (by omega) (by omega) (by omega)
              · rw [if_neg hq1]
                exact hs2 p q h1 h2 hp1 hq1
          · show (swp c2 j)[j]! ≤ (swp c2 j)[q]!
            have h1 : j < q := h1
            rw [hg j, hg q, if_pos rfl, if_neg (by omega)]
            by_cases hq1 : q = j + 1
            · rw [if_pos hq1]; omega
            · rw [if_neg hq1]; exact hs3 q (by omega) h2
        · show j < j + 1
          omega
        · refine ⟨?_, rfl, rfl, rfl, rfl, trivial⟩
          have : ((j + 1 : Nat) : Int) - 1 = (j : Int) := by omega
          rw [this]
        · rfl
        · show Sub (slo encI 1 v ((c2.set (j + 1) (c2[j]!)).set j (c2[j + 1]!)) :: (L ++ R)) (slo encI 1 v ((c2.set (j + 1) (c2[j]!)).set j (c2[j + 1]!)) :: (L ++ R))
          infer_instance
      · have hge2 : ¬ c2[j + 1]! < c2[j]! := by assumption
        have hsorted : ∀ p q, p < q → q ≤ i + 1 → c2[p]! ≤ c2[q]! := fun p q h1 h2 => by
          by_cases hp1 : p = j + 1
          · subst hp1; exact hs3 q h1 h2
          · by_cases hq1 : q = j + 1
            · subst hq1
              by_cases hpj : p = j
              · subst hpj; omega
              · have := hs2 p j (by omega) (by omega) hp1 (by omega)
                omega
            · exact hs2 p q h1 h2 hp1 hq1
        refine X_round (i + 1, c2) ?_ ?_ ?_ ?_ ?_
        · refine ⟨hp2, fun p q h1 h2 h3 => ?_, by show i + 1 ≤ xs.length; omega⟩
          exact hsorted p q h1 (by have h2 : q < i + 1 + 1 := h2; omega)
        · show xs.length - (i + 1) < xs.length - i
          omega
        · exact ⟨rfl, rfl, rfl, rfl, trivial⟩
        · rfl
        · infer_instance
  · repeat (first | refine Step.imp ?_ | refine Side.mk (by first | exact True.intro | omega | exact ⟨trivial, rfl⟩ | exact ⟨by omega, trivial, rfl⟩ | exact ⟨by omega, rfl⟩ | exact ⟨by omega, by omega, rfl⟩ | (simp only [List.length_cons, List.length_nil, List.length_append]; done) | (simp only [List.length_cons, List.length_nil, List.length_append]; omega) | decide +kernel) ?_ | refine GDraw_one (by decide +kernel) ?_ | refine New.mk fun _ => ?_ | refine NewS.mk fun _ _ => ?_)
    refine Fin.val (hT cur hp (fun p q h1 h2 => hs p q h1 (by omega) (by omega))) rfl (Hle.refl _)
end
end Go.Sl

/-
  The library's sort, of few numbers.
-/
namespace Go.Sl
open Go.Proofs
set_option linter.unusedVariables false
set_option linter.unusedSimpArgs false
set_option maxRecDepth 10000
set_option synthInstance.maxSize 2000
set_option synthInstance.maxHeartbeats 200000
set_option maxHeartbeats 1000000
section
variable {h : PHeap}
instance ins_call {L R : List HP} {v : Value} {xs : List Int} [p : PickO L v Int encI 1 xs R] : CallT Tryz.prog 156 [v, vI 0, vI xs.length] h L (xs.length ≤ 4294967296) [] (fun K => ∀ ys, ys.Perm xs → Sorted ys → K (.tuple ([] : List Value).toArray) h (slo encI 1 v ys :: R)) :=
  ⟨fun hn => ⟨slo encI 1 v xs :: R, by rw [List.append_nil]; exact p.eq, ins_sort hn⟩⟩
theorem pdq_sort {v : Value} {xs : List Int} {L : List HP} {lim : Int} (hn : xs.length ≤ 12) : Spec Tryz.prog 142 [v, vI 0, vI xs.length, vI lim] h (slo encI 1 v xs :: L) (fun K => ∀ ys, ys.Perm xs → Sorted ys → K (.tuple ([] : List Value).toArray) h (slo encI 1 v ys :: L)) := by
  refine spec_enter Tryz.func142 rfl Tryz.ntmps142 Tryz.results142 (by simp) fun K R hT => ?_
  repeat (first | refine Step.imp ?_ | refine Side.mk (by first | exact True.intro | omega | exact ⟨trivial, rfl⟩ | exact ⟨by omega, trivial, rfl⟩ | exact ⟨by omega, rfl⟩ | exact ⟨by omega, by omega, rfl⟩ | (simp only [List.length_cons, List.length_nil, List.length_append]; done) | (simp only [List.length_cons, List.length_nil, List.length_append]; omega) | decide +kernel) ?_ | refine GDraw_one (by decide +kernel) ?_ | refine New.mk fun _ => ?_ | refine NewS.mk fun _ _ => ?_)
  refine G_loopE (σ := Unit) (fun _ => True) (fun _ => 0) (fun _ => [(2, vI xs.length), (1, vI 0), (0, v)]) () trivial ⟨rfl, rfl, rfl, trivial⟩ fun _ _ => ?_
  repeat (first | refine Step.imp ?_ | refine Side.mk (by first | exact True.intro | omega | exact ⟨trivial, rfl⟩ | exact ⟨by omega, trivial, rfl⟩ | exact ⟨by omega, rfl⟩ | exact ⟨by omega, by omega, rfl⟩ | (simp only [List.length_cons, List.length_nil, List.length_append]; done) | (simp only [List.length_cons, List.length_nil, List.length_append]; omega) | decide +kernel) ?_ | refine GDraw_one (by decide +kernel) ?_ | refine New.mk fun _ => ?_ | refine NewS.mk fun _ _ => ?_)
  refine ⟨fun _ => ?_, fun hno => absurd (by omega) hno⟩
  repeat (first | refine Step.imp ?_ | refine Side.mk (by first | exact True.intro | omega | exact ⟨trivial, rfl⟩ | exact ⟨by omega, trivial, rfl⟩ | exact ⟨by omega, rfl⟩ | exact ⟨by omega, by omega, rfl⟩ | (simp only [List.length_cons, List.length_nil, List.length_append]; done) | (simp only [List.length_cons, List.length_nil, List.length_append]; omega) | decide +kernel) ?_ | refine GDraw_one (by decide +kernel) ?_ | refine New.mk fun _ => ?_ | refine NewS.mk fun _ _ => ?_)
  intro ys h1 h2
  repeat (first | refine Step.imp ?_ | refine Side.mk (by first | exact True.intro | omega | exact ⟨trivial, rfl⟩ | exact ⟨by omega, trivial, rfl⟩ | exact ⟨by omega, rfl⟩ | exact ⟨by omega, by omega, rfl⟩ | (simp only [List.length_cons, List.length_nil, List.length_append]; done) | (simp only [List.length_cons, List.length_nil, List.length_append]; omega) | decide +kernel) ?_ | refine GDraw_one (by decide +kernel) ?_ | refine New.mk fun _ => ?_ | refine NewS.mk fun _ _ => ?_)
  exact Fin.val (hT ys h1 h2) rfl (Hle.refl _)
instance pdq_call {L R : List HP} {v : Value} {xs : List Int} {lim : Int} [p : PickO L v Int encI 1 xs R] : CallT Tryz.prog 142 [v, vI 0, vI xs.length, vI lim] h L (xs.length ≤ 12) [] (fun K => ∀ ys, ys.Perm xs → Sorted ys → K (.tuple ([] : List Value).toArray) h (slo encI 1 v ys :: R)) :=
  ⟨fun hn => ⟨slo encI 1 v xs :: R, by rw [List.append_nil]; exact p.eq, pdq_sort hn⟩⟩
instance sort_call {L R : List HP} {v : Value} {xs : List Int} [p : PickO L v Int encI 1 xs R] : CallT Tryz.prog 113 [v] h L (xs.length ≤ 12) [] (fun K => ∀ ys, ys.Perm xs → Sorted ys → K (.tuple ([] : List Value).toArray) h (slo encI 1 v ys :: R)) :=
  ⟨fun hn => ⟨slo encI 1 v xs :: R, by rw [List.append_nil]; exact p.eq, by
    refine spec_enter Tryz.func113 rfl Tryz.ntmps113 Tryz.results113 (by simp) fun K R hT => ?_
    repeat (first | refine Step.imp ?_ | refine Side.mk (by first | exact True.intro | omega | exact ⟨trivial, rfl⟩ | exact ⟨by omega, trivial, rfl⟩ | exact ⟨by omega, rfl⟩ | exact ⟨by omega, by omega, rfl⟩ | (simp only [List.length_cons, List.length_nil, List.length_append]; done) | (simp only [List.length_cons, List.length_nil, List.length_append]; omega) | decide +kernel) ?_ | refine GDraw_one (by decide +kernel) ?_ | refine New.mk fun _ => ?_ | refine NewS.mk fun _ _ => ?_)
    have hw : IntKind.u64.wrap (xs.length : Int) = xs.length := IntWalk.u64_in _ (by omega)
    refine Side.mk (by rw [hw]; omega) ?_
    intro m
    repeat (first | refine Step.imp ?_ | refine Side.mk (by first | exact True.intro | omega | exact ⟨trivial, rfl⟩ | exact ⟨by omega, trivial, rfl⟩ | exact ⟨by omega, rfl⟩ | exact ⟨by omega, by omega, rfl⟩ | (simp only [List.length_cons, List.length_nil, List.length_append]; done) | (simp only [List.length_cons, List.length_nil, List.length_append]; omega) | decide +kernel) ?_ | refine GDraw_one (by decide +kernel) ?_ | refine New.mk fun _ => ?_ | refine NewS.mk fun _ _ => ?_)
    intro ys h1 h2
    repeat (first | refine Step.imp ?_ | refine Side.mk (by first | exact True.intro | omega | exact ⟨trivial, rfl⟩ | exact ⟨by omega, trivial, rfl⟩ | exact ⟨by omega, rfl⟩ | exact ⟨by omega, by omega, rfl⟩ | (simp only [List.length_cons, List.length_nil, List.length_append]; done) | (simp only [List.length_cons, List.length_nil, List.length_append]; omega) | decide +kernel) ?_ | refine GDraw_one (by decide +kernel) ?_ | refine New.mk fun _ => ?_ | refine NewS.mk fun _ _ => ?_)
    exact Fin.val (hT ys h1 h2) rfl (Hle.refl _)⟩⟩
end
end Go.Sl

/-
  Sorted lists: there is one of each.
-/
namespace Go.Sl
open Go.Proofs
set_option linter.unusedVariables false
set_option linter.unusedSimpArgs false
set_option maxRecDepth 10000
set_option synthInstance.maxSize 2000
set_option synthInstance.maxHeartbeats 200000
set_option maxHeartbeats 1000000
def insS (x : Int) : List Int → List Int
  | [] => [x]
  | y :: l => if x ≤ y then x :: y :: l else y :: insS x l
def sortS : List Int → List Int
  | [] => []
  | x :: l => insS x (sortS l)
theorem insS_perm (x : Int) : ∀ l, (insS x l).Perm (x :: l)
  | [] => .refl _
  | y :: l => by
    unfold insS
    split
    · exact .refl _
    · exact (List.Perm.cons y (insS_perm x l)).trans (.swap _ _ _)
theorem sortS_perm : ∀ l, (sortS l).Perm l
  | [] => .refl _
  | x :: l => (insS_perm x (sortS l)).trans (List.Perm.cons x (sortS_perm l))
theorem insS_sorted (x : Int) : ∀ {l : List Int}, l.Pairwise (· ≤ ·) → (insS x l).Pairwise (· ≤ ·)
  | [], _ => by simp [insS]
  | y :: l, h => by
    have h' := List.pairwise_cons.1 h
    unfold insS
    split
    · rename_i hxy
      refine List.pairwise_cons.2 ⟨fun z hz => ?_, h⟩
      rcases List.mem_cons.1 hz with rfl | hz
      · exact hxy
      · have := h'.1 z hz; omega
    · rename_i hxy
      refine List.pairwise_cons.2 ⟨fun z hz => ?_, insS_sorted x h'.2⟩
      rcases List.mem_cons.1 ((insS_perm x l).mem_iff.1 hz) with rfl | hz
      · omega
      · exact h'.1 z hz
theorem sortS_sorted : ∀ l, (sortS l).Pairwise (· ≤ ·)
  | [] => by simp [sortS]
  | x :: l => insS_sorted x (sortS_sorted l)
theorem Sorted.pairwise {ys : List Int} (h : Sorted ys) : ys.Pairwise (· ≤ ·) := by
  rw [List.pairwise_iff_getElem]
  intro i j hi hj hij
  have := h i j hij hj
  rwa [getElem!_pos ys i hi, getElem!_pos ys j hj] at this
theorem sorted_unique : ∀ {xs ys : List Int}, xs.Perm ys → xs.Pairwise (· ≤ ·) → ys.Pairwise (· ≤ ·) → xs = ys
  | [], ys, p, _, _ => (List.Perm.nil_eq p)
  | x :: xs, [], p, _, _ => by have := p.length_eq; simp at this
  | x :: xs, y :: ys, p, hx, hy => by
    have hx' := List.pairwise_cons.1 hx
    have hy' := List.pairwise_cons.1 hy
    have h1 : x ≤ y := by
      rcases List.mem_cons.1 (p.mem_iff.2 (List.mem_cons_self (a := y) (l := ys))) with rfl | h
      · exact Int.le_refl _
      · exact hx'.1 y h
    have h2 : y ≤ x := by
      rcases List.mem_cons.1 (p.mem_iff.1 (List.mem_cons_self (a := x) (l := xs))) with rfl | h
      · exact Int.le_refl _
      · exact hy'.1 x h
    have : x = y := by omega
    subst this
    rw [sorted_unique ((List.perm_cons x).1 p) hx'.2 hy'.2]
theorem sort_is {xs ys : List Int} (p : ys.Perm xs) (s : Sorted ys) : ys = sortS xs := sorted_unique (p.trans (sortS_perm xs).symm) s.pairwise (sortS_sorted xs)
end Go.Sl

/-
  All cells that a leaf is within.
-/
namespace Go.Sl
open Go.Proofs
set_option linter.unusedVariables false
set_option linter.unusedSimpArgs false
set_option maxRecDepth 10000
set_option synthInstance.maxSize 2000
set_option synthInstance.maxHeartbeats 200000
set_option maxHeartbeats 1000000
structure Cl where
  m : Int
  a0 : Int
  a1 : Int
  a2 : Int
  a3 : Int
deriving Inhabited
@[reducible] def encCl (c : Cl) : List Value := [vI c.m, vI c.a0, vI c.a1, vI c.a2, vI c.a3]
instance : EncOne encCl := ⟨fun y u hu => by simp at hu; rcases hu with rfl | rfl | rfl | rfl | rfl <;> rfl⟩
instance {m a0 a1 a2 a3 : Int} : Mk encCl [vI m, vI a0, vI a1, vI a2, vI a3] ⟨m, a0, a1, a2, a3⟩ := ⟨rfl⟩
/-- A slice in a box. -/
def outC (ob : Nat) (xs : List Cl) : HP := fun bs => ∃ a c b1 b2, bs = b1 ++ b2 ∧ blk ob (.cells [.slice a xs.length c].toArray 157 (0, 0)) b1 ∧ slo encCl 5 (.slice a xs.length c) xs b2
theorem St.outC {h : PHeap} {ob : Nat} {xs : List Cl} {L : List HP} {w : World} (s : St h (Sl.outC ob xs :: L) w) : ∃ a c, St h (blk ob (.cells [.slice a xs.length c].toArray 157 (0, 0)) :: slo encCl 5 (.slice a xs.length c) xs :: L) w := by
  obtain ⟨bs, ⟨b1, b2, rfl, ⟨a, c, c1, c2, rfl, h1, h2⟩, hd⟩, s0⟩ := s
  exact ⟨a, c, c1 ++ (c2 ++ b2), ⟨c1, c2 ++ b2, rfl, h1, c2, b2, rfl, h2, hd⟩, by rw [← List.append_assoc]; exact s0⟩
theorem St.inC {h : PHeap} {ob : Nat} {xs : List Cl} {L : List HP} {w : World} {a : Option Addr} {c : Nat} (s : St h (blk ob (.cells [.slice a xs.length c].toArray 157 (0, 0)) :: slo encCl 5 (.slice a xs.length c) xs :: L) w) : St h (Sl.outC ob xs :: L) w := by
  obtain ⟨bs, ⟨b1, b2, rfl, h1, c1, c2, rfl, h2, hd⟩, s0⟩ := s
  exact ⟨(b1 ++ c1) ++ c2, ⟨b1 ++ c1, c2, rfl, ⟨a, c, b1, c1, rfl, h1, h2⟩, hd⟩, by rw [List.append_assoc]; exact s0⟩
theorem X_outC {P : Program} {N : NN} {k : List It} {Q : Post} {e : Env} {h : PHeap} {ob : Nat} {xs : List Cl} {L : List HP} {x : Exit} (g : ∀ a c, X P N x k Q e h (blk ob (.cells [.slice a xs.length c].toArray 157 (0, 0)) :: slo encCl 5 (.slice a xs.length c) xs :: L)) : X P N x k Q e h (outC ob xs :: L) := fun a w s => by
  obtain ⟨b, c, st⟩ := s.st.outC
  exact g b c a w (s.ae.as st)
theorem G_outC {P : Program} {N : NN} {k : List It} {Q : Post} {e : Env} {h : PHeap} {ob : Nat} {xs : List Cl} {L : List HP} {x : Code} (g : ∀ a c, G P N x k Q e h (blk ob (.cells [.slice a xs.length c].toArray 157 (0, 0)) :: slo encCl 5 (.slice a xs.length c) xs :: L)) : G P N x k Q e h (outC ob xs :: L) := fun a w s => by
  obtain ⟨b, c, st⟩ := s.st.outC
  exact g b c a w (s.ae.as st)
theorem X_inC {P : Program} {N : NN} {k : List It} {Q : Post} {e : Env} {h : PHeap} {ob : Nat} {xs : List Cl} {L : List HP} {x : Exit} {a : Option Addr} {c : Nat} (g : X P N x k Q e h (outC ob xs :: L)) : X P N x k Q e h (blk ob (.cells [.slice a xs.length c].toArray 157 (0, 0)) :: slo encCl 5 (.slice a xs.length c) xs :: L) := fun ac w s => g ac w (s.ae.as s.st.inC)
/-- The members above a leaf's, in order. -/
def overL (C : Cat) (n : Int) (i : Nat) : List Int := sortS (above (C.dims[i]!).2 (leafAtF C n i))
def overLs (C : Cat) (n : Int) : List (List Int) := (List.range C.dims.length).map (overL C n)
def clOf (m : Int) (q : Nat → Int) : Cl := ⟨m, q 0, q 1, q 2, q 3⟩
def overF (C : Cat) (n : Int) : List Cl := if 0 ≤ n ∧ n < leavesF C C.dims.length then (combF (overLs C n) C.dims.length 0 (fun _ => 0)).map (clOf (quoF (leavesN C) n C.dims.length C.dims.length)) else []
theorem above_six {nodes : List Nd} (h : treeErr nodes = none) (i : Int) : (above nodes i).length ≤ 6 := by
  by_cases hi : 0 ≤ i ∧ i < nodes.length
  · have := (treeErr_all h).2.2 4 (by omega) i.toNat (by omega)
    simp only [ckStep] at this
    have h4 : ckDeep nodes i.toNat = 0 := by simpa using this
    unfold ckDeep at h4
    rw [show ((i.toNat : Nat) : Int) = i by omega] at h4
    split at h4
    · cases h4
    · omega
  · rw [above_no hi]; simp
theorem above_len (nodes : List Nd) (i : Int) : (above nodes i).length ≤ 33 := aboveF_len nodes 33 i
section
variable {h : PHeap} {sb : Nat} {C : Cat}
instance space_over {L : List HP} {n : Int} [hS : IsSp h sb C] [ok : OkCat C] : CallX Tryz.prog 70 [.pointer (some ⟨sb, 0, none⟩), vI n] h L True
    (fun K => ∀ h' ao c, Le h h' → K (.slice ao (overF C n).length c) h' [slo encCl 5 (.slice ao (overF C n).length c) (overF C n)]) := ⟨fun _ => by
  have hS' := hS
  obtain ⟨db, tv, lv, tbs, lvs, ty, fr, h1, h2, h3, h4, h5, h6, h7⟩ := hS'.out
  have hd := ok.dims
  refine spec_enterM Tryz.func70 rfl Tryz.ntmps70 Tryz.results70 (by simp) fun K R hT => ?_
  refine Step.imp ?_
  refine G_nil encCl 5 none ?_
  repeat (first | refine Step.imp ?_ | refine Side.mk (by first | exact True.intro | omega | exact ⟨trivial, rfl⟩ | exact ⟨by omega, trivial, rfl⟩ | exact ⟨by omega, rfl⟩ | exact ⟨by omega, by omega, rfl⟩ | (simp only [List.length_cons, List.length_nil, List.length_append]; done) | (simp only [List.length_cons, List.length_nil, List.length_append]; omega) | decide +kernel) ?_ | refine GDraw_one (by decide +kernel) ?_ | refine New.mk fun _ => ?_ | refine NewS.mk fun _ _ => ?_)
  refine ⟨fun hno => ?_, fun hin => ?_⟩
  · have hu : overF C n = [] := by unfold overF; rw [if_neg hno]
    rw [hu] at hT
    repeat (first | refine Step.imp ?_ | refine Side.mk (by first | exact True.intro | omega | exact ⟨trivial, rfl⟩ | exact ⟨by omega, trivial, rfl⟩ | exact ⟨by omega, rfl⟩ | exact ⟨by omega, by omega, rfl⟩ | (simp only [List.length_cons, List.length_nil, List.length_append]; done) | (simp only [List.length_cons, List.length_nil, List.length_append]; omega) | decide +kernel) ?_ | refine GDraw_one (by decide +kernel) ?_ | refine New.mk fun _ => ?_ | refine NewS.mk fun _ _ => ?_)
    exact Fin.val (hT h none 0 ⟨Hle.refl h⟩) rfl (Hle.refl _)
  · repeat (first | refine Step.imp ?_ | refine Side.mk (by first | exact True.intro | omega | exact ⟨trivial, rfl⟩ | exact ⟨by omega, trivial, rfl⟩ | exact ⟨by omega, rfl⟩ | exact ⟨by omega, by omega, rfl⟩ | (simp only [List.length_cons, List.length_nil, List.length_append]; done) | (simp only [List.length_cons, List.length_nil, List.length_append]; omega) | decide +kernel) ?_ | refine GDraw_one (by decide +kernel) ?_ | refine New.mk fun _ => ?_ | refine NewS.mk fun _ _ => ?_)
    rename_i cb
    refine G_nil encV 1 none ?_
    refine G_loop (σ := Nat × PHeap × (Option Addr × Nat) × List Value) (fun s => s.1 ≤ C.dims.length ∧ Hle h s.2.1 ∧ s.2.2.2.length = s.1 ∧ ∀ j < s.1, FSl s.2.1 (s.2.2.2[j]!) encI 1 (overL C n j)) (fun s => C.dims.length - s.1)
      (fun s => [(26, vI s.1), (25, vI C.dims.length), (24, tv), (5, .pointer (some ⟨cb, 0, none⟩)), (7, .slice s.2.2.1.1 s.2.2.2.length s.2.2.1.2)]) (fun s => s.2.1)
      (fun s => slo encV 1 (.slice s.2.2.1.1 s.2.2.2.length s.2.2.1.2) s.2.2.2 :: slo encCl 5 (.slice none 0 0) [] :: blk cb (.cells [vI (quoF (leavesN C) n C.dims.length C.dims.length), vI (leafAtF C n 0), vI (leafAtF C n 1), vI (leafAtF C n 2), vI (leafAtF C n 3)].toArray 48 (0, 0)) :: (L ++ R))
      (0, h, (none, 0), []) ⟨by omega, Hle.refl h, rfl, fun j hj => by omega⟩ ⟨rfl, by rw [← h4], rfl, rfl, rfl, trivial⟩ rfl inferInstance ?_
    rintro ⟨i, h8, ⟨la, lc⟩, lss⟩ ⟨hi, hl8, hll, hall⟩
    simp only at hi hl8 hll hall ⊢
    haveI le8 : Le h h8 := ⟨hl8⟩
    repeat (first | refine Step.imp ?_ | refine Side.mk (by first | exact True.intro | omega | exact ⟨trivial, rfl⟩ | exact ⟨by omega, trivial, rfl⟩ | exact ⟨by omega, rfl⟩ | exact ⟨by omega, by omega, rfl⟩ | (simp only [List.length_cons, List.length_nil, List.length_append]; done) | (simp only [List.length_cons, List.length_nil, List.length_append]; omega) | decide +kernel) ?_ | refine GDraw_one (by decide +kernel) ?_ | refine New.mk fun _ => ?_ | refine NewS.mk fun _ _ => ?_)
    refine ⟨fun hlt => ?_, fun hge => ?_⟩
    · have hi4 : i < 4 := by omega
      have ht := (h7 i (by omega)).1
      haveI : Acyc (mkTree (C.dims[i]!).2).nodes := treeErr_acyc (ok.trees i (by omega)).2
      have h6' := above_six (ok.trees i (by omega)).2 (leafAtF C n i)
      have hg4 : get4 (leafAtF C n 0) (leafAtF C n 1) (leafAtF C n 2) (leafAtF C n 3) i = leafAtF C n i := get4_fun _ hi4
      have hnn : (mkTree (C.dims[i]!).2).nodes = (C.dims[i]!).2 := rfl
      repeat (first | refine Step.imp ?_ | refine Side.mk (by first | exact True.intro | omega | exact ⟨trivial, rfl⟩ | exact ⟨by omega, trivial, rfl⟩ | exact ⟨by omega, rfl⟩ | exact ⟨by omega, by omega, rfl⟩ | (simp only [List.length_cons, List.length_nil, List.length_append]; done) | (simp only [List.length_cons, List.length_nil, List.length_append]; omega) | decide +kernel) ?_ | refine GDraw_one (by decide +kernel) ?_ | refine New.mk fun _ => ?_ | refine NewS.mk fun _ _ => ?_)
      intro ra rc
      rw [hg4, hnn]
      repeat (first | refine Step.imp ?_ | refine Side.mk (by first | exact True.intro | omega | exact ⟨trivial, rfl⟩ | exact ⟨by omega, trivial, rfl⟩ | exact ⟨by omega, rfl⟩ | exact ⟨by omega, by omega, rfl⟩ | (simp only [List.length_cons, List.length_nil, List.length_append]; done) | (simp only [List.length_cons, List.length_nil, List.length_append]; omega) | decide +kernel) ?_ | refine GDraw_one (by decide +kernel) ?_ | refine New.mk fun _ => ?_ | refine NewS.mk fun _ _ => ?_)
      intro ys hy1 hy2
      have hys := sort_is hy1 hy2
      have hyl := hy1.length_eq
      repeat (first | refine Step.imp ?_ | refine Side.mk (by first | exact True.intro | omega | exact ⟨trivial, rfl⟩ | exact ⟨by omega, trivial, rfl⟩ | exact ⟨by omega, rfl⟩ | exact ⟨by omega, by omega, rfl⟩ | (simp only [List.length_cons, List.length_nil, List.length_append]; done) | (simp only [List.length_cons, List.length_nil, List.length_append]; omega) | decide +kernel) ?_ | refine GDraw_one (by decide +kernel) ?_ | refine New.mk fun _ => ?_ | refine NewS.mk fun _ _ => ?_)
      rename_i b1 la1 lc1
      refine X_freezeS (.slice ra (above (C.dims[i]!).2 (leafAtF C n i)).length rc) fun h9 le9 f9 => ?_
      refine X_round (i + 1, h9, (la1, lc1), lss ++ [.slice ra (above (C.dims[i]!).2 (leafAtF C n i)).length rc]) ?_ ?_ ?_ ?_ ?_
      · refine ⟨by show i + 1 ≤ C.dims.length; omega, hl8.trans le9.le, by simp [hll], fun j hj => ?_⟩
        show FSl h9 ((lss ++ [.slice ra (above (C.dims[i]!).2 (leafAtF C n i)).length rc])[j]!) encI 1 _
        have hj : j < i + 1 := hj
        rw [getElem!_pos (lss ++ [_]) j (by simp; omega)]
        rcases Nat.lt_or_ge j i with hji | hji
        · rw [List.getElem_append_left (by omega)]
          have := hall j hji
          rw [getElem!_pos lss j (by omega)] at this
          exact FSl.mono le9.le this
        · have : j = i := by omega
          subst this
          rw [List.getElem_append_right (by omega)]
          simp only [hll, Nat.sub_self, List.getElem_cons_zero]
          unfold overL
          rw [← hys]
          exact f9
      · show C.dims.length - (i + 1) < C.dims.length - i
        omega
      · refine ⟨rfl, rfl, rfl, rfl, ?_, trivial⟩
        show _ = some (Value.slice la1 (lss ++ [_]).length lc1)
        rw [List.length_append]; rfl
      · rfl
      · simp only [List.length_append, List.length_cons, List.length_nil, Nat.zero_add]
        infer_instance
    · have hi2 : i = C.dims.length := by omega
      subst hi2
      repeat (first | refine Step.imp ?_ | refine Side.mk (by first | exact True.intro | omega | exact ⟨trivial, rfl⟩ | exact ⟨by omega, trivial, rfl⟩ | exact ⟨by omega, rfl⟩ | exact ⟨by omega, by omega, rfl⟩ | (simp only [List.length_cons, List.length_nil, List.length_append]; done) | (simp only [List.length_cons, List.length_nil, List.length_append]; omega) | decide +kernel) ?_ | refine GDraw_one (by decide +kernel) ?_ | refine New.mk fun _ => ?_ | refine NewS.mk fun _ _ => ?_)
      rename_i ob
      refine GO1_freezeS (.slice la lss.length lc) fun h10 le10 f10 => ?_
      have hlo : (overLs C n).length = C.dims.length := by simp [overLs]
      have hlg : ∀ j, j < C.dims.length → (overLs C n)[j]! = overL C n j := fun j hj => by
        rw [getElem!_pos _ j (by omega)]; simp [overLs]
      have hrl : ∀ j, j < C.dims.length → (overL C n j).length ≤ 6 := fun j hj => by
        unfold overL
        rw [(sortS_perm _).length_eq]
        exact above_six (ok.trees j hj).2 _
      haveI hIL : IsLists h10 (.slice la lss.length lc) (overLs C n) := ⟨lss, f10, by rw [hlo, hll], fun j hj => by
        rw [hlo] at hj
        rw [hlg j hj]
        exact ⟨FSl.mono le10.le (hall j hj), by have := hrl j hj; omega⟩⟩
      repeat (first | refine Step.imp ?_ | refine Side.mk (by first | exact True.intro | omega | exact ⟨trivial, rfl⟩ | exact ⟨by omega, trivial, rfl⟩ | exact ⟨by omega, rfl⟩ | exact ⟨by omega, by omega, rfl⟩ | (simp only [List.length_cons, List.length_nil, List.length_append]; done) | (simp only [List.length_cons, List.length_nil, List.length_append]; omega) | decide +kernel) ?_ | refine GDraw_one (by decide +kernel) ?_ | refine New.mk fun _ => ?_ | refine NewS.mk fun _ _ => ?_)
      intro h11 lb tt le11 hlb
      repeat (first | refine Step.imp ?_ | refine Side.mk (by first | exact True.intro | omega | exact ⟨trivial, rfl⟩ | exact ⟨by omega, trivial, rfl⟩ | exact ⟨by omega, rfl⟩ | exact ⟨by omega, by omega, rfl⟩ | (simp only [List.length_cons, List.length_nil, List.length_append]; done) | (simp only [List.length_cons, List.length_nil, List.length_append]; omega) | decide +kernel) ?_ | refine GDraw_one (by decide +kernel) ?_ | refine New.mk fun _ => ?_ | refine NewS.mk fun _ _ => ?_)
      have hl11 : Hle h h11 := hl8.trans (le10.le.trans le11.le)
      have hcnt : cntF (overLs C n) (overLs C n).length 0 ≤ 4294967296 := by
        have h1 := cntF_le (ls := overLs C n) (fun k hk => by rw [hlo] at hk; rw [hlg k hk]; have := hrl k hk; omega) (overLs C n).length 0 (by omega)
        have h2 : (32 : Nat) ^ (overLs C n).length ≤ 32 ^ 4 := Nat.pow_le_pow_right (by omega) (by omega)
        have h3 : (32 : Nat) ^ 4 = 1048576 := by decide
        omega
      obtain ⟨mm, hmm⟩ : ∃ mm, mm = quoF (leavesN C) n C.dims.length C.dims.length := ⟨_, rfl⟩
      rw [← hmm]
      refine G_conv (x := blk ob (.cells [.slice none 0 0].toArray 157 (0, 0))) (y := outC ob ([] : List Cl)) (fun bs hb => ⟨none, 0, bs, [], by simp, hb, ⟨by simp, .inl ⟨⟨none, rfl⟩, rfl, rfl⟩⟩⟩) ?_
      let J : Nat → Loop → List (Nat → Int) → List HP := fun l r pre => [blk l (.loop r), outC ob (pre.map (clOf mm)), blk cb (.cells [vI mm, vI (leafAtF C n 0), vI (leafAtF C n 1), vI (leafAtF C n 2), vI (leafAtF C n 3)].toArray 48 (0, 0))]
      refine G_range (p := 46) (fk := 144) (caps := [.pointer (some ⟨lb, 0, none⟩)]) rfl inferInstance (fun l D r K => ∀ h', Hle h11 h' → K (.tuple ([] : List Value).toArray) h' (J l r (combF (overLs C n) (overLs C n).length 0 (fun _ => 0)) ++ (blk D (.deferred (some [])) :: slo encCl 5 (.slice none 0 0) [] :: (L ++ R)))) ?_ ?_
      · intro l D r hrec
        refine Spec.permL (Lp' := J l r [] ++ (blk D (.deferred (some [])) :: slo encCl 5 (.slice none 0 0) [] :: (L ++ R))) (List.Perm.cons _ ((List.Perm.swap _ _ _).trans (List.Perm.cons _ (((List.Perm.cons _ (List.Perm.swap _ _ _))).trans (List.Perm.swap _ _ _))))) ?_
        refine Spec.frameH (every_in (J := J l r) (B := 4294967296) (by omega) hcnt ?_)
        intro h' hle pre q hq hpre
        haveI : Le h11 h' := ⟨hle⟩
        refine yspec_of (N0 := 55) (p := 46) (by omega) hrec.ps hrec.ae fun K' R' hT' => ?_
        rw [hrec.as, hrec.bo]
        repeat (first | refine Step.imp ?_ | refine Side.mk (by first | exact True.intro | omega | exact ⟨trivial, rfl⟩ | exact ⟨by omega, trivial, rfl⟩ | exact ⟨by omega, rfl⟩ | exact ⟨by omega, by omega, rfl⟩ | (simp only [List.length_cons, List.length_nil, List.length_append]; done) | (simp only [List.length_cons, List.length_nil, List.length_append]; omega) | decide +kernel) ?_ | refine GDraw_one (by decide +kernel) ?_ | refine New.mk fun _ => ?_ | refine NewS.mk fun _ _ => ?_)
        refine X_begin (.swap _ _ _) hrec.st ?_ rfl
        rename_i xb
        refine G_perm (L' := outC ob (pre.map (clOf mm)) :: blk l (.loop { r with state := .busy }) :: blk xb (.cells [vI (q 0), vI (q 1), vI (q 2), vI (q 3)].toArray 113 (0, 0)) :: blk cb (.cells [vI mm, vI (leafAtF C n 0), vI (leafAtF C n 1), vI (leafAtF C n 2), vI (leafAtF C n 3)].toArray 48 (0, 0)) :: R') ((List.Perm.cons _ (List.Perm.swap _ _ _)).trans (List.Perm.swap _ _ _)) ?_
        refine G_outC fun a c => ?_
        have hml : (pre.map (clOf mm)).length < 4294967296 := by rw [List.length_map]; exact hpre
        repeat (first | refine GDraw_O (.slice a (pre.map (clOf mm)).length c) (by decide +kernel) ?_ | refine Step.imp ?_ | refine Side.mk (by first | exact True.intro | omega | exact ⟨trivial, rfl⟩ | exact ⟨by omega, trivial, rfl⟩ | exact ⟨by omega, rfl⟩ | exact ⟨by omega, by omega, rfl⟩ | (simp only [List.length_cons, List.length_nil, List.length_append]; done) | (simp only [List.length_cons, List.length_nil, List.length_append]; omega) | decide +kernel) ?_ | refine GDraw_one (by decide +kernel) ?_ | refine New.mk fun _ => ?_ | refine NewS.mk fun _ _ => ?_)
        rename_i b1 oa oc
        have hmap : pre.map (clOf mm) ++ [⟨mm, q 0, q 1, q 2, q 3⟩] = (pre ++ [q]).map (clOf mm) := by rw [List.map_append]; rfl
        have hml2 : (pre.map (clOf mm)).length + 1 = ((pre ++ [q]).map (clOf mm)).length := by simp
        rw [hmap, hml2]
        refine X_sub (V := blk ob (.cells [.slice oa ((pre ++ [q]).map (clOf mm)).length oc].toArray 157 (0, 0)) :: slo encCl 5 (.slice oa ((pre ++ [q]).map (clOf mm)).length oc) ((pre ++ [q]).map (clOf mm)) :: blk l (.loop { r with state := .busy }) :: blk cb (.cells [vI mm, vI (leafAtF C n 0), vI (leafAtF C n 1), vI (leafAtF C n 2), vI (leafAtF C n 3)].toArray 48 (0, 0)) :: R') inferInstance ?_
        refine X_inC ?_
        have hrr : ({ ({ r with state := .busy } : Loop) with state := .ready, pending := none } : Loop) = r := by
          have e1 := hrec.st
          have e2 := hrec.pe
          cases r; simp_all
        refine X_roundEnd (r := { r with state := .busy }) (L' := [outC ob ((pre ++ [q]).map (clOf mm)), blk cb (.cells [vI mm, vI (leafAtF C n 0), vI (leafAtF C n 1), vI (leafAtF C n 2), vI (leafAtF C n 3)].toArray 48 (0, 0))]) (.swap _ _ _) (Hle.refl _) ?_
        rw [hrr]
        exact hT'
      · intro l D r hrec h' hle
        haveI : Le h11 h' := ⟨hle⟩
        have hout : (combF (overLs C n) (overLs C n).length 0 (fun _ => 0)).map (clOf mm) = overF C n := by
          unfold overF; rw [if_pos hin, hlo, ← hmm]
        refine ⟨outC ob ((combF (overLs C n) (overLs C n).length 0 (fun _ => 0)).map (clOf mm)) :: blk cb _ :: blk D (.deferred (some [])) :: slo encCl 5 (.slice none 0 0) [] :: (L ++ R), .refl _, ?_⟩
        rw [hout]
        refine X_outC fun a c => ?_
        have hfin := hT h' a c ⟨hl11.trans hle⟩
        repeat (first | refine Step.imp ?_ | refine Side.mk (by first | exact True.intro | omega | exact ⟨trivial, rfl⟩ | exact ⟨by omega, trivial, rfl⟩ | exact ⟨by omega, rfl⟩ | exact ⟨by omega, by omega, rfl⟩ | (simp only [List.length_cons, List.length_nil, List.length_append]; done) | (simp only [List.length_cons, List.length_nil, List.length_append]; omega) | decide +kernel) ?_ | refine GDraw_one (by decide +kernel) ?_ | refine New.mk fun _ => ?_ | refine NewS.mk fun _ _ => ?_)
        exact Fin.val hfin rfl (hl11.trans hle)⟩
end
end Go.Sl

/-
  Lists that are held against each other.
-/
namespace Go.Sl
open Go.Proofs
set_option linter.unusedVariables false
set_option linter.unusedSimpArgs false
set_option maxRecDepth 10000
set_option synthInstance.maxSize 2000
set_option synthInstance.maxHeartbeats 200000
set_option maxHeartbeats 1000000
instance : EncT Tryz.prog 3 encI 1 := ⟨inferInstance⟩
instance : EncT Tryz.prog 48 encCl 5 := ⟨inferInstance⟩
theorem list_eq {α : Type} [Inhabited α] {xs ys : List α} (hl : xs.length = ys.length) (h : ∀ j < xs.length, xs[j]! = ys[j]!) : xs = ys := by
  refine List.ext_getElem hl fun j h1 h2 => ?_
  have := h j h1
  rwa [getElem!_pos xs j h1, getElem!_pos ys j h2] at this
instance : DecidableEq Cl := fun x y => decidable_of_iff (x.m = y.m ∧ x.a0 = y.a0 ∧ x.a1 = y.a1 ∧ x.a2 = y.a2 ∧ x.a3 = y.a3) (by cases x; cases y; simp)
theorem cl_eq {x y : Cl} : (x.m = y.m ∧ (x.a0 = y.a0 ∧ x.a1 = y.a1 ∧ x.a2 = y.a2 ∧ x.a3 = y.a3 ∧ True) ∧ True) ↔ x = y := by cases x; cases y; simp
section
variable {h : PHeap} {v u : Value}
end
end Go.Sl
