/-
  Facts that the proof is made of (F1).
-/
import Derived.Test.YtoekdnandjjeoaaGreatKT1
import Derived.Test.YtoekdnandjjeoaaGreatKT3
import Derived.Test.YtoekdnandjjeoaaGreatKC1
/-
  The document's names.
-/
namespace Go.Sl
open Go.Proofs
set_option linter.unusedVariables false
set_option linter.unusedSimpArgs false
set_option maxRecDepth 10000
set_option synthInstance.maxSize 2000
set_option synthInstance.maxHeartbeats 200000
set_option maxHeartbeats 1000000
def isDigit (c : Int) : Prop := 48 ≤ c ∧ c ≤ 57
instance (c : Int) : Decidable (isDigit c) := by unfold isDigit; infer_instance
section
variable {h : PHeap}
instance rletter_ok {c : Int} : CallV Tryz.prog 151 [.int .u8 c] h True (.bool (decide (isLetter c))) := ⟨fun _ => by
  refine spec_enter Tryz.func151 rfl Tryz.ntmps151 Tryz.results151 (by simp) fun K R hT => ?_
  repeat' (first | refine Step.imp ?_ | refine Side.mk (by first | exact True.intro | omega | exact ⟨trivial, rfl⟩ | exact ⟨by omega, trivial, rfl⟩ | exact ⟨by omega, rfl⟩ | exact ⟨by omega, by omega, rfl⟩ | (simp only [List.length_cons, List.length_nil, List.length_append]; done) | (simp only [List.length_cons, List.length_nil, List.length_append]; omega) | decide +kernel) ?_ | refine GDraw_one (by decide +kernel) ?_ | refine New.mk fun _ => ?_ | refine NewS.mk fun _ _ => ?_ | refine Ways.mk (fun _ => ?_) (fun _ => ?_))
  all_goals first | exact Fin.dec hT (by unfold isLetter; omega) (Hle.refl _) | exact Fin.ff hT (by unfold isLetter; omega) (Hle.refl _) | exact Fin.tt hT (by unfold isLetter; omega) (Hle.refl _)⟩
instance rdigit_ok {c : Int} : CallV Tryz.prog 152 [.int .u8 c] h True (.bool (decide (isDigit c))) := ⟨fun _ => by
  refine spec_enter Tryz.func152 rfl Tryz.ntmps152 Tryz.results152 (by simp) fun K R hT => ?_
  repeat' (first | refine Step.imp ?_ | refine Side.mk (by first | exact True.intro | omega | exact ⟨trivial, rfl⟩ | exact ⟨by omega, trivial, rfl⟩ | exact ⟨by omega, rfl⟩ | exact ⟨by omega, by omega, rfl⟩ | (simp only [List.length_cons, List.length_nil, List.length_append]; done) | (simp only [List.length_cons, List.length_nil, List.length_append]; omega) | decide +kernel) ?_ | refine GDraw_one (by decide +kernel) ?_ | refine New.mk fun _ => ?_ | refine NewS.mk fun _ _ => ?_ | refine Ways.mk (fun _ => ?_) (fun _ => ?_))
  all_goals first | exact Fin.dec hT (by unfold isDigit; omega) (Hle.refl _) | exact Fin.ff hT (by unfold isDigit; omega) (Hle.refl _) | exact Fin.tt hT (by unfold isDigit; omega) (Hle.refl _)⟩
instance rname_ok {s : ByteArray} : CallV Tryz.prog 129 [.string s] h True (.bool (decide (okName s))) := ⟨fun _ => by
  refine spec_enter Tryz.func129 rfl Tryz.ntmps129 Tryz.results129 (by simp) fun K R hT => ?_
  repeat' (first | refine Step.imp ?_ | refine Side.mk (by first | exact True.intro | omega | exact ⟨trivial, rfl⟩ | exact ⟨by omega, trivial, rfl⟩ | exact ⟨by omega, rfl⟩ | exact ⟨by omega, by omega, rfl⟩ | (simp only [List.length_cons, List.length_nil, List.length_append]; done) | (simp only [List.length_cons, List.length_nil, List.length_append]; omega) | decide +kernel) ?_ | refine GDraw_one (by decide +kernel) ?_ | refine New.mk fun _ => ?_ | refine NewS.mk fun _ _ => ?_ | refine Ways.mk (fun _ => ?_) (fun _ => ?_))
  · exact Fin.ff hT (fun hn => by have := hn.1; omega) (Hle.refl _)
  · exact Fin.ff hT (fun hn => by have := hn.2.1; omega) (Hle.refl _)
  · rename_i h1 h2 h3
    exact Fin.ff hT (fun hn => h3 hn.2.2.1) (Hle.refl _)
  · rename_i h1 h2 h3
    have h3 := Decidable.not_not.1 h3
    refine G_loopE (σ := Nat) (fun k => 1 ≤ k ∧ k ≤ s.size ∧ ∀ j < k, okChar (bAt s j)) (fun k => s.size - k) (fun k => [(3, vI k), (0, .string s)]) 1 ⟨by omega, by omega, fun j hj => by
      have : j = 0 := by omega
      subst this; exact .inl h3⟩ ⟨rfl, rfl, trivial⟩ fun k hk => ?_
    obtain ⟨hk1, hk, hall⟩ := hk
    repeat (first | refine Step.imp ?_ | refine Side.mk (by first | exact True.intro | omega | exact ⟨trivial, rfl⟩ | exact ⟨by omega, trivial, rfl⟩ | exact ⟨by omega, rfl⟩ | exact ⟨by omega, by omega, rfl⟩ | (simp only [List.length_cons, List.length_nil, List.length_append]; done) | (simp only [List.length_cons, List.length_nil, List.length_append]; omega) | decide +kernel) ?_ | refine GDraw_one (by decide +kernel) ?_ | refine New.mk fun _ => ?_ | refine NewS.mk fun _ _ => ?_)
    refine ⟨fun hlt => ?_, fun hge => ?_⟩
    · have hnext : okChar (bAt s k) → ∀ j < k + 1, okChar (bAt s j) := fun hc j hj => by
        rcases Nat.lt_or_ge j k with h1 | h1
        · exact hall j h1
        · have : j = k := by omega
          subst this; exact hc
      repeat' (first | refine Step.imp ?_ | refine Side.mk (by first | exact True.intro | omega | exact ⟨trivial, rfl⟩ | exact ⟨by omega, trivial, rfl⟩ | exact ⟨by omega, rfl⟩ | exact ⟨by omega, by omega, rfl⟩ | (simp only [List.length_cons, List.length_nil, List.length_append]; done) | (simp only [List.length_cons, List.length_nil, List.length_append]; omega) | decide +kernel) ?_ | refine GDraw_one (by decide +kernel) ?_ | refine New.mk fun _ => ?_ | refine NewS.mk fun _ _ => ?_ | refine Ways.mk (fun _ => ?_) (fun _ => ?_))
      all_goals first
        | exact Fin.ff hT (fun hn => (by have := hn.2.2.2 k (by omega); unfold okChar at this; (rcases this with h1 | h1 | h1 <;> first | contradiction | omega))) (Hle.refl _)
        | (refine X_roundE (k + 1) ?_ ?_ ?_ inferInstance; exact ⟨by omega, by omega, hnext (by unfold okChar; first | (left; exact Decidable.not_not.1 (by assumption)) | (right; left; omega) | (right; right; exact Decidable.not_not.1 (by assumption)))⟩; exact Nat.sub_lt_sub_left (by omega) (by omega); exact ⟨rfl, rfl, trivial⟩)
    · repeat (first | refine Step.imp ?_ | refine Side.mk (by first | exact True.intro | omega | exact ⟨trivial, rfl⟩ | exact ⟨by omega, trivial, rfl⟩ | exact ⟨by omega, rfl⟩ | exact ⟨by omega, by omega, rfl⟩ | (simp only [List.length_cons, List.length_nil, List.length_append]; done) | (simp only [List.length_cons, List.length_nil, List.length_append]; omega) | decide +kernel) ?_ | refine GDraw_one (by decide +kernel) ?_ | refine New.mk fun _ => ?_ | refine NewS.mk fun _ _ => ?_)
      exact Fin.tt hT ⟨by omega, by omega, h3, fun j hj => hall j (by omega)⟩ (Hle.refl _)⟩
end
end Go.Sl

/-
  The document's trees: what one says.
-/
namespace Go.Sl
open Go.Proofs
set_option linter.unusedVariables false
set_option linter.unusedSimpArgs false
set_option maxRecDepth 10000
set_option synthInstance.maxSize 2000
set_option synthInstance.maxHeartbeats 200000
set_option maxHeartbeats 1000000
/-- A tree of the document's at a block. -/
class IsRT (h : PHeap) (b : Nat) (nodes : outParam (List Nd)) : Prop where
  out : ∃ nv ty fr, Pt h b (.cells [nv].toArray ty fr) ∧ FSl h nv encNd 2 nodes
theorem IsRT.mono {h h' : PHeap} {b : Nat} {nodes : List Nd} (hl : Hle h h') (t : IsRT h b nodes) : IsRT h' b nodes := ⟨by
  obtain ⟨nv, ty, fr, h1, h2⟩ := t.out
  exact ⟨nv, ty, fr, Pt.mono hl h1, FSl.mono hl h2⟩⟩
instance (priority := low) {h h' : PHeap} {b : Nat} {nodes : List Nd} [l : Le h h'] [t : IsRT h b nodes] : IsRT h' b nodes := t.mono l.le
theorem above_facts {nodes : List Nd} [ha : Acyc nodes] : ∃ d : Int → Nat, ∀ j : Int, (above nodes j).Nodup ∧ ∀ x ∈ above nodes j, (0 ≤ x ∧ x < nodes.length) ∧ d x ≤ d j := by
  obtain ⟨d, hd⟩ := ha.eq
  refine ⟨d, above_ind (nodes := nodes) (fun j hj => ?_) (fun j hj ih => ?_)⟩
  · rw [above_no hj]; exact ⟨List.nodup_nil, fun x hx => by cases hx⟩
  · have hdj := hd j hj.1 hj.2
    unfold upF at ih
    rw [above_step hj, List.nodup_cons]
    refine ⟨⟨fun hm => ?_, ih.1⟩, fun x hx => ?_⟩
    · have := (ih.2 _ hm).2; omega
    · rcases List.mem_cons.1 hx with rfl | hx
      · exact ⟨hj, Nat.le_refl _⟩
      · have := ih.2 x hx; exact ⟨this.1, by omega⟩
theorem above_len_le {nodes : List Nd} [ha : Acyc nodes] (j : Int) : (above nodes j).length ≤ nodes.length := by
  obtain ⟨d, hd⟩ := above_facts (nodes := nodes)
  exact nodup_len _ _ (hd j).1 fun x hx => ((hd j).2 x hx).1
def findN (nodes : List Nd) (s : ByteArray) : Int := idxI (nodes.map Nd.name) s
theorem name_get {nodes : List Nd} {j : Nat} (hj : j < nodes.length) : (nodes.map Nd.name)[j]! = (nodes[j]!).name := by
  rw [getElem!_pos _ j (by simpa using hj), List.getElem_map, getElem!_pos nodes j hj]
def rkids (nodes : List Nd) (i : Int) : List Int := if 0 ≤ i ∧ i < nodes.length then kidsTo nodes nodes.length i.toNat else []
theorem kidsTo_len (nodes : List Nd) (n i : Nat) : (kidsTo nodes n i).length ≤ n := by
  have := List.length_filter_le (fun j => decide ((nodes[j]!).up = (i : Int))) (List.range n)
  unfold kidsTo; rw [List.length_map]; simpa using this
section
variable {h : PHeap} {b : Nat} {nodes : List Nd}
instance rt_is {i : Int} [hI : IsRT h b nodes] : CallV Tryz.prog 106 [.pointer (some ⟨b, 0, none⟩), vI i] h True (.bool (decide (0 ≤ i ∧ i < nodes.length))) := ⟨fun _ => by
  obtain ⟨nv, ty, fr, h1, h2⟩ := hI.out
  refine spec_enter Tryz.func106 rfl Tryz.ntmps106 Tryz.results106 (by simp) fun K R hT => ?_
  repeat' (first | refine Step.imp ?_ | refine Side.mk (by first | exact True.intro | omega | exact ⟨trivial, rfl⟩ | exact ⟨by omega, trivial, rfl⟩ | exact ⟨by omega, rfl⟩ | exact ⟨by omega, by omega, rfl⟩ | (simp only [List.length_cons, List.length_nil, List.length_append]; done) | (simp only [List.length_cons, List.length_nil, List.length_append]; omega) | decide +kernel) ?_ | refine GDraw_one (by decide +kernel) ?_ | refine New.mk fun _ => ?_ | refine NewS.mk fun _ _ => ?_ | refine Ways.mk (fun _ => ?_) (fun _ => ?_))
  all_goals first | exact Fin.val hT rfl (Hle.refl _) | (exfalso; omega) | (exfalso; contradiction) | exact Fin.dec hT (by omega) (Hle.refl _) | exact Fin.tt hT (by omega) (Hle.refl _) | exact Fin.ff hT (by omega) (Hle.refl _)⟩
instance rt_find {s : ByteArray} [hI : IsRT h b nodes] : CallV Tryz.prog 130 [.pointer (some ⟨b, 0, none⟩), .string s] h (nodes.length ≤ 4294967296) (vI (findN nodes s)) := ⟨fun hn => by
  obtain ⟨nv, ty, fr, h1, h2⟩ := hI.out
  have hW : ∀ k, (∀ j < k, (nodes.map Nd.name)[j]! ≠ s) → nodes.length ≤ k → findN nodes s = -1 := fun k h1 h2 => idxI_none fun j hj => h1 j (by rw [List.length_map] at hj; omega)
  refine spec_enter Tryz.func130 rfl Tryz.ntmps130 Tryz.results130 (by simp) fun K R hT => ?_
  repeat (first | refine Step.imp ?_ | refine Side.mk (by first | exact True.intro | omega | exact ⟨trivial, rfl⟩ | exact ⟨by omega, trivial, rfl⟩ | exact ⟨by omega, rfl⟩ | exact ⟨by omega, by omega, rfl⟩ | (simp only [List.length_cons, List.length_nil, List.length_append]; done) | (simp only [List.length_cons, List.length_nil, List.length_append]; omega) | decide +kernel) ?_ | refine GDraw_one (by decide +kernel) ?_ | refine New.mk fun _ => ?_ | refine NewS.mk fun _ _ => ?_)
  refine G_loopE (σ := Nat) (fun k => k ≤ nodes.length ∧ ∀ j < k, (nodes.map Nd.name)[j]! ≠ s) (fun k => nodes.length - k) (fun k => [(5, vI k), (0, .pointer (some ⟨b, 0, none⟩)), (1, .string s)]) 0 ⟨by omega, by omega⟩ ⟨rfl, rfl, rfl, trivial⟩ fun k hk => ?_
  obtain ⟨hk, hno⟩ := hk
  repeat (first | refine Step.imp ?_ | refine Side.mk (by first | exact True.intro | omega | exact ⟨trivial, rfl⟩ | exact ⟨by omega, trivial, rfl⟩ | exact ⟨by omega, rfl⟩ | exact ⟨by omega, by omega, rfl⟩ | (simp only [List.length_cons, List.length_nil, List.length_append]; done) | (simp only [List.length_cons, List.length_nil, List.length_append]; omega) | decide +kernel) ?_ | refine GDraw_one (by decide +kernel) ?_ | refine New.mk fun _ => ?_ | refine NewS.mk fun _ _ => ?_)
  refine ⟨fun hlt => ?_, fun hge => ?_⟩
  · have hng := name_get (nodes := nodes) (j := k) (by omega)
    repeat (first | refine Step.imp ?_ | refine Side.mk (by first | exact True.intro | omega | exact ⟨trivial, rfl⟩ | exact ⟨by omega, trivial, rfl⟩ | exact ⟨by omega, rfl⟩ | exact ⟨by omega, by omega, rfl⟩ | (simp only [List.length_cons, List.length_nil, List.length_append]; done) | (simp only [List.length_cons, List.length_nil, List.length_append]; omega) | decide +kernel) ?_ | refine GDraw_one (by decide +kernel) ?_ | refine New.mk fun _ => ?_ | refine NewS.mk fun _ _ => ?_)
    refine ⟨fun he => ?_, fun hne => ?_⟩
    · repeat (first | refine Step.imp ?_ | refine Side.mk (by first | exact True.intro | omega | exact ⟨trivial, rfl⟩ | exact ⟨by omega, trivial, rfl⟩ | exact ⟨by omega, rfl⟩ | exact ⟨by omega, by omega, rfl⟩ | (simp only [List.length_cons, List.length_nil, List.length_append]; done) | (simp only [List.length_cons, List.length_nil, List.length_append]; omega) | decide +kernel) ?_ | refine GDraw_one (by decide +kernel) ?_ | refine New.mk fun _ => ?_ | refine NewS.mk fun _ _ => ?_)
      exact Fin.val hT (by unfold findN; rw [idxI_some (by rw [List.length_map]; omega) hno (by rw [hng]; exact he.symm)]) (Hle.refl _)
    · repeat (first | refine Step.imp ?_ | refine Side.mk (by first | exact True.intro | omega | exact ⟨trivial, rfl⟩ | exact ⟨by omega, trivial, rfl⟩ | exact ⟨by omega, rfl⟩ | exact ⟨by omega, by omega, rfl⟩ | (simp only [List.length_cons, List.length_nil, List.length_append]; done) | (simp only [List.length_cons, List.length_nil, List.length_append]; omega) | decide +kernel) ?_ | refine GDraw_one (by decide +kernel) ?_ | refine New.mk fun _ => ?_ | refine NewS.mk fun _ _ => ?_)
      refine X_roundE (k + 1) ⟨by omega, fun j hj => ?_⟩ (by omega) ⟨rfl, rfl, rfl, trivial⟩ inferInstance
      rcases Nat.lt_or_ge j k with h1 | h1
      · exact hno j h1
      · have : j = k := by omega
        subst this; rw [hng]; exact hne
  · repeat (first | refine Step.imp ?_ | refine Side.mk (by first | exact True.intro | omega | exact ⟨trivial, rfl⟩ | exact ⟨by omega, trivial, rfl⟩ | exact ⟨by omega, rfl⟩ | exact ⟨by omega, by omega, rfl⟩ | (simp only [List.length_cons, List.length_nil, List.length_append]; done) | (simp only [List.length_cons, List.length_nil, List.length_append]; omega) | decide +kernel) ?_ | refine GDraw_one (by decide +kernel) ?_ | refine New.mk fun _ => ?_ | refine NewS.mk fun _ _ => ?_)
    exact Fin.val hT (by rw [hW k hno (by omega)]) (Hle.refl _)⟩
instance rt_above {L : List HP} {i0 : Int} [hI : IsRT h b nodes] [ha : Acyc nodes] : CallX Tryz.prog 153 [.pointer (some ⟨b, 0, none⟩), vI i0] h L True (fun K => ∀ a c, K (.slice a (above nodes i0).length c) h [slo encI 1 (.slice a (above nodes i0).length c) (above nodes i0)]) := ⟨fun _ => by
  have hI' := hI
  obtain ⟨nv, ty, fr, h1, h2⟩ := hI'.out
  obtain ⟨d, hd⟩ := ha.eq
  have hall : (above nodes i0).length ≤ 33 := aboveF_len nodes 33 i0
  have hln := above_len_le (nodes := nodes) i0
  refine spec_enter Tryz.func153 rfl Tryz.ntmps153 Tryz.results153 (by simp) fun K R hT => ?_
  refine Step.imp ?_
  refine G_nil encI 1 none ?_
  repeat (first | refine Step.imp ?_ | refine Side.mk (by first | exact True.intro | omega | exact ⟨trivial, rfl⟩ | exact ⟨by omega, trivial, rfl⟩ | exact ⟨by omega, rfl⟩ | exact ⟨by omega, by omega, rfl⟩ | (simp only [List.length_cons, List.length_nil, List.length_append]; done) | (simp only [List.length_cons, List.length_nil, List.length_append]; omega) | decide +kernel) ?_ | refine GDraw_one (by decide +kernel) ?_ | refine New.mk fun _ => ?_ | refine NewS.mk fun _ _ => ?_)
  refine G_loop (σ := Int × List Int × Option Addr × Nat) (fun s => s.2.1 ++ above nodes s.1 = above nodes i0) (fun s => d s.1) (fun s => [(1, vI s.1), (5, .slice s.2.2.1 s.2.1.length s.2.2.2), (0, .pointer (some ⟨b, 0, none⟩))]) (fun _ => h) (fun s => slo encI 1 (.slice s.2.2.1 s.2.1.length s.2.2.2) s.2.1 :: (L ++ R)) (i0, [], none, 0) (by simp) ⟨rfl, rfl, rfl, trivial⟩ rfl inferInstance ?_
  rintro ⟨i, acc, a, c⟩ hinv
  simp only at hinv ⊢
  have hl2 : acc.length ≤ 33 := by have := congrArg List.length hinv; rw [List.length_append] at this; omega
  by_cases hi : 0 ≤ i ∧ i < nodes.length
  · have hdi := hd i hi.1 hi.2
    have hstep := above_step hi
    have hl3 : acc.length + 1 ≤ nodes.length := by
      have := congrArg List.length hinv
      rw [List.length_append, hstep, List.length_cons] at this; omega
    repeat (first | refine Step.imp ?_ | refine Side.mk (by first | exact True.intro | omega | exact ⟨trivial, rfl⟩ | exact ⟨by omega, trivial, rfl⟩ | exact ⟨by omega, rfl⟩ | exact ⟨by omega, by omega, rfl⟩ | (simp only [List.length_cons, List.length_nil, List.length_append]; done) | (simp only [List.length_cons, List.length_nil, List.length_append]; omega) | decide +kernel) ?_ | refine GDraw_one (by decide +kernel) ?_ | refine New.mk fun _ => ?_ | refine NewS.mk fun _ _ => ?_)
    refine ⟨fun _ => ?_, fun hno => absurd hi hno⟩
    repeat (first | refine Step.imp ?_ | refine Side.mk (by first | exact True.intro | omega | exact ⟨trivial, rfl⟩ | exact ⟨by omega, trivial, rfl⟩ | exact ⟨by omega, rfl⟩ | exact ⟨by omega, by omega, rfl⟩ | (simp only [List.length_cons, List.length_nil, List.length_append]; done) | (simp only [List.length_cons, List.length_nil, List.length_append]; omega) | decide +kernel) ?_ | refine GDraw_one (by decide +kernel) ?_ | refine New.mk fun _ => ?_ | refine NewS.mk fun _ _ => ?_)
    refine ⟨fun _ => ?_, fun hno => absurd (by omega) hno⟩
    repeat (first | refine Step.imp ?_ | refine Side.mk (by first | exact True.intro | omega | exact ⟨trivial, rfl⟩ | exact ⟨by omega, trivial, rfl⟩ | exact ⟨by omega, rfl⟩ | exact ⟨by omega, by omega, rfl⟩ | (simp only [List.length_cons, List.length_nil, List.length_append]; done) | (simp only [List.length_cons, List.length_nil, List.length_append]; omega) | decide +kernel) ?_ | refine GDraw_one (by decide +kernel) ?_ | refine New.mk fun _ => ?_ | refine NewS.mk fun _ _ => ?_)
    rename_i b' a' c'
    refine X_round ((nodes[i.toNat]!).up, acc ++ [i], a', c') ?_ hdi.1 ⟨rfl, by simp only [List.length_append, List.length_cons, List.length_nil, Nat.zero_add], rfl, trivial⟩ rfl (by first | infer_instance | (simp only [List.length_append, List.length_cons, List.length_nil, Nat.zero_add]; infer_instance))
    simp only [List.append_assoc, List.singleton_append]
    rw [← hinv, hstep]
  · have hacc : acc = above nodes i0 := by rw [← hinv, above_no hi]; simp
    subst hacc
    repeat (first | refine Step.imp ?_ | refine Side.mk (by first | exact True.intro | omega | exact ⟨trivial, rfl⟩ | exact ⟨by omega, trivial, rfl⟩ | exact ⟨by omega, rfl⟩ | exact ⟨by omega, by omega, rfl⟩ | (simp only [List.length_cons, List.length_nil, List.length_append]; done) | (simp only [List.length_cons, List.length_nil, List.length_append]; omega) | decide +kernel) ?_ | refine GDraw_one (by decide +kernel) ?_ | refine New.mk fun _ => ?_ | refine NewS.mk fun _ _ => ?_)
    refine ⟨fun hin => absurd hin hi, fun _ => ?_⟩
    repeat (first | refine Step.imp ?_ | refine Side.mk (by first | exact True.intro | omega | exact ⟨trivial, rfl⟩ | exact ⟨by omega, trivial, rfl⟩ | exact ⟨by omega, rfl⟩ | exact ⟨by omega, by omega, rfl⟩ | (simp only [List.length_cons, List.length_nil, List.length_append]; done) | (simp only [List.length_cons, List.length_nil, List.length_append]; omega) | decide +kernel) ?_ | refine GDraw_one (by decide +kernel) ?_ | refine New.mk fun _ => ?_ | refine NewS.mk fun _ _ => ?_)
    exact Fin.val (hT _ _) rfl (Hle.refl _)⟩
instance rt_depth {L : List HP} {i0 : Int} [hI : IsRT h b nodes] [ha : Acyc nodes] : CallX Tryz.prog 131 [.pointer (some ⟨b, 0, none⟩), vI i0] h L True (fun K => K (vI (max 0 ((above nodes i0).length - 1))) h []) := ⟨fun _ => by
  have hall : (above nodes i0).length ≤ 33 := aboveF_len nodes 33 i0
  refine spec_enter Tryz.func131 rfl Tryz.ntmps131 Tryz.results131 (by simp) fun K R hT => ?_
  repeat (first | refine Step.imp ?_ | refine Side.mk (by first | exact True.intro | omega | exact ⟨trivial, rfl⟩ | exact ⟨by omega, trivial, rfl⟩ | exact ⟨by omega, rfl⟩ | exact ⟨by omega, by omega, rfl⟩ | (simp only [List.length_cons, List.length_nil, List.length_append]; done) | (simp only [List.length_cons, List.length_nil, List.length_append]; omega) | decide +kernel) ?_ | refine GDraw_one (by decide +kernel) ?_ | refine New.mk fun _ => ?_ | refine NewS.mk fun _ _ => ?_)
  intro a c
  repeat (first | refine Step.imp ?_ | refine Side.mk (by first | exact True.intro | omega | exact ⟨trivial, rfl⟩ | exact ⟨by omega, trivial, rfl⟩ | exact ⟨by omega, rfl⟩ | exact ⟨by omega, by omega, rfl⟩ | (simp only [List.length_cons, List.length_nil, List.length_append]; done) | (simp only [List.length_cons, List.length_nil, List.length_append]; omega) | decide +kernel) ?_ | refine GDraw_one (by decide +kernel) ?_ | refine New.mk fun _ => ?_ | refine NewS.mk fun _ _ => ?_)
  refine ⟨fun h0 => ?_, fun h0 => ?_⟩
  · repeat (first | refine Step.imp ?_ | refine Side.mk (by first | exact True.intro | omega | exact ⟨trivial, rfl⟩ | exact ⟨by omega, trivial, rfl⟩ | exact ⟨by omega, rfl⟩ | exact ⟨by omega, by omega, rfl⟩ | (simp only [List.length_cons, List.length_nil, List.length_append]; done) | (simp only [List.length_cons, List.length_nil, List.length_append]; omega) | decide +kernel) ?_ | refine GDraw_one (by decide +kernel) ?_ | refine New.mk fun _ => ?_ | refine NewS.mk fun _ _ => ?_)
    exact Fin.val hT (by congr 1; omega) (Hle.refl _)
  · repeat (first | refine Step.imp ?_ | refine Side.mk (by first | exact True.intro | omega | exact ⟨trivial, rfl⟩ | exact ⟨by omega, trivial, rfl⟩ | exact ⟨by omega, rfl⟩ | exact ⟨by omega, by omega, rfl⟩ | (simp only [List.length_cons, List.length_nil, List.length_append]; done) | (simp only [List.length_cons, List.length_nil, List.length_append]; omega) | decide +kernel) ?_ | refine GDraw_one (by decide +kernel) ?_ | refine New.mk fun _ => ?_ | refine NewS.mk fun _ _ => ?_)
    exact Fin.val hT (by congr 1; omega) (Hle.refl _)⟩
instance rt_kids {L : List HP} {i : Int} [hI : IsRT h b nodes] : CallX Tryz.prog 61 [.pointer (some ⟨b, 0, none⟩), vI i] h L (nodes.length ≤ 4294967295) (fun K => ∀ a c, K (.slice a (rkids nodes i).length c) h [slo encI 1 (.slice a (rkids nodes i).length c) (rkids nodes i)]) := ⟨fun hn => by
  have hI' := hI
  obtain ⟨nv, ty, fr, h1, h2⟩ := hI'.out
  refine spec_enter Tryz.func61 rfl Tryz.ntmps61 Tryz.results61 (by simp) fun K R hT => ?_
  refine Step.imp ?_
  refine G_nil encI 1 none ?_
  unfold rkids at hT
  by_cases hi : 0 ≤ i ∧ i < nodes.length
  · simp only [hi, and_self, if_true] at hT
    repeat (first | refine Step.imp ?_ | refine Side.mk (by first | exact True.intro | omega | exact ⟨trivial, rfl⟩ | exact ⟨by omega, trivial, rfl⟩ | exact ⟨by omega, rfl⟩ | exact ⟨by omega, by omega, rfl⟩ | (simp only [List.length_cons, List.length_nil, List.length_append]; done) | (simp only [List.length_cons, List.length_nil, List.length_append]; omega) | decide +kernel) ?_ | refine GDraw_one (by decide +kernel) ?_ | refine New.mk fun _ => ?_ | refine NewS.mk fun _ _ => ?_)
    refine G_loop (σ := Nat × Option Addr × Nat) (fun s => s.1 ≤ nodes.length) (fun s => nodes.length - s.1) (fun s => [(6, vI s.1), (5, .slice s.2.1 (kidsTo nodes s.1 i.toNat).length s.2.2), (0, .pointer (some ⟨b, 0, none⟩)), (1, vI i)]) (fun _ => h) (fun s => slo encI 1 (.slice s.2.1 (kidsTo nodes s.1 i.toNat).length s.2.2) (kidsTo nodes s.1 i.toNat) :: (L ++ R)) (0, none, 0) (Nat.zero_le _) ⟨rfl, rfl, rfl, rfl, trivial⟩ rfl (by simp only [kidsTo, List.range_zero, List.filter_nil, List.map_nil, List.length_nil]; infer_instance) ?_
    rintro ⟨k, a, c⟩ hk
    simp only at hk ⊢
    have hkl := kidsTo_len nodes k i.toNat
    have hks := kidsTo_succ nodes k i.toNat
    repeat (first | refine Step.imp ?_ | refine Side.mk (by first | exact True.intro | omega | exact ⟨trivial, rfl⟩ | exact ⟨by omega, trivial, rfl⟩ | exact ⟨by omega, rfl⟩ | exact ⟨by omega, by omega, rfl⟩ | (simp only [List.length_cons, List.length_nil, List.length_append]; done) | (simp only [List.length_cons, List.length_nil, List.length_append]; omega) | decide +kernel) ?_ | refine GDraw_one (by decide +kernel) ?_ | refine New.mk fun _ => ?_ | refine NewS.mk fun _ _ => ?_)
    refine ⟨fun hlt => ?_, fun hge => ?_⟩
    · repeat (first | refine Step.imp ?_ | refine Side.mk (by first | exact True.intro | omega | exact ⟨trivial, rfl⟩ | exact ⟨by omega, trivial, rfl⟩ | exact ⟨by omega, rfl⟩ | exact ⟨by omega, by omega, rfl⟩ | (simp only [List.length_cons, List.length_nil, List.length_append]; done) | (simp only [List.length_cons, List.length_nil, List.length_append]; omega) | decide +kernel) ?_ | refine GDraw_one (by decide +kernel) ?_ | refine New.mk fun _ => ?_ | refine NewS.mk fun _ _ => ?_)
      refine ⟨fun _ => ?_, fun hno => absurd hi hno⟩
      repeat (first | refine Step.imp ?_ | refine Side.mk (by first | exact True.intro | omega | exact ⟨trivial, rfl⟩ | exact ⟨by omega, trivial, rfl⟩ | exact ⟨by omega, rfl⟩ | exact ⟨by omega, by omega, rfl⟩ | (simp only [List.length_cons, List.length_nil, List.length_append]; done) | (simp only [List.length_cons, List.length_nil, List.length_append]; omega) | decide +kernel) ?_ | refine GDraw_one (by decide +kernel) ?_ | refine New.mk fun _ => ?_ | refine NewS.mk fun _ _ => ?_)
      refine ⟨fun he => ?_, fun hne => ?_⟩
      · rw [if_pos (by omega)] at hks
        repeat (first | refine Step.imp ?_ | refine Side.mk (by first | exact True.intro | omega | exact ⟨trivial, rfl⟩ | exact ⟨by omega, trivial, rfl⟩ | exact ⟨by omega, rfl⟩ | exact ⟨by omega, by omega, rfl⟩ | (simp only [List.length_cons, List.length_nil, List.length_append]; done) | (simp only [List.length_cons, List.length_nil, List.length_append]; omega) | decide +kernel) ?_ | refine GDraw_one (by decide +kernel) ?_ | refine New.mk fun _ => ?_ | refine NewS.mk fun _ _ => ?_)
        rename_i b' a' c'
        refine X_round (k + 1, a', c') ?_ ?_ ?_ ?_ ?_
        · show k + 1 ≤ nodes.length
          omega
        · show nodes.length - (k + 1) < nodes.length - k
          omega
        · refine ⟨rfl, ?_, rfl, rfl, trivial⟩
          rw [hks, List.length_append]; rfl
        · rfl
        · simp only [hks, List.length_append, List.length_cons, List.length_nil, Nat.zero_add]
          infer_instance
      · rw [if_neg (by omega)] at hks
        repeat (first | refine Step.imp ?_ | refine Side.mk (by first | exact True.intro | omega | exact ⟨trivial, rfl⟩ | exact ⟨by omega, trivial, rfl⟩ | exact ⟨by omega, rfl⟩ | exact ⟨by omega, by omega, rfl⟩ | (simp only [List.length_cons, List.length_nil, List.length_append]; done) | (simp only [List.length_cons, List.length_nil, List.length_append]; omega) | decide +kernel) ?_ | refine GDraw_one (by decide +kernel) ?_ | refine New.mk fun _ => ?_ | refine NewS.mk fun _ _ => ?_)
        refine X_round (k + 1, a, c) ?_ ?_ ?_ ?_ ?_
        · show k + 1 ≤ nodes.length
          omega
        · show nodes.length - (k + 1) < nodes.length - k
          omega
        · refine ⟨rfl, ?_, rfl, rfl, trivial⟩
          rw [hks]
        · rfl
        · simp only [hks]
          infer_instance
    · have hk2 : k = nodes.length := by omega
      subst hk2
      repeat (first | refine Step.imp ?_ | refine Side.mk (by first | exact True.intro | omega | exact ⟨trivial, rfl⟩ | exact ⟨by omega, trivial, rfl⟩ | exact ⟨by omega, rfl⟩ | exact ⟨by omega, by omega, rfl⟩ | (simp only [List.length_cons, List.length_nil, List.length_append]; done) | (simp only [List.length_cons, List.length_nil, List.length_append]; omega) | decide +kernel) ?_ | refine GDraw_one (by decide +kernel) ?_ | refine New.mk fun _ => ?_ | refine NewS.mk fun _ _ => ?_)
      exact Fin.val (hT _ _) rfl (Hle.refl _)
  · simp only [hi, if_false] at hT
    repeat (first | refine Step.imp ?_ | refine Side.mk (by first | exact True.intro | omega | exact ⟨trivial, rfl⟩ | exact ⟨by omega, trivial, rfl⟩ | exact ⟨by omega, rfl⟩ | exact ⟨by omega, by omega, rfl⟩ | (simp only [List.length_cons, List.length_nil, List.length_append]; done) | (simp only [List.length_cons, List.length_nil, List.length_append]; omega) | decide +kernel) ?_ | refine GDraw_one (by decide +kernel) ?_ | refine New.mk fun _ => ?_ | refine NewS.mk fun _ _ => ?_)
    refine G_loopE (σ := Unit) (fun _ => True) (fun _ => 0) (fun _ => [(6, vI 0), (5, .slice none 0 0), (0, .pointer (some ⟨b, 0, none⟩)), (1, vI i)]) () trivial ⟨rfl, rfl, rfl, rfl, trivial⟩ fun _ _ => ?_
    repeat (first | refine Step.imp ?_ | refine Side.mk (by first | exact True.intro | omega | exact ⟨trivial, rfl⟩ | exact ⟨by omega, trivial, rfl⟩ | exact ⟨by omega, rfl⟩ | exact ⟨by omega, by omega, rfl⟩ | (simp only [List.length_cons, List.length_nil, List.length_append]; done) | (simp only [List.length_cons, List.length_nil, List.length_append]; omega) | decide +kernel) ?_ | refine GDraw_one (by decide +kernel) ?_ | refine New.mk fun _ => ?_ | refine NewS.mk fun _ _ => ?_)
    refine ⟨fun hlt => ?_, fun hge => ?_⟩
    · repeat (first | refine Step.imp ?_ | refine Side.mk (by first | exact True.intro | omega | exact ⟨trivial, rfl⟩ | exact ⟨by omega, trivial, rfl⟩ | exact ⟨by omega, rfl⟩ | exact ⟨by omega, by omega, rfl⟩ | (simp only [List.length_cons, List.length_nil, List.length_append]; done) | (simp only [List.length_cons, List.length_nil, List.length_append]; omega) | decide +kernel) ?_ | refine GDraw_one (by decide +kernel) ?_ | refine New.mk fun _ => ?_ | refine NewS.mk fun _ _ => ?_)
      refine ⟨fun hin => absurd hin hi, fun _ => ?_⟩
      repeat (first | refine Step.imp ?_ | refine Side.mk (by first | exact True.intro | omega | exact ⟨trivial, rfl⟩ | exact ⟨by omega, trivial, rfl⟩ | exact ⟨by omega, rfl⟩ | exact ⟨by omega, by omega, rfl⟩ | (simp only [List.length_cons, List.length_nil, List.length_append]; done) | (simp only [List.length_cons, List.length_nil, List.length_append]; omega) | decide +kernel) ?_ | refine GDraw_one (by decide +kernel) ?_ | refine New.mk fun _ => ?_ | refine NewS.mk fun _ _ => ?_)
      exact Fin.val (hT none 0) rfl (Hle.refl _)
    · repeat (first | refine Step.imp ?_ | refine Side.mk (by first | exact True.intro | omega | exact ⟨trivial, rfl⟩ | exact ⟨by omega, trivial, rfl⟩ | exact ⟨by omega, rfl⟩ | exact ⟨by omega, by omega, rfl⟩ | (simp only [List.length_cons, List.length_nil, List.length_append]; done) | (simp only [List.length_cons, List.length_nil, List.length_append]; omega) | decide +kernel) ?_ | refine GDraw_one (by decide +kernel) ?_ | refine New.mk fun _ => ?_ | refine NewS.mk fun _ _ => ?_)
      exact Fin.val (hT none 0) rfl (Hle.refl _)⟩
theorem leafB_rkids {i : Int} : (mkTree nodes).leafB i ↔ (0 ≤ i ∧ i < nodes.length) ∧ (rkids nodes i).length = 0 := by
  unfold Tr.leafB
  show (0 ≤ i ∧ i < (nodes.length : Int) ∧ ((kidsOf nodes)[i.toNat]!).length = 0) ↔ _
  constructor
  · rintro ⟨h1, h2, h3⟩
    rw [kidsOf_get (by omega)] at h3
    exact ⟨⟨h1, h2⟩, by unfold rkids; rw [if_pos ⟨h1, h2⟩]; exact h3⟩
  · rintro ⟨⟨h1, h2⟩, h3⟩
    unfold rkids at h3; rw [if_pos ⟨h1, h2⟩] at h3
    exact ⟨h1, h2, by rw [kidsOf_get (by omega)]; exact h3⟩
instance rt_leaf {L : List HP} {i : Int} [hI : IsRT h b nodes] : CallX Tryz.prog 133 [.pointer (some ⟨b, 0, none⟩), vI i] h L (nodes.length ≤ 4294967295) (fun K => K (.bool (decide ((mkTree nodes).leafB i))) h []) := ⟨fun hn => by
  have hl := leafB_rkids (nodes := nodes) (i := i)
  refine spec_enter Tryz.func133 rfl Tryz.ntmps133 Tryz.results133 (by simp) fun K R hT => ?_
  repeat (first | refine Step.imp ?_ | refine Side.mk (by first | exact True.intro | omega | exact ⟨trivial, rfl⟩ | exact ⟨by omega, trivial, rfl⟩ | exact ⟨by omega, rfl⟩ | exact ⟨by omega, by omega, rfl⟩ | (simp only [List.length_cons, List.length_nil, List.length_append]; done) | (simp only [List.length_cons, List.length_nil, List.length_append]; omega) | decide +kernel) ?_ | refine GDraw_one (by decide +kernel) ?_ | refine New.mk fun _ => ?_ | refine NewS.mk fun _ _ => ?_)
  refine ⟨fun hi => ?_, fun hi => ?_⟩
  · repeat (first | refine Step.imp ?_ | refine Side.mk (by first | exact True.intro | omega | exact ⟨trivial, rfl⟩ | exact ⟨by omega, trivial, rfl⟩ | exact ⟨by omega, rfl⟩ | exact ⟨by omega, by omega, rfl⟩ | (simp only [List.length_cons, List.length_nil, List.length_append]; done) | (simp only [List.length_cons, List.length_nil, List.length_append]; omega) | decide +kernel) ?_ | refine GDraw_one (by decide +kernel) ?_ | refine New.mk fun _ => ?_ | refine NewS.mk fun _ _ => ?_)
    intro a c
    repeat (first | refine Step.imp ?_ | refine Side.mk (by first | exact True.intro | omega | exact ⟨trivial, rfl⟩ | exact ⟨by omega, trivial, rfl⟩ | exact ⟨by omega, rfl⟩ | exact ⟨by omega, by omega, rfl⟩ | (simp only [List.length_cons, List.length_nil, List.length_append]; done) | (simp only [List.length_cons, List.length_nil, List.length_append]; omega) | decide +kernel) ?_ | refine GDraw_one (by decide +kernel) ?_ | refine New.mk fun _ => ?_ | refine NewS.mk fun _ _ => ?_)
    exact Fin.dec hT (by rw [hl]; exact ⟨fun h0 => ⟨hi, by omega⟩, fun h0 => by have := h0.2; omega⟩) (Hle.refl _)
  · repeat (first | refine Step.imp ?_ | refine Side.mk (by first | exact True.intro | omega | exact ⟨trivial, rfl⟩ | exact ⟨by omega, trivial, rfl⟩ | exact ⟨by omega, rfl⟩ | exact ⟨by omega, by omega, rfl⟩ | (simp only [List.length_cons, List.length_nil, List.length_append]; done) | (simp only [List.length_cons, List.length_nil, List.length_append]; omega) | decide +kernel) ?_ | refine GDraw_one (by decide +kernel) ?_ | refine New.mk fun _ => ?_ | refine NewS.mk fun _ _ => ?_)
    exact Fin.ff hT (fun h0 => hi (hl.1 h0).1) (Hle.refl _)⟩
end
end Go.Sl

/-
  The document's trees: the order, the leaves.
-/
namespace Go.Sl
open Go.Proofs
set_option linter.unusedVariables false
set_option linter.unusedSimpArgs false
set_option maxRecDepth 10000
set_option synthInstance.maxSize 2000
set_option synthInstance.maxHeartbeats 200000
set_option maxHeartbeats 1000000
/-- Members that may be above each other so. -/
class OkT (nodes : List Nd) : Prop where
  eq : treeErr nodes = none
instance {nodes : List Nd} [o : OkT nodes] : Acyc nodes := treeErr_acyc o.eq
theorem rkids_in {nodes : List Nd} {i : Int} (hi : 0 ≤ i ∧ i < nodes.length) : rkids nodes i = (kidsOf nodes)[i.toNat]! := by
  unfold rkids; rw [if_pos hi, kidsOf_get (by omega)]
theorem rkids_mem {nodes : List Nd} {i k : Int} (hk : k ∈ rkids nodes i) : 0 ≤ k ∧ k < nodes.length := by
  unfold rkids at hk
  split at hk
  · have := mem_kidsTo.1 hk; exact ⟨this.1, this.2.1⟩
  · cases hk
theorem rkids_len (nodes : List Nd) (i : Int) : (rkids nodes i).length ≤ nodes.length := by
  unfold rkids; split
  · exact kidsTo_len _ _ _
  · simp
theorem mem_get {l : List Int} {k : Nat} (h : k < l.length) : l[k]! ∈ l := by rw [getElem!_pos l k h]; exact List.getElem_mem h
theorem order_fuel {nodes : List Nd} (ha : Acyc nodes) : (rootsTo nodes nodes.length).flatMap (pre (kidsOf nodes) 41) = orderF nodes := by
  obtain ⟨r, h40, hr⟩ := kids_wf ha
  unfold orderF
  have : ∀ l : List Int, (∀ k ∈ l, 0 ≤ k ∧ k < nodes.length) → l.flatMap (pre (kidsOf nodes) 41) = l.flatMap (pre (kidsOf nodes) 40) := by
    intro l
    induction l with
    | nil => intro _; simp only [List.flatMap_nil]
    | cons k l ih =>
      intro hl
      have hk := hl k (by simp)
      rw [List.flatMap_cons, List.flatMap_cons, ih (fun x hx => hl x (by simp [hx])), pre_fuel hr 41 40 k hk.1 (by rw [kidsOf_len]; exact hk.2) (by have := h40 k; omega) (h40 k)]
  exact this _ fun k hk => by have := mem_rootsTo.1 hk; exact ⟨this.1, this.2.1⟩
theorem take_snoc {α β : Type} [Inhabited α] (g : α → List β) (l : List α) (n : Nat) (hn : n < l.length) : (l.take (n + 1)).flatMap g = (l.take n).flatMap g ++ g (l[n]!) := by
  rw [List.take_succ_eq_append_getElem hn, List.flatMap_append, getElem!_pos l n hn]; simp
section
variable {h : PHeap} {b : Nat} {nodes : List Nd}
theorem rt_down [hI : IsRT h b nodes] (hn : nodes.length ≤ 4294967295) : ∀ (f : Nat) (deep : Int) (i : Int) (L : List HP), deep + f = 40 → 0 ≤ deep → (0 ≤ i ∧ i < nodes.length) → (pre (kidsOf nodes) (f + 1) i).length ≤ 4294967296 →
    Spec Tryz.prog 154 [.pointer (some ⟨b, 0, none⟩), vI i, vI deep] h L (fun K => ∀ a c, K (.slice a (pre (kidsOf nodes) (f + 1) i).length c) h (slo encI 1 (.slice a (pre (kidsOf nodes) (f + 1) i).length c) (pre (kidsOf nodes) (f + 1) i) :: L)) := by
  intro f
  induction f with
  | zero =>
    intro deep i L hdf hd0 hi hb
    have hp : pre (kidsOf nodes) (0 + 1) i = [i] := by
      simp only [pre]
      have : ∀ l : List Int, l.flatMap (pre (kidsOf nodes) 0) = [] := fun l => by induction l with
        | nil => rfl
        | cons x l ih => rw [List.flatMap_cons, ih]; rfl
      have h2 := this ((kidsOf nodes)[i.toNat]!)
      simp only [pre] at h2
      rw [h2]
    have hd : deep = 40 := by omega
    subst hd
    rw [hp]
    refine spec_enter Tryz.func154 rfl Tryz.ntmps154 Tryz.results154 (by simp) fun K R hT => ?_
    repeat (first | refine Step.imp ?_ | refine Side.mk (by first | exact True.intro | omega | exact ⟨trivial, rfl⟩ | exact ⟨by omega, trivial, rfl⟩ | exact ⟨by omega, rfl⟩ | exact ⟨by omega, by omega, rfl⟩ | (simp only [List.length_cons, List.length_nil, List.length_append]; done) | (simp only [List.length_cons, List.length_nil, List.length_append]; omega) | decide +kernel) ?_ | refine GDraw_one (by decide +kernel) ?_ | refine New.mk fun _ => ?_ | refine NewS.mk fun _ _ => ?_)
    rename_i ob
    intro ka kc
    repeat (first | refine Step.imp ?_ | refine Side.mk (by first | exact True.intro | omega | exact ⟨trivial, rfl⟩ | exact ⟨by omega, trivial, rfl⟩ | exact ⟨by omega, rfl⟩ | exact ⟨by omega, by omega, rfl⟩ | (simp only [List.length_cons, List.length_nil, List.length_append]; done) | (simp only [List.length_cons, List.length_nil, List.length_append]; omega) | decide +kernel) ?_ | refine GDraw_one (by decide +kernel) ?_ | refine New.mk fun _ => ?_ | refine NewS.mk fun _ _ => ?_)
    refine G_conv (x := blk ob (.cells [vI i].toArray 3 (0, 0))) (y := slo encI 1 (.slice (some ⟨ob, 0, none⟩) 1 1) [i]) (fun bs hb => ⟨by simp [Value.oneCell'], .inr ⟨ob, 1, [], 3, rfl, by simp, hb, by simp⟩⟩) ?_
    have hT := hT (some ⟨ob, 0, none⟩) 1
    refine G_loopE (σ := Unit) (fun _ => True) (fun _ => 0) (fun _ => [(9, vI 0), (8, .slice ka (rkids nodes i).length kc), (7, .slice (some ⟨ob, 0, none⟩) 1 1), (2, vI 40)]) () trivial ⟨rfl, rfl, rfl, rfl, trivial⟩ fun _ _ => ?_
    repeat' (first | refine Step.imp ?_ | refine Side.mk (by first | exact True.intro | omega | exact ⟨trivial, rfl⟩ | exact ⟨by omega, trivial, rfl⟩ | exact ⟨by omega, rfl⟩ | exact ⟨by omega, by omega, rfl⟩ | (simp only [List.length_cons, List.length_nil, List.length_append]; done) | (simp only [List.length_cons, List.length_nil, List.length_append]; omega) | decide +kernel) ?_ | refine GDraw_one (by decide +kernel) ?_ | refine New.mk fun _ => ?_ | refine NewS.mk fun _ _ => ?_ | refine Ways.mk (fun _ => ?_) (fun _ => ?_))
    all_goals first | (exfalso; omega) | exact Fin.val hT rfl (Hle.refl _)
  | succ f ih =>
    intro deep i L hdf hd0 hi hb
    haveI hrec : ∀ {L : List HP} {j : Int}, CallX Tryz.prog 154 [.pointer (some ⟨b, 0, none⟩), vI j, vI (deep + 1)] h L ((0 ≤ j ∧ j < nodes.length) ∧ (pre (kidsOf nodes) (f + 1) j).length ≤ 4294967296)
        (fun K => ∀ a c, K (.slice a (pre (kidsOf nodes) (f + 1) j).length c) h [slo encI 1 (.slice a (pre (kidsOf nodes) (f + 1) j).length c) (pre (kidsOf nodes) (f + 1) j)]) := fun {L j} => ⟨fun hj => ih (deep + 1) j L (by omega) (by omega) hj.1 hj.2⟩
    have hp : pre (kidsOf nodes) (f + 1 + 1) i = i :: (rkids nodes i).flatMap (pre (kidsOf nodes) (f + 1)) := by rw [pre, rkids_in hi]
    rw [hp] at hb ⊢
    rw [List.length_cons] at hb
    obtain ⟨l, hl⟩ : ∃ l, l = rkids nodes i := ⟨_, rfl⟩
    have hlm : ∀ k ∈ l, 0 ≤ k ∧ k < nodes.length := fun k hk => rkids_mem (by rw [hl] at hk; exact hk)
    have hll : l.length ≤ nodes.length := by rw [hl]; exact rkids_len _ _
    refine spec_enter Tryz.func154 rfl Tryz.ntmps154 Tryz.results154 (by simp) fun K R hT => ?_
    repeat (first | refine Step.imp ?_ | refine Side.mk (by first | exact True.intro | omega | exact ⟨trivial, rfl⟩ | exact ⟨by omega, trivial, rfl⟩ | exact ⟨by omega, rfl⟩ | exact ⟨by omega, by omega, rfl⟩ | (simp only [List.length_cons, List.length_nil, List.length_append]; done) | (simp only [List.length_cons, List.length_nil, List.length_append]; omega) | decide +kernel) ?_ | refine GDraw_one (by decide +kernel) ?_ | refine New.mk fun _ => ?_ | refine NewS.mk fun _ _ => ?_)
    rename_i ob
    intro ka kc
    rw [← hl] at hT hb ⊢
    repeat (first | refine Step.imp ?_ | refine Side.mk (by first | exact True.intro | omega | exact ⟨trivial, rfl⟩ | exact ⟨by omega, trivial, rfl⟩ | exact ⟨by omega, rfl⟩ | exact ⟨by omega, by omega, rfl⟩ | (simp only [List.length_cons, List.length_nil, List.length_append]; done) | (simp only [List.length_cons, List.length_nil, List.length_append]; omega) | decide +kernel) ?_ | refine GDraw_one (by decide +kernel) ?_ | refine New.mk fun _ => ?_ | refine NewS.mk fun _ _ => ?_)
    refine G_conv (x := blk ob (.cells [vI i].toArray 3 (0, 0))) (y := slo encI 1 (.slice (some ⟨ob, 0, none⟩) 1 1) [i]) (fun bs hb => ⟨by simp [Value.oneCell'], .inr ⟨ob, 1, [], 3, rfl, by simp, hb, by simp⟩⟩) ?_
    refine G_loop (σ := Nat × Option Addr × Nat) (fun s => s.1 ≤ l.length) (fun s => l.length - s.1)
      (fun s => [(9, vI s.1), (8, .slice ka l.length kc), (7, .slice s.2.1 (i :: (l.take s.1).flatMap (pre (kidsOf nodes) (f + 1))).length s.2.2), (2, vI deep), (0, .pointer (some ⟨b, 0, none⟩))]) (fun _ => h)
      (fun s => slo encI 1 (.slice s.2.1 (i :: (l.take s.1).flatMap (pre (kidsOf nodes) (f + 1))).length s.2.2) (i :: (l.take s.1).flatMap (pre (kidsOf nodes) (f + 1))) :: slo encI 1 (.slice ka l.length kc) l :: (L ++ R))
      (0, some ⟨ob, 0, none⟩, 1) (Nat.zero_le _) ⟨rfl, rfl, rfl, rfl, rfl, trivial⟩ rfl ?_ ?_
    · simp only [List.take_zero, List.flatMap_nil, List.length_cons, List.length_nil, Nat.zero_add]
      infer_instance
    rintro ⟨k, a, c⟩ hk
    simp only at hk ⊢
    repeat (first | refine Step.imp ?_ | refine Side.mk (by first | exact True.intro | omega | exact ⟨trivial, rfl⟩ | exact ⟨by omega, trivial, rfl⟩ | exact ⟨by omega, rfl⟩ | exact ⟨by omega, by omega, rfl⟩ | (simp only [List.length_cons, List.length_nil, List.length_append]; done) | (simp only [List.length_cons, List.length_nil, List.length_append]; omega) | decide +kernel) ?_ | refine GDraw_one (by decide +kernel) ?_ | refine New.mk fun _ => ?_ | refine NewS.mk fun _ _ => ?_)
    refine ⟨fun hlt => ?_, fun hge => ?_⟩
    · have hft := flat_take (pre (kidsOf nodes) (f + 1)) l k (by omega)
      have hts := take_snoc (pre (kidsOf nodes) (f + 1)) l k (by omega)
      have hkm := hlm (l[k]!) (mem_get (by omega))
      repeat (first | refine Step.imp ?_ | refine Side.mk (by first | exact True.intro | omega | exact ⟨trivial, rfl⟩ | exact ⟨by omega, trivial, rfl⟩ | exact ⟨by omega, rfl⟩ | exact ⟨by omega, by omega, rfl⟩ | (simp only [List.length_cons, List.length_nil, List.length_append]; done) | (simp only [List.length_cons, List.length_nil, List.length_append]; omega) | decide +kernel) ?_ | refine GDraw_one (by decide +kernel) ?_ | refine New.mk fun _ => ?_ | refine NewS.mk fun _ _ => ?_)
      refine ⟨fun hd40 => ?_, fun hd40 => absurd (by omega) hd40⟩
      repeat (first | refine Step.imp ?_ | refine Side.mk (by first | exact True.intro | omega | exact ⟨trivial, rfl⟩ | exact ⟨by omega, trivial, rfl⟩ | exact ⟨by omega, rfl⟩ | exact ⟨by omega, by omega, rfl⟩ | (simp only [List.length_cons, List.length_nil, List.length_append]; done) | (simp only [List.length_cons, List.length_nil, List.length_append]; omega) | decide +kernel) ?_ | refine GDraw_one (by decide +kernel) ?_ | refine New.mk fun _ => ?_ | refine NewS.mk fun _ _ => ?_)
      intro pa pc
      repeat (first | refine Step.imp ?_ | refine Side.mk (by first | exact True.intro | omega | exact ⟨trivial, rfl⟩ | exact ⟨by omega, trivial, rfl⟩ | exact ⟨by omega, rfl⟩ | exact ⟨by omega, by omega, rfl⟩ | (simp only [List.length_cons, List.length_nil, List.length_append]; done) | (simp only [List.length_cons, List.length_nil, List.length_append]; omega) | decide +kernel) ?_ | refine GDraw_one (by decide +kernel) ?_ | refine New.mk fun _ => ?_ | refine NewS.mk fun _ _ => ?_)
      rename_i a1 c1
      refine X_round (k + 1, a1, c1) ?_ ?_ ?_ ?_ ?_
      · show k + 1 ≤ l.length
        omega
      · show l.length - (k + 1) < l.length - k
        omega
      · refine ⟨rfl, rfl, ?_, rfl, rfl, trivial⟩
        rw [hts, ← List.cons_append (α := Int), List.length_append (α := Int)]
      · rfl
      · simp only [hts]
        rw [← List.cons_append (α := Int), List.length_append (α := Int)]
        infer_instance
    · have hk2 : k = l.length := by omega
      subst hk2
      simp only [List.take_length] at *
      repeat (first | refine Step.imp ?_ | refine Side.mk (by first | exact True.intro | omega | exact ⟨trivial, rfl⟩ | exact ⟨by omega, trivial, rfl⟩ | exact ⟨by omega, rfl⟩ | exact ⟨by omega, by omega, rfl⟩ | (simp only [List.length_cons, List.length_nil, List.length_append]; done) | (simp only [List.length_cons, List.length_nil, List.length_append]; omega) | decide +kernel) ?_ | refine GDraw_one (by decide +kernel) ?_ | refine New.mk fun _ => ?_ | refine NewS.mk fun _ _ => ?_)
      exact Fin.val (hT a c) rfl (Hle.refl _)
instance rt_down0 {L : List HP} {i : Int} [hI : IsRT h b nodes] : CallX Tryz.prog 154 [.pointer (some ⟨b, 0, none⟩), vI i, vI 0] h L (nodes.length ≤ 4294967295 ∧ (0 ≤ i ∧ i < nodes.length) ∧ (pre (kidsOf nodes) 41 i).length ≤ 4294967296)
    (fun K => ∀ a c, K (.slice a (pre (kidsOf nodes) 41 i).length c) h [slo encI 1 (.slice a (pre (kidsOf nodes) 41 i).length c) (pre (kidsOf nodes) 41 i)]) := ⟨fun ⟨h1, h2, h3⟩ => rt_down h1 40 0 i L (by omega) (by omega) h2 h3⟩
instance rt_order {L : List HP} [hI : IsRT h b nodes] [ok : OkT nodes] : CallX Tryz.prog 132 [.pointer (some ⟨b, 0, none⟩)] h L True
    (fun K => ∀ a c, K (.slice a (orderF nodes).length c) h [slo encI 1 (.slice a (orderF nodes).length c) (orderF nodes)]) := ⟨fun _ => by
  have hI' := hI
  obtain ⟨nv, ty, fr, h1, h2⟩ := hI'.out
  have h32 := (treeErr_all ok.eq).2.1
  have hol := order_len (treeErr_acyc ok.eq) (treeErr_ups ok.eq)
  have hof := order_fuel (treeErr_acyc ok.eq)
  rw [← hof] at hol ⊢
  have hrl : ∀ n ≤ nodes.length, ((rootsTo nodes n).flatMap (pre (kidsOf nodes) 41)).length ≤ 32 := fun n hn => by
    have := roots_len (kidsOf nodes) nodes 41 hn; omega
  refine spec_enter Tryz.func132 rfl Tryz.ntmps132 Tryz.results132 (by simp) fun K R hT => ?_
  refine Step.imp ?_
  refine G_nil encI 1 none ?_
  repeat (first | refine Step.imp ?_ | refine Side.mk (by first | exact True.intro | omega | exact ⟨trivial, rfl⟩ | exact ⟨by omega, trivial, rfl⟩ | exact ⟨by omega, rfl⟩ | exact ⟨by omega, by omega, rfl⟩ | (simp only [List.length_cons, List.length_nil, List.length_append]; done) | (simp only [List.length_cons, List.length_nil, List.length_append]; omega) | decide +kernel) ?_ | refine GDraw_one (by decide +kernel) ?_ | refine New.mk fun _ => ?_ | refine NewS.mk fun _ _ => ?_)
  refine G_loop (σ := Nat × Option Addr × Nat) (fun s => s.1 ≤ nodes.length) (fun s => nodes.length - s.1)
    (fun s => [(4, vI s.1), (3, .slice s.2.1 ((rootsTo nodes s.1).flatMap (pre (kidsOf nodes) 41)).length s.2.2), (0, .pointer (some ⟨b, 0, none⟩))]) (fun _ => h)
    (fun s => slo encI 1 (.slice s.2.1 ((rootsTo nodes s.1).flatMap (pre (kidsOf nodes) 41)).length s.2.2) ((rootsTo nodes s.1).flatMap (pre (kidsOf nodes) 41)) :: (L ++ R))
    (0, none, 0) (Nat.zero_le _) ⟨rfl, rfl, rfl, trivial⟩ rfl ?_ ?_
  · simp only [rootsTo, List.range_zero, List.filter_nil, List.map_nil, List.flatMap_nil, List.length_nil]
    infer_instance
  rintro ⟨k, a, c⟩ hk
  simp only at hk ⊢
  repeat (first | refine Step.imp ?_ | refine Side.mk (by first | exact True.intro | omega | exact ⟨trivial, rfl⟩ | exact ⟨by omega, trivial, rfl⟩ | exact ⟨by omega, rfl⟩ | exact ⟨by omega, by omega, rfl⟩ | (simp only [List.length_cons, List.length_nil, List.length_append]; done) | (simp only [List.length_cons, List.length_nil, List.length_append]; omega) | decide +kernel) ?_ | refine GDraw_one (by decide +kernel) ?_ | refine New.mk fun _ => ?_ | refine NewS.mk fun _ _ => ?_)
  refine ⟨fun hlt => ?_, fun hge => ?_⟩
  · have hrk := hrl k hk
    have hrk1 := hrl (k + 1) (by omega)
    have hrs := rootsTo_succ nodes k
    repeat (first | refine Step.imp ?_ | refine Side.mk (by first | exact True.intro | omega | exact ⟨trivial, rfl⟩ | exact ⟨by omega, trivial, rfl⟩ | exact ⟨by omega, rfl⟩ | exact ⟨by omega, by omega, rfl⟩ | (simp only [List.length_cons, List.length_nil, List.length_append]; done) | (simp only [List.length_cons, List.length_nil, List.length_append]; omega) | decide +kernel) ?_ | refine GDraw_one (by decide +kernel) ?_ | refine New.mk fun _ => ?_ | refine NewS.mk fun _ _ => ?_)
    refine ⟨fun hup => ?_, fun hup => ?_⟩
    · rw [if_pos hup] at hrs
      rw [hrs, List.flatMap_append, List.length_append] at hrk1
      have he1 : [(k : Int)].flatMap (pre (kidsOf nodes) 41) = pre (kidsOf nodes) 41 k := by simp
      rw [he1] at hrk1
      repeat (first | refine Step.imp ?_ | refine Side.mk (by first | exact True.intro | omega | exact ⟨trivial, rfl⟩ | exact ⟨by omega, trivial, rfl⟩ | exact ⟨by omega, rfl⟩ | exact ⟨by omega, by omega, rfl⟩ | (simp only [List.length_cons, List.length_nil, List.length_append]; done) | (simp only [List.length_cons, List.length_nil, List.length_append]; omega) | decide +kernel) ?_ | refine GDraw_one (by decide +kernel) ?_ | refine New.mk fun _ => ?_ | refine NewS.mk fun _ _ => ?_)
      intro pa pc
      repeat (first | refine Step.imp ?_ | refine Side.mk (by first | exact True.intro | omega | exact ⟨trivial, rfl⟩ | exact ⟨by omega, trivial, rfl⟩ | exact ⟨by omega, rfl⟩ | exact ⟨by omega, by omega, rfl⟩ | (simp only [List.length_cons, List.length_nil, List.length_append]; done) | (simp only [List.length_cons, List.length_nil, List.length_append]; omega) | decide +kernel) ?_ | refine GDraw_one (by decide +kernel) ?_ | refine New.mk fun _ => ?_ | refine NewS.mk fun _ _ => ?_)
      rename_i a1 c1
      refine X_round (k + 1, a1, c1) ?_ ?_ ?_ ?_ ?_
      · show k + 1 ≤ nodes.length
        omega
      · show nodes.length - (k + 1) < nodes.length - k
        omega
      · refine ⟨rfl, ?_, rfl, trivial⟩
        rw [hrs, List.flatMap_append, List.length_append, he1]
      · rfl
      · simp only [hrs, List.flatMap_append, he1, List.length_append]
        infer_instance
    · rw [if_neg hup] at hrs
      repeat (first | refine Step.imp ?_ | refine Side.mk (by first | exact True.intro | omega | exact ⟨trivial, rfl⟩ | exact ⟨by omega, trivial, rfl⟩ | exact ⟨by omega, rfl⟩ | exact ⟨by omega, by omega, rfl⟩ | (simp only [List.length_cons, List.length_nil, List.length_append]; done) | (simp only [List.length_cons, List.length_nil, List.length_append]; omega) | decide +kernel) ?_ | refine GDraw_one (by decide +kernel) ?_ | refine New.mk fun _ => ?_ | refine NewS.mk fun _ _ => ?_)
      refine X_round (k + 1, a, c) ?_ ?_ ?_ ?_ ?_
      · show k + 1 ≤ nodes.length
        omega
      · show nodes.length - (k + 1) < nodes.length - k
        omega
      · refine ⟨rfl, ?_, rfl, trivial⟩
        rw [hrs]
      · rfl
      · simp only [hrs]
        infer_instance
  · have hk2 : k = nodes.length := by omega
    subst hk2
    repeat (first | refine Step.imp ?_ | refine Side.mk (by first | exact True.intro | omega | exact ⟨trivial, rfl⟩ | exact ⟨by omega, trivial, rfl⟩ | exact ⟨by omega, rfl⟩ | exact ⟨by omega, by omega, rfl⟩ | (simp only [List.length_cons, List.length_nil, List.length_append]; done) | (simp only [List.length_cons, List.length_nil, List.length_append]; omega) | decide +kernel) ?_ | refine GDraw_one (by decide +kernel) ?_ | refine New.mk fun _ => ?_ | refine NewS.mk fun _ _ => ?_)
    exact Fin.val (hT a c) rfl (Hle.refl _)⟩
def leavesTo (nodes : List Nd) (n : Nat) : List Int := ((orderF nodes).take n).filter (fun i => decide ((mkTree nodes).leafB i))
theorem leavesTo_succ {nodes : List Nd} {n : Nat} (hn : n < (orderF nodes).length) : leavesTo nodes (n + 1) = if (mkTree nodes).leafB ((orderF nodes)[n]!) then leavesTo nodes n ++ [(orderF nodes)[n]!] else leavesTo nodes n := by
  unfold leavesTo
  rw [List.take_succ_eq_append_getElem hn, List.filter_append, getElem!_pos _ n hn]
  split <;> rename_i hb <;> simp [List.filter_cons, hb]
theorem leavesTo_all {nodes : List Nd} (ht : treeErr nodes = none) : leavesTo nodes (orderF nodes).length = (mkTree nodes).leaves := by
  unfold leavesTo
  rw [List.take_length, mkTree_leaves]
  refine List.filter_congr fun i hi => ?_
  have hr := (order_mem (treeErr_acyc ht) (treeErr_ups ht) i).1 hi
  have := leafB_iff ht (i := i)
  by_cases hl : leafK (kidsOf nodes) i = true
  · rw [hl, decide_eq_true_eq]; exact this.2 ⟨hr, hl⟩
  · have h2 : leafK (kidsOf nodes) i = false := by simpa using hl
    rw [h2, decide_eq_false_iff_not]; exact fun h3 => hl (this.1 h3).2
instance rt_leaves {L : List HP} [hI : IsRT h b nodes] [ok : OkT nodes] : CallX Tryz.prog 97 [.pointer (some ⟨b, 0, none⟩)] h L True
    (fun K => ∀ a c, K (.slice a (mkTree nodes).leaves.length c) h [slo encI 1 (.slice a (mkTree nodes).leaves.length c) (mkTree nodes).leaves]) := ⟨fun _ => by
  have h32 := (treeErr_all ok.eq).2.1
  have hol := order_len (treeErr_acyc ok.eq) (treeErr_ups ok.eq)
  have hla := leavesTo_all ok.eq
  have hlt0 : ∀ n, (leavesTo nodes n).length ≤ n := fun n => by
    unfold leavesTo
    have h1 := List.length_filter_le (fun i => decide ((mkTree nodes).leafB i)) ((orderF nodes).take n)
    have h2 := List.length_take_le n (orderF nodes)
    omega
  refine spec_enter Tryz.func97 rfl Tryz.ntmps97 Tryz.results97 (by simp) fun K R hT => ?_
  refine Step.imp ?_
  refine G_nil encI 1 none ?_
  repeat (first | refine Step.imp ?_ | refine Side.mk (by first | exact True.intro | omega | exact ⟨trivial, rfl⟩ | exact ⟨by omega, trivial, rfl⟩ | exact ⟨by omega, rfl⟩ | exact ⟨by omega, by omega, rfl⟩ | (simp only [List.length_cons, List.length_nil, List.length_append]; done) | (simp only [List.length_cons, List.length_nil, List.length_append]; omega) | decide +kernel) ?_ | refine GDraw_one (by decide +kernel) ?_ | refine New.mk fun _ => ?_ | refine NewS.mk fun _ _ => ?_)
  intro oa oc
  repeat (first | refine Step.imp ?_ | refine Side.mk (by first | exact True.intro | omega | exact ⟨trivial, rfl⟩ | exact ⟨by omega, trivial, rfl⟩ | exact ⟨by omega, rfl⟩ | exact ⟨by omega, by omega, rfl⟩ | (simp only [List.length_cons, List.length_nil, List.length_append]; done) | (simp only [List.length_cons, List.length_nil, List.length_append]; omega) | decide +kernel) ?_ | refine GDraw_one (by decide +kernel) ?_ | refine New.mk fun _ => ?_ | refine NewS.mk fun _ _ => ?_)
  refine G_loop (σ := Nat × Option Addr × Nat) (fun s => s.1 ≤ (orderF nodes).length) (fun s => (orderF nodes).length - s.1)
    (fun s => [(5, vI s.1), (4, .slice oa (orderF nodes).length oc), (3, .slice s.2.1 (leavesTo nodes s.1).length s.2.2), (0, .pointer (some ⟨b, 0, none⟩))]) (fun _ => h)
    (fun s => slo encI 1 (.slice s.2.1 (leavesTo nodes s.1).length s.2.2) (leavesTo nodes s.1) :: slo encI 1 (.slice oa (orderF nodes).length oc) (orderF nodes) :: (L ++ R))
    (0, none, 0) (Nat.zero_le _) ⟨rfl, rfl, rfl, rfl, trivial⟩ rfl ?_ ?_
  · simp only [leavesTo, List.take_zero, List.filter_nil, List.length_nil]
    infer_instance
  rintro ⟨k, a, c⟩ hk
  simp only at hk ⊢
  have hlk := hlt0 k
  repeat (first | refine Step.imp ?_ | refine Side.mk (by first | exact True.intro | omega | exact ⟨trivial, rfl⟩ | exact ⟨by omega, trivial, rfl⟩ | exact ⟨by omega, rfl⟩ | exact ⟨by omega, by omega, rfl⟩ | (simp only [List.length_cons, List.length_nil, List.length_append]; done) | (simp only [List.length_cons, List.length_nil, List.length_append]; omega) | decide +kernel) ?_ | refine GDraw_one (by decide +kernel) ?_ | refine New.mk fun _ => ?_ | refine NewS.mk fun _ _ => ?_)
  refine ⟨fun hlt => ?_, fun hge => ?_⟩
  · have hs := leavesTo_succ (nodes := nodes) (n := k) (by omega)
    repeat (first | refine Step.imp ?_ | refine Side.mk (by first | exact True.intro | omega | exact ⟨trivial, rfl⟩ | exact ⟨by omega, trivial, rfl⟩ | exact ⟨by omega, rfl⟩ | exact ⟨by omega, by omega, rfl⟩ | (simp only [List.length_cons, List.length_nil, List.length_append]; done) | (simp only [List.length_cons, List.length_nil, List.length_append]; omega) | decide +kernel) ?_ | refine GDraw_one (by decide +kernel) ?_ | refine New.mk fun _ => ?_ | refine NewS.mk fun _ _ => ?_)
    refine ⟨fun hl => ?_, fun hl => ?_⟩
    · rw [if_pos hl] at hs
      repeat (first | refine Step.imp ?_ | refine Side.mk (by first | exact True.intro | omega | exact ⟨trivial, rfl⟩ | exact ⟨by omega, trivial, rfl⟩ | exact ⟨by omega, rfl⟩ | exact ⟨by omega, by omega, rfl⟩ | (simp only [List.length_cons, List.length_nil, List.length_append]; done) | (simp only [List.length_cons, List.length_nil, List.length_append]; omega) | decide +kernel) ?_ | refine GDraw_one (by decide +kernel) ?_ | refine New.mk fun _ => ?_ | refine NewS.mk fun _ _ => ?_)
      rename_i b1 a1 c1
      refine X_round (k + 1, a1, c1) ?_ ?_ ?_ ?_ ?_
      · show k + 1 ≤ (orderF nodes).length
        omega
      · show (orderF nodes).length - (k + 1) < (orderF nodes).length - k
        omega
      · refine ⟨rfl, rfl, ?_, rfl, trivial⟩
        rw [hs, List.length_append]; rfl
      · rfl
      · simp only [hs, List.length_append, List.length_cons, List.length_nil, Nat.zero_add]
        infer_instance
    · rw [if_neg hl] at hs
      repeat (first | refine Step.imp ?_ | refine Side.mk (by first | exact True.intro | omega | exact ⟨trivial, rfl⟩ | exact ⟨by omega, trivial, rfl⟩ | exact ⟨by omega, rfl⟩ | exact ⟨by omega, by omega, rfl⟩ | (simp only [List.length_cons, List.length_nil, List.length_append]; done) | (simp only [List.length_cons, List.length_nil, List.length_append]; omega) | decide +kernel) ?_ | refine GDraw_one (by decide +kernel) ?_ | refine New.mk fun _ => ?_ | refine NewS.mk fun _ _ => ?_)
      refine X_round (k + 1, a, c) ?_ ?_ ?_ ?_ ?_
      · show k + 1 ≤ (orderF nodes).length
        omega
      · show (orderF nodes).length - (k + 1) < (orderF nodes).length - k
        omega
      · refine ⟨rfl, rfl, ?_, rfl, trivial⟩
        rw [hs]
      · rfl
      · simp only [hs]
        infer_instance
  · have hk2 : k = (orderF nodes).length := by omega
    subst hk2
    rw [hla]
    repeat (first | refine Step.imp ?_ | refine Side.mk (by first | exact True.intro | omega | exact ⟨trivial, rfl⟩ | exact ⟨by omega, trivial, rfl⟩ | exact ⟨by omega, rfl⟩ | exact ⟨by omega, by omega, rfl⟩ | (simp only [List.length_cons, List.length_nil, List.length_append]; done) | (simp only [List.length_cons, List.length_nil, List.length_append]; omega) | decide +kernel) ?_ | refine GDraw_one (by decide +kernel) ?_ | refine New.mk fun _ => ?_ | refine NewS.mk fun _ _ => ?_)
    exact Fin.val (hT a c) rfl (Hle.refl _)⟩
end
end Go.Sl

/-
  The document's trees: made.
-/
namespace Go.Sl
open Go.Proofs
set_option linter.unusedVariables false
set_option linter.unusedSimpArgs false
set_option maxRecDepth 10000
set_option synthInstance.maxSize 2000
set_option synthInstance.maxHeartbeats 200000
set_option maxHeartbeats 1000000
theorem ck0 (nodes : List Nd) (i : Nat) : ckStep nodes 0 i = ckName nodes i := rfl
theorem ck1 (nodes : List Nd) (i : Nat) : ckStep nodes 1 i = ckTwice nodes i := rfl
theorem ck2 (nodes : List Nd) (i : Nat) : ckStep nodes 2 i = ckRange nodes i := rfl
theorem ck3 (nodes : List Nd) (i : Nat) : ckStep nodes 3 i = ckLoop nodes i := rfl
theorem ck4 (nodes : List Nd) (i : Nat) : ckStep nodes 4 i = ckDeep nodes i := rfl
theorem bad_err {nodes : List Nd} {s i : Nat} (hs : s < 5) (hi : i < nodes.length) (h : ckStep nodes s i ≠ 0) : treeErr nodes ≠ none := fun hn => h ((treeErr_all hn).2.2 s hs i hi)
theorem find_twice {nodes : List Nd} {i : Nat} (hi : i < nodes.length) : findN nodes (nodes[i]!).name < i ↔ ckTwice nodes i ≠ 0 := by
  have hm : mhas (namesTo nodes i) (nodes[i]!).name = true ↔ ∃ j < i, (nodes[j]!).name = (nodes[i]!).name := by
    unfold mhas mget namesTo
    rw [Option.isSome_map, List.find?_isSome]
    constructor
    · rintro ⟨p, hp, he⟩
      obtain ⟨j, hj, rfl⟩ := List.mem_map.1 hp
      exact ⟨j, List.mem_range.1 hj, by simpa using he⟩
    · rintro ⟨j, hj, he⟩
      exact ⟨_, List.mem_map.2 ⟨j, List.mem_range.2 hj, rfl⟩, by simpa using he⟩
  have hck : ckTwice nodes i ≠ 0 ↔ mhas (namesTo nodes i) (nodes[i]!).name = true := by
    unfold ckTwice
    cases mhas (namesTo nodes i) (nodes[i]!).name <;> simp
  rw [hck, hm]
  unfold findN idxI
  cases hf : (nodes.map Nd.name).findIdx? (fun x => decide (x = (nodes[i]!).name)) with
  | none =>
    rw [List.findIdx?_eq_none_iff] at hf
    have := hf (nodes[i]!).name (by rw [List.mem_map]; exact ⟨nodes[i]!, by rw [getElem!_pos nodes i hi]; exact List.getElem_mem _, rfl⟩)
    simp at this
  | some k =>
    rw [List.findIdx?_eq_some_iff_getElem] at hf
    obtain ⟨hk, he, hb⟩ := hf
    rw [List.length_map] at hk
    simp only [List.getElem_map, decide_eq_true_eq] at he
    show ((k : Nat) : Int) < i ↔ _
    constructor
    · intro hki
      exact ⟨k, by omega, by rw [getElem!_pos nodes k hk]; exact he⟩
    · rintro ⟨j, hj, hje⟩
      refine Int.not_le.1 fun hik => ?_
      have := hb j (by omega)
      simp only [List.getElem_map, decide_eq_true_eq] at this
      rw [getElem!_pos nodes j (by omega)] at hje
      exact this hje
section
variable {h : PHeap} {nodes : List Nd} {lv : Value}
instance rt_new {L : List HP} [hs : FSl h lv encNd 2 nodes] : CallX Tryz.prog 96 [lv] h L (nodes.length ≤ 4294967296)
    (fun K => (∀ (i why : Int) h', Le h h' → why ≠ 0 → treeErr nodes ≠ none → K (.tuple [.pointer none, vI i, vI why].toArray) h' []) ∧
      (treeErr nodes = none → ∀ h' b, Le h h' → IsRT h' b nodes → K (.tuple [.pointer (some ⟨b, 0, none⟩), vI 0, vI 0].toArray) h' [])) := ⟨fun hn => by
  refine spec_enter Tryz.func96 rfl Tryz.ntmps96 Tryz.results96 (by simp) fun K R hT => ?_
  by_cases hlen : nodes.length = 0 ∨ 32 < nodes.length
  · have he := hT.1 0 5 h ⟨Hle.refl h⟩ (by decide) (by unfold treeErr; rw [if_pos hlen]; simp)
    repeat' (first | refine Step.imp ?_ | refine Side.mk (by first | exact True.intro | omega | exact ⟨trivial, rfl⟩ | exact ⟨by omega, trivial, rfl⟩ | exact ⟨by omega, rfl⟩ | exact ⟨by omega, by omega, rfl⟩ | (simp only [List.length_cons, List.length_nil, List.length_append]; done) | (simp only [List.length_cons, List.length_nil, List.length_append]; omega) | decide +kernel) ?_ | refine GDraw_one (by decide +kernel) ?_ | refine New.mk fun _ => ?_ | refine NewS.mk fun _ _ => ?_ | refine Ways.mk (fun _ => ?_) (fun _ => ?_))
    all_goals first | exact Fin.val he rfl (Hle.refl _) | (exfalso; omega)
  · have h32 : nodes.length ≤ 32 := by omega
    repeat' (first | refine Step.imp ?_ | refine Side.mk (by first | exact True.intro | omega | exact ⟨trivial, rfl⟩ | exact ⟨by omega, trivial, rfl⟩ | exact ⟨by omega, rfl⟩ | exact ⟨by omega, by omega, rfl⟩ | (simp only [List.length_cons, List.length_nil, List.length_append]; done) | (simp only [List.length_cons, List.length_nil, List.length_append]; omega) | decide +kernel) ?_ | refine GDraw_one (by decide +kernel) ?_ | refine New.mk fun _ => ?_ | refine NewS.mk fun _ _ => ?_ | refine Ways.mk (fun _ => ?_) (fun _ => ?_))
    all_goals first | (exfalso; omega) | skip
    rename_i tb aa cc
    refine G_freezeB tb fun h1 le1 f1 => ?_
    refine G_freezeS (.slice aa nodes.length cc) fun h2 le2 f2 => ?_
    have hle2 := le1.le.trans le2.le
    haveI hRT : IsRT h2 tb nodes := ⟨_, _, _, Pt.mono le2.le f1, f2⟩
    have hbad : ∀ (s : Nat) (i : Nat) (w : Int), s < 5 → i < nodes.length → w ≠ 0 → ckStep nodes s i ≠ 0 → K (.tuple [.pointer none, vI (i : Nat), vI w].toArray) h2 ([] ++ L) := fun s i w h1 h3 h4 h5 => hT.1 i w h2 ⟨hle2⟩ h4 (bad_err h1 h3 h5)
    refine G_loopE (σ := Nat) (fun k => k ≤ nodes.length ∧ ∀ j < k, ckStep nodes 0 j = 0) (fun k => nodes.length - k) (fun k => [(6, vI k), (0, lv), (5, .pointer (some ⟨tb, 0, none⟩))]) 0 ⟨by omega, by omega⟩ ⟨rfl, rfl, rfl, trivial⟩ fun k hk => ?_
    obtain ⟨hk, hall⟩ := hk
    repeat (first | refine Step.imp ?_ | refine Side.mk (by first | exact True.intro | omega | exact ⟨trivial, rfl⟩ | exact ⟨by omega, trivial, rfl⟩ | exact ⟨by omega, rfl⟩ | exact ⟨by omega, by omega, rfl⟩ | (simp only [List.length_cons, List.length_nil, List.length_append]; done) | (simp only [List.length_cons, List.length_nil, List.length_append]; omega) | decide +kernel) ?_ | refine GDraw_one (by decide +kernel) ?_ | refine New.mk fun _ => ?_ | refine NewS.mk fun _ _ => ?_)
    refine ⟨fun hlt => ?_, fun hge => ?_⟩
    · repeat (first | refine Step.imp ?_ | refine Side.mk (by first | exact True.intro | omega | exact ⟨trivial, rfl⟩ | exact ⟨by omega, trivial, rfl⟩ | exact ⟨by omega, rfl⟩ | exact ⟨by omega, by omega, rfl⟩ | (simp only [List.length_cons, List.length_nil, List.length_append]; done) | (simp only [List.length_cons, List.length_nil, List.length_append]; omega) | decide +kernel) ?_ | refine GDraw_one (by decide +kernel) ?_ | refine New.mk fun _ => ?_ | refine NewS.mk fun _ _ => ?_)
      refine ⟨fun hno => ?_, fun hok => ?_⟩
      · have hb := hbad 0 k 3 (by omega) (by omega) (by decide) (by rw [ck0, ckName, if_neg hno]; decide)
        repeat (first | refine Step.imp ?_ | refine Side.mk (by first | exact True.intro | omega | exact ⟨trivial, rfl⟩ | exact ⟨by omega, trivial, rfl⟩ | exact ⟨by omega, rfl⟩ | exact ⟨by omega, by omega, rfl⟩ | (simp only [List.length_cons, List.length_nil, List.length_append]; done) | (simp only [List.length_cons, List.length_nil, List.length_append]; omega) | decide +kernel) ?_ | refine GDraw_one (by decide +kernel) ?_ | refine New.mk fun _ => ?_ | refine NewS.mk fun _ _ => ?_)
        exact Fin.val hb rfl hle2
      · have hok := Decidable.not_not.1 hok
        repeat (first | refine Step.imp ?_ | refine Side.mk (by first | exact True.intro | omega | exact ⟨trivial, rfl⟩ | exact ⟨by omega, trivial, rfl⟩ | exact ⟨by omega, rfl⟩ | exact ⟨by omega, by omega, rfl⟩ | (simp only [List.length_cons, List.length_nil, List.length_append]; done) | (simp only [List.length_cons, List.length_nil, List.length_append]; omega) | decide +kernel) ?_ | refine GDraw_one (by decide +kernel) ?_ | refine New.mk fun _ => ?_ | refine NewS.mk fun _ _ => ?_)
        refine X_roundE (k + 1) ⟨by omega, fun j hj => ?_⟩ (by omega) ⟨rfl, rfl, rfl, trivial⟩ inferInstance
        rcases Nat.lt_or_ge j k with h1 | h1
        · exact hall j h1
        · have : j = k := by omega
          subst this; rw [ck0, ckName, if_pos hok]
    have hk2 : k = nodes.length := by omega
    subst hk2
    repeat (first | refine Step.imp ?_ | refine Side.mk (by first | exact True.intro | omega | exact ⟨trivial, rfl⟩ | exact ⟨by omega, trivial, rfl⟩ | exact ⟨by omega, rfl⟩ | exact ⟨by omega, by omega, rfl⟩ | (simp only [List.length_cons, List.length_nil, List.length_append]; done) | (simp only [List.length_cons, List.length_nil, List.length_append]; omega) | decide +kernel) ?_ | refine GDraw_one (by decide +kernel) ?_ | refine New.mk fun _ => ?_ | refine NewS.mk fun _ _ => ?_)
    refine G_loopE (σ := Nat) (fun k => k ≤ nodes.length ∧ ∀ j < k, ckStep nodes 1 j = 0) (fun k => nodes.length - k) (fun k => [(7, vI k), (0, lv), (5, .pointer (some ⟨tb, 0, none⟩))]) 0 ⟨by omega, by omega⟩ ⟨rfl, rfl, rfl, trivial⟩ fun k hk => ?_
    obtain ⟨hk, hall1⟩ := hk
    repeat (first | refine Step.imp ?_ | refine Side.mk (by first | exact True.intro | omega | exact ⟨trivial, rfl⟩ | exact ⟨by omega, trivial, rfl⟩ | exact ⟨by omega, rfl⟩ | exact ⟨by omega, by omega, rfl⟩ | (simp only [List.length_cons, List.length_nil, List.length_append]; done) | (simp only [List.length_cons, List.length_nil, List.length_append]; omega) | decide +kernel) ?_ | refine GDraw_one (by decide +kernel) ?_ | refine New.mk fun _ => ?_ | refine NewS.mk fun _ _ => ?_)
    refine ⟨fun hlt => ?_, fun hge => ?_⟩
    · have hft := find_twice (nodes := nodes) (i := k) (by omega)
      repeat (first | refine Step.imp ?_ | refine Side.mk (by first | exact True.intro | omega | exact ⟨trivial, rfl⟩ | exact ⟨by omega, trivial, rfl⟩ | exact ⟨by omega, rfl⟩ | exact ⟨by omega, by omega, rfl⟩ | (simp only [List.length_cons, List.length_nil, List.length_append]; done) | (simp only [List.length_cons, List.length_nil, List.length_append]; omega) | decide +kernel) ?_ | refine GDraw_one (by decide +kernel) ?_ | refine New.mk fun _ => ?_ | refine NewS.mk fun _ _ => ?_)
      refine ⟨fun hno => ?_, fun hok => ?_⟩
      · have hb := hbad 1 k 4 (by omega) (by omega) (by decide) (by rw [ck1]; exact hft.1 hno)
        repeat (first | refine Step.imp ?_ | refine Side.mk (by first | exact True.intro | omega | exact ⟨trivial, rfl⟩ | exact ⟨by omega, trivial, rfl⟩ | exact ⟨by omega, rfl⟩ | exact ⟨by omega, by omega, rfl⟩ | (simp only [List.length_cons, List.length_nil, List.length_append]; done) | (simp only [List.length_cons, List.length_nil, List.length_append]; omega) | decide +kernel) ?_ | refine GDraw_one (by decide +kernel) ?_ | refine New.mk fun _ => ?_ | refine NewS.mk fun _ _ => ?_)
        exact Fin.val hb rfl hle2
      · repeat (first | refine Step.imp ?_ | refine Side.mk (by first | exact True.intro | omega | exact ⟨trivial, rfl⟩ | exact ⟨by omega, trivial, rfl⟩ | exact ⟨by omega, rfl⟩ | exact ⟨by omega, by omega, rfl⟩ | (simp only [List.length_cons, List.length_nil, List.length_append]; done) | (simp only [List.length_cons, List.length_nil, List.length_append]; omega) | decide +kernel) ?_ | refine GDraw_one (by decide +kernel) ?_ | refine New.mk fun _ => ?_ | refine NewS.mk fun _ _ => ?_)
        refine X_roundE (k + 1) ⟨by omega, fun j hj => ?_⟩ (by omega) ⟨rfl, rfl, rfl, trivial⟩ inferInstance
        rcases Nat.lt_or_ge j k with h1 | h1
        · exact hall1 j h1
        · have : j = k := by omega
          subst this; rw [ck1]; exact Decidable.not_not.1 fun hne => hok (hft.2 hne)
    have hk2 : k = nodes.length := by omega
    subst hk2
    repeat (first | refine Step.imp ?_ | refine Side.mk (by first | exact True.intro | omega | exact ⟨trivial, rfl⟩ | exact ⟨by omega, trivial, rfl⟩ | exact ⟨by omega, rfl⟩ | exact ⟨by omega, by omega, rfl⟩ | (simp only [List.length_cons, List.length_nil, List.length_append]; done) | (simp only [List.length_cons, List.length_nil, List.length_append]; omega) | decide +kernel) ?_ | refine GDraw_one (by decide +kernel) ?_ | refine New.mk fun _ => ?_ | refine NewS.mk fun _ _ => ?_)
    refine G_loopE (σ := Nat) (fun k => k ≤ nodes.length ∧ ∀ j < k, ckStep nodes 2 j = 0) (fun k => nodes.length - k) (fun k => [(8, vI k), (0, lv), (5, .pointer (some ⟨tb, 0, none⟩))]) 0 ⟨by omega, by omega⟩ ⟨rfl, rfl, rfl, trivial⟩ fun k hk => ?_
    obtain ⟨hk, hall2⟩ := hk
    repeat (first | refine Step.imp ?_ | refine Side.mk (by first | exact True.intro | omega | exact ⟨trivial, rfl⟩ | exact ⟨by omega, trivial, rfl⟩ | exact ⟨by omega, rfl⟩ | exact ⟨by omega, by omega, rfl⟩ | (simp only [List.length_cons, List.length_nil, List.length_append]; done) | (simp only [List.length_cons, List.length_nil, List.length_append]; omega) | decide +kernel) ?_ | refine GDraw_one (by decide +kernel) ?_ | refine New.mk fun _ => ?_ | refine NewS.mk fun _ _ => ?_)
    refine ⟨fun hlt => ?_, fun hge => ?_⟩
    · have hne : ((nodes[k]!).up < -1 ∨ (nodes.length : Int) ≤ (nodes[k]!).up) → ckStep nodes 2 k ≠ 0 := fun hc => by rw [ck2, ckRange, if_pos hc]; decide
      repeat' (first | refine Step.imp ?_ | refine Side.mk (by first | exact True.intro | omega | exact ⟨trivial, rfl⟩ | exact ⟨by omega, trivial, rfl⟩ | exact ⟨by omega, rfl⟩ | exact ⟨by omega, by omega, rfl⟩ | (simp only [List.length_cons, List.length_nil, List.length_append]; done) | (simp only [List.length_cons, List.length_nil, List.length_append]; omega) | decide +kernel) ?_ | refine GDraw_one (by decide +kernel) ?_ | refine New.mk fun _ => ?_ | refine NewS.mk fun _ _ => ?_ | refine Ways.mk (fun _ => ?_) (fun _ => ?_))
      · have hb := hbad 2 k 17 (by omega) (by omega) (by decide) (hne (by omega))
        exact Fin.val hb rfl hle2
      · have hb := hbad 2 k 17 (by omega) (by omega) (by decide) (hne (by omega))
        exact Fin.val hb rfl hle2
      · refine X_roundE (k + 1) ⟨by omega, fun j hj => ?_⟩ (by omega) ⟨rfl, rfl, rfl, trivial⟩ inferInstance
        rcases Nat.lt_or_ge j k with h1 | h1
        · exact hall2 j h1
        · have : j = k := by omega
          subst this; rw [ck2, ckRange, if_neg (by omega)]
    have hk2 : k = nodes.length := by omega
    subst hk2
    have hups : UpsIn nodes := upsIn_of fun i hi => by have := hall2 i hi; simpa [ckStep] using this
    repeat (first | refine Step.imp ?_ | refine Side.mk (by first | exact True.intro | omega | exact ⟨trivial, rfl⟩ | exact ⟨by omega, trivial, rfl⟩ | exact ⟨by omega, rfl⟩ | exact ⟨by omega, by omega, rfl⟩ | (simp only [List.length_cons, List.length_nil, List.length_append]; done) | (simp only [List.length_cons, List.length_nil, List.length_append]; omega) | decide +kernel) ?_ | refine GDraw_one (by decide +kernel) ?_ | refine New.mk fun _ => ?_ | refine NewS.mk fun _ _ => ?_)
    refine G_loopE (σ := Nat) (fun k => k ≤ nodes.length ∧ ∀ j < k, ckStep nodes 3 j = 0) (fun k => nodes.length - k) (fun k => [(9, vI k), (0, lv), (5, .pointer (some ⟨tb, 0, none⟩))]) 0 ⟨by omega, by omega⟩ ⟨rfl, rfl, rfl, trivial⟩ fun k hk => ?_
    obtain ⟨hk, hall3⟩ := hk
    repeat (first | refine Step.imp ?_ | refine Side.mk (by first | exact True.intro | omega | exact ⟨trivial, rfl⟩ | exact ⟨by omega, trivial, rfl⟩ | exact ⟨by omega, rfl⟩ | exact ⟨by omega, by omega, rfl⟩ | (simp only [List.length_cons, List.length_nil, List.length_append]; done) | (simp only [List.length_cons, List.length_nil, List.length_append]; omega) | decide +kernel) ?_ | refine GDraw_one (by decide +kernel) ?_ | refine New.mk fun _ => ?_ | refine NewS.mk fun _ _ => ?_)
    refine ⟨fun hlt => ?_, fun hge => ?_⟩
    · have h0 := hups.eq k (by omega)
      have hck : ckStep nodes 3 k = if chase nodes k nodes.length (nodes[k]!).up then 15 else 0 := rfl
      have hnext : chase nodes k nodes.length (nodes[k]!).up = false → ∀ j < k + 1, ckStep nodes 3 j = 0 := fun hf j hj => by
        rcases Nat.lt_or_ge j k with h1 | h1
        · exact hall3 j h1
        · have : j = k := by omega
          subst this; rw [hck, hf]; rfl
      repeat (first | refine Step.imp ?_ | refine Side.mk (by first | exact True.intro | omega | exact ⟨trivial, rfl⟩ | exact ⟨by omega, trivial, rfl⟩ | exact ⟨by omega, rfl⟩ | exact ⟨by omega, by omega, rfl⟩ | (simp only [List.length_cons, List.length_nil, List.length_append]; done) | (simp only [List.length_cons, List.length_nil, List.length_append]; omega) | decide +kernel) ?_ | refine GDraw_one (by decide +kernel) ?_ | refine New.mk fun _ => ?_ | refine NewS.mk fun _ _ => ?_)
      refine G_loopE (σ := Nat × Int) (fun s => s.1 ≤ nodes.length ∧ -1 ≤ s.2 ∧ s.2 < nodes.length ∧ chase nodes k nodes.length (nodes[k]!).up = chase nodes k (nodes.length - s.1) s.2) (fun s => nodes.length - s.1) (fun s => [(11, vI s.1), (10, vI s.2), (9, vI k), (0, lv), (5, .pointer (some ⟨tb, 0, none⟩))]) (0, (nodes[k]!).up) ⟨by omega, h0.1, h0.2, rfl⟩ ⟨rfl, rfl, rfl, rfl, rfl, trivial⟩ ?_
      rintro ⟨n, u⟩ ⟨h1, h2, h3, h4⟩
      simp only at h1 h2 h3 h4 ⊢
      repeat (first | refine Step.imp ?_ | refine Side.mk (by first | exact True.intro | omega | exact ⟨trivial, rfl⟩ | exact ⟨by omega, trivial, rfl⟩ | exact ⟨by omega, rfl⟩ | exact ⟨by omega, by omega, rfl⟩ | (simp only [List.length_cons, List.length_nil, List.length_append]; done) | (simp only [List.length_cons, List.length_nil, List.length_append]; omega) | decide +kernel) ?_ | refine GDraw_one (by decide +kernel) ?_ | refine New.mk fun _ => ?_ | refine NewS.mk fun _ _ => ?_)
      refine ⟨fun hnl => ?_, fun hnl => ?_⟩
      · rw [show nodes.length - n = (nodes.length - (n + 1)) + 1 by omega, chase] at h4
        repeat (first | refine Step.imp ?_ | refine Side.mk (by first | exact True.intro | omega | exact ⟨trivial, rfl⟩ | exact ⟨by omega, trivial, rfl⟩ | exact ⟨by omega, rfl⟩ | exact ⟨by omega, by omega, rfl⟩ | (simp only [List.length_cons, List.length_nil, List.length_append]; done) | (simp only [List.length_cons, List.length_nil, List.length_append]; omega) | decide +kernel) ?_ | refine GDraw_one (by decide +kernel) ?_ | refine New.mk fun _ => ?_ | refine NewS.mk fun _ _ => ?_)
        refine ⟨fun hu => ?_, fun hu => ?_⟩
        · rw [if_neg (by omega)] at h4
          repeat (first | refine Step.imp ?_ | refine Side.mk (by first | exact True.intro | omega | exact ⟨trivial, rfl⟩ | exact ⟨by omega, trivial, rfl⟩ | exact ⟨by omega, rfl⟩ | exact ⟨by omega, by omega, rfl⟩ | (simp only [List.length_cons, List.length_nil, List.length_append]; done) | (simp only [List.length_cons, List.length_nil, List.length_append]; omega) | decide +kernel) ?_ | refine GDraw_one (by decide +kernel) ?_ | refine New.mk fun _ => ?_ | refine NewS.mk fun _ _ => ?_)
          refine ⟨fun he => ?_, fun hne => ?_⟩
          · rw [if_pos he] at h4
            have hb := hbad 3 k 15 (by omega) (by omega) (by decide) (by rw [hck, h4]; decide)
            repeat (first | refine Step.imp ?_ | refine Side.mk (by first | exact True.intro | omega | exact ⟨trivial, rfl⟩ | exact ⟨by omega, trivial, rfl⟩ | exact ⟨by omega, rfl⟩ | exact ⟨by omega, by omega, rfl⟩ | (simp only [List.length_cons, List.length_nil, List.length_append]; done) | (simp only [List.length_cons, List.length_nil, List.length_append]; omega) | decide +kernel) ?_ | refine GDraw_one (by decide +kernel) ?_ | refine New.mk fun _ => ?_ | refine NewS.mk fun _ _ => ?_)
            exact Fin.val hb rfl hle2
          · rw [if_neg hne] at h4
            have h5 := hups.eq u.toNat (by omega)
            repeat (first | refine Step.imp ?_ | refine Side.mk (by first | exact True.intro | omega | exact ⟨trivial, rfl⟩ | exact ⟨by omega, trivial, rfl⟩ | exact ⟨by omega, rfl⟩ | exact ⟨by omega, by omega, rfl⟩ | (simp only [List.length_cons, List.length_nil, List.length_append]; done) | (simp only [List.length_cons, List.length_nil, List.length_append]; omega) | decide +kernel) ?_ | refine GDraw_one (by decide +kernel) ?_ | refine New.mk fun _ => ?_ | refine NewS.mk fun _ _ => ?_)
            refine X_roundE (n + 1, (nodes[u.toNat]!).up) ⟨by show n + 1 ≤ nodes.length; omega, h5.1, h5.2, h4⟩ ?_ ⟨rfl, rfl, rfl, rfl, rfl, trivial⟩ inferInstance
            show nodes.length - (n + 1) < nodes.length - n
            omega
        · rw [if_pos (by omega)] at h4
          repeat (first | refine Step.imp ?_ | refine Side.mk (by first | exact True.intro | omega | exact ⟨trivial, rfl⟩ | exact ⟨by omega, trivial, rfl⟩ | exact ⟨by omega, rfl⟩ | exact ⟨by omega, by omega, rfl⟩ | (simp only [List.length_cons, List.length_nil, List.length_append]; done) | (simp only [List.length_cons, List.length_nil, List.length_append]; omega) | decide +kernel) ?_ | refine GDraw_one (by decide +kernel) ?_ | refine New.mk fun _ => ?_ | refine NewS.mk fun _ _ => ?_)
          exact X_roundE (k + 1) ⟨by omega, hnext h4⟩ (by omega) ⟨rfl, rfl, rfl, trivial⟩ inferInstance
      · have h0 : nodes.length - n = 0 := by omega
        rw [h0, chase] at h4
        repeat (first | refine Step.imp ?_ | refine Side.mk (by first | exact True.intro | omega | exact ⟨trivial, rfl⟩ | exact ⟨by omega, trivial, rfl⟩ | exact ⟨by omega, rfl⟩ | exact ⟨by omega, by omega, rfl⟩ | (simp only [List.length_cons, List.length_nil, List.length_append]; done) | (simp only [List.length_cons, List.length_nil, List.length_append]; omega) | decide +kernel) ?_ | refine GDraw_one (by decide +kernel) ?_ | refine New.mk fun _ => ?_ | refine NewS.mk fun _ _ => ?_)
        exact X_roundE (k + 1) ⟨by omega, hnext h4⟩ (by omega) ⟨rfl, rfl, rfl, trivial⟩ inferInstance
    have hk2 : k = nodes.length := by omega
    subst hk2
    haveI hac : Acyc nodes := acyc_of h32 hups fun i hi => by have := hall3 i hi; simpa [ckStep] using this
    repeat (first | refine Step.imp ?_ | refine Side.mk (by first | exact True.intro | omega | exact ⟨trivial, rfl⟩ | exact ⟨by omega, trivial, rfl⟩ | exact ⟨by omega, rfl⟩ | exact ⟨by omega, by omega, rfl⟩ | (simp only [List.length_cons, List.length_nil, List.length_append]; done) | (simp only [List.length_cons, List.length_nil, List.length_append]; omega) | decide +kernel) ?_ | refine GDraw_one (by decide +kernel) ?_ | refine New.mk fun _ => ?_ | refine NewS.mk fun _ _ => ?_)
    refine G_loopE (σ := Nat) (fun k => k ≤ nodes.length ∧ ∀ j < k, ckStep nodes 4 j = 0) (fun k => nodes.length - k) (fun k => [(12, vI k), (0, lv), (5, .pointer (some ⟨tb, 0, none⟩))]) 0 ⟨by omega, by omega⟩ ⟨rfl, rfl, rfl, trivial⟩ fun k hk => ?_
    obtain ⟨hk, hall4⟩ := hk
    repeat (first | refine Step.imp ?_ | refine Side.mk (by first | exact True.intro | omega | exact ⟨trivial, rfl⟩ | exact ⟨by omega, trivial, rfl⟩ | exact ⟨by omega, rfl⟩ | exact ⟨by omega, by omega, rfl⟩ | (simp only [List.length_cons, List.length_nil, List.length_append]; done) | (simp only [List.length_cons, List.length_nil, List.length_append]; omega) | decide +kernel) ?_ | refine GDraw_one (by decide +kernel) ?_ | refine New.mk fun _ => ?_ | refine NewS.mk fun _ _ => ?_)
    refine ⟨fun hlt => ?_, fun hge => ?_⟩
    · repeat (first | refine Step.imp ?_ | refine Side.mk (by first | exact True.intro | omega | exact ⟨trivial, rfl⟩ | exact ⟨by omega, trivial, rfl⟩ | exact ⟨by omega, rfl⟩ | exact ⟨by omega, by omega, rfl⟩ | (simp only [List.length_cons, List.length_nil, List.length_append]; done) | (simp only [List.length_cons, List.length_nil, List.length_append]; omega) | decide +kernel) ?_ | refine GDraw_one (by decide +kernel) ?_ | refine New.mk fun _ => ?_ | refine NewS.mk fun _ _ => ?_)
      refine ⟨fun hno => ?_, fun hok => ?_⟩
      · have hb := hbad 4 k 16 (by omega) (by omega) (by decide) (by rw [ck4, ckDeep, if_pos hno]; decide)
        repeat (first | refine Step.imp ?_ | refine Side.mk (by first | exact True.intro | omega | exact ⟨trivial, rfl⟩ | exact ⟨by omega, trivial, rfl⟩ | exact ⟨by omega, rfl⟩ | exact ⟨by omega, by omega, rfl⟩ | (simp only [List.length_cons, List.length_nil, List.length_append]; done) | (simp only [List.length_cons, List.length_nil, List.length_append]; omega) | decide +kernel) ?_ | refine GDraw_one (by decide +kernel) ?_ | refine New.mk fun _ => ?_ | refine NewS.mk fun _ _ => ?_)
        exact Fin.val hb rfl hle2
      · repeat (first | refine Step.imp ?_ | refine Side.mk (by first | exact True.intro | omega | exact ⟨trivial, rfl⟩ | exact ⟨by omega, trivial, rfl⟩ | exact ⟨by omega, rfl⟩ | exact ⟨by omega, by omega, rfl⟩ | (simp only [List.length_cons, List.length_nil, List.length_append]; done) | (simp only [List.length_cons, List.length_nil, List.length_append]; omega) | decide +kernel) ?_ | refine GDraw_one (by decide +kernel) ?_ | refine New.mk fun _ => ?_ | refine NewS.mk fun _ _ => ?_)
        refine X_roundE (k + 1) ⟨by omega, fun j hj => ?_⟩ (by omega) ⟨rfl, rfl, rfl, trivial⟩ inferInstance
        rcases Nat.lt_or_ge j k with h1 | h1
        · exact hall4 j h1
        · have : j = k := by omega
          subst this; rw [ck4, ckDeep, if_neg hok]
    have hk2 : k = nodes.length := by omega
    subst hk2
    have hnone : treeErr nodes = none := treeErr_none hlen fun s hs j hj => by
      have : s = 0 ∨ s = 1 ∨ s = 2 ∨ s = 3 ∨ s = 4 := by omega
      rcases this with rfl | rfl | rfl | rfl | rfl
      · exact hall j hj
      · exact hall1 j hj
      · exact hall2 j hj
      · exact hall3 j hj
      · exact hall4 j hj
    have hfin := hT.2 hnone h2 tb ⟨hle2⟩ hRT
    repeat (first | refine Step.imp ?_ | refine Side.mk (by first | exact True.intro | omega | exact ⟨trivial, rfl⟩ | exact ⟨by omega, trivial, rfl⟩ | exact ⟨by omega, rfl⟩ | exact ⟨by omega, by omega, rfl⟩ | (simp only [List.length_cons, List.length_nil, List.length_append]; done) | (simp only [List.length_cons, List.length_nil, List.length_append]; omega) | decide +kernel) ?_ | refine GDraw_one (by decide +kernel) ?_ | refine New.mk fun _ => ?_ | refine NewS.mk fun _ _ => ?_)
    exact Fin.val hfin rfl hle2⟩
end
end Go.Sl

/-
  The document's catalogues: made.
-/
namespace Go.Sl
open Go.Proofs
set_option linter.unusedVariables false
set_option linter.unusedSimpArgs false
set_option maxRecDepth 10000
set_option synthInstance.maxSize 2000
set_option synthInstance.maxHeartbeats 200000
set_option maxHeartbeats 1000000
/-- A catalogue of the document's, at a block. -/
class IsRD (h : PHeap) (b : Nat) (C : outParam Cat) : Prop where
  out : ∃ dv mv tv ds tbs ty fr, Pt h b (.cells [dv, mv, vI C.leaves, vI C.scens, tv].toArray ty fr) ∧ IsDims h dv ds ∧ ds.map Dm.pure = C.dims ∧ FSl h mv encS 1 C.meas ∧ FSl h tv encP 1 tbs ∧ tbs.length = C.dims.length ∧
    ∀ i < tbs.length, IsRT h (tbs[i]!) (C.dims[i]!).2
theorem IsRD.mono {h h' : PHeap} {b : Nat} {C : Cat} (hl : Hle h h') (d : IsRD h b C) : IsRD h' b C := ⟨by
  obtain ⟨dv, mv, tv, ds, tbs, ty, fr, h1, h2, h3, h4, h5, h6, h7⟩ := d.out
  exact ⟨dv, mv, tv, ds, tbs, ty, fr, Pt.mono hl h1, h2.mono hl, h3, FSl.mono hl h4, FSl.mono hl h5, h6, fun i hi => (h7 i hi).mono hl⟩⟩
instance (priority := low) {h h' : PHeap} {b : Nat} {C : Cat} [l : Le h h'] [t : IsRD h b C] : IsRD h' b C := t.mono l.le
theorem mem_take {xs : List ByteArray} {n : Nat} {y : ByteArray} (hn : n ≤ xs.length) : y ∈ xs.take n ↔ ∃ j < n, xs[j]! = y := by
  rw [List.mem_take_iff_getElem]
  constructor
  · rintro ⟨j, hj, he⟩
    exact ⟨j, by omega, by rw [getElem!_pos xs j (by omega)]; exact he⟩
  · rintro ⟨j, hj, he⟩
    exact ⟨j, by omega, by rw [getElem!_pos xs j (by omega)] at he; exact he⟩
section
variable {h : PHeap}
instance rd_named {L : List HP} {v : Value} {xs : List ByteArray} {i : Nat} [hs : Rds L h v encS 1 xs] : CallX Tryz.prog 94 [v, vI i] h L (i < xs.length ∧ xs.length ≤ 4294967296) (fun K => K (vI (ckFresh (xs[i]!) (xs.take i))) h []) := ⟨fun ⟨hi, hn⟩ => by
  have hm := mem_take (xs := xs) (n := i) (y := xs[i]!) (by omega)
  refine spec_enter Tryz.func94 rfl Tryz.ntmps94 Tryz.results94 (by simp) fun K R hT => ?_
  unfold ckFresh at hT
  repeat (first | refine Step.imp ?_ | refine Side.mk (by first | exact True.intro | omega | exact ⟨trivial, rfl⟩ | exact ⟨by omega, trivial, rfl⟩ | exact ⟨by omega, rfl⟩ | exact ⟨by omega, by omega, rfl⟩ | (simp only [List.length_cons, List.length_nil, List.length_append]; done) | (simp only [List.length_cons, List.length_nil, List.length_append]; omega) | decide +kernel) ?_ | refine GDraw_one (by decide +kernel) ?_ | refine New.mk fun _ => ?_ | refine NewS.mk fun _ _ => ?_)
  refine ⟨fun hno => ?_, fun hok => ?_⟩
  · rw [if_neg hno] at hT
    repeat (first | refine Step.imp ?_ | refine Side.mk (by first | exact True.intro | omega | exact ⟨trivial, rfl⟩ | exact ⟨by omega, trivial, rfl⟩ | exact ⟨by omega, rfl⟩ | exact ⟨by omega, by omega, rfl⟩ | (simp only [List.length_cons, List.length_nil, List.length_append]; done) | (simp only [List.length_cons, List.length_nil, List.length_append]; omega) | decide +kernel) ?_ | refine GDraw_one (by decide +kernel) ?_ | refine New.mk fun _ => ?_ | refine NewS.mk fun _ _ => ?_)
    exact Fin.val hT rfl (Hle.refl _)
  · rw [if_pos (Decidable.not_not.1 hok)] at hT
    repeat (first | refine Step.imp ?_ | refine Side.mk (by first | exact True.intro | omega | exact ⟨trivial, rfl⟩ | exact ⟨by omega, trivial, rfl⟩ | exact ⟨by omega, rfl⟩ | exact ⟨by omega, by omega, rfl⟩ | (simp only [List.length_cons, List.length_nil, List.length_append]; done) | (simp only [List.length_cons, List.length_nil, List.length_append]; omega) | decide +kernel) ?_ | refine GDraw_one (by decide +kernel) ?_ | refine New.mk fun _ => ?_ | refine NewS.mk fun _ _ => ?_)
    refine G_loopE (σ := Nat) (fun k => k ≤ i ∧ ∀ j < k, xs[j]! ≠ xs[i]!) (fun k => i - k) (fun k => [(5, vI k), (0, v), (1, vI i)]) 0 ⟨by omega, by omega⟩ ⟨rfl, rfl, rfl, trivial⟩ fun k hk => ?_
    obtain ⟨hk, hno⟩ := hk
    repeat (first | refine Step.imp ?_ | refine Side.mk (by first | exact True.intro | omega | exact ⟨trivial, rfl⟩ | exact ⟨by omega, trivial, rfl⟩ | exact ⟨by omega, rfl⟩ | exact ⟨by omega, by omega, rfl⟩ | (simp only [List.length_cons, List.length_nil, List.length_append]; done) | (simp only [List.length_cons, List.length_nil, List.length_append]; omega) | decide +kernel) ?_ | refine GDraw_one (by decide +kernel) ?_ | refine New.mk fun _ => ?_ | refine NewS.mk fun _ _ => ?_)
    refine ⟨fun hlt => ?_, fun hge => ?_⟩
    · repeat (first | refine Step.imp ?_ | refine Side.mk (by first | exact True.intro | omega | exact ⟨trivial, rfl⟩ | exact ⟨by omega, trivial, rfl⟩ | exact ⟨by omega, rfl⟩ | exact ⟨by omega, by omega, rfl⟩ | (simp only [List.length_cons, List.length_nil, List.length_append]; done) | (simp only [List.length_cons, List.length_nil, List.length_append]; omega) | decide +kernel) ?_ | refine GDraw_one (by decide +kernel) ?_ | refine New.mk fun _ => ?_ | refine NewS.mk fun _ _ => ?_)
      refine ⟨fun he => ?_, fun hne => ?_⟩
      · rw [if_pos (hm.2 ⟨k, by omega, he⟩)] at hT
        repeat (first | refine Step.imp ?_ | refine Side.mk (by first | exact True.intro | omega | exact ⟨trivial, rfl⟩ | exact ⟨by omega, trivial, rfl⟩ | exact ⟨by omega, rfl⟩ | exact ⟨by omega, by omega, rfl⟩ | (simp only [List.length_cons, List.length_nil, List.length_append]; done) | (simp only [List.length_cons, List.length_nil, List.length_append]; omega) | decide +kernel) ?_ | refine GDraw_one (by decide +kernel) ?_ | refine New.mk fun _ => ?_ | refine NewS.mk fun _ _ => ?_)
        exact Fin.val hT rfl (Hle.refl _)
      · repeat (first | refine Step.imp ?_ | refine Side.mk (by first | exact True.intro | omega | exact ⟨trivial, rfl⟩ | exact ⟨by omega, trivial, rfl⟩ | exact ⟨by omega, rfl⟩ | exact ⟨by omega, by omega, rfl⟩ | (simp only [List.length_cons, List.length_nil, List.length_append]; done) | (simp only [List.length_cons, List.length_nil, List.length_append]; omega) | decide +kernel) ?_ | refine GDraw_one (by decide +kernel) ?_ | refine New.mk fun _ => ?_ | refine NewS.mk fun _ _ => ?_)
        refine X_roundE (k + 1) ⟨by omega, fun j hj => ?_⟩ (by omega) ⟨rfl, rfl, rfl, trivial⟩ inferInstance
        rcases Nat.lt_or_ge j k with h1 | h1
        · exact hno j h1
        · have : j = k := by omega
          subst this; exact hne
    · have hk2 : k = i := by omega
      subst hk2
      rw [if_neg (fun hin => by obtain ⟨j, hj, he⟩ := hm.1 hin; exact hno j hj he)] at hT
      repeat (first | refine Step.imp ?_ | refine Side.mk (by first | exact True.intro | omega | exact ⟨trivial, rfl⟩ | exact ⟨by omega, trivial, rfl⟩ | exact ⟨by omega, rfl⟩ | exact ⟨by omega, by omega, rfl⟩ | (simp only [List.length_cons, List.length_nil, List.length_append]; done) | (simp only [List.length_cons, List.length_nil, List.length_append]; omega) | decide +kernel) ?_ | refine GDraw_one (by decide +kernel) ?_ | refine New.mk fun _ => ?_ | refine NewS.mk fun _ _ => ?_)
      exact Fin.val hT rfl (Hle.refl _)⟩
theorem dmName_len (ds : List Dm) : (ds.map Dm.name).length = ds.length := by simp
instance rd_names {L : List HP} {v : Value} {ds : List Dm} [hd : IsDims h v ds] : CallX Tryz.prog 95 [v] h L (ds.length ≤ 4294967296)
    (fun K => ∀ a c, K (.slice a (ds.map Dm.name).length c) h [slo encS 1 (.slice a (ds.map Dm.name).length c) (ds.map Dm.name)]) := ⟨fun hn => by
  refine spec_enter Tryz.func95 rfl Tryz.ntmps95 Tryz.results95 (by simp) fun K R hT => ?_
  refine Step.imp ?_
  refine G_nil encS 1 none ?_
  repeat (first | refine Step.imp ?_ | refine Side.mk (by first | exact True.intro | omega | exact ⟨trivial, rfl⟩ | exact ⟨by omega, trivial, rfl⟩ | exact ⟨by omega, rfl⟩ | exact ⟨by omega, by omega, rfl⟩ | (simp only [List.length_cons, List.length_nil, List.length_append]; done) | (simp only [List.length_cons, List.length_nil, List.length_append]; omega) | decide +kernel) ?_ | refine GDraw_one (by decide +kernel) ?_ | refine New.mk fun _ => ?_ | refine NewS.mk fun _ _ => ?_)
  refine G_loop (σ := Nat × Option Addr × Nat) (fun s => s.1 ≤ ds.length) (fun s => ds.length - s.1) (fun s => [(4, vI s.1), (3, .slice s.2.1 ((ds.take s.1).map Dm.name).length s.2.2), (0, v)]) (fun _ => h)
    (fun s => slo encS 1 (.slice s.2.1 ((ds.take s.1).map Dm.name).length s.2.2) ((ds.take s.1).map Dm.name) :: (L ++ R)) (0, none, 0) (Nat.zero_le _) ⟨rfl, rfl, rfl, trivial⟩ rfl (by simp only [List.take_zero, List.map_nil, List.length_nil]; infer_instance) ?_
  rintro ⟨k, a, c⟩ hk
  simp only at hk ⊢
  have hkl : ((ds.take k).map Dm.name).length ≤ k := by rw [List.length_map, List.length_take]; omega
  repeat (first | refine Step.imp ?_ | refine Side.mk (by first | exact True.intro | omega | exact ⟨trivial, rfl⟩ | exact ⟨by omega, trivial, rfl⟩ | exact ⟨by omega, rfl⟩ | exact ⟨by omega, by omega, rfl⟩ | (simp only [List.length_cons, List.length_nil, List.length_append]; done) | (simp only [List.length_cons, List.length_nil, List.length_append]; omega) | decide +kernel) ?_ | refine GDraw_one (by decide +kernel) ?_ | refine New.mk fun _ => ?_ | refine NewS.mk fun _ _ => ?_)
  refine ⟨fun hlt => ?_, fun hge => ?_⟩
  · have hs : (ds.take (k + 1)).map Dm.name = (ds.take k).map Dm.name ++ [(ds[k]!).name] := by
      rw [List.take_succ_eq_append_getElem (by omega), List.map_append, getElem!_pos ds k (by omega)]; rfl
    repeat (first | refine Step.imp ?_ | refine Side.mk (by first | exact True.intro | omega | exact ⟨trivial, rfl⟩ | exact ⟨by omega, trivial, rfl⟩ | exact ⟨by omega, rfl⟩ | exact ⟨by omega, by omega, rfl⟩ | (simp only [List.length_cons, List.length_nil, List.length_append]; done) | (simp only [List.length_cons, List.length_nil, List.length_append]; omega) | decide +kernel) ?_ | refine GDraw_one (by decide +kernel) ?_ | refine New.mk fun _ => ?_ | refine NewS.mk fun _ _ => ?_)
    rename_i b1 a1 c1
    refine X_round (k + 1, a1, c1) ?_ ?_ ?_ ?_ ?_
    · show k + 1 ≤ ds.length
      omega
    · show ds.length - (k + 1) < ds.length - k
      omega
    · refine ⟨rfl, ?_, rfl, trivial⟩
      rw [hs, List.length_append]; rfl
    · rfl
    · simp only [hs, List.length_append, List.length_cons, List.length_nil, Nat.zero_add]
      infer_instance
  · have hk2 : k = ds.length := by omega
    subst hk2
    simp only [List.take_length] at *
    repeat (first | refine Step.imp ?_ | refine Side.mk (by first | exact True.intro | omega | exact ⟨trivial, rfl⟩ | exact ⟨by omega, trivial, rfl⟩ | exact ⟨by omega, rfl⟩ | exact ⟨by omega, by omega, rfl⟩ | (simp only [List.length_cons, List.length_nil, List.length_append]; done) | (simp only [List.length_cons, List.length_nil, List.length_append]; omega) | decide +kernel) ?_ | refine GDraw_one (by decide +kernel) ?_ | refine New.mk fun _ => ?_ | refine NewS.mk fun _ _ => ?_)
    exact Fin.val (hT a c) rfl (Hle.refl _)⟩
end
section
variable {h : PHeap} {dv mv : Value} {le sc : Int} {ds : List Dm} {ms : List ByteArray}
instance rd_new {L : List HP} [hd : IsDims h dv ds] [hm : FSl h mv encS 1 ms] : CallX Tryz.prog 51 [.agg [dv, mv, vI le, vI sc].toArray] h L (ds.length ≤ 4294967296 ∧ ms.length ≤ 4294967296 ∧ ∀ i < ds.length, (ds[i]!).nodes.length ≤ 4294967296)
    (fun K => (∀ (i why : Int) h', Le h h' → why ≠ 0 → ¬ OkCat ⟨ds.map Dm.pure, ms, le, sc⟩ → K (.tuple [.pointer none, vI i, vI why].toArray) h' []) ∧
      (OkCat ⟨ds.map Dm.pure, ms, le, sc⟩ → ∀ h' b, Le h h' → IsRD h' b ⟨ds.map Dm.pure, ms, le, sc⟩ → K (.tuple [.pointer (some ⟨b, 0, none⟩), vI 0, vI 0].toArray) h' [])) := ⟨fun ⟨hn1, hn2, hn3⟩ => by
  obtain ⟨C, hC⟩ : ∃ C : Cat, C = ⟨ds.map Dm.pure, ms, le, sc⟩ := ⟨_, rfl⟩
  have hCd : C.dims.length = ds.length := by rw [hC]; simp
  have hCm : C.meas = ms := by rw [hC]
  have hCn : namesF C = ds.map Dm.name := by rw [hC]; unfold namesF; rw [List.map_map]; rfl
  have hCi : ∀ i, i < ds.length → C.dims[i]! = ((ds[i]!).name, (ds[i]!).nodes) := fun i hi => by
    rw [hC]
    show (ds.map Dm.pure)[i]! = _
    rw [getElem!_pos _ i (by simpa using hi), List.getElem_map, getElem!_pos ds i hi]; rfl
  refine spec_enter Tryz.func51 rfl Tryz.ntmps51 Tryz.results51 (by simp) fun K R hT => ?_
  rw [← hC] at hT
  by_cases hsz : (1 ≤ ds.length ∧ ds.length ≤ 4) ∧ (1 ≤ ms.length ∧ ms.length ≤ 4)
  · repeat' (first | refine Step.imp ?_ | refine Side.mk (by first | exact True.intro | omega | exact ⟨trivial, rfl⟩ | exact ⟨by omega, trivial, rfl⟩ | exact ⟨by omega, rfl⟩ | exact ⟨by omega, by omega, rfl⟩ | (simp only [List.length_cons, List.length_nil, List.length_append]; done) | (simp only [List.length_cons, List.length_nil, List.length_append]; omega) | decide +kernel) ?_ | refine GDraw_one (by decide +kernel) ?_ | refine New.mk fun _ => ?_ | refine NewS.mk fun _ _ => ?_ | refine Ways.mk (fun _ => ?_) (fun _ => ?_))
    all_goals first | (exfalso; omega) | skip
    rename_i cb _ _ _ _ db
    refine G_nil encP 1 none ?_
    refine G_loop (σ := Nat × PHeap × (Option Addr × Nat) × List Nat) (fun s => s.1 ≤ ds.length ∧ Hle h s.2.1 ∧ (∀ j < s.1, ckFresh (C.dims[j]!).1 ((namesF C).take j) = 0 ∧ treeErr (C.dims[j]!).2 = none) ∧ s.2.2.2.length = s.1 ∧
        ∀ j < s.1, IsRT s.2.1 (s.2.2.2[j]!) (C.dims[j]!).2) (fun s => ds.length - s.1)
      (fun s => [(8, vI s.1), (1, .pointer (some ⟨cb, 0, none⟩)), (5, .pointer (some ⟨db, 0, none⟩)), (6, vI (cellsF C s.1)), (7, vI (leavesF C s.1))]) (fun s => s.2.1)
      (fun s => slo encP 1 (.slice s.2.2.1.1 s.2.2.2.length s.2.2.1.2) s.2.2.2 :: blk db (.cells [dv, mv, vI le, vI sc, .slice s.2.2.1.1 s.2.2.2.length s.2.2.1.2].toArray 145 (0, 0)) :: blk cb (.cells [dv, mv, vI le, vI sc].toArray 25 (0, 0)) :: (L ++ R))
      (0, h, (none, 0), []) ⟨by omega, Hle.refl h, fun j hj => by omega, rfl, fun j hj => by omega⟩ ?_ rfl inferInstance ?_
    · refine ⟨rfl, rfl, rfl, ?_, ?_, trivial⟩
      · simp only [cellsF, hCm]
      · simp only [leavesF, hCm]
    rintro ⟨i, h2, ⟨ta, tc⟩, tbs⟩ ⟨hi, hl2, hok, htl, htb⟩
    simp only at hi hl2 hok htl htb ⊢
    haveI le2 : Le h h2 := ⟨hl2⟩
    repeat (first | refine Step.imp ?_ | refine Side.mk (by first | exact True.intro | omega | exact ⟨trivial, rfl⟩ | exact ⟨by omega, trivial, rfl⟩ | exact ⟨by omega, rfl⟩ | exact ⟨by omega, by omega, rfl⟩ | (simp only [List.length_cons, List.length_nil, List.length_append]; done) | (simp only [List.length_cons, List.length_nil, List.length_append]; omega) | decide +kernel) ?_ | refine GDraw_one (by decide +kernel) ?_ | refine New.mk fun _ => ?_ | refine NewS.mk fun _ _ => ?_)
    refine ⟨fun hlt => ?_, fun hge => ?_⟩
    · have hndi := (hd.mono hl2).nd i (by omega)
      have hbi := hn3 i (by omega)
      have hci := hCi i (by omega)
      have hc1 : (C.dims[i]!).1 = (ds[i]!).name := by rw [hci]
      have hc2 : (C.dims[i]!).2 = (ds[i]!).nodes := by rw [hci]
      have hnl := dmName_len ds
      have hng : (ds.map Dm.name)[i]! = (C.dims[i]!).1 := by rw [hc1, getElem!_pos _ i (by omega), List.getElem_map, getElem!_pos ds i (by omega)]
      have hno1 : ckFresh ((ds.map Dm.name)[i]!) ((ds.map Dm.name).take i) ≠ 0 → ¬ OkCat C := fun hne hk => hne (by have := (hk.trees i (by omega)).1; rwa [hng, ← hCn])
      have hno2 : treeErr (ds[i]!).nodes ≠ none → ¬ OkCat C := fun hne hk => hne (by have := (hk.trees i (by omega)).2; rwa [hc2] at this)
      have hcells := cellsF_le C (by rw [hCm]; omega) i (fun j hj => (hok j hj).2)
      have hleaves := leavesF_le C (by rw [hCm]; omega) i (fun j hj => (hok j hj).2)
      repeat (first | refine Step.imp ?_ | refine Side.mk (by first | exact True.intro | omega | exact ⟨trivial, rfl⟩ | exact ⟨by omega, trivial, rfl⟩ | exact ⟨by omega, rfl⟩ | exact ⟨by omega, by omega, rfl⟩ | (simp only [List.length_cons, List.length_nil, List.length_append]; done) | (simp only [List.length_cons, List.length_nil, List.length_append]; omega) | decide +kernel) ?_ | refine GDraw_one (by decide +kernel) ?_ | refine New.mk fun _ => ?_ | refine NewS.mk fun _ _ => ?_)
      intro na nc
      repeat (first | refine Step.imp ?_ | refine Side.mk (by first | exact True.intro | omega | exact ⟨trivial, rfl⟩ | exact ⟨by omega, trivial, rfl⟩ | exact ⟨by omega, rfl⟩ | exact ⟨by omega, by omega, rfl⟩ | (simp only [List.length_cons, List.length_nil, List.length_append]; done) | (simp only [List.length_cons, List.length_nil, List.length_append]; omega) | decide +kernel) ?_ | refine GDraw_one (by decide +kernel) ?_ | refine New.mk fun _ => ?_ | refine NewS.mk fun _ _ => ?_)
      refine ⟨fun hbad => ?_, fun hgood => ?_⟩
      · have hfin := hT.1 i _ h2 le2 hbad (hno1 hbad)
        repeat (first | refine Step.imp ?_ | refine Side.mk (by first | exact True.intro | omega | exact ⟨trivial, rfl⟩ | exact ⟨by omega, trivial, rfl⟩ | exact ⟨by omega, rfl⟩ | exact ⟨by omega, by omega, rfl⟩ | (simp only [List.length_cons, List.length_nil, List.length_append]; done) | (simp only [List.length_cons, List.length_nil, List.length_append]; omega) | decide +kernel) ?_ | refine GDraw_one (by decide +kernel) ?_ | refine New.mk fun _ => ?_ | refine NewS.mk fun _ _ => ?_)
        exact Fin.val hfin rfl hl2
      have hgood := Decidable.not_not.1 hgood
      repeat (first | refine Step.imp ?_ | refine Side.mk (by first | exact True.intro | omega | exact ⟨trivial, rfl⟩ | exact ⟨by omega, trivial, rfl⟩ | exact ⟨by omega, rfl⟩ | exact ⟨by omega, by omega, rfl⟩ | (simp only [List.length_cons, List.length_nil, List.length_append]; done) | (simp only [List.length_cons, List.length_nil, List.length_append]; omega) | decide +kernel) ?_ | refine GDraw_one (by decide +kernel) ?_ | refine New.mk fun _ => ?_ | refine NewS.mk fun _ _ => ?_)
      refine ⟨fun j why h3 le3 hw herr => ?_, fun hnone h3 tb le3 htree => ?_⟩
      · have hle3 := hl2.trans le3.le
        have hfin := hT.1 i why h3 ⟨hle3⟩ hw (hno2 herr)
        repeat (first | refine Step.imp ?_ | refine Side.mk (by first | exact True.intro | omega | exact ⟨trivial, rfl⟩ | exact ⟨by omega, trivial, rfl⟩ | exact ⟨by omega, rfl⟩ | exact ⟨by omega, by omega, rfl⟩ | (simp only [List.length_cons, List.length_nil, List.length_append]; done) | (simp only [List.length_cons, List.length_nil, List.length_append]; omega) | decide +kernel) ?_ | refine GDraw_one (by decide +kernel) ?_ | refine New.mk fun _ => ?_ | refine NewS.mk fun _ _ => ?_)
        refine ⟨fun _ => ?_, fun hz => absurd hw hz⟩
        repeat (first | refine Step.imp ?_ | refine Side.mk (by first | exact True.intro | omega | exact ⟨trivial, rfl⟩ | exact ⟨by omega, trivial, rfl⟩ | exact ⟨by omega, rfl⟩ | exact ⟨by omega, by omega, rfl⟩ | (simp only [List.length_cons, List.length_nil, List.length_append]; done) | (simp only [List.length_cons, List.length_nil, List.length_append]; omega) | decide +kernel) ?_ | refine GDraw_one (by decide +kernel) ?_ | refine New.mk fun _ => ?_ | refine NewS.mk fun _ _ => ?_)
        exact Fin.val hfin rfl hle3
      haveI hokt : OkT (ds[i]!).nodes := ⟨hnone⟩
      have htree' := htree
      obtain ⟨tnv, tty, tfr, t1, t2⟩ := htree'.out
      have hsm := tree_small hnone
      have hp4 := pow4 (n := i) (by omega)
      have hm1 : 0 ≤ cellsF C i * ((ds[i]!).nodes.length : Int) ∧ cellsF C i * ((ds[i]!).nodes.length : Int) ≤ (4 * 32 ^ i) * 32 := ⟨Int.mul_nonneg hcells.1 (by omega), Int.mul_le_mul hcells.2 (by omega) (by omega) (by omega)⟩
      have hm2 : 0 ≤ leavesF C i * ((mkTree (ds[i]!).nodes).leaves.length : Int) ∧ leavesF C i * ((mkTree (ds[i]!).nodes).leaves.length : Int) ≤ (4 * 32 ^ i) * 32 := ⟨Int.mul_nonneg hleaves.1 (by omega), Int.mul_le_mul hleaves.2 (by omega) (by omega) (by omega)⟩
      repeat (first | refine Step.imp ?_ | refine Side.mk (by first | exact True.intro | omega | exact ⟨trivial, rfl⟩ | exact ⟨by omega, trivial, rfl⟩ | exact ⟨by omega, rfl⟩ | exact ⟨by omega, by omega, rfl⟩ | (simp only [List.length_cons, List.length_nil, List.length_append]; done) | (simp only [List.length_cons, List.length_nil, List.length_append]; omega) | decide +kernel) ?_ | refine GDraw_one (by decide +kernel) ?_ | refine New.mk fun _ => ?_ | refine NewS.mk fun _ _ => ?_)
      refine ⟨fun hz => absurd rfl hz, fun _ => ?_⟩
      repeat (first | refine Step.imp ?_ | refine Side.mk (by first | exact True.intro | omega | exact ⟨trivial, rfl⟩ | exact ⟨by omega, trivial, rfl⟩ | exact ⟨by omega, rfl⟩ | exact ⟨by omega, by omega, rfl⟩ | (simp only [List.length_cons, List.length_nil, List.length_append]; done) | (simp only [List.length_cons, List.length_nil, List.length_append]; omega) | decide +kernel) ?_ | refine GDraw_one (by decide +kernel) ?_ | refine New.mk fun _ => ?_ | refine NewS.mk fun _ _ => ?_)
      intro la lc
      repeat (first | refine Step.imp ?_ | refine Side.mk (by first | exact True.intro | omega | exact ⟨trivial, rfl⟩ | exact ⟨by omega, trivial, rfl⟩ | exact ⟨by omega, rfl⟩ | exact ⟨by omega, by omega, rfl⟩ | (simp only [List.length_cons, List.length_nil, List.length_append]; done) | (simp only [List.length_cons, List.length_nil, List.length_append]; omega) | decide +kernel) ?_ | refine GDraw_one (by decide +kernel) ?_ | refine New.mk fun _ => ?_ | refine NewS.mk fun _ _ => ?_)
      rename_i b1 ta1 tc1
      refine X_round (i + 1, h3, (ta1, tc1), tbs ++ [tb]) ?_ ?_ ?_ ?_ ?_
      · refine ⟨by show i + 1 ≤ ds.length; omega, hl2.trans le3.le, fun j hj => ?_, by simp [htl], fun j hj => ?_⟩
        · rcases Nat.lt_or_ge j i with hji | hji
          · exact hok j hji
          · have hj' : j < i + 1 := hj
            have : j = i := by omega
            subst this
            rw [hc2, ← hng, hCn]; exact ⟨hgood, hnone⟩
        · show IsRT h3 ((tbs ++ [tb])[j]!) _
          have hj : j < i + 1 := hj
          rw [getElem!_pos (tbs ++ [tb]) j (by simp; omega)]
          rcases Nat.lt_or_ge j i with hji | hji
          · rw [List.getElem_append_left (by omega)]
            have := htb j hji
            rw [getElem!_pos tbs j (by omega)] at this
            exact this.mono le3.le
          · have : j = i := by omega
            subst this
            rw [List.getElem_append_right (by omega)]
            simp only [htl, Nat.sub_self, List.getElem_cons_zero]
            rw [hc2]
            exact htree
      · show ds.length - (i + 1) < ds.length - i
        omega
      · refine ⟨rfl, rfl, rfl, ?_, ?_, trivial⟩
        · show _ = some (vI (cellsF C i * ((C.dims[i]!).2.length : Int)))
          rw [hc2]
        · show _ = some (vI (leavesF C i * ((mkTree (C.dims[i]!).2).leaves.length : Int)))
          rw [hc2]
      · rfl
      · simp only [List.length_append, List.length_cons, List.length_nil, Nat.zero_add]
        infer_instance
    · have hi2 : i = ds.length := by omega
      subst hi2
      have hall : ∀ j < C.dims.length, ckFresh (C.dims[j]!).1 ((namesF C).take j) = 0 ∧ treeErr (C.dims[j]!).2 = none := fun j hj => hok j (by omega)
      repeat (first | refine Step.imp ?_ | refine Side.mk (by first | exact True.intro | omega | exact ⟨trivial, rfl⟩ | exact ⟨by omega, trivial, rfl⟩ | exact ⟨by omega, rfl⟩ | exact ⟨by omega, by omega, rfl⟩ | (simp only [List.length_cons, List.length_nil, List.length_append]; done) | (simp only [List.length_cons, List.length_nil, List.length_append]; omega) | decide +kernel) ?_ | refine GDraw_one (by decide +kernel) ?_ | refine New.mk fun _ => ?_ | refine NewS.mk fun _ _ => ?_)
      refine G_loopE (σ := Nat) (fun j => j ≤ ms.length ∧ ∀ k < j, ckFresh (C.meas[k]!) (C.meas.take k) = 0) (fun j => ms.length - j) (fun j => [(13, vI j), (1, .pointer (some ⟨cb, 0, none⟩)), (5, .pointer (some ⟨db, 0, none⟩)), (6, vI (cellsF C ds.length)), (7, vI (leavesF C ds.length))]) 0 ⟨by omega, fun k hk => by omega⟩ ⟨rfl, rfl, rfl, rfl, rfl, trivial⟩ ?_
      rintro j ⟨hj, hpre⟩
      repeat (first | refine Step.imp ?_ | refine Side.mk (by first | exact True.intro | omega | exact ⟨trivial, rfl⟩ | exact ⟨by omega, trivial, rfl⟩ | exact ⟨by omega, rfl⟩ | exact ⟨by omega, by omega, rfl⟩ | (simp only [List.length_cons, List.length_nil, List.length_append]; done) | (simp only [List.length_cons, List.length_nil, List.length_append]; omega) | decide +kernel) ?_ | refine GDraw_one (by decide +kernel) ?_ | refine New.mk fun _ => ?_ | refine NewS.mk fun _ _ => ?_)
      refine ⟨fun hlt => ?_, fun hge => ?_⟩
      · have hno1 : ckFresh (ms[j]!) (ms.take j) ≠ 0 → ¬ OkCat C := fun hne hk => hne (by have := hk.names j (by rw [hCm]; omega); rwa [hCm] at this)
        repeat (first | refine Step.imp ?_ | refine Side.mk (by first | exact True.intro | omega | exact ⟨trivial, rfl⟩ | exact ⟨by omega, trivial, rfl⟩ | exact ⟨by omega, rfl⟩ | exact ⟨by omega, by omega, rfl⟩ | (simp only [List.length_cons, List.length_nil, List.length_append]; done) | (simp only [List.length_cons, List.length_nil, List.length_append]; omega) | decide +kernel) ?_ | refine GDraw_one (by decide +kernel) ?_ | refine New.mk fun _ => ?_ | refine NewS.mk fun _ _ => ?_)
        refine ⟨fun hbad => ?_, fun hgood => ?_⟩
        · have hfin := hT.1 (-1) _ h2 le2 hbad (hno1 hbad)
          repeat (first | refine Step.imp ?_ | refine Side.mk (by first | exact True.intro | omega | exact ⟨trivial, rfl⟩ | exact ⟨by omega, trivial, rfl⟩ | exact ⟨by omega, rfl⟩ | exact ⟨by omega, by omega, rfl⟩ | (simp only [List.length_cons, List.length_nil, List.length_append]; done) | (simp only [List.length_cons, List.length_nil, List.length_append]; omega) | decide +kernel) ?_ | refine GDraw_one (by decide +kernel) ?_ | refine New.mk fun _ => ?_ | refine NewS.mk fun _ _ => ?_)
          exact Fin.val hfin rfl hl2
        · repeat (first | refine Step.imp ?_ | refine Side.mk (by first | exact True.intro | omega | exact ⟨trivial, rfl⟩ | exact ⟨by omega, trivial, rfl⟩ | exact ⟨by omega, rfl⟩ | exact ⟨by omega, by omega, rfl⟩ | (simp only [List.length_cons, List.length_nil, List.length_append]; done) | (simp only [List.length_cons, List.length_nil, List.length_append]; omega) | decide +kernel) ?_ | refine GDraw_one (by decide +kernel) ?_ | refine New.mk fun _ => ?_ | refine NewS.mk fun _ _ => ?_)
          refine X_roundE (j + 1) ?_ ?_ ?_ ?_
          · refine ⟨by omega, fun k hk => ?_⟩
            rcases Nat.lt_or_ge k j with h | h
            · exact hpre k h
            · have : k = j := by omega
              subst this; rw [hCm]; exact Decidable.not_not.1 hgood
          · show ms.length - (j + 1) < ms.length - j
            omega
          · exact ⟨rfl, rfl, rfl, rfl, rfl, trivial⟩
          · infer_instance
      · have hall2 : ∀ k < C.meas.length, ckFresh (C.meas[k]!) (C.meas.take k) = 0 := fun k hk => hpre k (by rw [hCm] at hk; omega)
        have hle' : C.leaves = le := by rw [hC]
        have hsc' : C.scens = sc := by rw [hC]
        by_cases hfine : (cellsF C ds.length ≤ 4096 ∧ leavesF C ds.length ≤ 1024) ∧ (1 ≤ le ∧ le ≤ 1024) ∧ (1 ≤ sc ∧ sc ≤ 8)
        · have hokC : OkCat C := ⟨by omega, by rw [hCm]; omega, hall, hall2, by rw [hCd]; omega, by rw [hCd]; omega, by rw [hle']; omega, by rw [hsc']; omega⟩
          refine G_freezeB db fun h3 le3 f3 => ?_
          refine G_freezeS (.slice ta tbs.length tc) fun h4 le4 f4 => ?_
          have hle4 := hl2.trans (le3.le.trans le4.le)
          have hD : IsRD h4 db C := ⟨dv, mv, _, ds, tbs, _, _, by rw [hle', hsc']; exact Pt.mono le4.le f3, hd.mono hle4, by rw [hC], by rw [hCm]; exact FSl.mono hle4 hm, f4, by omega, fun i hi => (htb i (by omega)).mono (le3.le.trans le4.le)⟩
          have hfin := hT.2 hokC h4 db ⟨hle4⟩ hD
          repeat' (first | refine Step.imp ?_ | refine Side.mk (by first | exact True.intro | omega | exact ⟨trivial, rfl⟩ | exact ⟨by omega, trivial, rfl⟩ | exact ⟨by omega, rfl⟩ | exact ⟨by omega, by omega, rfl⟩ | (simp only [List.length_cons, List.length_nil, List.length_append]; done) | (simp only [List.length_cons, List.length_nil, List.length_append]; omega) | decide +kernel) ?_ | refine GDraw_one (by decide +kernel) ?_ | refine New.mk fun _ => ?_ | refine NewS.mk fun _ _ => ?_ | refine Ways.mk (fun _ => ?_) (fun _ => ?_))
          all_goals first | exact Fin.val hfin rfl hle4 | (exfalso; omega)
        · have hno : ¬ OkCat C := fun hk => hfine (by
            have h1 := hk.cells
            have h2 := hk.leaves
            have h3 := hk.most
            have h4 := hk.scens
            rw [hCd] at h1 h2; rw [hle'] at h3; rw [hsc'] at h4
            exact ⟨⟨h1, h2⟩, h3, h4⟩)
          have hf5 := hT.1 (-1) 5 h2 le2 (by decide) hno
          have hf17 := hT.1 (-1) 17 h2 le2 (by decide) hno
          repeat' (first | refine Step.imp ?_ | refine Side.mk (by first | exact True.intro | omega | exact ⟨trivial, rfl⟩ | exact ⟨by omega, trivial, rfl⟩ | exact ⟨by omega, rfl⟩ | exact ⟨by omega, by omega, rfl⟩ | (simp only [List.length_cons, List.length_nil, List.length_append]; done) | (simp only [List.length_cons, List.length_nil, List.length_append]; omega) | decide +kernel) ?_ | refine GDraw_one (by decide +kernel) ?_ | refine New.mk fun _ => ?_ | refine NewS.mk fun _ _ => ?_ | refine Ways.mk (fun _ => ?_) (fun _ => ?_))
          all_goals first | exact Fin.val hf5 rfl hl2 | exact Fin.val hf17 rfl hl2 | (exfalso; omega)
  · have hno : ¬ OkCat C := fun hok => hsz ⟨by have := hok.dims; omega, by have := hok.meas; rw [hCm] at this; omega⟩
    have hfin := hT.1 (-1) 5 h ⟨Hle.refl h⟩ (by decide) hno
    repeat' (first | refine Step.imp ?_ | refine Side.mk (by first | exact True.intro | omega | exact ⟨trivial, rfl⟩ | exact ⟨by omega, trivial, rfl⟩ | exact ⟨by omega, rfl⟩ | exact ⟨by omega, by omega, rfl⟩ | (simp only [List.length_cons, List.length_nil, List.length_append]; done) | (simp only [List.length_cons, List.length_nil, List.length_append]; omega) | decide +kernel) ?_ | refine GDraw_one (by decide +kernel) ?_ | refine New.mk fun _ => ?_ | refine NewS.mk fun _ _ => ?_ | refine Ways.mk (fun _ => ?_) (fun _ => ?_))
    all_goals first | exact Fin.val hfin rfl (Hle.refl _) | (exfalso; omega)⟩
end
end Go.Sl
