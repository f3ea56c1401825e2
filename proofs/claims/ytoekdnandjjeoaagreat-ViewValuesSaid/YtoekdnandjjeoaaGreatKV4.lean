/-
  Facts that the proof is made of (V4).
-/
import Derived.Test.YtoekdnandjjeoaaGreatKV1
/-
  The document's count of a cell's leaves that are not 0.
-/
namespace Go.Sl
open Go.Proofs
set_option linter.unusedVariables false
set_option linter.unusedSimpArgs false
set_option maxRecDepth 10000
set_option synthInstance.maxSize 2000
set_option synthInstance.maxHeartbeats 200000
set_option maxHeartbeats 1000000
section
variable {h h0 : PHeap} {rb : Nat} {C : Cat} {kn : Bool} {es : List En} {vals : List Int}
theorem nmany_spec {a : Option Addr} {ec : Nat} {m a0 a1 a2 a3 : Int} (hV : vals = es.map En.val) (hv : vals.length = (leavesF C C.dims.length).toNat) (h64 : Ok64 vals) : Spec Tryz.prog 22 [.pointer (some ⟨rb, 0, none⟩), .slice a es.length ec, .agg [vI m, vI a0, vI a1, vI a2, vI a3].toArray] h [rsp h rb C kn, slo encEn 2 (.slice a es.length ec) es]
    (fun K => ∀ h', Le h h' → (¬ rightF C m (get4 a0 a1 a2 a3) → K (.tuple [vI 0, vI 17].toArray) h' [rsp h' rb C false, slo encEn 2 (.slice a es.length ec) es]) ∧
      (rightF C m (get4 a0 a1 a2 a3) → K (.tuple [vI (manyF C vals m (get4 a0 a1 a2 a3)), vI 0].toArray) h' [rsp h' rb C false, slo encEn 2 (.slice a es.length ec) es])) := by
  have hel : vals.length = es.length := by rw [hV]; exact List.length_map ..
  have hget : ∀ j < es.length, (es[j]!).val = vals[j]! := fun j hj => by
    rw [hV, getElem!_pos (es.map En.val) j (by simpa using hj), List.getElem_map, getElem!_pos es j hj]
  refine spec_enter Tryz.func22 rfl Tryz.ntmps22 Tryz.results22 (by simp) fun K R hT => ?_
  haveI : LeT h h := ⟨Hle.refl h⟩
  refine G_conv (x := rsp h rb C kn) (y := rsp h rb C false) (fun bs hb => rsp_any hb) ?_
  refine G_rsp rb fun db lv rv iv ua uc ka kc us ks hok => ?_
  have hRD := hok.rd
  have ok := hok.ok
  have hbl := leaves_bound ok C.dims.length (Nat.le_refl _)
  repeat (first | refine Step.imp ?_ | refine Side.mk (by first | exact True.intro | omega | exact ⟨trivial, rfl⟩ | exact ⟨by omega, trivial, rfl⟩ | exact ⟨by omega, rfl⟩ | exact ⟨by omega, by omega, rfl⟩ | (simp only [List.length_cons, List.length_nil, List.length_append]; done) | (simp only [List.length_cons, List.length_nil, List.length_append]; omega) | decide +kernel) ?_ | refine GDraw_one (by decide +kernel) ?_ | refine New.mk fun _ => ?_ | refine NewS.mk fun _ _ => ?_)
  rename_i cb
  refine ⟨fun hno => ?_, fun hr => ?_⟩
  · refine G_rspIn rb hok ?_
    repeat (first | refine Step.imp ?_ | refine Side.mk (by first | exact True.intro | omega | exact ⟨trivial, rfl⟩ | exact ⟨by omega, trivial, rfl⟩ | exact ⟨by omega, rfl⟩ | exact ⟨by omega, by omega, rfl⟩ | (simp only [List.length_cons, List.length_nil, List.length_append]; done) | (simp only [List.length_cons, List.length_nil, List.length_append]; omega) | decide +kernel) ?_ | refine GDraw_one (by decide +kernel) ?_ | refine New.mk fun _ => ?_ | refine NewS.mk fun _ _ => ?_)
    exact Fin.val ((hT h ⟨Hle.refl h⟩).1 hno) rfl (Hle.refl _)
  have hr := Decidable.not_not.1 hr
  have hve := value_eq ok hr hv
  have hmem := fun n => (under_mem ok hr (n := n)).1
  have hle := under_eq ok hr
  refine G_rspIn rb hok ?_
  repeat (first | refine Step.imp ?_ | refine Side.mk (by first | exact True.intro | omega | exact ⟨trivial, rfl⟩ | exact ⟨by omega, trivial, rfl⟩ | exact ⟨by omega, rfl⟩ | exact ⟨by omega, by omega, rfl⟩ | (simp only [List.length_cons, List.length_nil, List.length_append]; done) | (simp only [List.length_cons, List.length_nil, List.length_append]; omega) | decide +kernel) ?_ | refine GDraw_one (by decide +kernel) ?_ | refine New.mk fun _ => ?_ | refine NewS.mk fun _ _ => ?_)
  intro h1 va vc le1 f1
  obtain ⟨us, hus⟩ : ∃ us, us = underF C m (get4 a0 a1 a2 a3) := ⟨_, rfl⟩
  rw [← hus] at f1 hve hle hmem ⊢
  have hul : us.length ≤ vals.length := by
    rw [hle, hv]; exact pickTo_len _ _
  have hall : ∀ k < us.length, 0 ≤ us[k]! ∧ us[k]! < vals.length := fun k hk => by
    have := (hmem _ (mem_get hk)).1
    omega
  repeat (first | refine Step.imp ?_ | refine Side.mk (by first | exact True.intro | omega | exact ⟨trivial, rfl⟩ | exact ⟨by omega, trivial, rfl⟩ | exact ⟨by omega, rfl⟩ | exact ⟨by omega, by omega, rfl⟩ | (simp only [List.length_cons, List.length_nil, List.length_append]; done) | (simp only [List.length_cons, List.length_nil, List.length_append]; omega) | decide +kernel) ?_ | refine GDraw_one (by decide +kernel) ?_ | refine New.mk fun _ => ?_ | refine NewS.mk fun _ _ => ?_)
  obtain ⟨W, hW⟩ : ∃ W, W = pickV us vals us.length := ⟨_, rfl⟩
  have hmf : manyF C vals m (get4 a0 a1 a2 a3) = cnt0 W := by rw [hW, hus]; rfl
  have hWl : W.length = us.length := by rw [hW]; exact pickV_len (Nat.le_refl _)
  have hWg : ∀ j < us.length, W[j]! = vals[(us[j]!).toNat]! := fun j hj => by
    rw [hW]; unfold pickV
    rw [List.take_length, getElem!_pos (us.map _) j (by simpa using hj), List.getElem_map, getElem!_pos us j hj]
  refine G_loopE (σ := Nat) (fun k => k ≤ us.length) (fun k => us.length - k) (fun k => [(10, vI k), (9, .slice va us.length vc), (8, vI (cnt0 (W.take k))), (0 + 1, .slice a es.length ec)]) 0 (Nat.zero_le _) ⟨rfl, rfl, rfl, rfl, trivial⟩ fun k hk => ?_
  have hcl := cnt0_le (W.take k)
  have htl : (W.take k).length = k := by rw [List.length_take]; omega
  by_cases hlt : k < us.length
  · haveI : Known ((k : Int) < us.length) := ⟨by omega⟩
    have hak := hall k hlt
    have hgk := hget (us[k]!).toNat (by omega)
    have hwk := hWg k hlt
    rw [← hgk] at hwk
    have hct := cnt0_take (vals := W) (k := k) (by omega)
    haveI : Known (us[k]! < (es.length : Int)) := ⟨by omega⟩
    rw [hwk] at hct
    by_cases hz : (es[(us[k]!).toNat]!).val = 0
    · haveI : Known (¬ ((es[(us[k]!).toNat]!).val ≠ 0)) := ⟨fun q => q hz⟩
      rw [if_pos hz] at hct
      repeat (first | refine Step.imp ?_ | refine Side.mk (by first | exact True.intro | omega | exact ⟨trivial, rfl⟩ | exact ⟨by omega, trivial, rfl⟩ | exact ⟨by omega, rfl⟩ | exact ⟨by omega, by omega, rfl⟩ | (simp only [List.length_cons, List.length_nil, List.length_append]; done) | (simp only [List.length_cons, List.length_nil, List.length_append]; omega) | decide +kernel) ?_ | refine GDraw_one (by decide +kernel) ?_ | refine New.mk fun _ => ?_ | refine NewS.mk fun _ _ => ?_)
      exact X_roundE (k + 1) (by omega) (by omega) ⟨rfl, rfl, by rw [hct, Int.add_zero], rfl, trivial⟩ inferInstance
    · haveI : Known ((es[(us[k]!).toNat]!).val ≠ 0) := ⟨hz⟩
      rw [if_neg hz] at hct
      repeat (first | refine Step.imp ?_ | refine Side.mk (by first | exact True.intro | omega | exact ⟨trivial, rfl⟩ | exact ⟨by omega, trivial, rfl⟩ | exact ⟨by omega, rfl⟩ | exact ⟨by omega, by omega, rfl⟩ | (simp only [List.length_cons, List.length_nil, List.length_append]; done) | (simp only [List.length_cons, List.length_nil, List.length_append]; omega) | decide +kernel) ?_ | refine GDraw_one (by decide +kernel) ?_ | refine New.mk fun _ => ?_ | refine NewS.mk fun _ _ => ?_)
      exact X_roundE (k + 1) (by omega) (by omega) ⟨rfl, rfl, by rw [hct], rfl, trivial⟩ inferInstance
  · have hk2 : k = us.length := by omega
    subst hk2
    haveI : Known (¬ ((us.length : Int) < us.length)) := ⟨by omega⟩
    rw [show W.take us.length = W by rw [← hWl]; exact List.take_length]
    repeat (first | refine Step.imp ?_ | refine Side.mk (by first | exact True.intro | omega | exact ⟨trivial, rfl⟩ | exact ⟨by omega, trivial, rfl⟩ | exact ⟨by omega, rfl⟩ | exact ⟨by omega, by omega, rfl⟩ | (simp only [List.length_cons, List.length_nil, List.length_append]; done) | (simp only [List.length_cons, List.length_nil, List.length_append]; omega) | decide +kernel) ?_ | refine GDraw_one (by decide +kernel) ?_ | refine New.mk fun _ => ?_ | refine NewS.mk fun _ _ => ?_)
    exact Fin.val ((hT h1 le1).2 hr) (by rw [hmf]) le1.le
instance n11_many {L M R : List HP} {a : Option Addr} {n ec : Nat} {m a0 a1 a2 a3 : Int} [p : PickR L rb h0 C kn M] [q : PickO M (.slice a n ec) En encEn 2 es R] [hI : Is es.length n] [hl : LeT h0 h] [hV : Is (es.map En.val) vals] : CallT Tryz.prog 22 [.pointer (some ⟨rb, 0, none⟩), .slice a n ec, .agg [vI m, vI a0, vI a1, vI a2, vI a3].toArray] h L (vals.length = (leavesF C C.dims.length).toNat ∧ Ok64 vals) R
    (fun K => ∀ h', Le h h' → (¬ rightF C m (get4 a0 a1 a2 a3) → K (.tuple [vI 0, vI 17].toArray) h' [rsp h' rb C false, slo encEn 2 (.slice a n ec) es]) ∧
      (rightF C m (get4 a0 a1 a2 a3) → K (.tuple [vI (manyF C vals m (get4 a0 a1 a2 a3)), vI 0].toArray) h' [rsp h' rb C false, slo encEn 2 (.slice a n ec) es])) := ⟨fun hs => by
  have := hI.eq
  subst this
  obtain ⟨x, h1, h2⟩ := p.eq
  exact ⟨[x, slo encEn 2 (.slice a es.length ec) es], h1.trans (List.Perm.cons _ q.eq), fun K R' w hT st => nmany_spec hV.eq.symm hs.1 hs.2 K R' w hT (St.conv (h2 h hl.le) st)⟩⟩
end
end Go.Sl
