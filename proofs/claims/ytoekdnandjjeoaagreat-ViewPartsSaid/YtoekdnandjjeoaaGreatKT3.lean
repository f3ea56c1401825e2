/-
  Facts that the proof is made of (T3).
-/
import Derived.Test.YtoekdnandjjeoaaGreatKT2
/-
  A tree that is made: the function New.
-/
namespace Go.Sl
open Go.Proofs
set_option linter.unusedVariables false
set_option linter.unusedSimpArgs false
set_option maxRecDepth 10000
set_option synthInstance.maxSize 2000
set_option synthInstance.maxHeartbeats 200000
set_option maxHeartbeats 1000000
section
variable {h : PHeap} {nodes : List Nd} {lv : Value}
instance tree_new {L : List HP} [hs : FSl h lv encNd 2 nodes] : CallX Tryz.prog 43 [lv] h L (nodes.length ≤ 4294967296)
    (fun K => (∀ i why h', Le h h' → treeErr nodes = some (i, why) → K (.tuple [.pointer none, vI (i : Nat), vI why].toArray) h' []) ∧ (treeErr nodes = none → ∀ h' b, Le h h' → IsTree h' b (mkTree nodes) → K (.tuple [.pointer (some ⟨b, 0, none⟩), vI 0, vI 0].toArray) h' [])) := ⟨fun hbig => by
  refine spec_enter Tryz.func43 rfl Tryz.ntmps43 Tryz.results43 (by simp) fun K R hT => ?_
  by_cases hlen : nodes.length = 0 ∨ 32 < nodes.length
  · have he := hT.1 0 5 h ⟨Hle.refl h⟩ (by unfold treeErr; rw [if_pos hlen])
    repeat' (first | refine Step.imp ?_ | refine Side.mk (by first | exact True.intro | omega | exact ⟨trivial, rfl⟩ | exact ⟨by omega, trivial, rfl⟩ | exact ⟨by omega, rfl⟩ | exact ⟨by omega, by omega, rfl⟩ | (simp only [List.length_cons, List.length_nil, List.length_append]; done) | (simp only [List.length_cons, List.length_nil, List.length_append]; omega) | decide +kernel) ?_ | refine GDraw_one (by decide +kernel) ?_ | refine New.mk fun _ => ?_ | refine NewS.mk fun _ _ => ?_ | refine Ways.mk (fun _ => ?_) (fun _ => ?_))
    all_goals first | exact Fin.val he rfl (Hle.refl _) | (exfalso; omega)
  · repeat' (first | refine Step.imp ?_ | refine Side.mk (by first | exact True.intro | omega | exact ⟨trivial, rfl⟩ | exact ⟨by omega, trivial, rfl⟩ | exact ⟨by omega, rfl⟩ | exact ⟨by omega, by omega, rfl⟩ | (simp only [List.length_cons, List.length_nil, List.length_append]; done) | (simp only [List.length_cons, List.length_nil, List.length_append]; omega) | decide +kernel) ?_ | refine GDraw_one (by decide +kernel) ?_ | refine New.mk fun _ => ?_ | refine NewS.mk fun _ _ => ?_ | refine Ways.mk (fun _ => ?_) (fun _ => ?_))
    all_goals first | (exfalso; omega) | skip
    refine GDraw_cut (σ := Nat × Option Addr × Nat × Nat × Nat × Nat) (fun s => [(5, .pointer (some ⟨s.1, 0, none⟩)), (0, lv)])
      (fun s => blk s.1 (.cells [.slice s.2.1 nodes.length s.2.2.1, .map (some s.2.2.2.1), .slice (some ⟨s.2.2.2.2.1, 0, none⟩) nodes.length nodes.length, .slice none 0 0, .slice none 0 0, .slice (some ⟨s.2.2.2.2.2, 0, none⟩) nodes.length nodes.length].toArray 183 (0, 0)) ::
        mapO s.2.2.2.1 [] :: slo encNd 2 (.slice s.2.1 nodes.length s.2.2.1) nodes :: mk0 [.slice none 0 0] (.slice (some ⟨s.2.2.2.2.1, 0, none⟩) nodes.length nodes.length) nodes.length :: mk0 [vI 0, vI 0] (.slice (some ⟨s.2.2.2.2.2, 0, none⟩) nodes.length nodes.length) nodes.length :: (L ++ R)) ?_ ?_
    · refine GDraw_many (by decide +kernel) ?_
      repeat' (first | refine Step.imp ?_ | refine Side.mk (by first | exact True.intro | omega) ?_ | (refine And.intro (fun h => ?_) ?_; exact absurd h (by decide +kernel)) | refine And.intro (fun _ => GSh_of rfl ?_) ?_ | exact True.intro | (refine fun _ _ => GS_app inferInstance ?_) | refine hard_makeMap fun _ => And.intro inferInstance ?_ | refine hard_makeSlice (by omega) fun _ => And.intro inferInstance ?_ | refine hard_box fun _ => And.intro inferInstance ?_ | refine hard_callT' (by omega) ?_ | refine hard_callV' (by omega) ?_ | refine GS_hardS [1, 2, 5, 8, 10] (by decide +kernel) ?_ | refine GS_soft 0 (by decide +kernel) rfl ?_ | refine GS_soft 3 (by decide +kernel) rfl ?_ | refine GS_soft 4 (by decide +kernel) rfl ?_ | refine GS_soft 6 (by decide +kernel) rfl ?_ | refine GS_soft 7 (by decide +kernel) rfl ?_ | refine GS_soft 9 (by decide +kernel) rfl ?_ | refine GS_soft 11 (by decide +kernel) rfl ?_ | refine GS_end (by decide +kernel) ?_)
      all_goals (refine X_cut (?_, ?_, ?_, ?_, ?_, ?_) ?_ ?_; rotate_left 6; (refine sub_head ?_; infer_instance); exact ⟨rfl, rfl, trivial⟩)
    rintro ⟨tb, ca, cc, mb, kb, sb⟩
    simp only
    have h32 : nodes.length ≤ 32 := by omega
    refine X_conv (x := mk0 [.slice none 0 0] (.slice (some ⟨kb, 0, none⟩) nodes.length nodes.length) nodes.length) (y := slo encK 1 (.slice (some ⟨kb, 0, none⟩) nodes.length nodes.length) (List.replicate nodes.length ((none, 0, []) : KS))) (fun bs hb => mk0_slo (enc := encK) (y := ((none, 0, []) : KS)) rfl (by simp [Value.oneCell']) hb) ?_
    refine X_conv (x := mk0 [vI 0, vI 0] (.slice (some ⟨sb, 0, none⟩) nodes.length nodes.length) nodes.length) (y := slo encSp 2 (.slice (some ⟨sb, 0, none⟩) nodes.length nodes.length) (List.replicate nodes.length ⟨0, 0⟩)) (fun bs hb => mk0_slo (enc := encSp) (y := ⟨0, 0⟩) rfl (by simp [Value.oneCell']) hb) ?_
    refine X_freezeS (.slice ca nodes.length cc) fun h1 le1 hcl => ?_
    generalize hkv : (Value.slice (some ⟨kb, 0, none⟩) nodes.length nodes.length) = kv
    generalize hsv : (Value.slice (some ⟨sb, 0, none⟩) nodes.length nodes.length) = sv
    generalize hcv : (Value.slice ca nodes.length cc) = cv at hcl ⊢
    repeat (first | refine Step.imp ?_ | refine Side.mk (by first | exact True.intro | omega | exact ⟨trivial, rfl⟩ | exact ⟨by omega, trivial, rfl⟩ | exact ⟨by omega, rfl⟩ | exact ⟨by omega, by omega, rfl⟩ | (simp only [List.length_cons, List.length_nil, List.length_append]; done) | (simp only [List.length_cons, List.length_nil, List.length_append]; omega) | decide +kernel) ?_ | refine GDraw_one (by decide +kernel) ?_ | refine New.mk fun _ => ?_ | refine NewS.mk fun _ _ => ?_)
    refine G_loop (σ := Nat) (fun s => s ≤ 5 ∧ ∀ s' < s, ∀ j < nodes.length, ckStep nodes s' j = 0) (fun s => 5 - s) (fun s => [(30, vI s), (5, .pointer (some ⟨tb, 0, none⟩)), (0, lv)]) (fun _ => h1)
      (fun s => blk tb (.cells [cv, .map (some mb), kv, .slice none 0 0, .slice none 0 0, sv].toArray 183 (0, 0)) :: mapO mb (if s < 2 then [] else namesTo nodes nodes.length) :: slo encK 1 kv (List.replicate nodes.length ((none, 0, []) : KS)) :: slo encSp 2 sv (List.replicate nodes.length ⟨0, 0⟩) :: (L ++ R))
      0 ⟨by omega, fun s' hs' => by omega⟩ ⟨rfl, rfl, rfl, trivial⟩ rfl ?_ ?_
    · simp only [show (0 : Nat) < 2 from by omega, if_true]
      infer_instance
    rintro s ⟨hs5, hall⟩
    repeat (first | refine Step.imp ?_ | refine Side.mk (by first | exact True.intro | omega | exact ⟨trivial, rfl⟩ | exact ⟨by omega, trivial, rfl⟩ | exact ⟨by omega, rfl⟩ | exact ⟨by omega, by omega, rfl⟩ | (simp only [List.length_cons, List.length_nil, List.length_append]; done) | (simp only [List.length_cons, List.length_nil, List.length_append]; omega) | decide +kernel) ?_ | refine GDraw_one (by decide +kernel) ?_ | refine New.mk fun _ => ?_ | refine NewS.mk fun _ _ => ?_)
    refine ⟨fun hlt => ?_, fun hge => ?_⟩
    · have hups : 3 ≤ s → UpsIn nodes := fun h3 => upsIn_of fun i hi => by have := hall 2 (by omega) i hi; simpa [ckStep] using this
      have hac : 4 ≤ s → Acyc nodes := fun h4 => acyc_of h32 (hups (by omega)) fun i hi => by have := hall 3 (by omega) i hi; simpa [ckStep] using this
      repeat (first | refine Step.imp ?_ | refine Side.mk (by first | exact True.intro | omega | exact ⟨trivial, rfl⟩ | exact ⟨by omega, trivial, rfl⟩ | exact ⟨by omega, rfl⟩ | exact ⟨by omega, by omega, rfl⟩ | (simp only [List.length_cons, List.length_nil, List.length_append]; done) | (simp only [List.length_cons, List.length_nil, List.length_append]; omega) | decide +kernel) ?_ | refine GDraw_one (by decide +kernel) ?_ | refine New.mk fun _ => ?_ | refine NewS.mk fun _ _ => ?_)
      refine G_loop (σ := Nat) (fun i => i ≤ nodes.length ∧ ∀ j < i, ckStep nodes s j = 0) (fun i => nodes.length - i) (fun i => [(35, vI i), (34, vI nodes.length), (30, vI s), (6, vI s), (5, .pointer (some ⟨tb, 0, none⟩)), (0, lv)]) (fun _ => h1)
        (fun i => blk tb (.cells [cv, .map (some mb), kv, .slice none 0 0, .slice none 0 0, sv].toArray 183 (0, 0)) :: mapO mb (if s = 0 then [] else if s = 1 then namesTo nodes i else namesTo nodes nodes.length) :: slo encK 1 kv (List.replicate nodes.length ((none, 0, []) : KS)) :: slo encSp 2 sv (List.replicate nodes.length ⟨0, 0⟩) :: (L ++ R))
        0 ⟨by omega, fun s' hs' => by omega⟩ ⟨rfl, rfl, rfl, rfl, rfl, rfl, trivial⟩ rfl ?_ ?_
      · have : (if s < 2 then [] else namesTo nodes nodes.length) = (if s = 0 then [] else if s = 1 then namesTo nodes 0 else namesTo nodes nodes.length) := by
          by_cases h0 : s = 0
          · simp [h0]
          · by_cases h1 : s = 1
            · simp [h1, namesTo]
            · rw [if_neg (by omega), if_neg h0, if_neg h1]
        rw [this]
        infer_instance
      rintro i ⟨hin, hbelow⟩
      repeat (first | refine Step.imp ?_ | refine Side.mk (by first | exact True.intro | omega | exact ⟨trivial, rfl⟩ | exact ⟨by omega, trivial, rfl⟩ | exact ⟨by omega, rfl⟩ | exact ⟨by omega, by omega, rfl⟩ | (simp only [List.length_cons, List.length_nil, List.length_append]; done) | (simp only [List.length_cons, List.length_nil, List.length_append]; omega) | decide +kernel) ?_ | refine GDraw_one (by decide +kernel) ?_ | refine New.mk fun _ => ?_ | refine NewS.mk fun _ _ => ?_)
      refine ⟨fun hilt => ?_, fun hige => ?_⟩
      · repeat (first | refine Step.imp ?_ | refine Side.mk (by first | exact True.intro | omega | exact ⟨trivial, rfl⟩ | exact ⟨by omega, trivial, rfl⟩ | exact ⟨by omega, rfl⟩ | exact ⟨by omega, by omega, rfl⟩ | (simp only [List.length_cons, List.length_nil, List.length_append]; done) | (simp only [List.length_cons, List.length_nil, List.length_append]; omega) | decide +kernel) ?_ | refine GDraw_one (by decide +kernel) ?_ | refine New.mk fun _ => ?_ | refine NewS.mk fun _ _ => ?_)
        refine Side.mk ⟨by omega, h32, by omega, hups, hac, fun e => by rw [if_neg (by omega), if_pos e]⟩ ?_
        repeat (first | refine Step.imp ?_ | refine Side.mk (by first | exact True.intro | omega | exact ⟨trivial, rfl⟩ | exact ⟨by omega, trivial, rfl⟩ | exact ⟨by omega, rfl⟩ | exact ⟨by omega, by omega, rfl⟩ | (simp only [List.length_cons, List.length_nil, List.length_append]; done) | (simp only [List.length_cons, List.length_nil, List.length_append]; omega) | decide +kernel) ?_ | refine GDraw_one (by decide +kernel) ?_ | refine New.mk fun _ => ?_ | refine NewS.mk fun _ _ => ?_)
        refine ⟨fun hbad => ?_, fun hgood => ?_⟩
        · have he := hT.1 i (ckStep nodes s i) h1 le1 (treeErr_some hlen (by omega) (by omega) hall hbelow hbad)
          repeat (first | refine Step.imp ?_ | refine Side.mk (by first | exact True.intro | omega | exact ⟨trivial, rfl⟩ | exact ⟨by omega, trivial, rfl⟩ | exact ⟨by omega, rfl⟩ | exact ⟨by omega, by omega, rfl⟩ | (simp only [List.length_cons, List.length_nil, List.length_append]; done) | (simp only [List.length_cons, List.length_nil, List.length_append]; omega) | decide +kernel) ?_ | refine GDraw_one (by decide +kernel) ?_ | refine New.mk fun _ => ?_ | refine NewS.mk fun _ _ => ?_)
          exact Fin.val he rfl le1.le
        · repeat (first | refine Step.imp ?_ | refine Side.mk (by first | exact True.intro | omega | exact ⟨trivial, rfl⟩ | exact ⟨by omega, trivial, rfl⟩ | exact ⟨by omega, rfl⟩ | exact ⟨by omega, by omega, rfl⟩ | (simp only [List.length_cons, List.length_nil, List.length_append]; done) | (simp only [List.length_cons, List.length_nil, List.length_append]; omega) | decide +kernel) ?_ | refine GDraw_one (by decide +kernel) ?_ | refine New.mk fun _ => ?_ | refine NewS.mk fun _ _ => ?_)
          have hg0 : ckStep nodes s i = 0 := Decidable.not_not.1 hgood
          have hm : mapAft nodes s i (if s = 0 then [] else if s = 1 then namesTo nodes i else namesTo nodes nodes.length) = (if s = 0 then [] else if s = 1 then namesTo nodes (i + 1) else namesTo nodes nodes.length) := by
            unfold mapAft
            by_cases h1 : s = 1
            · subst h1
              have : ckTwice nodes i = 0 := by simpa [ckStep] using hg0
              simp [this]
            · simp [h1]
          rw [hm]
          refine X_round (i + 1) ?_ ?_ ?_ ?_ ?_
          · refine ⟨by omega, fun j hj => ?_⟩
            rcases Nat.lt_or_ge j i with h | h
            · exact hbelow j h
            · have : j = i := by omega
              subst this; exact hg0
          · show nodes.length - (i + 1) < nodes.length - i
            omega
          · exact ⟨rfl, rfl, rfl, rfl, rfl, rfl, trivial⟩
          · rfl
          · infer_instance
      · have hi2 : i = nodes.length := by omega
        subst hi2
        repeat (first | refine Step.imp ?_ | refine Side.mk (by first | exact True.intro | omega | exact ⟨trivial, rfl⟩ | exact ⟨by omega, trivial, rfl⟩ | exact ⟨by omega, rfl⟩ | exact ⟨by omega, by omega, rfl⟩ | (simp only [List.length_cons, List.length_nil, List.length_append]; done) | (simp only [List.length_cons, List.length_nil, List.length_append]; omega) | decide +kernel) ?_ | refine GDraw_one (by decide +kernel) ?_ | refine New.mk fun _ => ?_ | refine NewS.mk fun _ _ => ?_)
        refine X_round (s + 1) ?_ ?_ ?_ ?_ ?_
        · refine ⟨by omega, fun s' hs' => ?_⟩
          rcases Nat.lt_or_ge s' s with h | h
          · exact hall s' h
          · have : s' = s := by omega
            subst this; exact hbelow
        · show 5 - (s + 1) < 5 - s
          omega
        · exact ⟨rfl, rfl, rfl, trivial⟩
        · rfl
        · have : (if s = 0 then [] else if s = 1 then namesTo nodes nodes.length else namesTo nodes nodes.length) = (if s + 1 < 2 then [] else namesTo nodes nodes.length) := by
            by_cases h0 : s = 0
            · simp [h0]
            · rw [if_neg h0, if_neg (show ¬ s + 1 < 2 by omega)]; simp
          rw [this]
          infer_instance
    · have hs6 : s = 5 := by omega
      subst hs6
      have hups : UpsIn nodes := upsIn_of fun i hi => by have := hall 2 (by omega) i hi; simpa [ckStep] using this
      have hac : Acyc nodes := acyc_of h32 hups fun i hi => by have := hall 3 (by omega) i hi; simpa [ckStep] using this
      have hnone := treeErr_none hlen hall
      have hT := hT.2 hnone
      repeat (first | refine Step.imp ?_ | refine Side.mk (by first | exact True.intro | omega | exact ⟨trivial, rfl⟩ | exact ⟨by omega, trivial, rfl⟩ | exact ⟨by omega, rfl⟩ | exact ⟨by omega, by omega, rfl⟩ | (simp only [List.length_cons, List.length_nil, List.length_append]; done) | (simp only [List.length_cons, List.length_nil, List.length_append]; omega) | decide +kernel) ?_ | refine GDraw_one (by decide +kernel) ?_ | refine New.mk fun _ => ?_ | refine NewS.mk fun _ _ => ?_)
      simp only [show ¬ (5 : Nat) < 2 from by omega, if_false]
      refine G_inns nodes.length ?_
      refine G_perm perm4 ?_
      have hkl : ∀ n i, (kidsTo nodes n i).length ≤ n := fun n i => by
        have := List.length_filter_le (fun j => decide ((nodes[j]!).up = (i : Int))) (List.range n)
        unfold kidsTo; rw [List.length_map]; simpa using this
      refine G_loop (σ := Nat × List KS) (fun s => s.1 ≤ nodes.length ∧ s.2.length = nodes.length ∧ ∀ i < nodes.length, (s.2[i]!).2.2 = kidsTo nodes s.1 i) (fun s => nodes.length - s.1) (fun s => [(50, vI s.1), (49, vI nodes.length), (48, lv), (5, .pointer (some ⟨tb, 0, none⟩))]) (fun _ => h1)
        (fun s => blk tb (.cells [cv, .map (some mb), kv, .slice none 0 0, .slice none 0 0, sv].toArray 183 (0, 0)) :: mapO mb (namesTo nodes nodes.length) :: slo encK 1 kv s.2 :: slo encSp 2 sv (List.replicate nodes.length ⟨0, 0⟩) :: (s.2.map inn ++ (L ++ R)))
        (0, List.replicate nodes.length ((none, 0, []) : KS)) ⟨by omega, by simp, fun i hi => by rw [getElem!_pos _ i (by simpa using hi)]; simp [kidsTo]⟩ ⟨rfl, rfl, rfl, rfl, trivial⟩ rfl inferInstance ?_
      rintro ⟨n, ks⟩ ⟨hn, hks, hkk⟩
      simp only at hn hks hkk ⊢
      repeat (first | refine Step.imp ?_ | refine Side.mk (by first | exact True.intro | omega | exact ⟨trivial, rfl⟩ | exact ⟨by omega, trivial, rfl⟩ | exact ⟨by omega, rfl⟩ | exact ⟨by omega, by omega, rfl⟩ | (simp only [List.length_cons, List.length_nil, List.length_append]; done) | (simp only [List.length_cons, List.length_nil, List.length_append]; omega) | decide +kernel) ?_ | refine GDraw_one (by decide +kernel) ?_ | refine New.mk fun _ => ?_ | refine NewS.mk fun _ _ => ?_)
      refine ⟨fun hlt => ?_, fun hge => ?_⟩
      · have hupn := hups.eq n (by omega)
        repeat (first | refine Step.imp ?_ | refine Side.mk (by first | exact True.intro | omega | exact ⟨trivial, rfl⟩ | exact ⟨by omega, trivial, rfl⟩ | exact ⟨by omega, rfl⟩ | exact ⟨by omega, by omega, rfl⟩ | (simp only [List.length_cons, List.length_nil, List.length_append]; done) | (simp only [List.length_cons, List.length_nil, List.length_append]; omega) | decide +kernel) ?_ | refine GDraw_one (by decide +kernel) ?_ | refine New.mk fun _ => ?_ | refine NewS.mk fun _ _ => ?_)
        refine ⟨fun hup => ?_, fun hup => ?_⟩
        · have hj : ((nodes[n]!).up).toNat < ks.length := by omega
          have hkj := hkk ((nodes[n]!).up).toNat (by omega)
          have hkjl := hkl n ((nodes[n]!).up).toNat
          rw [← hkj] at hkjl
          refine G_perm (.cons _ (.cons _ (.cons _ (.cons _ (.cons _ (inns_out' _ hj)))))) ?_
          repeat (first | refine GDraw_O (.slice (ks[((nodes[n]!).up).toNat]!).1 (ks[((nodes[n]!).up).toNat]!).2.2.length (ks[((nodes[n]!).up).toNat]!).2.1) (by decide +kernel) ?_ | refine Step.imp ?_ | refine Side.mk (by first | exact True.intro | omega | exact ⟨trivial, rfl⟩ | exact ⟨by omega, trivial, rfl⟩ | exact ⟨by omega, rfl⟩ | exact ⟨by omega, by omega, rfl⟩ | (simp only [List.length_cons, List.length_nil, List.length_append]; done) | (simp only [List.length_cons, List.length_nil, List.length_append]; omega) | decide +kernel) ?_ | refine GDraw_one (by decide +kernel) ?_ | refine New.mk fun _ => ?_ | refine NewS.mk fun _ _ => ?_)
          rename_i bx b1 a1 c1
          haveI : Mk encK [.slice a1 ((ks[((nodes[n]!).up).toNat]!).2.2.length + 1) c1] (a1, c1, (ks[((nodes[n]!).up).toNat]!).2.2 ++ [(n : Int)]) := ⟨by simp [encK]⟩
          repeat (first | refine Step.imp ?_ | refine Side.mk (by first | exact True.intro | omega | exact ⟨trivial, rfl⟩ | exact ⟨by omega, trivial, rfl⟩ | exact ⟨by omega, rfl⟩ | exact ⟨by omega, by omega, rfl⟩ | (simp only [List.length_cons, List.length_nil, List.length_append]; done) | (simp only [List.length_cons, List.length_nil, List.length_append]; omega) | decide +kernel) ?_ | refine GDraw_one (by decide +kernel) ?_ | refine New.mk fun _ => ?_ | refine NewS.mk fun _ _ => ?_)
          refine X_round (n + 1, ks.set ((nodes[n]!).up).toNat (a1, c1, (ks[((nodes[n]!).up).toNat]!).2.2 ++ [(n : Int)])) ?_ ?_ ?_ ?_ ?_
          · refine ⟨by show n + 1 ≤ nodes.length; omega, by simpa using hks, fun i hi => ?_⟩
            show ((ks.set ((nodes[n]!).up).toNat (a1, c1, (ks[((nodes[n]!).up).toNat]!).2.2 ++ [(n : Int)]))[i]!).2.2 = kidsTo nodes (n + 1) i
            rw [getElem!_pos _ i (by simpa [hks] using hi), List.getElem_set, kidsTo_succ]
            have hki := hkk i hi
            rw [getElem!_pos _ i (by omega)] at hki
            by_cases he : ((nodes[n]!).up).toNat = i
            · rw [if_pos he, if_pos (by omega)]
              show (ks[((nodes[n]!).up).toNat]!).2.2 ++ [(n : Int)] = _
              rw [hkj, he]
            · rw [if_neg he, if_neg (by omega), hki]
          · show nodes.length - (n + 1) < nodes.length - n
            omega
          · exact ⟨rfl, rfl, rfl, rfl, trivial⟩
          · rfl
          · refine Sub.perm (V := blk tb _ :: mapO mb _ :: slo encK 1 kv _ :: slo encSp 2 sv _ :: (slo encI 1 (.slice a1 ((ks[((nodes[n]!).up).toNat]!).2.2 ++ [(n : Int)]).length c1) ((ks[((nodes[n]!).up).toNat]!).2.2 ++ [(n : Int)]) :: ((ks.eraseIdx ((nodes[n]!).up).toNat).map inn ++ (L ++ R)))) ?_ (.cons _ (.cons _ (.cons _ (.cons _ (inns_in' _ hj)))))
            simp only [List.length_append, List.length_cons, List.length_nil, Nat.zero_add]
            infer_instance
        · repeat (first | refine Step.imp ?_ | refine Side.mk (by first | exact True.intro | omega | exact ⟨trivial, rfl⟩ | exact ⟨by omega, trivial, rfl⟩ | exact ⟨by omega, rfl⟩ | exact ⟨by omega, by omega, rfl⟩ | (simp only [List.length_cons, List.length_nil, List.length_append]; done) | (simp only [List.length_cons, List.length_nil, List.length_append]; omega) | decide +kernel) ?_ | refine GDraw_one (by decide +kernel) ?_ | refine New.mk fun _ => ?_ | refine NewS.mk fun _ _ => ?_)
          refine X_round (n + 1, ks) ?_ ?_ ?_ ?_ ?_
          · refine ⟨by show n + 1 ≤ nodes.length; omega, hks, fun i hi => ?_⟩
            show (ks[i]!).2.2 = kidsTo nodes (n + 1) i
            rw [kidsTo_succ, if_neg (by omega), hkk i hi]
          · show nodes.length - (n + 1) < nodes.length - n
            omega
          · exact ⟨rfl, rfl, rfl, rfl, trivial⟩
          · rfl
          · infer_instance
      · have hn2 : n = nodes.length := by omega
        subst hn2
        refine G_perm perm4.symm ?_
        refine G_freezeAll fun h2 le2 hin => ?_
        refine G_freezeS kv fun h3 le3 hkf => ?_
        refine G_freezeM mb fun h4 le4 hmf => ?_
        obtain ⟨r, hr40, hr⟩ := kids_wf hac
        have hkf' : FSl h4 kv encV 1 (ks.map (fun x => .slice x.1 x.2.2.length x.2.1)) := FSl.as (FSl.mono le4.le hkf) _ (fun _ => rfl)
        have hkl' : (ks.map (fun x : KS => Value.slice x.1 x.2.2.length x.2.1)).length = (kidsOf nodes).length := by rw [List.length_map, kidsOf_len, hks]
        have hkin : ∀ i < (kidsOf nodes).length, FSl h4 ((ks.map (fun x : KS => Value.slice x.1 x.2.2.length x.2.1))[i]!) encI 1 ((kidsOf nodes)[i]!) := fun i hi => by
          rw [kidsOf_len] at hi
          have hm := hin (ks[i]!) (by rw [getElem!_pos ks i (by omega)]; exact List.getElem_mem _)
          rw [kidsOf_get hi, ← hkk i hi]
          rw [getElem!_pos (ks.map _) i (by rw [List.length_map]; omega), List.getElem_map]
          rw [getElem!_pos ks i (by omega)] at hm ⊢
          exact FSl.mono le4.le (FSl.mono le3.le hm)
        have htot := order_len hac hups
        unfold orderF at htot
        haveI hcall : ∀ {L0 R1 R2 : List HP} [PickB L0 tb (.cells [cv, .map (some mb), kv, .slice none 0 0, .slice none 0 0, sv].toArray 183 (0, 0)) R1] [PickO R1 sv Sp encSp 2 (List.replicate nodes.length ⟨0, 0⟩) R2],
            CallT Tryz.prog 92 [.pointer (some ⟨tb, 0, none⟩)] h4 L0 True [] (fun K => ∀ h' ov lv, Hle h4 h' → Pt h' tb (.cells [cv, .map (some mb), kv, ov, lv, sv].toArray 183 (0, 0)) → FSl h' ov encI 1 (mkTree nodes).order → FSl h' lv encI 1 (mkTree nodes).leaves → FSl h' sv encSp 2 (mkTree nodes).spans → K (.tuple ([] : List Value).toArray) h' R2) :=
          by
            intro L0 R1 R2 p1 p2
            exact ⟨fun _ => ⟨_, by rw [List.append_nil]; exact p1.eq.trans (List.Perm.cons _ p2.eq), walk_own (f := 40) hkl' hkin hr (by rw [kidsOf_len]; omega) (fun i hi => by rw [kidsOf_len] at hi; rw [kidsOf_get hi]; have := hkl nodes.length i; omega) (kidsOf_len nodes).symm (by rw [kidsOf_len]; simp) (fun i _ _ => hr40 i) (by omega)⟩⟩
        repeat (first | refine Step.imp ?_ | refine Side.mk (by first | exact True.intro | omega | exact ⟨trivial, rfl⟩ | exact ⟨by omega, trivial, rfl⟩ | exact ⟨by omega, rfl⟩ | exact ⟨by omega, by omega, rfl⟩ | (simp only [List.length_cons, List.length_nil, List.length_append]; done) | (simp only [List.length_cons, List.length_nil, List.length_append]; omega) | decide +kernel) ?_ | refine GDraw_one (by decide +kernel) ?_ | refine New.mk fun _ => ?_ | refine NewS.mk fun _ _ => ?_)
        intro h5 ov lv5 hl5 q1 q2 q3 q4
        haveI : Le h4 h5 := ⟨hl5⟩
        have htree : IsTree h5 tb (mkTree nodes) := ⟨cv, mb, kv, ov, lv5, sv, _, _, _, q1, FSl.mono hl5 (FSl.mono le4.le (FSl.mono le3.le (FSl.mono le2.le hcl))), FSl.mono hl5 hkf', hkl', fun i hi => FSl.mono hl5 (hkin i hi), q2, q3, q4, ⟨hmf.fz.mono hl5⟩⟩
        have hle5 := le1.le.trans (le2.le.trans (le3.le.trans (le4.le.trans hl5)))
        have hfin := hT h5 tb ⟨hle5⟩ htree
        repeat (first | refine Step.imp ?_ | refine Side.mk (by first | exact True.intro | omega | exact ⟨trivial, rfl⟩ | exact ⟨by omega, trivial, rfl⟩ | exact ⟨by omega, rfl⟩ | exact ⟨by omega, by omega, rfl⟩ | (simp only [List.length_cons, List.length_nil, List.length_append]; done) | (simp only [List.length_cons, List.length_nil, List.length_append]; omega) | decide +kernel) ?_ | refine GDraw_one (by decide +kernel) ?_ | refine New.mk fun _ => ?_ | refine NewS.mk fun _ _ => ?_)
        exact Fin.val hfin rfl hle5⟩
end
end Go.Sl

/-
  A finished tree: what is within what, its leaves.
-/
namespace Go.Sl
open Go.Proofs
set_option linter.unusedVariables false
set_option linter.unusedSimpArgs false
set_option maxRecDepth 10000
set_option synthInstance.maxSize 2000
set_option synthInstance.maxHeartbeats 200000
set_option maxHeartbeats 1000000
section
variable {h : PHeap} {b : Nat} {T : Tr}
/-- Is one another one, or below it? -/
def withinF (nodes : List Nd) (i k : Int) : Prop := k ∈ above nodes i
instance (nodes : List Nd) (i k : Int) : Decidable (withinF nodes i k) := by unfold withinF; infer_instance
instance tree_above {L : List HP} {i : Int} [hI : IsTree h b T] [ha : Acyc T.nodes] : CallX Tryz.prog 112 [.pointer (some ⟨b, 0, none⟩), vI i] h L True (fun K => ∀ a c, K (.slice a (above T.nodes i).length c) h [slo encI 1 (.slice a (above T.nodes i).length c) (above T.nodes i)]) := ⟨fun _ => by
  obtain ⟨nv, mb, kv, ov, lv, sv, kvs, ty, fr, h1, h2, h3, h4, h5, h6, h7, h8, h8m⟩ := hI.out
  exact (above_own (L := L) (i0 := i)).spec trivial⟩
instance tree_leaves {L : List HP} [hI : IsTree h b T] : CallX Tryz.prog 45 [.pointer (some ⟨b, 0, none⟩)] h L (T.leaves.length ≤ 4294967296) (fun K => ∀ a c, K (.slice a T.leaves.length c) h [slo encI 1 (.slice a T.leaves.length c) T.leaves]) := ⟨fun hl => by
  obtain ⟨nv, mb, kv, ov, lv, sv, kvs, ty, fr, h1, h2, h3, h4, h5, h6, h7, h8, h8m⟩ := hI.out
  refine spec_enter Tryz.func45 rfl Tryz.ntmps45 Tryz.results45 (by simp) fun K R hT => ?_
  repeat' (first | refine Step.imp ?_ | refine Side.mk (by first | exact True.intro | omega | exact ⟨trivial, rfl⟩ | exact ⟨by omega, trivial, rfl⟩ | exact ⟨by omega, rfl⟩ | exact ⟨by omega, by omega, rfl⟩ | (simp only [List.length_cons, List.length_nil, List.length_append]; done) | (simp only [List.length_cons, List.length_nil, List.length_append]; omega) | decide +kernel) ?_ | refine GDraw_one (by decide +kernel) ?_ | refine New.mk fun _ => ?_ | refine NewS.mk fun _ _ => ?_ | refine Ways.mk (fun _ => ?_) (fun _ => ?_))
  all_goals first | (exfalso; contradiction) | skip
  all_goals (intro a c)
  all_goals repeat (first | refine Step.imp ?_ | refine Side.mk (by first | exact True.intro | omega | exact ⟨trivial, rfl⟩ | exact ⟨by omega, trivial, rfl⟩ | exact ⟨by omega, rfl⟩ | exact ⟨by omega, by omega, rfl⟩ | (simp only [List.length_cons, List.length_nil, List.length_append]; done) | (simp only [List.length_cons, List.length_nil, List.length_append]; omega) | decide +kernel) ?_ | refine GDraw_one (by decide +kernel) ?_ | refine New.mk fun _ => ?_ | refine NewS.mk fun _ _ => ?_)
  all_goals exact Fin.val (hT _ _) rfl (Hle.refl _)⟩
end
theorem treeErr_why {nodes : List Nd} {i : Nat} {why : Int} (h : treeErr nodes = some (i, why)) : why ≠ 0 := by
  unfold treeErr at h
  split at h
  · cases h; decide
  · obtain ⟨s, _, hs⟩ := List.exists_of_findSome?_eq_some h
    unfold firstBad at hs
    obtain ⟨j, _, hj⟩ := List.exists_of_findSome?_eq_some hs
    split at hj
    · cases hj; assumption
    · cases hj
theorem treeErr_all {nodes : List Nd} (h : treeErr nodes = none) : 0 < nodes.length ∧ nodes.length ≤ 32 ∧ ∀ s < 5, ∀ i < nodes.length, ckStep nodes s i = 0 := by
  unfold treeErr at h
  split at h
  · cases h
  · rename_i hn
    refine ⟨by omega, by omega, fun s hs i hi => ?_⟩
    rw [List.findSome?_eq_none_iff] at h
    have h1 := h s (List.mem_range.2 hs)
    unfold firstBad at h1
    rw [List.findSome?_eq_none_iff] at h1
    have h2 := h1 i (List.mem_range.2 hi)
    split at h2
    · cases h2
    · rename_i hz; exact Decidable.not_not.1 hz
theorem treeErr_ups {nodes : List Nd} (h : treeErr nodes = none) : UpsIn nodes := upsIn_of fun i hi => by
  have := (treeErr_all h).2.2 2 (by omega) i hi
  simpa [ckStep] using this
theorem treeErr_acyc {nodes : List Nd} (h : treeErr nodes = none) : Acyc nodes := acyc_of (treeErr_all h).2.1 (treeErr_ups h) fun i hi => by
  have := (treeErr_all h).2.2 3 (by omega) i hi
  simpa [ckStep] using this
theorem mkTree_order (nodes : List Nd) : (mkTree nodes).order = orderF nodes := by
  unfold mkTree finalW orderF; simp only; rw [foldW_order]; simp
theorem mkTree_leaves (nodes : List Nd) : (mkTree nodes).leaves = (orderF nodes).filter (leafK (kidsOf nodes)) := by
  unfold mkTree finalW orderF; simp only; rw [foldW_leaves]; simp
theorem mkTree_len {nodes : List Nd} (h : treeErr nodes = none) : TrLen (mkTree nodes) := ⟨kidsOf_len nodes, by unfold mkTree finalW; simp only; rw [foldW_spans]; simp, (treeErr_all h).2.1, by
  rw [mkTree_leaves]
  have h1 := List.length_filter_le (leafK (kidsOf nodes)) (orderF nodes)
  have h2 := order_len (treeErr_acyc h) (treeErr_ups h)
  have := (treeErr_all h).2.1
  omega⟩
end Go.Sl

/-
  Plain facts on spans and ranks.
-/
namespace Go.Sl
open Go.Proofs
set_option linter.unusedVariables false
set_option linter.unusedSimpArgs false
set_option maxRecDepth 10000
set_option synthInstance.maxSize 2000
set_option synthInstance.maxHeartbeats 200000
set_option maxHeartbeats 1000000
section
variable {kids : List (List Int)} {r : Int → Nat} (hr : ∀ i : Int, 0 ≤ i → i < kids.length → ∀ k ∈ kids[i.toNat]!, 0 ≤ k ∧ k < kids.length ∧ r k < r i)
include hr
theorem pre_fuel : ∀ (f g : Nat) (i : Int), 0 ≤ i → i < kids.length → r i < f → r i < g → pre kids f i = pre kids g i
  | 0, _, _, _, _, h, _ => by omega
  | _, 0, _, _, _, _, h => by omega
  | f + 1, g + 1, i, h0, h1, hf, hg => by
    simp only [pre]
    congr 1
    have : ∀ l : List Int, (∀ k ∈ l, k ∈ kids[i.toNat]!) → l.flatMap (pre kids f) = l.flatMap (pre kids g) := by
      intro l
      induction l with
      | nil => intro _; rfl
      | cons k l ih =>
        intro hl
        have hk := hr i h0 h1 k (hl k (by simp))
        rw [List.flatMap_cons, List.flatMap_cons, ih (fun x hx => hl x (by simp [hx])), pre_fuel f g k hk.1 hk.2.1 (by omega) (by omega)]
    exact this _ (fun _ h => h)
theorem pre_rank : ∀ (f : Nat) (i : Int), 0 ≤ i → i < kids.length → ∀ j ∈ pre kids f i, r j ≤ r i ∧ 0 ≤ j ∧ j < kids.length
  | 0, _, _, _, j, hj => by cases hj
  | f + 1, i, h0, h1, j, hj => by
    simp only [pre, List.mem_cons, List.mem_flatMap] at hj
    rcases hj with rfl | ⟨k, hk, hj⟩
    · exact ⟨Nat.le_refl _, h0, h1⟩
    · have h2 := hr i h0 h1 k hk
      have h3 := pre_rank f k h2.1 h2.2.1 j hj
      exact ⟨by omega, h3.2⟩
def SpanOk (kids : List (List Int)) (s : WS) (j : Int) : Prop := ∃ A B, s.leaves = A ++ ((pre kids 40 j).filter (leafK kids) ++ B) ∧ s.spans[j.toNat]! = ⟨A.length, A.length + ((pre kids 40 j).filter (leafK kids)).length⟩
omit hr in
theorem getSet {α : Type} [Inhabited α] {l : List α} {i j : Nat} {v : α} (hi : i < l.length) : (l.set i v)[j]! = if i = j then v else l[j]! := by
  by_cases hj : j < l.length
  · rw [getElem!_pos _ j (by simpa using hj), List.getElem_set, getElem!_pos l j hj]
  · rw [getElem!_neg _ j (by simpa using hj), getElem!_neg l j hj, if_neg (by omega)]
theorem down_out : ∀ (f : Nat) (i : Int) (s : WS), 0 ≤ i → i < kids.length → s.spans.length = kids.length → ∀ j : Int, 0 ≤ j → j ∉ pre kids f i → (downW kids f s i).spans[j.toNat]! = s.spans[j.toNat]!
  | 0, _, _, _, _, _, _, _, _ => rfl
  | f + 1, i, s, h0, h1, hs, j, hj, hn => by
    simp only [pre, List.mem_cons, List.mem_flatMap, not_or, not_exists, not_and] at hn
    have hfold : ∀ (l : List Int) (s : WS), (∀ k ∈ l, k ∈ kids[i.toNat]!) → s.spans.length = kids.length → (l.foldl (downW kids f) s).spans[j.toNat]! = s.spans[j.toNat]! := by
      intro l
      induction l with
      | nil => intro s _ _; rfl
      | cons k l ih =>
        intro s hl hs
        have hk := hr i h0 h1 k (hl k (by simp))
        rw [List.foldl_cons, ih _ (fun x hx => hl x (by simp [hx])) (by rw [downW_spans]; exact hs)]
        exact down_out f k s hk.1 hk.2.1 hs j hj (hn.2 k (hl k (by simp)))
    simp only [downW, closeW]
    have hlen : ((kids[i.toNat]!).foldl (downW kids f) (openW kids s i)).spans.length = kids.length := by rw [foldW_spans]; simp [openW, hs]
    rw [getSet (by omega), if_neg (by omega), hfold _ _ (fun _ h => h) (by simp [openW, hs])]
    simp only [openW]
    rw [getSet (by omega), if_neg (by omega)]
theorem down_good : ∀ (f : Nat) (i : Int) (s : WS) (X : Int → Prop), 0 ≤ i → i < kids.length → r i < f → f ≤ 40 → s.spans.length = kids.length → (∀ j, 0 ≤ j → X j → SpanOk kids s j) → ∀ j, 0 ≤ j → (X j ∨ j ∈ pre kids f i) → SpanOk kids (downW kids f s i) j
  | 0, _, _, _, _, _, h, _, _, _, _, _, _ => by omega
  | f + 1, i, s, X, h0, h1, hf, hf40, hs, hX, j, hj, hm => by
    have hkeep : ∀ (t : WS) (l : List Int), t.leaves = s.leaves ++ l → (∀ j : Int, 0 ≤ j → j ≠ i → t.spans[j.toNat]! = s.spans[j.toNat]!) → ∀ j, 0 ≤ j → X j ∧ j ≠ i → SpanOk kids t j := by
      intro t l ht hsp j hj hx
      obtain ⟨A, B, e1, e2⟩ := hX j hj hx.1
      exact ⟨A, B ++ l, by rw [ht, e1]; simp, by rw [hsp j hj hx.2, e2]⟩
    have hfold : ∀ (l : List Int) (s : WS) (Y : Int → Prop), (∀ k ∈ l, k ∈ kids[i.toNat]!) → s.spans.length = kids.length → (∀ j, 0 ≤ j → Y j → SpanOk kids s j) → ∀ j, 0 ≤ j → (Y j ∨ j ∈ l.flatMap (pre kids f)) → SpanOk kids (l.foldl (downW kids f) s) j := by
      intro l
      induction l with
      | nil => intro s Y _ _ hY j hj hm; rcases hm with h | h; exact hY j hj h; cases h
      | cons k l ih =>
        intro s Y hl hs hY j hj hm
        have hk := hr i h0 h1 k (hl k (by simp))
        rw [List.foldl_cons]
        refine ih _ (fun j => Y j ∨ j ∈ pre kids f k) (fun x hx => hl x (by simp [hx])) (by rw [downW_spans]; exact hs) (fun j hj hm => down_good f k s Y hk.1 hk.2.1 (by omega) (by omega) hs hY j hj hm) j hj ?_
        rw [List.flatMap_cons, List.mem_append] at hm
        rcases hm with h | h | h
        · exact .inl (.inl h)
        · exact .inl (.inr h)
        · exact .inr h
    obtain ⟨s1, hs1⟩ : ∃ s1, s1 = openW kids s i := ⟨_, rfl⟩
    have hs1s : s1.spans.length = kids.length := by rw [hs1]; simp [openW, hs]
    have hs1l : ∃ l, s1.leaves = s.leaves ++ l := by
      rw [hs1]; simp only [openW]
      split
      · exact ⟨[i], rfl⟩
      · exact ⟨[], by simp⟩
    obtain ⟨l1, hl1⟩ := hs1l
    have hs1i : s1.spans[i.toNat]! = ⟨s.leaves.length, (s.spans[i.toNat]!).to⟩ := by rw [hs1]; simp only [openW]; rw [getSet (by omega), if_pos rfl]
    have hs1j : ∀ j : Int, 0 ≤ j → j ≠ i → s1.spans[j.toNat]! = s.spans[j.toNat]! := fun j hj hne => by rw [hs1]; simp only [openW]; rw [getSet (by omega), if_neg (by omega)]
    have hY := hkeep s1 l1 hl1 hs1j
    have h2 := hfold (kids[i.toNat]!) s1 (fun j => X j ∧ j ≠ i) (fun _ h => h) hs1s hY
    obtain ⟨s2, hs2⟩ : ∃ s2, s2 = (kids[i.toNat]!).foldl (downW kids f) s1 := ⟨_, rfl⟩
    rw [← hs2] at h2
    have hs2s : s2.spans.length = kids.length := by rw [hs2, foldW_spans, hs1s]
    have hnot : i ∉ (kids[i.toNat]!).flatMap (pre kids f) := by
      intro hmem
      obtain ⟨k, hk, hik⟩ := List.mem_flatMap.1 hmem
      have h3 := hr i h0 h1 k hk
      have h4 := pre_rank hr f k h3.1 h3.2.1 i hik
      omega
    have hs2i : s2.spans[i.toNat]! = s1.spans[i.toNat]! := by
      have : ∀ (l : List Int) (s : WS), (∀ k ∈ l, k ∈ kids[i.toNat]!) → s.spans.length = kids.length → i ∉ l.flatMap (pre kids f) → (l.foldl (downW kids f) s).spans[i.toNat]! = s.spans[i.toNat]! := by
        intro l
        induction l with
        | nil => intro s _ _ _; rfl
        | cons k l ih =>
          intro s hl hs hn
          have hk := hr i h0 h1 k (hl k (by simp))
          rw [List.flatMap_cons, List.mem_append, not_or] at hn
          rw [List.foldl_cons, ih _ (fun x hx => hl x (by simp [hx])) (by rw [downW_spans]; exact hs) hn.2]
          exact down_out hr f k s hk.1 hk.2.1 hs i h0 hn.1
      rw [hs2]; exact this _ _ (fun _ h => h) hs1s hnot
    have hdown : downW kids (f + 1) s i = closeW i s2 := by simp only [downW]; rw [← hs1, ← hs2]
    have hleaves := downW_leaves kids (f + 1) s i
    rw [hdown] at hleaves ⊢
    simp only [closeW] at hleaves
    by_cases he : j = i
    · subst he
      have hp : pre kids (f + 1) j = pre kids 40 j := pre_fuel hr _ _ j h0 h1 (by omega) (by omega)
      refine ⟨s.leaves, [], ?_, ?_⟩
      · simp only [closeW]; rw [hleaves, hp]; simp
      · simp only [closeW]
        rw [getSet (by omega), if_pos rfl, hs2i, hs1i, hleaves, hp]
        simp
    · have hj2 : (X j ∧ j ≠ i) ∨ j ∈ (kids[i.toNat]!).flatMap (pre kids f) := by
        rcases hm with h | h
        · exact .inl ⟨h, he⟩
        · simp only [pre, List.mem_cons] at h
          rcases h with h | h
          · exact absurd h he
          · exact .inr h
      obtain ⟨A, B, e1, e2⟩ := h2 j hj hj2
      refine ⟨A, B, e1, ?_⟩
      simp only [closeW]
      rw [getSet (by omega), if_neg (by omega)]
      exact e2
end
end Go.Sl

/-
  A finished tree: its leaves' ranks and the spans.
-/
namespace Go.Sl
open Go.Proofs
set_option linter.unusedVariables false
set_option linter.unusedSimpArgs false
set_option maxRecDepth 10000
set_option synthInstance.maxSize 2000
set_option synthInstance.maxHeartbeats 200000
set_option maxHeartbeats 1000000
theorem nodup_inj {l : List Int} (hd : l.Nodup) {i j : Nat} (hi : i < l.length) (hj : j < l.length) (he : l[i]! = l[j]!) : i = j := by
  rw [getElem!_pos l i hi, getElem!_pos l j hj] at he
  have hp := List.pairwise_iff_getElem.1 (List.nodup_iff_pairwise_ne.1 hd)
  rcases Nat.lt_trichotomy i j with h | h | h
  · exact absurd he (hp i j hi hj h)
  · exact h
  · exact absurd he.symm (hp j i hj hi h)
def lvOf (nodes : List Nd) (i : Int) : List Int := (pre (kidsOf nodes) 40 i).filter (leafK (kidsOf nodes))
theorem roots_good {kids : List (List Int)} {r : Int → Nat} (hr : ∀ i : Int, 0 ≤ i → i < kids.length → ∀ k ∈ kids[i.toNat]!, 0 ≤ k ∧ k < kids.length ∧ r k < r i) (h40 : ∀ i, r i < 40) : ∀ (l : List Int) (s : WS) (Y : Int → Prop), (∀ k ∈ l, 0 ≤ k ∧ k < kids.length) → s.spans.length = kids.length → (∀ j, 0 ≤ j → Y j → SpanOk kids s j) → ∀ j, 0 ≤ j → (Y j ∨ j ∈ l.flatMap (pre kids 40)) → SpanOk kids (l.foldl (downW kids 40) s) j := by
  intro l
  induction l with
  | nil => intro s Y _ _ hY j hj hm; rcases hm with h | h; exact hY j hj h; cases h
  | cons k l ih =>
    intro s Y hl hs hY j hj hm
    have hk := hl k (by simp)
    rw [List.foldl_cons]
    refine ih _ (fun j => Y j ∨ j ∈ pre kids 40 k) (fun x hx => hl x (by simp [hx])) (by rw [downW_spans]; exact hs) (fun j hj hm => down_good hr 40 k s Y hk.1 hk.2 (h40 k) (Nat.le_refl _) hs hY j hj hm) j hj ?_
    rw [List.flatMap_cons, List.mem_append] at hm
    rcases hm with h | h | h
    · exact .inl (.inl h)
    · exact .inl (.inr h)
    · exact .inr h
section
variable {nodes : List Nd} (h : treeErr nodes = none)
include h
theorem tree_span_ok {i : Int} (h0 : 0 ≤ i) (h1 : i < nodes.length) : ∃ A B, (mkTree nodes).leaves = A ++ (lvOf nodes i ++ B) ∧ (mkTree nodes).spans[i.toNat]! = ⟨A.length, A.length + (lvOf nodes i).length⟩ := by
  obtain ⟨r, h40, hr⟩ := kids_wf (treeErr_acyc h)
  have hm : i ∈ orderF nodes := (order_mem (treeErr_acyc h) (treeErr_ups h) i).2 ⟨h0, h1⟩
  exact roots_good hr h40 (rootsTo nodes nodes.length) ⟨[], [], List.replicate nodes.length ⟨0, 0⟩⟩ (fun _ => False) (fun k hk => by rw [kidsOf_len]; have := mem_rootsTo.1 hk; exact ⟨this.1, this.2.1⟩) (by rw [kidsOf_len]; simp) (fun _ _ hf => hf.elim) i h0 (.inr hm)
theorem mem_pre {i j : Int} (h0 : 0 ≤ i) (h1 : i < nodes.length) : j ∈ pre (kidsOf nodes) 40 i ↔ withinF nodes j i := by
  obtain ⟨r, h40, hr⟩ := kids_wf (treeErr_acyc h)
  rw [kidsOf_len] at hr
  haveI := treeErr_acyc h
  have := pre_count hr 40 i ⟨h0, h1⟩ (h40 i) j
  unfold withinF
  rw [← List.count_pos_iff, ← List.count_pos_iff, this]
theorem mem_lv {i j : Int} (h0 : 0 ≤ i) (h1 : i < nodes.length) : j ∈ lvOf nodes i ↔ withinF nodes j i ∧ leafK (kidsOf nodes) j = true := by
  unfold lvOf; rw [List.mem_filter, mem_pre h h0 h1]
theorem within_range {i j : Int} (hw : withinF nodes j i) : 0 ≤ j ∧ j < nodes.length := by
  have _ := h
  refine Classical.byContradiction fun hn => ?_
  unfold withinF at hw
  rw [above_no hn] at hw; cases hw
theorem lv_ne {i : Int} (h0 : 0 ≤ i) (h1 : i < nodes.length) : lvOf nodes i ≠ [] := by
  obtain ⟨r, h40, hr⟩ := kids_wf (treeErr_acyc h)
  rw [kidsOf_len] at hr
  have : ∀ (f : Nat) (i : Int), 0 ≤ i → i < nodes.length → r i < f → (pre (kidsOf nodes) f i).filter (leafK (kidsOf nodes)) ≠ [] := by
    intro f
    induction f with
    | zero => intro i _ _ h; omega
    | succ f ih =>
      intro i h0 h1 hf
      simp only [pre]
      by_cases hl : leafK (kidsOf nodes) i = true
      · rw [List.filter_cons_of_pos hl]; simp
      · rw [List.filter_cons_of_neg hl]
        cases hk : (kidsOf nodes)[i.toNat]! with
        | nil => simp [leafK] at hl; exact absurd (by simpa using hk) hl
        | cons k l =>
          have h2 := hr i h0 h1 k (by rw [hk]; simp)
          rw [List.flatMap_cons, List.filter_append]
          intro he
          exact ih k h2.1 h2.2.1 (by omega) (List.append_eq_nil_iff.1 he).1
  exact this 40 i h0 h1 (h40 i)
theorem leafB_iff {i : Int} : (mkTree nodes).leafB i ↔ (0 ≤ i ∧ i < nodes.length) ∧ leafK (kidsOf nodes) i = true := by
  have _ := h
  unfold Tr.leafB leafK
  show (0 ≤ i ∧ i < (nodes.length : Int) ∧ ((kidsOf nodes)[i.toNat]!).length = 0) ↔ _
  simp only [decide_eq_true_eq, and_assoc]
theorem lv_leaf {i : Int} (hl : (mkTree nodes).leafB i) : lvOf nodes i = [i] := by
  have hl' := (leafB_iff h).1 hl
  have hk : (kidsOf nodes)[i.toNat]! = [] := by have := hl'.2; unfold leafK at this; rw [decide_eq_true_eq] at this; exact List.length_eq_zero_iff.1 this
  unfold lvOf
  have : pre (kidsOf nodes) 40 i = [i] := by
    show i :: ((kidsOf nodes)[i.toNat]!).flatMap (pre (kidsOf nodes) 39) = [i]
    rw [hk]; rfl
  rw [this, List.filter_cons_of_pos hl'.2]; rfl
/-- A leaf's rank. -/
theorem rank_ok {i : Int} (hl : (mkTree nodes).leafB i) : 0 ≤ (mkTree nodes).rankF i ∧ (mkTree nodes).rankF i < (mkTree nodes).leaves.length ∧ (mkTree nodes).leaves[((mkTree nodes).rankF i).toNat]! = i := by
  have hl' := (leafB_iff h).1 hl
  obtain ⟨A, B, e1, e2⟩ := tree_span_ok h hl'.1.1 hl'.1.2
  rw [lv_leaf h hl] at e1
  have hrk : (mkTree nodes).rankF i = A.length := by unfold Tr.rankF; rw [if_pos hl, e2]
  have hlen : (mkTree nodes).leaves.length = A.length + (1 + B.length) := by rw [e1]; simp; omega
  rw [hrk]
  refine ⟨by omega, by omega, ?_⟩
  rw [Int.toNat_natCast, e1, getElem!_pos _ A.length (by simp), List.getElem_append_right (by omega)]
  simp
theorem leaves_nodup : (mkTree nodes).leaves.Nodup := by
  rw [mkTree_leaves]; exact (order_nodup (treeErr_acyc h) (treeErr_ups h)).filter _
theorem mem_leaves {j : Int} : j ∈ (mkTree nodes).leaves ↔ (mkTree nodes).leafB j := by
  rw [mkTree_leaves, List.mem_filter, order_mem (treeErr_acyc h) (treeErr_ups h), leafB_iff h]
/-- The leaf of a rank. -/
theorem leaf_ok {k : Nat} (hk : k < (mkTree nodes).leaves.length) : (mkTree nodes).leafB ((mkTree nodes).leaves[k]!) ∧ (mkTree nodes).rankF ((mkTree nodes).leaves[k]!) = k := by
  have hm : (mkTree nodes).leaves[k]! ∈ (mkTree nodes).leaves := by rw [getElem!_pos _ k hk]; exact List.getElem_mem _
  have hl := (mem_leaves h).1 hm
  have hr := rank_ok h hl
  refine ⟨hl, ?_⟩
  have := nodup_inj (leaves_nodup h) (by omega) hk hr.2.2
  omega
/-- What lies in a span. -/
theorem span_leaf {i : Int} (h0 : 0 ≤ i) (h1 : i < nodes.length) : 0 ≤ ((mkTree nodes).spanF i).fr ∧ ((mkTree nodes).spanF i).fr < ((mkTree nodes).spanF i).to ∧ ((mkTree nodes).spanF i).to ≤ (mkTree nodes).leaves.length ∧
    ∀ k : Nat, k < (mkTree nodes).leaves.length → ((((mkTree nodes).spanF i).fr ≤ k ∧ (k : Int) < ((mkTree nodes).spanF i).to) ↔ withinF nodes ((mkTree nodes).leaves[k]!) i) := by
  obtain ⟨A, B, e1, e2⟩ := tree_span_ok h h0 h1
  have hs : (mkTree nodes).spanF i = ⟨A.length, A.length + (lvOf nodes i).length⟩ := by
    unfold Tr.spanF; rw [if_pos ⟨h0, h1⟩, e2]
  have hlen : (mkTree nodes).leaves.length = A.length + ((lvOf nodes i).length + B.length) := by rw [e1]; simp
  have hpos : 0 < (lvOf nodes i).length := List.length_pos_iff.2 (lv_ne h h0 h1)
  rw [hs]
  refine ⟨by show (0 : Int) ≤ A.length; omega, by show (A.length : Int) < A.length + (lvOf nodes i).length; omega, by show (A.length : Int) + (lvOf nodes i).length ≤ _; omega, fun k hk => ?_⟩
  show ((A.length : Int) ≤ k ∧ (k : Int) < A.length + (lvOf nodes i).length) ↔ _
  constructor
  · rintro ⟨hk1, hk2⟩
    have hm : (mkTree nodes).leaves[k]! ∈ lvOf nodes i := by
      rw [e1, getElem!_pos _ k (by simp; omega), List.getElem_append_right (by omega), List.getElem_append_left (by omega)]
      exact List.getElem_mem _
    exact ((mem_lv h h0 h1).1 hm).1
  · intro hw
    have hl := (leaf_ok h hk).1
    have hm : (mkTree nodes).leaves[k]! ∈ lvOf nodes i := (mem_lv h h0 h1).2 ⟨hw, ((leafB_iff h).1 hl).2⟩
    obtain ⟨t, ht, hte⟩ := List.mem_iff_getElem.1 hm
    have h3 : (mkTree nodes).leaves[A.length + t]! = (mkTree nodes).leaves[k]! := by
      rw [← hte, e1, getElem!_pos _ (A.length + t) (by simp; omega), List.getElem_append_right (by omega), List.getElem_append_left (by omega)]
      congr 1; omega
    have := nodup_inj (leaves_nodup h) (by omega) hk h3
    omega
end
end Go.Sl
