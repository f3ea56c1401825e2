/-
  Facts that the proof is made of (part 5 of 8).
-/
import Derived.Test.YtoinkcbioaipoaaMRCoordNil4
/-
  A tree that is made: the function New.
-/
namespace Go.Sl
open Go.Proofs
set_option linter.unusedVariables false
set_option linter.unusedSimpArgs false
set_option maxRecDepth 10000
set_option synthInstance.maxSize 2000
set_option synthInstance.maxHeartbeats 200000
set_option maxHeartbeats 1000000
section
variable {h : PHeap} {nodes : List Nd} {lv : Value}
instance tree_new {L : List HP} [hs : FSl h lv encNd 2 nodes] : CallX Try.prog 44 [lv] h L (nodes.length ≤ 4294967296)
    (fun K => (∀ i why h', Le h h' → treeErr nodes = some (i, why) → K (.tuple [.pointer none, vI (i : Nat), vI why].toArray) h' []) ∧ (treeErr nodes = none → ∀ h' b, Le h h' → IsTree h' b (mkTree nodes) → K (.tuple [.pointer (some ⟨b, 0, none⟩), vI 0, vI 0].toArray) h' [])) := ⟨fun hbig => by
  refine spec_enter Try.func44 rfl Try.ntmps44 Try.results44 (by simp) fun K R hT => ?_
  by_cases hlen : nodes.length = 0 ∨ 32 < nodes.length
  · have he := hT.1 0 5 h ⟨Hle.refl h⟩ (by unfold treeErr; rw [if_pos hlen])
    repeat' (first | refine Step.imp ?_ | refine Side.mk (by first | exact True.intro | omega | exact ⟨trivial, rfl⟩ | exact ⟨by omega, trivial, rfl⟩ | exact ⟨by omega, rfl⟩ | exact ⟨by omega, by omega, rfl⟩ | (simp only [List.length_cons, List.length_nil, List.length_append]; done) | (simp only [List.length_cons, List.length_nil, List.length_append]; omega) | decide +kernel) ?_ | refine GDraw_one (by decide +kernel) ?_ | refine New.mk fun _ => ?_ | refine NewS.mk fun _ _ => ?_ | refine Ways.mk (fun _ => ?_) (fun _ => ?_))
    all_goals first | exact Fin.val he rfl (Hle.refl _) | (exfalso; omega)
  · repeat' (first | refine Step.imp ?_ | refine Side.mk (by first | exact True.intro | omega | exact ⟨trivial, rfl⟩ | exact ⟨by omega, trivial, rfl⟩ | exact ⟨by omega, rfl⟩ | exact ⟨by omega, by omega, rfl⟩ | (simp only [List.length_cons, List.length_nil, List.length_append]; done) | (simp only [List.length_cons, List.length_nil, List.length_append]; omega) | decide +kernel) ?_ | refine GDraw_one (by decide +kernel) ?_ | refine New.mk fun _ => ?_ | refine NewS.mk fun _ _ => ?_ | refine Ways.mk (fun _ => ?_) (fun _ => ?_))
    all_goals first | (exfalso; omega) | skip
    refine GDraw_cut (σ := Nat × Option Addr × Nat × Nat × Nat × Nat) (fun s => [(5, .pointer (some ⟨s.1, 0, none⟩)), (0, lv)])
      (fun s => blk s.1 (.cells [.slice s.2.1 nodes.length s.2.2.1, .map (some s.2.2.2.1), .slice (some ⟨s.2.2.2.2.1, 0, none⟩) nodes.length nodes.length, .slice none 0 0, .slice none 0 0, .slice (some ⟨s.2.2.2.2.2, 0, none⟩) nodes.length nodes.length].toArray 118 (0, 0)) ::
        mapO s.2.2.2.1 [] :: slo encNd 2 (.slice s.2.1 nodes.length s.2.2.1) nodes :: mk0 [.slice none 0 0] (.slice (some ⟨s.2.2.2.2.1, 0, none⟩) nodes.length nodes.length) nodes.length :: mk0 [vI 0, vI 0] (.slice (some ⟨s.2.2.2.2.2, 0, none⟩) nodes.length nodes.length) nodes.length :: (L ++ R)) ?_ ?_
    · refine GDraw_many (by decide +kernel) ?_
      repeat' (first | refine Step.imp ?_ | refine Side.mk (by first | exact True.intro | omega) ?_ | (refine And.intro (fun h => ?_) ?_; exact absurd h (by decide +kernel)) | refine And.intro (fun _ => GSh_of rfl ?_) ?_ | exact True.intro | (refine fun _ _ => GS_app inferInstance ?_) | refine hard_makeMap fun _ => And.intro inferInstance ?_ | refine hard_makeSlice (by omega) fun _ => And.intro inferInstance ?_ | refine hard_box fun _ => And.intro inferInstance ?_ | refine hard_callT' (by omega) ?_ | refine hard_callV' (by omega) ?_ | refine GS_hardS [1, 2, 5, 8, 10] (by decide +kernel) ?_ | refine GS_soft 0 (by decide +kernel) rfl ?_ | refine GS_soft 3 (by decide +kernel) rfl ?_ | refine GS_soft 4 (by decide +kernel) rfl ?_ | refine GS_soft 6 (by decide +kernel) rfl ?_ | refine GS_soft 7 (by decide +kernel) rfl ?_ | refine GS_soft 9 (by decide +kernel) rfl ?_ | refine GS_soft 11 (by decide +kernel) rfl ?_ | refine GS_end (by decide +kernel) ?_)
      all_goals (refine X_cut (?_, ?_, ?_, ?_, ?_, ?_) ?_ ?_; rotate_left 6; (refine sub_head ?_; infer_instance); exact ⟨rfl, rfl, trivial⟩)
    rintro ⟨tb, ca, cc, mb, kb, sb⟩
    simp only
    have h32 : nodes.length ≤ 32 := by omega
    refine X_conv (x := mk0 [.slice none 0 0] (.slice (some ⟨kb, 0, none⟩) nodes.length nodes.length) nodes.length) (y := slo encK 1 (.slice (some ⟨kb, 0, none⟩) nodes.length nodes.length) (List.replicate nodes.length ((none, 0, []) : KS))) (fun bs hb => mk0_slo (enc := encK) (y := ((none, 0, []) : KS)) rfl (by simp [Value.oneCell']) hb) ?_
    refine X_conv (x := mk0 [vI 0, vI 0] (.slice (some ⟨sb, 0, none⟩) nodes.length nodes.length) nodes.length) (y := slo encSp 2 (.slice (some ⟨sb, 0, none⟩) nodes.length nodes.length) (List.replicate nodes.length ⟨0, 0⟩)) (fun bs hb => mk0_slo (enc := encSp) (y := ⟨0, 0⟩) rfl (by simp [Value.oneCell']) hb) ?_
    refine X_freezeS (.slice ca nodes.length cc) fun h1 le1 hcl => ?_
    generalize hkv : (Value.slice (some ⟨kb, 0, none⟩) nodes.length nodes.length) = kv
    generalize hsv : (Value.slice (some ⟨sb, 0, none⟩) nodes.length nodes.length) = sv
    generalize hcv : (Value.slice ca nodes.length cc) = cv at hcl ⊢
    repeat (first | refine Step.imp ?_ | refine Side.mk (by first | exact True.intro | omega | exact ⟨trivial, rfl⟩ | exact ⟨by omega, trivial, rfl⟩ | exact ⟨by omega, rfl⟩ | exact ⟨by omega, by omega, rfl⟩ | (simp only [List.length_cons, List.length_nil, List.length_append]; done) | (simp only [List.length_cons, List.length_nil, List.length_append]; omega) | decide +kernel) ?_ | refine GDraw_one (by decide +kernel) ?_ | refine New.mk fun _ => ?_ | refine NewS.mk fun _ _ => ?_)
    refine G_loop (σ := Nat) (fun s => s ≤ 5 ∧ ∀ s' < s, ∀ j < nodes.length, ckStep nodes s' j = 0) (fun s => 5 - s) (fun s => [(30, vI s), (5, .pointer (some ⟨tb, 0, none⟩)), (0, lv)]) (fun _ => h1)
      (fun s => blk tb (.cells [cv, .map (some mb), kv, .slice none 0 0, .slice none 0 0, sv].toArray 118 (0, 0)) :: mapO mb (if s < 2 then [] else namesTo nodes nodes.length) :: slo encK 1 kv (List.replicate nodes.length ((none, 0, []) : KS)) :: slo encSp 2 sv (List.replicate nodes.length ⟨0, 0⟩) :: (L ++ R))
      0 ⟨by omega, fun s' hs' => by omega⟩ ⟨rfl, rfl, rfl, trivial⟩ rfl ?_ ?_
    · simp only [show (0 : Nat) < 2 from by omega, if_true]
      infer_instance
    rintro s ⟨hs5, hall⟩
    repeat (first | refine Step.imp ?_ | refine Side.mk (by first | exact True.intro | omega | exact ⟨trivial, rfl⟩ | exact ⟨by omega, trivial, rfl⟩ | exact ⟨by omega, rfl⟩ | exact ⟨by omega, by omega, rfl⟩ | (simp only [List.length_cons, List.length_nil, List.length_append]; done) | (simp only [List.length_cons, List.length_nil, List.length_append]; omega) | decide +kernel) ?_ | refine GDraw_one (by decide +kernel) ?_ | refine New.mk fun _ => ?_ | refine NewS.mk fun _ _ => ?_)
    refine ⟨fun hlt => ?_, fun hge => ?_⟩
    · have hups : 3 ≤ s → UpsIn nodes := fun h3 => upsIn_of fun i hi => by have := hall 2 (by omega) i hi; simpa [ckStep] using this
      have hac : 4 ≤ s → Acyc nodes := fun h4 => acyc_of h32 (hups (by omega)) fun i hi => by have := hall 3 (by omega) i hi; simpa [ckStep] using this
      repeat (first | refine Step.imp ?_ | refine Side.mk (by first | exact True.intro | omega | exact ⟨trivial, rfl⟩ | exact ⟨by omega, trivial, rfl⟩ | exact ⟨by omega, rfl⟩ | exact ⟨by omega, by omega, rfl⟩ | (simp only [List.length_cons, List.length_nil, List.length_append]; done) | (simp only [List.length_cons, List.length_nil, List.length_append]; omega) | decide +kernel) ?_ | refine GDraw_one (by decide +kernel) ?_ | refine New.mk fun _ => ?_ | refine NewS.mk fun _ _ => ?_)
      refine G_loop (σ := Nat) (fun i => i ≤ nodes.length ∧ ∀ j < i, ckStep nodes s j = 0) (fun i => nodes.length - i) (fun i => [(35, vI i), (34, vI nodes.length), (30, vI s), (6, vI s), (5, .pointer (some ⟨tb, 0, none⟩)), (0, lv)]) (fun _ => h1)
        (fun i => blk tb (.cells [cv, .map (some mb), kv, .slice none 0 0, .slice none 0 0, sv].toArray 118 (0, 0)) :: mapO mb (if s = 0 then [] else if s = 1 then namesTo nodes i else namesTo nodes nodes.length) :: slo encK 1 kv (List.replicate nodes.length ((none, 0, []) : KS)) :: slo encSp 2 sv (List.replicate nodes.length ⟨0, 0⟩) :: (L ++ R))
        0 ⟨by omega, fun s' hs' => by omega⟩ ⟨rfl, rfl, rfl, rfl, rfl, rfl, trivial⟩ rfl ?_ ?_
      · have : (if s < 2 then [] else namesTo nodes nodes.length) = (if s = 0 then [] else if s = 1 then namesTo nodes 0 else namesTo nodes nodes.length) := by
          by_cases h0 : s = 0
          · simp [h0]
          · by_cases h1 : s = 1
            · simp [h1, namesTo]
            · rw [if_neg (by omega), if_neg h0, if_neg h1]
        rw [this]
        infer_instance
      rintro i ⟨hin, hbelow⟩
      repeat (first | refine Step.imp ?_ | refine Side.mk (by first | exact True.intro | omega | exact ⟨trivial, rfl⟩ | exact ⟨by omega, trivial, rfl⟩ | exact ⟨by omega, rfl⟩ | exact ⟨by omega, by omega, rfl⟩ | (simp only [List.length_cons, List.length_nil, List.length_append]; done) | (simp only [List.length_cons, List.length_nil, List.length_append]; omega) | decide +kernel) ?_ | refine GDraw_one (by decide +kernel) ?_ | refine New.mk fun _ => ?_ | refine NewS.mk fun _ _ => ?_)
      refine ⟨fun hilt => ?_, fun hige => ?_⟩
      · repeat (first | refine Step.imp ?_ | refine Side.mk (by first | exact True.intro | omega | exact ⟨trivial, rfl⟩ | exact ⟨by omega, trivial, rfl⟩ | exact ⟨by omega, rfl⟩ | exact ⟨by omega, by omega, rfl⟩ | (simp only [List.length_cons, List.length_nil, List.length_append]; done) | (simp only [List.length_cons, List.length_nil, List.length_append]; omega) | decide +kernel) ?_ | refine GDraw_one (by decide +kernel) ?_ | refine New.mk fun _ => ?_ | refine NewS.mk fun _ _ => ?_)
        refine Side.mk ⟨by omega, h32, by omega, hups, hac, fun e => by rw [if_neg (by omega), if_pos e]⟩ ?_
        repeat (first | refine Step.imp ?_ | refine Side.mk (by first | exact True.intro | omega | exact ⟨trivial, rfl⟩ | exact ⟨by omega, trivial, rfl⟩ | exact ⟨by omega, rfl⟩ | exact ⟨by omega, by omega, rfl⟩ | (simp only [List.length_cons, List.length_nil, List.length_append]; done) | (simp only [List.length_cons, List.length_nil, List.length_append]; omega) | decide +kernel) ?_ | refine GDraw_one (by decide +kernel) ?_ | refine New.mk fun _ => ?_ | refine NewS.mk fun _ _ => ?_)
        refine ⟨fun hbad => ?_, fun hgood => ?_⟩
        · have he := hT.1 i (ckStep nodes s i) h1 le1 (treeErr_some hlen (by omega) (by omega) hall hbelow hbad)
          repeat (first | refine Step.imp ?_ | refine Side.mk (by first | exact True.intro | omega | exact ⟨trivial, rfl⟩ | exact ⟨by omega, trivial, rfl⟩ | exact ⟨by omega, rfl⟩ | exact ⟨by omega, by omega, rfl⟩ | (simp only [List.length_cons, List.length_nil, List.length_append]; done) | (simp only [List.length_cons, List.length_nil, List.length_append]; omega) | decide +kernel) ?_ | refine GDraw_one (by decide +kernel) ?_ | refine New.mk fun _ => ?_ | refine NewS.mk fun _ _ => ?_)
          exact Fin.val he rfl le1.le
        · repeat (first | refine Step.imp ?_ | refine Side.mk (by first | exact True.intro | omega | exact ⟨trivial, rfl⟩ | exact ⟨by omega, trivial, rfl⟩ | exact ⟨by omega, rfl⟩ | exact ⟨by omega, by omega, rfl⟩ | (simp only [List.length_cons, List.length_nil, List.length_append]; done) | (simp only [List.length_cons, List.length_nil, List.length_append]; omega) | decide +kernel) ?_ | refine GDraw_one (by decide +kernel) ?_ | refine New.mk fun _ => ?_ | refine NewS.mk fun _ _ => ?_)
          have hg0 : ckStep nodes s i = 0 := Decidable.not_not.1 hgood
          have hm : mapAft nodes s i (if s = 0 then [] else if s = 1 then namesTo nodes i else namesTo nodes nodes.length) = (if s = 0 then [] else if s = 1 then namesTo nodes (i + 1) else namesTo nodes nodes.length) := by
            unfold mapAft
            by_cases h1 : s = 1
            · subst h1
              have : ckTwice nodes i = 0 := by simpa [ckStep] using hg0
              simp [this]
            · simp [h1]
          rw [hm]
          refine X_round (i + 1) ?_ ?_ ?_ ?_ ?_
          · refine ⟨by omega, fun j hj => ?_⟩
            rcases Nat.lt_or_ge j i with h | h
            · exact hbelow j h
            · have : j = i := by omega
              subst this; exact hg0
          · show nodes.length - (i + 1) < nodes.length - i
            omega
          · exact ⟨rfl, rfl, rfl, rfl, rfl, rfl, trivial⟩
          · rfl
          · infer_instance
      · have hi2 : i = nodes.length := by omega
        subst hi2
        repeat (first | refine Step.imp ?_ | refine Side.mk (by first | exact True.intro | omega | exact ⟨trivial, rfl⟩ | exact ⟨by omega, trivial, rfl⟩ | exact ⟨by omega, rfl⟩ | exact ⟨by omega, by omega, rfl⟩ | (simp only [List.length_cons, List.length_nil, List.length_append]; done) | (simp only [List.length_cons, List.length_nil, List.length_append]; omega) | decide +kernel) ?_ | refine GDraw_one (by decide +kernel) ?_ | refine New.mk fun _ => ?_ | refine NewS.mk fun _ _ => ?_)
        refine X_round (s + 1) ?_ ?_ ?_ ?_ ?_
        · refine ⟨by omega, fun s' hs' => ?_⟩
          rcases Nat.lt_or_ge s' s with h | h
          · exact hall s' h
          · have : s' = s := by omega
            subst this; exact hbelow
        · show 5 - (s + 1) < 5 - s
          omega
        · exact ⟨rfl, rfl, rfl, trivial⟩
        · rfl
        · have : (if s = 0 then [] else if s = 1 then namesTo nodes nodes.length else namesTo nodes nodes.length) = (if s + 1 < 2 then [] else namesTo nodes nodes.length) := by
            by_cases h0 : s = 0
            · simp [h0]
            · rw [if_neg h0, if_neg (show ¬ s + 1 < 2 by omega)]; simp
          rw [this]
          infer_instance
    · have hs6 : s = 5 := by omega
      subst hs6
      have hups : UpsIn nodes := upsIn_of fun i hi => by have := hall 2 (by omega) i hi; simpa [ckStep] using this
      have hac : Acyc nodes := acyc_of h32 hups fun i hi => by have := hall 3 (by omega) i hi; simpa [ckStep] using this
      have hnone := treeErr_none hlen hall
      have hT := hT.2 hnone
      repeat (first | refine Step.imp ?_ | refine Side.mk (by first | exact True.intro | omega | exact ⟨trivial, rfl⟩ | exact ⟨by omega, trivial, rfl⟩ | exact ⟨by omega, rfl⟩ | exact ⟨by omega, by omega, rfl⟩ | (simp only [List.length_cons, List.length_nil, List.length_append]; done) | (simp only [List.length_cons, List.length_nil, List.length_append]; omega) | decide +kernel) ?_ | refine GDraw_one (by decide +kernel) ?_ | refine New.mk fun _ => ?_ | refine NewS.mk fun _ _ => ?_)
      simp only [show ¬ (5 : Nat) < 2 from by omega, if_false]
      refine G_inns nodes.length ?_
      refine G_perm perm4 ?_
      have hkl : ∀ n i, (kidsTo nodes n i).length ≤ n := fun n i => by
        have := List.length_filter_le (fun j => decide ((nodes[j]!).up = (i : Int))) (List.range n)
        unfold kidsTo; rw [List.length_map]; simpa using this
      refine G_loop (σ := Nat × List KS) (fun s => s.1 ≤ nodes.length ∧ s.2.length = nodes.length ∧ ∀ i < nodes.length, (s.2[i]!).2.2 = kidsTo nodes s.1 i) (fun s => nodes.length - s.1) (fun s => [(50, vI s.1), (49, vI nodes.length), (48, lv), (5, .pointer (some ⟨tb, 0, none⟩))]) (fun _ => h1)
        (fun s => blk tb (.cells [cv, .map (some mb), kv, .slice none 0 0, .slice none 0 0, sv].toArray 118 (0, 0)) :: mapO mb (namesTo nodes nodes.length) :: slo encK 1 kv s.2 :: slo encSp 2 sv (List.replicate nodes.length ⟨0, 0⟩) :: (s.2.map inn ++ (L ++ R)))
        (0, List.replicate nodes.length ((none, 0, []) : KS)) ⟨by omega, by simp, fun i hi => by rw [getElem!_pos _ i (by simpa using hi)]; simp [kidsTo]⟩ ⟨rfl, rfl, rfl, rfl, trivial⟩ rfl inferInstance ?_
      rintro ⟨n, ks⟩ ⟨hn, hks, hkk⟩
      simp only at hn hks hkk ⊢
      repeat (first | refine Step.imp ?_ | refine Side.mk (by first | exact True.intro | omega | exact ⟨trivial, rfl⟩ | exact ⟨by omega, trivial, rfl⟩ | exact ⟨by omega, rfl⟩ | exact ⟨by omega, by omega, rfl⟩ | (simp only [List.length_cons, List.length_nil, List.length_append]; done) | (simp only [List.length_cons, List.length_nil, List.length_append]; omega) | decide +kernel) ?_ | refine GDraw_one (by decide +kernel) ?_ | refine New.mk fun _ => ?_ | refine NewS.mk fun _ _ => ?_)
      refine ⟨fun hlt => ?_, fun hge => ?_⟩
      · have hupn := hups.eq n (by omega)
        repeat (first | refine Step.imp ?_ | refine Side.mk (by first | exact True.intro | omega | exact ⟨trivial, rfl⟩ | exact ⟨by omega, trivial, rfl⟩ | exact ⟨by omega, rfl⟩ | exact ⟨by omega, by omega, rfl⟩ | (simp only [List.length_cons, List.length_nil, List.length_append]; done) | (simp only [List.length_cons, List.length_nil, List.length_append]; omega) | decide +kernel) ?_ | refine GDraw_one (by decide +kernel) ?_ | refine New.mk fun _ => ?_ | refine NewS.mk fun _ _ => ?_)
        refine ⟨fun hup => ?_, fun hup => ?_⟩
        · have hj : ((nodes[n]!).up).toNat < ks.length := by omega
          have hkj := hkk ((nodes[n]!).up).toNat (by omega)
          have hkjl := hkl n ((nodes[n]!).up).toNat
          rw [← hkj] at hkjl
          refine G_perm (.cons _ (.cons _ (.cons _ (.cons _ (.cons _ (inns_out' _ hj)))))) ?_
          repeat (first | refine GDraw_O (.slice (ks[((nodes[n]!).up).toNat]!).1 (ks[((nodes[n]!).up).toNat]!).2.2.length (ks[((nodes[n]!).up).toNat]!).2.1) (by decide +kernel) ?_ | refine Step.imp ?_ | refine Side.mk (by first | exact True.intro | omega | exact ⟨trivial, rfl⟩ | exact ⟨by omega, trivial, rfl⟩ | exact ⟨by omega, rfl⟩ | exact ⟨by omega, by omega, rfl⟩ | (simp only [List.length_cons, List.length_nil, List.length_append]; done) | (simp only [List.length_cons, List.length_nil, List.length_append]; omega) | decide +kernel) ?_ | refine GDraw_one (by decide +kernel) ?_ | refine New.mk fun _ => ?_ | refine NewS.mk fun _ _ => ?_)
          rename_i bx b1 a1 c1
          haveI : Mk encK [.slice a1 ((ks[((nodes[n]!).up).toNat]!).2.2.length + 1) c1] (a1, c1, (ks[((nodes[n]!).up).toNat]!).2.2 ++ [(n : Int)]) := ⟨by simp [encK]⟩
          repeat (first | refine Step.imp ?_ | refine Side.mk (by first | exact True.intro | omega | exact ⟨trivial, rfl⟩ | exact ⟨by omega, trivial, rfl⟩ | exact ⟨by omega, rfl⟩ | exact ⟨by omega, by omega, rfl⟩ | (simp only [List.length_cons, List.length_nil, List.length_append]; done) | (simp only [List.length_cons, List.length_nil, List.length_append]; omega) | decide +kernel) ?_ | refine GDraw_one (by decide +kernel) ?_ | refine New.mk fun _ => ?_ | refine NewS.mk fun _ _ => ?_)
          refine X_round (n + 1, ks.set ((nodes[n]!).up).toNat (a1, c1, (ks[((nodes[n]!).up).toNat]!).2.2 ++ [(n : Int)])) ?_ ?_ ?_ ?_ ?_
          · refine ⟨by show n + 1 ≤ nodes.length; omega, by simpa using hks, fun i hi => ?_⟩
            show ((ks.set ((nodes[n]!).up).toNat (a1, c1, (ks[((nodes[n]!).up).toNat]!).2.2 ++ [(n : Int)]))[i]!).2.2 = kidsTo nodes (n + 1) i
            rw [getElem!_pos _ i (by simpa [hks] using hi), List.getElem_set, kidsTo_succ]
            have hki := hkk i hi
            rw [getElem!_pos _ i (by omega)] at hki
            by_cases he : ((nodes[n]!).up).toNat = i
            · rw [if_pos he, if_pos (by omega)]
              show (ks[((nodes[n]!).up).toNat]!).2.2 ++ [(n : Int)] = _
              rw [hkj, he]
            · rw [if_neg he, if_neg (by omega), hki]
          · show nodes.length - (n + 1) < nodes.length - n
            omega
          · exact ⟨rfl, rfl, rfl, rfl, trivial⟩
          · rfl
          · refine Sub.perm (V := blk tb _ :: mapO mb _ :: slo encK 1 kv _ :: slo encSp 2 sv _ :: (slo encI 1 (.slice a1 ((ks[((nodes[n]!).up).toNat]!).2.2 ++ [(n : Int)]).length c1) ((ks[((nodes[n]!).up).toNat]!).2.2 ++ [(n : Int)]) :: ((ks.eraseIdx ((nodes[n]!).up).toNat).map inn ++ (L ++ R)))) ?_ (.cons _ (.cons _ (.cons _ (.cons _ (inns_in' _ hj)))))
            simp only [List.length_append, List.length_cons, List.length_nil, Nat.zero_add]
            infer_instance
        · repeat (first | refine Step.imp ?_ | refine Side.mk (by first | exact True.intro | omega | exact ⟨trivial, rfl⟩ | exact ⟨by omega, trivial, rfl⟩ | exact ⟨by omega, rfl⟩ | exact ⟨by omega, by omega, rfl⟩ | (simp only [List.length_cons, List.length_nil, List.length_append]; done) | (simp only [List.length_cons, List.length_nil, List.length_append]; omega) | decide +kernel) ?_ | refine GDraw_one (by decide +kernel) ?_ | refine New.mk fun _ => ?_ | refine NewS.mk fun _ _ => ?_)
          refine X_round (n + 1, ks) ?_ ?_ ?_ ?_ ?_
          · refine ⟨by show n + 1 ≤ nodes.length; omega, hks, fun i hi => ?_⟩
            show (ks[i]!).2.2 = kidsTo nodes (n + 1) i
            rw [kidsTo_succ, if_neg (by omega), hkk i hi]
          · show nodes.length - (n + 1) < nodes.length - n
            omega
          · exact ⟨rfl, rfl, rfl, rfl, trivial⟩
          · rfl
          · infer_instance
      · have hn2 : n = nodes.length := by omega
        subst hn2
        refine G_perm perm4.symm ?_
        refine G_freezeAll fun h2 le2 hin => ?_
        refine G_freezeS kv fun h3 le3 hkf => ?_
        refine G_freezeM mb fun h4 le4 hmf => ?_
        obtain ⟨r, hr40, hr⟩ := kids_wf hac
        have hkf' : FSl h4 kv encV 1 (ks.map (fun x => .slice x.1 x.2.2.length x.2.1)) := FSl.as (FSl.mono le4.le hkf) _ (fun _ => rfl)
        have hkl' : (ks.map (fun x : KS => Value.slice x.1 x.2.2.length x.2.1)).length = (kidsOf nodes).length := by rw [List.length_map, kidsOf_len, hks]
        have hkin : ∀ i < (kidsOf nodes).length, FSl h4 ((ks.map (fun x : KS => Value.slice x.1 x.2.2.length x.2.1))[i]!) encI 1 ((kidsOf nodes)[i]!) := fun i hi => by
          rw [kidsOf_len] at hi
          have hm := hin (ks[i]!) (by rw [getElem!_pos ks i (by omega)]; exact List.getElem_mem _)
          rw [kidsOf_get hi, ← hkk i hi]
          rw [getElem!_pos (ks.map _) i (by rw [List.length_map]; omega), List.getElem_map]
          rw [getElem!_pos ks i (by omega)] at hm ⊢
          exact FSl.mono le4.le (FSl.mono le3.le hm)
        have htot := order_len hac hups
        unfold orderF at htot
        haveI hcall : ∀ {L0 R1 R2 : List HP} [PickB L0 tb (.cells [cv, .map (some mb), kv, .slice none 0 0, .slice none 0 0, sv].toArray 118 (0, 0)) R1] [PickO R1 sv Sp encSp 2 (List.replicate nodes.length ⟨0, 0⟩) R2],
            CallT Try.prog 63 [.pointer (some ⟨tb, 0, none⟩)] h4 L0 True [] (fun K => ∀ h' ov lv, Hle h4 h' → Pt h' tb (.cells [cv, .map (some mb), kv, ov, lv, sv].toArray 118 (0, 0)) → FSl h' ov encI 1 (mkTree nodes).order → FSl h' lv encI 1 (mkTree nodes).leaves → FSl h' sv encSp 2 (mkTree nodes).spans → K (.tuple ([] : List Value).toArray) h' R2) :=
          by
            intro L0 R1 R2 p1 p2
            exact ⟨fun _ => ⟨_, by rw [List.append_nil]; exact p1.eq.trans (List.Perm.cons _ p2.eq), walk_own (f := 40) hkl' hkin hr (by rw [kidsOf_len]; omega) (fun i hi => by rw [kidsOf_len] at hi; rw [kidsOf_get hi]; have := hkl nodes.length i; omega) (kidsOf_len nodes).symm (by rw [kidsOf_len]; simp) (fun i _ _ => hr40 i) (by omega)⟩⟩
        repeat (first | refine Step.imp ?_ | refine Side.mk (by first | exact True.intro | omega | exact ⟨trivial, rfl⟩ | exact ⟨by omega, trivial, rfl⟩ | exact ⟨by omega, rfl⟩ | exact ⟨by omega, by omega, rfl⟩ | (simp only [List.length_cons, List.length_nil, List.length_append]; done) | (simp only [List.length_cons, List.length_nil, List.length_append]; omega) | decide +kernel) ?_ | refine GDraw_one (by decide +kernel) ?_ | refine New.mk fun _ => ?_ | refine NewS.mk fun _ _ => ?_)
        intro h5 ov lv5 hl5 q1 q2 q3 q4
        haveI : Le h4 h5 := ⟨hl5⟩
        have htree : IsTree h5 tb (mkTree nodes) := ⟨cv, mb, kv, ov, lv5, sv, _, _, _, q1, FSl.mono hl5 (FSl.mono le4.le (FSl.mono le3.le (FSl.mono le2.le hcl))), FSl.mono hl5 hkf', hkl', fun i hi => FSl.mono hl5 (hkin i hi), q2, q3, q4, ⟨hmf.fz.mono hl5⟩⟩
        have hle5 := le1.le.trans (le2.le.trans (le3.le.trans (le4.le.trans hl5)))
        have hfin := hT h5 tb ⟨hle5⟩ htree
        repeat (first | refine Step.imp ?_ | refine Side.mk (by first | exact True.intro | omega | exact ⟨trivial, rfl⟩ | exact ⟨by omega, trivial, rfl⟩ | exact ⟨by omega, rfl⟩ | exact ⟨by omega, by omega, rfl⟩ | (simp only [List.length_cons, List.length_nil, List.length_append]; done) | (simp only [List.length_cons, List.length_nil, List.length_append]; omega) | decide +kernel) ?_ | refine GDraw_one (by decide +kernel) ?_ | refine New.mk fun _ => ?_ | refine NewS.mk fun _ _ => ?_)
        exact Fin.val hfin rfl hle5⟩
end
end Go.Sl

/-
  A finished tree: what is within what, its leaves.
-/
namespace Go.Sl
open Go.Proofs
set_option linter.unusedVariables false
set_option linter.unusedSimpArgs false
set_option maxRecDepth 10000
set_option synthInstance.maxSize 2000
set_option synthInstance.maxHeartbeats 200000
set_option maxHeartbeats 1000000
section
variable {h : PHeap} {b : Nat} {T : Tr}
/-- Is one another one, or below it? -/
def withinF (nodes : List Nd) (i k : Int) : Prop := k ∈ above nodes i
instance (nodes : List Nd) (i k : Int) : Decidable (withinF nodes i k) := by unfold withinF; infer_instance
instance tree_within {L : List HP} {i k : Int} [hI : IsTree h b T] [ha : Acyc T.nodes] : CallX Try.prog 24 [.pointer (some ⟨b, 0, none⟩), vI i, vI k] h L True (fun K => K (.bool (decide (withinF T.nodes i k))) h []) := ⟨fun _ => by
  obtain ⟨nv, mb, kv, ov, lv, sv, kvs, ty, fr, h1, h2, h3, h4, h5, h6, h7, h8, h8m⟩ := hI.out
  have hlen := aboveF_len T.nodes 33 i
  have hall : (above T.nodes i).length ≤ 33 := hlen
  unfold withinF
  refine spec_enter Try.func24 rfl Try.ntmps24 Try.results24 (by simp) fun K R hT => ?_
  repeat (first | refine Step.imp ?_ | refine Side.mk (by first | exact True.intro | omega | exact ⟨trivial, rfl⟩ | exact ⟨by omega, trivial, rfl⟩ | exact ⟨by omega, rfl⟩ | exact ⟨by omega, by omega, rfl⟩ | (simp only [List.length_cons, List.length_nil, List.length_append]; done) | (simp only [List.length_cons, List.length_nil, List.length_append]; omega) | decide +kernel) ?_ | refine GDraw_one (by decide +kernel) ?_ | refine New.mk fun _ => ?_ | refine NewS.mk fun _ _ => ?_)
  intro a c
  repeat (first | refine Step.imp ?_ | refine Side.mk (by first | exact True.intro | omega | exact ⟨trivial, rfl⟩ | exact ⟨by omega, trivial, rfl⟩ | exact ⟨by omega, rfl⟩ | exact ⟨by omega, by omega, rfl⟩ | (simp only [List.length_cons, List.length_nil, List.length_append]; done) | (simp only [List.length_cons, List.length_nil, List.length_append]; omega) | decide +kernel) ?_ | refine GDraw_one (by decide +kernel) ?_ | refine New.mk fun _ => ?_ | refine NewS.mk fun _ _ => ?_)
  exact Fin.val hT rfl (Hle.refl _)⟩
instance tree_above {L : List HP} {i : Int} [hI : IsTree h b T] [ha : Acyc T.nodes] : CallX Try.prog 39 [.pointer (some ⟨b, 0, none⟩), vI i] h L True (fun K => ∀ a c, K (.slice a (above T.nodes i).length c) h [slo encI 1 (.slice a (above T.nodes i).length c) (above T.nodes i)]) := ⟨fun _ => by
  obtain ⟨nv, mb, kv, ov, lv, sv, kvs, ty, fr, h1, h2, h3, h4, h5, h6, h7, h8, h8m⟩ := hI.out
  exact (above_own (L := L) (i0 := i)).spec trivial⟩
instance tree_leaves {L : List HP} [hI : IsTree h b T] : CallX Try.prog 33 [.pointer (some ⟨b, 0, none⟩)] h L (T.leaves.length ≤ 4294967296) (fun K => ∀ a c, K (.slice a T.leaves.length c) h [slo encI 1 (.slice a T.leaves.length c) T.leaves]) := ⟨fun hl => by
  obtain ⟨nv, mb, kv, ov, lv, sv, kvs, ty, fr, h1, h2, h3, h4, h5, h6, h7, h8, h8m⟩ := hI.out
  refine spec_enter Try.func33 rfl Try.ntmps33 Try.results33 (by simp) fun K R hT => ?_
  repeat' (first | refine Step.imp ?_ | refine Side.mk (by first | exact True.intro | omega | exact ⟨trivial, rfl⟩ | exact ⟨by omega, trivial, rfl⟩ | exact ⟨by omega, rfl⟩ | exact ⟨by omega, by omega, rfl⟩ | (simp only [List.length_cons, List.length_nil, List.length_append]; done) | (simp only [List.length_cons, List.length_nil, List.length_append]; omega) | decide +kernel) ?_ | refine GDraw_one (by decide +kernel) ?_ | refine New.mk fun _ => ?_ | refine NewS.mk fun _ _ => ?_ | refine Ways.mk (fun _ => ?_) (fun _ => ?_))
  all_goals first | (exfalso; contradiction) | skip
  all_goals (intro a c)
  all_goals repeat (first | refine Step.imp ?_ | refine Side.mk (by first | exact True.intro | omega | exact ⟨trivial, rfl⟩ | exact ⟨by omega, trivial, rfl⟩ | exact ⟨by omega, rfl⟩ | exact ⟨by omega, by omega, rfl⟩ | (simp only [List.length_cons, List.length_nil, List.length_append]; done) | (simp only [List.length_cons, List.length_nil, List.length_append]; omega) | decide +kernel) ?_ | refine GDraw_one (by decide +kernel) ?_ | refine New.mk fun _ => ?_ | refine NewS.mk fun _ _ => ?_)
  all_goals exact Fin.val (hT _ _) rfl (Hle.refl _)⟩
end
theorem treeErr_why {nodes : List Nd} {i : Nat} {why : Int} (h : treeErr nodes = some (i, why)) : why ≠ 0 := by
  unfold treeErr at h
  split at h
  · cases h; decide
  · obtain ⟨s, _, hs⟩ := List.exists_of_findSome?_eq_some h
    unfold firstBad at hs
    obtain ⟨j, _, hj⟩ := List.exists_of_findSome?_eq_some hs
    split at hj
    · cases hj; assumption
    · cases hj
theorem treeErr_all {nodes : List Nd} (h : treeErr nodes = none) : 0 < nodes.length ∧ nodes.length ≤ 32 ∧ ∀ s < 5, ∀ i < nodes.length, ckStep nodes s i = 0 := by
  unfold treeErr at h
  split at h
  · cases h
  · rename_i hn
    refine ⟨by omega, by omega, fun s hs i hi => ?_⟩
    rw [List.findSome?_eq_none_iff] at h
    have h1 := h s (List.mem_range.2 hs)
    unfold firstBad at h1
    rw [List.findSome?_eq_none_iff] at h1
    have h2 := h1 i (List.mem_range.2 hi)
    split at h2
    · cases h2
    · rename_i hz; exact Decidable.not_not.1 hz
theorem treeErr_ups {nodes : List Nd} (h : treeErr nodes = none) : UpsIn nodes := upsIn_of fun i hi => by
  have := (treeErr_all h).2.2 2 (by omega) i hi
  simpa [ckStep] using this
theorem treeErr_acyc {nodes : List Nd} (h : treeErr nodes = none) : Acyc nodes := acyc_of (treeErr_all h).2.1 (treeErr_ups h) fun i hi => by
  have := (treeErr_all h).2.2 3 (by omega) i hi
  simpa [ckStep] using this
theorem mkTree_order (nodes : List Nd) : (mkTree nodes).order = orderF nodes := by
  unfold mkTree finalW orderF; simp only; rw [foldW_order]; simp
theorem mkTree_leaves (nodes : List Nd) : (mkTree nodes).leaves = (orderF nodes).filter (leafK (kidsOf nodes)) := by
  unfold mkTree finalW orderF; simp only; rw [foldW_leaves]; simp
theorem mkTree_len {nodes : List Nd} (h : treeErr nodes = none) : TrLen (mkTree nodes) := ⟨kidsOf_len nodes, by unfold mkTree finalW; simp only; rw [foldW_spans]; simp, (treeErr_all h).2.1, by
  rw [mkTree_leaves]
  have h1 := List.length_filter_le (leafK (kidsOf nodes)) (orderF nodes)
  have h2 := order_len (treeErr_acyc h) (treeErr_ups h)
  have := (treeErr_all h).2.1
  omega⟩
end Go.Sl

/-
  Catalogues: small functions, a copy.
-/
namespace Go.Sl
open Go.Proofs
set_option linter.unusedVariables false
set_option linter.unusedSimpArgs false
set_option maxRecDepth 10000
set_option synthInstance.maxSize 2000
set_option synthInstance.maxHeartbeats 200000
set_option maxHeartbeats 1000000
/-- A catalogue, apart from where it lies. -/
structure Cat where
  dims : List (ByteArray × List Nd)
  meas : List ByteArray
  leaves : Int
  scens : Int
deriving Inhabited
def Dm.pure (d : Dm) : ByteArray × List Nd := (d.name, d.nodes)
/-- Dimensions that are never changed. -/
class IsDims (h : PHeap) (v : Value) (ds : outParam (List Dm)) : Prop where
  sl : FSl h v encDm 2 ds
  nd : ∀ i < ds.length, FSl h (ds[i]!).nv encNd 2 (ds[i]!).nodes
instance {h : PHeap} {v : Value} {ds : List Dm} [d : IsDims h v ds] : FSl h v encDm 2 ds := d.sl
theorem IsDims.mono {h h' : PHeap} {v : Value} {ds : List Dm} (hl : Hle h h') (d : IsDims h v ds) : IsDims h' v ds := ⟨FSl.mono hl d.sl, fun i hi => FSl.mono hl (d.nd i hi)⟩
instance (priority := low) {h h' : PHeap} {v : Value} {ds : List Dm} [l : Le h h'] [d : IsDims h v ds] : IsDims h' v ds := d.mono l.le
section
variable {h : PHeap}
instance dims_within {n lo hi : Int} : CallV Try.prog 41 [vI n, vI lo, vI hi] h True (.bool (decide (lo ≤ n ∧ n ≤ hi))) := ⟨fun _ => by
  refine spec_enter Try.func41 rfl Try.ntmps41 Try.results41 (by simp) fun K R hT => ?_
  repeat' (first | refine Step.imp ?_ | refine Side.mk (by first | exact True.intro | omega | exact ⟨trivial, rfl⟩ | exact ⟨by omega, trivial, rfl⟩ | exact ⟨by omega, rfl⟩ | exact ⟨by omega, by omega, rfl⟩ | (simp only [List.length_cons, List.length_nil, List.length_append]; done) | (simp only [List.length_cons, List.length_nil, List.length_append]; omega) | decide +kernel) ?_ | refine GDraw_one (by decide +kernel) ?_ | refine New.mk fun _ => ?_ | refine NewS.mk fun _ _ => ?_ | refine Ways.mk (fun _ => ?_) (fun _ => ?_))
  all_goals first | exact Fin.val hT rfl (Hle.refl _) | (exfalso; omega) | (exfalso; contradiction) | exact Fin.dec hT (by omega) (Hle.refl _) | exact Fin.tt hT (by omega) (Hle.refl _) | exact Fin.ff hT (by omega) (Hle.refl _)⟩
def ckFresh (s : ByteArray) (xs : List ByteArray) : Int := if okName s then (if s ∈ xs then 4 else 0) else 3
instance dims_fresh {L : List HP} {s : ByteArray} {v : Value} {xs : List ByteArray} [hs : Rds L h v encS 1 xs] : CallX Try.prog 43 [.string s, v] h L (xs.length ≤ 4294967296) (fun K => K (vI (ckFresh s xs)) h []) := ⟨fun hn => by
  refine spec_enter Try.func43 rfl Try.ntmps43 Try.results43 (by simp) fun K R hT => ?_
  unfold ckFresh at hT
  by_cases h1 : okName s
  · by_cases h2 : s ∈ xs
    · simp only [h1, h2, if_true] at hT
      repeat' (first | refine Step.imp ?_ | refine Side.mk (by first | exact True.intro | omega | exact ⟨trivial, rfl⟩ | exact ⟨by omega, trivial, rfl⟩ | exact ⟨by omega, rfl⟩ | exact ⟨by omega, by omega, rfl⟩ | (simp only [List.length_cons, List.length_nil, List.length_append]; done) | (simp only [List.length_cons, List.length_nil, List.length_append]; omega) | decide +kernel) ?_ | refine GDraw_one (by decide +kernel) ?_ | refine New.mk fun _ => ?_ | refine NewS.mk fun _ _ => ?_ | refine Ways.mk (fun _ => ?_) (fun _ => ?_))
      all_goals first | exact Fin.val hT rfl (Hle.refl _) | (exfalso; contradiction)
    · simp only [h1, h2, if_true, if_false] at hT
      repeat' (first | refine Step.imp ?_ | refine Side.mk (by first | exact True.intro | omega | exact ⟨trivial, rfl⟩ | exact ⟨by omega, trivial, rfl⟩ | exact ⟨by omega, rfl⟩ | exact ⟨by omega, by omega, rfl⟩ | (simp only [List.length_cons, List.length_nil, List.length_append]; done) | (simp only [List.length_cons, List.length_nil, List.length_append]; omega) | decide +kernel) ?_ | refine GDraw_one (by decide +kernel) ?_ | refine New.mk fun _ => ?_ | refine NewS.mk fun _ _ => ?_ | refine Ways.mk (fun _ => ?_) (fun _ => ?_))
      all_goals first | exact Fin.val hT rfl (Hle.refl _) | (exfalso; contradiction)
  · simp only [h1, if_false] at hT
    repeat' (first | refine Step.imp ?_ | refine Side.mk (by first | exact True.intro | omega | exact ⟨trivial, rfl⟩ | exact ⟨by omega, trivial, rfl⟩ | exact ⟨by omega, rfl⟩ | exact ⟨by omega, by omega, rfl⟩ | (simp only [List.length_cons, List.length_nil, List.length_append]; done) | (simp only [List.length_cons, List.length_nil, List.length_append]; omega) | decide +kernel) ?_ | refine GDraw_one (by decide +kernel) ?_ | refine New.mk fun _ => ?_ | refine NewS.mk fun _ _ => ?_ | refine Ways.mk (fun _ => ?_) (fun _ => ?_))
    all_goals first | exact Fin.val hT rfl (Hle.refl _) | (exfalso; contradiction)⟩
instance dims_copied {L : List HP} {dv mv : Value} {le sc : Int} {ds : List Dm} {ms : List ByteArray} [hd : IsDims h dv ds] [hm : FSl h mv encS 1 ms] : CallX Try.prog 42 [.agg [dv, mv, vI le, vI sc].toArray] h L (ds.length ≤ 4294967296 ∧ ms.length ≤ 4294967296 ∧ ∀ i < ds.length, (ds[i]!).nodes.length ≤ 4294967296)
    (fun K => ∀ h' dv' mv' ds', Le h h' → IsDims h' dv' ds' → ds'.map Dm.pure = ds.map Dm.pure → FSl h' mv' encS 1 ms → K (.agg [dv', mv', vI le, vI sc].toArray) h' []) := ⟨fun ⟨hn1, hn2, hn3⟩ => by
  refine spec_enter Try.func42 rfl Try.ntmps42 Try.results42 (by simp) fun K R hT => ?_
  repeat (first | refine Step.imp ?_ | refine Side.mk (by first | exact True.intro | omega | exact ⟨trivial, rfl⟩ | exact ⟨by omega, trivial, rfl⟩ | exact ⟨by omega, rfl⟩ | exact ⟨by omega, by omega, rfl⟩ | (simp only [List.length_cons, List.length_nil, List.length_append]; done) | (simp only [List.length_cons, List.length_nil, List.length_append]; omega) | decide +kernel) ?_ | refine GDraw_one (by decide +kernel) ?_ | refine New.mk fun _ => ?_ | refine NewS.mk fun _ _ => ?_)
  intro a1 c1
  repeat (first | refine Step.imp ?_ | refine Side.mk (by first | exact True.intro | omega | exact ⟨trivial, rfl⟩ | exact ⟨by omega, trivial, rfl⟩ | exact ⟨by omega, rfl⟩ | exact ⟨by omega, by omega, rfl⟩ | (simp only [List.length_cons, List.length_nil, List.length_append]; done) | (simp only [List.length_cons, List.length_nil, List.length_append]; omega) | decide +kernel) ?_ | refine GDraw_one (by decide +kernel) ?_ | refine New.mk fun _ => ?_ | refine NewS.mk fun _ _ => ?_)
  intro a2 c2
  repeat (first | refine Step.imp ?_ | refine Side.mk (by first | exact True.intro | omega | exact ⟨trivial, rfl⟩ | exact ⟨by omega, trivial, rfl⟩ | exact ⟨by omega, rfl⟩ | exact ⟨by omega, by omega, rfl⟩ | (simp only [List.length_cons, List.length_nil, List.length_append]; done) | (simp only [List.length_cons, List.length_nil, List.length_append]; omega) | decide +kernel) ?_ | refine GDraw_one (by decide +kernel) ?_ | refine New.mk fun _ => ?_ | refine NewS.mk fun _ _ => ?_)
  rename_i cb rb
  refine G_loop (σ := Nat × PHeap × List Dm) (fun s => s.1 ≤ ds.length ∧ Hle h s.2.1 ∧ s.2.2.map Dm.pure = ds.map Dm.pure ∧ ∀ j < ds.length, FSl s.2.1 (s.2.2[j]!).nv encNd 2 (s.2.2[j]!).nodes) (fun s => ds.length - s.1)
    (fun s => [(15, vI s.1), (14, vI ds.length), (13, .slice a2 ds.length c2), (1, .pointer (some ⟨cb, 0, none⟩)), (2, .pointer (some ⟨rb, 0, none⟩))]) (fun s => s.2.1)
    (fun s => slo encDm 2 (.slice a2 ds.length c2) s.2.2 :: slo encS 1 (.slice a1 ms.length c1) ms :: blk rb (.cells [.slice none 0 0, .slice none 0 0, vI 0, vI 0].toArray 25 (0, 0)) :: blk cb (.cells [.slice a2 ds.length c2, .slice a1 ms.length c1, vI le, vI sc].toArray 25 (0, 0)) :: (L ++ R))
    (0, h, ds) ⟨by omega, Hle.refl h, rfl, hd.nd⟩ ⟨rfl, rfl, rfl, rfl, rfl, trivial⟩ rfl inferInstance ?_
  rintro ⟨i, h1, cur⟩ ⟨hi, hl1, hpu, hnd⟩
  simp only at hi hl1 hpu hnd ⊢
  have hcl : cur.length = ds.length := by have := congrArg List.length hpu; simpa using this
  repeat (first | refine Step.imp ?_ | refine Side.mk (by first | exact True.intro | omega | exact ⟨trivial, rfl⟩ | exact ⟨by omega, trivial, rfl⟩ | exact ⟨by omega, rfl⟩ | exact ⟨by omega, by omega, rfl⟩ | (simp only [List.length_cons, List.length_nil, List.length_append]; done) | (simp only [List.length_cons, List.length_nil, List.length_append]; omega) | decide +kernel) ?_ | refine GDraw_one (by decide +kernel) ?_ | refine New.mk fun _ => ?_ | refine NewS.mk fun _ _ => ?_)
  refine ⟨fun hlt => ?_, fun hge => ?_⟩
  · have hndi := hnd i (by omega)
    have hpi : (cur[i]!).pure = (ds[i]!).pure := by
      have := congrArg (fun l => l[i]?) hpu
      simp only [List.getElem?_map] at this
      rw [getElem!_pos cur i (by omega), getElem!_pos ds i (by omega)]
      rw [List.getElem?_eq_getElem (by omega), List.getElem?_eq_getElem (by omega)] at this
      simpa using this
    have hni : (cur[i]!).nodes = (ds[i]!).nodes := congrArg Prod.snd hpi
    have hbi := hn3 i (by omega)
    rw [← hni] at hbi
    repeat (first | refine Step.imp ?_ | refine Side.mk (by first | exact True.intro | omega | exact ⟨trivial, rfl⟩ | exact ⟨by omega, trivial, rfl⟩ | exact ⟨by omega, rfl⟩ | exact ⟨by omega, by omega, rfl⟩ | (simp only [List.length_cons, List.length_nil, List.length_append]; done) | (simp only [List.length_cons, List.length_nil, List.length_append]; omega) | decide +kernel) ?_ | refine GDraw_one (by decide +kernel) ?_ | refine New.mk fun _ => ?_ | refine NewS.mk fun _ _ => ?_)
    intro a3 c3
    haveI : Mk encDm [.string (cur[i]!).name, .slice a3 (cur[i]!).nodes.length c3] ⟨(cur[i]!).name, .slice a3 (cur[i]!).nodes.length c3, rfl, (cur[i]!).nodes⟩ := ⟨rfl⟩
    repeat (first | refine Step.imp ?_ | refine Side.mk (by first | exact True.intro | omega | exact ⟨trivial, rfl⟩ | exact ⟨by omega, trivial, rfl⟩ | exact ⟨by omega, rfl⟩ | exact ⟨by omega, by omega, rfl⟩ | (simp only [List.length_cons, List.length_nil, List.length_append]; done) | (simp only [List.length_cons, List.length_nil, List.length_append]; omega) | decide +kernel) ?_ | refine GDraw_one (by decide +kernel) ?_ | refine New.mk fun _ => ?_ | refine NewS.mk fun _ _ => ?_)
    refine X_freezeS (.slice a3 (cur[i]!).nodes.length c3) fun h2 le2 f2 => ?_
    refine X_round (i + 1, h2, cur.set i ⟨(cur[i]!).name, .slice a3 (cur[i]!).nodes.length c3, rfl, (cur[i]!).nodes⟩) ?_ ?_ ?_ ?_ ?_
    · refine ⟨by show i + 1 ≤ ds.length; omega, hl1.trans le2.le, ?_, fun j hj => ?_⟩
      · show (cur.set i _).map Dm.pure = _
        rw [List.map_set, ← hpu]
        have : (cur.map Dm.pure)[i]'(by simpa [hcl] using hlt) = ((cur[i]!).name, (cur[i]!).nodes) := by rw [List.getElem_map, getElem!_pos cur i (by omega)]; rfl
        show (cur.map Dm.pure).set i ((cur[i]!).name, (cur[i]!).nodes) = _
        rw [← this, List.set_getElem_self]
      · show FSl h2 ((cur.set i _)[j]!).nv encNd 2 ((cur.set i _)[j]!).nodes
        rw [getElem!_pos _ j (by simpa [hcl] using hj), List.getElem_set]
        by_cases he : i = j
        · rw [if_pos he]; exact f2
        · rw [if_neg he]
          have := hnd j hj
          rw [getElem!_pos cur j (by omega)] at this
          exact FSl.mono le2.le this
    · show ds.length - (i + 1) < ds.length - i
      omega
    · exact ⟨rfl, rfl, rfl, rfl, rfl, trivial⟩
    · rfl
    · infer_instance
  · refine G_freezeS (.slice a2 ds.length c2) fun h2 le2 f2 => ?_
    refine G_freezeS (.slice a1 ms.length c1) fun h3 le3 f3 => ?_
    have hle := hl1.trans (le2.le.trans le3.le)
    have hfin := hT h3 _ _ cur ⟨hle⟩ ⟨FSl.mono le3.le f2, fun j hj => FSl.mono (le2.le.trans le3.le) (hnd j (by omega))⟩ hpu f3
    repeat (first | refine Step.imp ?_ | refine Side.mk (by first | exact True.intro | omega | exact ⟨trivial, rfl⟩ | exact ⟨by omega, trivial, rfl⟩ | exact ⟨by omega, rfl⟩ | exact ⟨by omega, by omega, rfl⟩ | (simp only [List.length_cons, List.length_nil, List.length_append]; done) | (simp only [List.length_cons, List.length_nil, List.length_append]; omega) | decide +kernel) ?_ | refine GDraw_one (by decide +kernel) ?_ | refine New.mk fun _ => ?_ | refine NewS.mk fun _ _ => ?_)
    exact Fin.val hfin rfl hle⟩
end
end Go.Sl

/-
  Catalogues: made of what is given.
-/
namespace Go.Sl
open Go.Proofs
set_option linter.unusedVariables false
set_option linter.unusedSimpArgs false
set_option maxRecDepth 10000
set_option synthInstance.maxSize 2000
set_option synthInstance.maxHeartbeats 200000
set_option maxHeartbeats 1000000
structure DT where
  tb : Nat
  name : ByteArray
  T : Tr
deriving Inhabited
@[reducible] def encDT (x : DT) : List Value := [.pointer (some ⟨x.tb, 0, none⟩), .string x.name]
instance : EncOne encDT := ⟨fun y u hu => by simp at hu; rcases hu with rfl | rfl <;> rfl⟩
def cellsF (C : Cat) : Nat → Int
  | 0 => C.meas.length
  | n + 1 => cellsF C n * (C.dims[n]!).2.length
def leavesF (C : Cat) : Nat → Int
  | 0 => C.meas.length
  | n + 1 => leavesF C n * (mkTree (C.dims[n]!).2).leaves.length
def namesF (C : Cat) : List ByteArray := C.dims.map (·.1)
class OkCat (C : Cat) : Prop where
  dims : 1 ≤ C.dims.length ∧ C.dims.length ≤ 4
  meas : 1 ≤ C.meas.length ∧ C.meas.length ≤ 4
  trees : ∀ i < C.dims.length, ckFresh (C.dims[i]!).1 ((namesF C).take i) = 0 ∧ treeErr (C.dims[i]!).2 = none
  names : ∀ i < C.meas.length, ckFresh (C.meas[i]!) (C.meas.take i) = 0
  cells : cellsF C C.dims.length ≤ 4096
  leaves : leavesF C C.dims.length ≤ 1024
  most : 1 ≤ C.leaves ∧ C.leaves ≤ 1024
  scens : 1 ≤ C.scens ∧ C.scens ≤ 8
/-- A catalogue that was accepted, at a block. -/
class IsD (h : PHeap) (b : Nat) (C : outParam Cat) : Prop where
  out : ∃ dv mv tv ds dts ty fr, Pt h b (.cells [dv, mv, vI C.leaves, vI C.scens, tv].toArray ty fr) ∧ IsDims h dv ds ∧ ds.map Dm.pure = C.dims ∧ FSl h mv encS 1 C.meas ∧ FSl h tv encDT 2 dts ∧ dts.length = C.dims.length ∧
    ∀ i < dts.length, (dts[i]!).name = (C.dims[i]!).1 ∧ (dts[i]!).T = mkTree (C.dims[i]!).2 ∧ IsTree h (dts[i]!).tb (mkTree (C.dims[i]!).2)
theorem IsD.mono {h h' : PHeap} {b : Nat} {C : Cat} (hl : Hle h h') (d : IsD h b C) : IsD h' b C := ⟨by
  obtain ⟨dv, mv, tv, ds, dts, ty, fr, h1, h2, h3, h4, h5, h6, h7⟩ := d.out
  exact ⟨dv, mv, tv, ds, dts, ty, fr, Pt.mono hl h1, h2.mono hl, h3, FSl.mono hl h4, FSl.mono hl h5, h6, fun i hi => ⟨(h7 i hi).1, (h7 i hi).2.1, (h7 i hi).2.2.mono hl⟩⟩⟩
instance (priority := low) {h h' : PHeap} {b : Nat} {C : Cat} [l : Le h h'] [t : IsD h b C] : IsD h' b C := t.mono l.le
theorem tree_small {nodes : List Nd} (h : treeErr nodes = none) : nodes.length ≤ 32 ∧ (mkTree nodes).leaves.length ≤ 32 := ⟨(treeErr_all h).2.1, (mkTree_len h).leaves⟩
theorem cellsF_le (C : Cat) (hm : C.meas.length ≤ 4) : ∀ n, (∀ i < n, treeErr (C.dims[i]!).2 = none) → 0 ≤ cellsF C n ∧ cellsF C n ≤ 4 * 32 ^ n
  | 0, _ => by simp only [cellsF]; omega
  | n + 1, h => by
    have ih := cellsF_le C hm n (fun i hi => h i (by omega))
    have h1 := (tree_small (h n (by omega))).1
    simp only [cellsF]
    refine ⟨Int.mul_nonneg ih.1 (by omega), ?_⟩
    have hp : (0 : Int) ≤ 32 ^ n := Int.pow_nonneg (by omega)
    have hm : cellsF C n * ((C.dims[n]!).2.length : Int) ≤ (4 * 32 ^ n) * 32 := Int.mul_le_mul ih.2 (by omega) (by omega) (by omega)
    rw [Int.pow_succ]; omega
theorem leavesF_le (C : Cat) (hm : C.meas.length ≤ 4) : ∀ n, (∀ i < n, treeErr (C.dims[i]!).2 = none) → 0 ≤ leavesF C n ∧ leavesF C n ≤ 4 * 32 ^ n
  | 0, _ => by simp only [leavesF]; omega
  | n + 1, h => by
    have ih := leavesF_le C hm n (fun i hi => h i (by omega))
    have h1 := (tree_small (h n (by omega))).2
    simp only [leavesF]
    refine ⟨Int.mul_nonneg ih.1 (by omega), ?_⟩
    have hp : (0 : Int) ≤ 32 ^ n := Int.pow_nonneg (by omega)
    have hm : leavesF C n * ((mkTree (C.dims[n]!).2).leaves.length : Int) ≤ (4 * 32 ^ n) * 32 := Int.mul_le_mul ih.2 (by omega) (by omega) (by omega)
    rw [Int.pow_succ]; omega
theorem pow4 {n : Nat} (h : n ≤ 4) : (32 : Int) ^ n ≤ 1048576 := by
  have : n = 0 ∨ n = 1 ∨ n = 2 ∨ n = 3 ∨ n = 4 := by omega
  rcases this with rfl | rfl | rfl | rfl | rfl <;> decide
section
variable {h : PHeap} {dv mv : Value} {le sc : Int} {ds : List Dm} {ms : List ByteArray}
instance dims_new {L : List HP} [hd : IsDims h dv ds] [hm : FSl h mv encS 1 ms] : CallX Try.prog 21 [.agg [dv, mv, vI le, vI sc].toArray] h L (ds.length ≤ 4294967296 ∧ ms.length ≤ 4294967296 ∧ ∀ i < ds.length, (ds[i]!).nodes.length ≤ 4294967296)
    (fun K => (∀ (i why : Int) h', Le h h' → why ≠ 0 → ¬ OkCat ⟨ds.map Dm.pure, ms, le, sc⟩ → K (.tuple [.pointer none, vI i, vI why].toArray) h' []) ∧
      (OkCat ⟨ds.map Dm.pure, ms, le, sc⟩ → ∀ h' b, Le h h' → IsD h' b ⟨ds.map Dm.pure, ms, le, sc⟩ → K (.tuple [.pointer (some ⟨b, 0, none⟩), vI 0, vI 0].toArray) h' [])) := ⟨fun ⟨hn1, hn2, hn3⟩ => by
  obtain ⟨C, hC⟩ : ∃ C : Cat, C = ⟨ds.map Dm.pure, ms, le, sc⟩ := ⟨_, rfl⟩
  have hCd : C.dims.length = ds.length := by rw [hC]; simp
  have hCm : C.meas = ms := by rw [hC]
  have hCi : ∀ i, i < ds.length → C.dims[i]! = ((ds[i]!).name, (ds[i]!).nodes) := fun i hi => by
    rw [hC]
    show (ds.map Dm.pure)[i]! = _
    rw [getElem!_pos _ i (by simpa using hi), List.getElem_map, getElem!_pos ds i hi]; rfl
  refine spec_enter Try.func21 rfl Try.ntmps21 Try.results21 (by simp) fun K R hT => ?_
  rw [← hC] at hT
  by_cases hsz : (1 ≤ ds.length ∧ ds.length ≤ 4) ∧ (1 ≤ ms.length ∧ ms.length ≤ 4)
  · repeat' (first | refine Step.imp ?_ | refine Side.mk (by first | exact True.intro | omega | exact ⟨trivial, rfl⟩ | exact ⟨by omega, trivial, rfl⟩ | exact ⟨by omega, rfl⟩ | exact ⟨by omega, by omega, rfl⟩ | (simp only [List.length_cons, List.length_nil, List.length_append]; done) | (simp only [List.length_cons, List.length_nil, List.length_append]; omega) | decide +kernel) ?_ | refine GDraw_one (by decide +kernel) ?_ | refine New.mk fun _ => ?_ | refine NewS.mk fun _ _ => ?_ | refine Ways.mk (fun _ => ?_) (fun _ => ?_))
    all_goals first | (exfalso; omega) | skip
    all_goals (intro h1 dv' mv' ds' le1 hd' hpu hm')
    repeat (first | refine Step.imp ?_ | refine Side.mk (by first | exact True.intro | omega | exact ⟨trivial, rfl⟩ | exact ⟨by omega, trivial, rfl⟩ | exact ⟨by omega, rfl⟩ | exact ⟨by omega, by omega, rfl⟩ | (simp only [List.length_cons, List.length_nil, List.length_append]; done) | (simp only [List.length_cons, List.length_nil, List.length_append]; omega) | decide +kernel) ?_ | refine GDraw_one (by decide +kernel) ?_ | refine New.mk fun _ => ?_ | refine NewS.mk fun _ _ => ?_)
    rename_i cb _ _ db
    refine G_nil encS 1 none ?_
    refine G_nil encDT 2 none ?_
    repeat (first | refine Step.imp ?_ | refine Side.mk (by first | exact True.intro | omega | exact ⟨trivial, rfl⟩ | exact ⟨by omega, trivial, rfl⟩ | exact ⟨by omega, rfl⟩ | exact ⟨by omega, by omega, rfl⟩ | (simp only [List.length_cons, List.length_nil, List.length_append]; done) | (simp only [List.length_cons, List.length_nil, List.length_append]; omega) | decide +kernel) ?_ | refine GDraw_one (by decide +kernel) ?_ | refine New.mk fun _ => ?_ | refine NewS.mk fun _ _ => ?_)
    refine G_loop (σ := Nat × PHeap × (Option Addr × Nat) × (Option Addr × Nat) × List DT) (fun s => s.1 ≤ ds.length ∧ Hle h1 s.2.1 ∧ (∀ j < s.1, ckFresh (C.dims[j]!).1 ((namesF C).take j) = 0 ∧ treeErr (C.dims[j]!).2 = none) ∧ s.2.2.2.2.length = s.1 ∧
        ∀ j < s.1, (s.2.2.2.2[j]!).name = (C.dims[j]!).1 ∧ (s.2.2.2.2[j]!).T = mkTree (C.dims[j]!).2 ∧ IsTree s.2.1 (s.2.2.2.2[j]!).tb (mkTree (C.dims[j]!).2)) (fun s => ds.length - s.1)
      (fun s => [(43, vI s.1), (42, vI ds.length), (41, dv), (1, .pointer (some ⟨cb, 0, none⟩)), (5, .pointer (some ⟨db, 0, none⟩)), (6, vI (cellsF C s.1)), (7, vI (leavesF C s.1)), (8, .slice s.2.2.1.1 ((namesF C).take s.1).length s.2.2.1.2)]) (fun s => s.2.1)
      (fun s => slo encS 1 (.slice s.2.2.1.1 ((namesF C).take s.1).length s.2.2.1.2) ((namesF C).take s.1) :: slo encDT 2 (.slice s.2.2.2.1.1 s.2.2.2.2.length s.2.2.2.1.2) s.2.2.2.2 :: blk db (.cells [dv', mv', vI le, vI sc, .slice s.2.2.2.1.1 s.2.2.2.2.length s.2.2.2.1.2].toArray 95 (0, 0)) :: blk cb (.cells [dv, mv, vI le, vI sc].toArray 25 (0, 0)) :: (L ++ R))
      (0, h1, (none, 0), (none, 0), []) ⟨by omega, Hle.refl h1, fun j hj => by omega, rfl, fun j hj => by omega⟩ ?_ rfl ?_ ?_
    · refine ⟨rfl, rfl, rfl, rfl, rfl, ?_, ?_, rfl, trivial⟩
      · simp only [cellsF, hCm]
      · simp only [leavesF, hCm]
    · simp only [List.take_zero, List.length_nil]
      infer_instance
    rintro ⟨i, h2, ⟨an, cn⟩, ⟨ad, cd⟩, dts⟩ ⟨hi, hl2, hok, hdl, hdt⟩
    simp only at hi hl2 hok hdl hdt ⊢
    haveI le2 : Le h1 h2 := ⟨hl2⟩
    repeat (first | refine Step.imp ?_ | refine Side.mk (by first | exact True.intro | omega | exact ⟨trivial, rfl⟩ | exact ⟨by omega, trivial, rfl⟩ | exact ⟨by omega, rfl⟩ | exact ⟨by omega, by omega, rfl⟩ | (simp only [List.length_cons, List.length_nil, List.length_append]; done) | (simp only [List.length_cons, List.length_nil, List.length_append]; omega) | decide +kernel) ?_ | refine GDraw_one (by decide +kernel) ?_ | refine New.mk fun _ => ?_ | refine NewS.mk fun _ _ => ?_)
    refine ⟨fun hlt => ?_, fun hge => ?_⟩
    · have hni := IsDims.mono (le1.le.trans hl2) hd
      have hndi := hni.nd i (by omega)
      have hbi := hn3 i (by omega)
      have hci := hCi i (by omega)
      have hc1 : (C.dims[i]!).1 = (ds[i]!).name := by rw [hci]
      have hc2 : (C.dims[i]!).2 = (ds[i]!).nodes := by rw [hci]
      have htl : ((namesF C).take i).length ≤ 4 := by rw [List.length_take]; omega
      have hno1 : ckFresh (ds[i]!).name ((namesF C).take i) ≠ 0 → ¬ OkCat C := fun hne hk => hne (by have := (hk.trees i (by omega)).1; rwa [hc1] at this)
      have hno2 : treeErr (ds[i]!).nodes ≠ none → ¬ OkCat C := fun hne hk => hne (by have := (hk.trees i (by omega)).2; rwa [hc2] at this)
      have hcells := cellsF_le C (by rw [hCm]; omega) i (fun j hj => (hok j hj).2)
      have hleaves := leavesF_le C (by rw [hCm]; omega) i (fun j hj => (hok j hj).2)
      repeat (first | refine Step.imp ?_ | refine Side.mk (by first | exact True.intro | omega | exact ⟨trivial, rfl⟩ | exact ⟨by omega, trivial, rfl⟩ | exact ⟨by omega, rfl⟩ | exact ⟨by omega, by omega, rfl⟩ | (simp only [List.length_cons, List.length_nil, List.length_append]; done) | (simp only [List.length_cons, List.length_nil, List.length_append]; omega) | decide +kernel) ?_ | refine GDraw_one (by decide +kernel) ?_ | refine New.mk fun _ => ?_ | refine NewS.mk fun _ _ => ?_)
      refine ⟨fun hbad => ?_, fun hgood => ?_⟩
      · have hfin := hT.1 i _ h2 ⟨le1.le.trans hl2⟩ hbad (hno1 hbad)
        repeat (first | refine Step.imp ?_ | refine Side.mk (by first | exact True.intro | omega | exact ⟨trivial, rfl⟩ | exact ⟨by omega, trivial, rfl⟩ | exact ⟨by omega, rfl⟩ | exact ⟨by omega, by omega, rfl⟩ | (simp only [List.length_cons, List.length_nil, List.length_append]; done) | (simp only [List.length_cons, List.length_nil, List.length_append]; omega) | decide +kernel) ?_ | refine GDraw_one (by decide +kernel) ?_ | refine New.mk fun _ => ?_ | refine NewS.mk fun _ _ => ?_)
        exact Fin.val hfin rfl (le1.le.trans hl2)
      have hgood := Decidable.not_not.1 hgood
      repeat (first | refine Step.imp ?_ | refine Side.mk (by first | exact True.intro | omega | exact ⟨trivial, rfl⟩ | exact ⟨by omega, trivial, rfl⟩ | exact ⟨by omega, rfl⟩ | exact ⟨by omega, by omega, rfl⟩ | (simp only [List.length_cons, List.length_nil, List.length_append]; done) | (simp only [List.length_cons, List.length_nil, List.length_append]; omega) | decide +kernel) ?_ | refine GDraw_one (by decide +kernel) ?_ | refine New.mk fun _ => ?_ | refine NewS.mk fun _ _ => ?_)
      refine ⟨fun j why h3 le3 herr => ?_, fun hnone h3 tb le3 htree => ?_⟩
      · have hw := treeErr_why herr
        have hle3 := (le1.le.trans hl2).trans le3.le
        have hfin := hT.1 i why h3 ⟨hle3⟩ hw (hno2 (by rw [herr]; simp))
        repeat (first | refine Step.imp ?_ | refine Side.mk (by first | exact True.intro | omega | exact ⟨trivial, rfl⟩ | exact ⟨by omega, trivial, rfl⟩ | exact ⟨by omega, rfl⟩ | exact ⟨by omega, by omega, rfl⟩ | (simp only [List.length_cons, List.length_nil, List.length_append]; done) | (simp only [List.length_cons, List.length_nil, List.length_append]; omega) | decide +kernel) ?_ | refine GDraw_one (by decide +kernel) ?_ | refine New.mk fun _ => ?_ | refine NewS.mk fun _ _ => ?_)
        refine ⟨fun _ => ?_, fun hz => absurd hw hz⟩
        repeat (first | refine Step.imp ?_ | refine Side.mk (by first | exact True.intro | omega | exact ⟨trivial, rfl⟩ | exact ⟨by omega, trivial, rfl⟩ | exact ⟨by omega, rfl⟩ | exact ⟨by omega, by omega, rfl⟩ | (simp only [List.length_cons, List.length_nil, List.length_append]; done) | (simp only [List.length_cons, List.length_nil, List.length_append]; omega) | decide +kernel) ?_ | refine GDraw_one (by decide +kernel) ?_ | refine New.mk fun _ => ?_ | refine NewS.mk fun _ _ => ?_)
        exact Fin.val hfin rfl hle3
      have hsm := tree_small hnone
      have hnd0 : (mkTree (ds[i]!).nodes).nodes.length = (ds[i]!).nodes.length := rfl
      have hp4 := pow4 (n := i) (by omega)
      have hm1 : 0 ≤ cellsF C i * ((mkTree (ds[i]!).nodes).nodes.length : Int) ∧ cellsF C i * ((mkTree (ds[i]!).nodes).nodes.length : Int) ≤ (4 * 32 ^ i) * 32 := ⟨Int.mul_nonneg hcells.1 (by omega), Int.mul_le_mul hcells.2 (by omega) (by omega) (by omega)⟩
      have hm2 : 0 ≤ leavesF C i * ((mkTree (ds[i]!).nodes).leaves.length : Int) ∧ leavesF C i * ((mkTree (ds[i]!).nodes).leaves.length : Int) ≤ (4 * 32 ^ i) * 32 := ⟨Int.mul_nonneg hleaves.1 (by omega), Int.mul_le_mul hleaves.2 (by omega) (by omega) (by omega)⟩
      repeat (first | refine Step.imp ?_ | refine Side.mk (by first | exact True.intro | omega | exact ⟨trivial, rfl⟩ | exact ⟨by omega, trivial, rfl⟩ | exact ⟨by omega, rfl⟩ | exact ⟨by omega, by omega, rfl⟩ | (simp only [List.length_cons, List.length_nil, List.length_append]; done) | (simp only [List.length_cons, List.length_nil, List.length_append]; omega) | decide +kernel) ?_ | refine GDraw_one (by decide +kernel) ?_ | refine New.mk fun _ => ?_ | refine NewS.mk fun _ _ => ?_)
      refine ⟨fun hz => absurd rfl hz, fun _ => ?_⟩
      haveI : Mk encDT [.pointer (some ⟨tb, 0, none⟩), .string (ds[i]!).name] ⟨tb, (ds[i]!).name, mkTree (ds[i]!).nodes⟩ := ⟨rfl⟩
      repeat (first | refine GDraw_O (.slice ad dts.length cd) (by decide +kernel) ?_ | refine Step.imp ?_ | refine Side.mk (by first | exact True.intro | omega | exact ⟨trivial, rfl⟩ | exact ⟨by omega, trivial, rfl⟩ | exact ⟨by omega, rfl⟩ | exact ⟨by omega, by omega, rfl⟩ | (simp only [List.length_cons, List.length_nil, List.length_append]; done) | (simp only [List.length_cons, List.length_nil, List.length_append]; omega) | decide +kernel) ?_ | refine GDraw_one (by decide +kernel) ?_ | refine New.mk fun _ => ?_ | refine NewS.mk fun _ _ => ?_)
      intro la lc
      repeat (first | refine Step.imp ?_ | refine Side.mk (by first | exact True.intro | omega | exact ⟨trivial, rfl⟩ | exact ⟨by omega, trivial, rfl⟩ | exact ⟨by omega, rfl⟩ | exact ⟨by omega, by omega, rfl⟩ | (simp only [List.length_cons, List.length_nil, List.length_append]; done) | (simp only [List.length_cons, List.length_nil, List.length_append]; omega) | decide +kernel) ?_ | refine GDraw_one (by decide +kernel) ?_ | refine New.mk fun _ => ?_ | refine NewS.mk fun _ _ => ?_)
      rename_i b1 an1 cn1 b2 ad1 cd1
      refine X_round (i + 1, h3, (an1, cn1), (ad1, cd1), dts ++ [⟨tb, (ds[i]!).name, mkTree (ds[i]!).nodes⟩]) ?_ ?_ ?_ ?_ ?_
      · refine ⟨by show i + 1 ≤ ds.length; omega, hl2.trans le3.le, fun j hj => ?_, by simp [hdl], fun j hj => ?_⟩
        · rcases Nat.lt_or_ge j i with hji | hji
          · exact hok j hji
          · have hj' : j < i + 1 := hj
            have : j = i := by omega
            subst this
            rw [hc1, hc2]; exact ⟨hgood, hnone⟩
        · show ((dts ++ [(⟨tb, (ds[i]!).name, mkTree (ds[i]!).nodes⟩ : DT)])[j]!).name = _ ∧ ((dts ++ [(⟨tb, (ds[i]!).name, mkTree (ds[i]!).nodes⟩ : DT)])[j]!).T = _ ∧ IsTree h3 ((dts ++ [(⟨tb, (ds[i]!).name, mkTree (ds[i]!).nodes⟩ : DT)])[j]!).tb _
          have hj : j < i + 1 := hj
          rw [getElem!_pos (dts ++ [_]) j (by simp; omega)]
          rcases Nat.lt_or_ge j i with hji | hji
          · rw [List.getElem_append_left (by omega)]
            have := hdt j hji
            rw [getElem!_pos dts j (by omega)] at this
            exact ⟨this.1, this.2.1, this.2.2.mono le3.le⟩
          · have : j = i := by omega
            subst this
            rw [List.getElem_append_right (by omega)]
            simp only [hdl, Nat.sub_self, List.getElem_cons_zero]
            rw [hc1, hc2]
            exact ⟨rfl, rfl, htree⟩
      · show ds.length - (i + 1) < ds.length - i
        omega
      · have hnl : (namesF C).length = ds.length := by unfold namesF; rw [List.length_map, hCd]
        have htk : ((namesF C).take (i + 1)).length = ((namesF C).take i).length + 1 := by simp only [List.length_take]; omega
        refine ⟨rfl, rfl, rfl, rfl, rfl, ?_, ?_, ?_, trivial⟩
        · show _ = some (vI (cellsF C i * ((C.dims[i]!).2.length : Int)))
          rw [hc2]; rfl
        · show _ = some (vI (leavesF C i * ((mkTree (C.dims[i]!).2).leaves.length : Int)))
          rw [hc2]
        · show _ = some (Value.slice an1 ((namesF C).take (i + 1)).length cn1)
          rw [htk]
      · rfl
      · have htk : (namesF C).take (i + 1) = (namesF C).take i ++ [(ds[i]!).name] := by
          have hl : i < (namesF C).length := by unfold namesF; rw [List.length_map, hCd]; omega
          rw [List.take_succ_eq_append_getElem hl]
          congr 2
          rw [← hc1]
          have : ∀ (l : List (ByteArray × List Nd)) (hl : i < (l.map (·.1)).length) (hl' : i < l.length), (l.map (·.1))[i]'hl = (l[i]'hl').1 := fun l hl hl' => by rw [List.getElem_map]
          rw [getElem!_pos C.dims i (by omega)]
          exact this C.dims hl (by omega)
        simp only [htk, List.length_append, List.length_cons, List.length_nil, Nat.zero_add]
        infer_instance
    · have hi2 : i = ds.length := by omega
      subst hi2
      have hall : ∀ j < C.dims.length, ckFresh (C.dims[j]!).1 ((namesF C).take j) = 0 ∧ treeErr (C.dims[j]!).2 = none := fun j hj => hok j (by omega)
      have hle2 := le1.le.trans hl2
      repeat (first | refine Step.imp ?_ | refine Side.mk (by first | exact True.intro | omega | exact ⟨trivial, rfl⟩ | exact ⟨by omega, trivial, rfl⟩ | exact ⟨by omega, rfl⟩ | exact ⟨by omega, by omega, rfl⟩ | (simp only [List.length_cons, List.length_nil, List.length_append]; done) | (simp only [List.length_cons, List.length_nil, List.length_append]; omega) | decide +kernel) ?_ | refine GDraw_one (by decide +kernel) ?_ | refine New.mk fun _ => ?_ | refine NewS.mk fun _ _ => ?_)
      refine G_loopE (σ := Nat) (fun j => j ≤ ms.length ∧ ∀ k < j, ckFresh (C.meas[k]!) (C.meas.take k) = 0) (fun j => ms.length - j) (fun j => [(98, vI j), (97, vI ms.length), (96, mv), (1, .pointer (some ⟨cb, 0, none⟩)), (5, .pointer (some ⟨db, 0, none⟩)), (6, vI (cellsF C ds.length)), (7, vI (leavesF C ds.length))]) 0 ⟨by omega, fun k hk => by omega⟩ ⟨rfl, rfl, rfl, rfl, rfl, rfl, rfl, trivial⟩ ?_
      rintro j ⟨hj, hpre⟩
      repeat (first | refine Step.imp ?_ | refine Side.mk (by first | exact True.intro | omega | exact ⟨trivial, rfl⟩ | exact ⟨by omega, trivial, rfl⟩ | exact ⟨by omega, rfl⟩ | exact ⟨by omega, by omega, rfl⟩ | (simp only [List.length_cons, List.length_nil, List.length_append]; done) | (simp only [List.length_cons, List.length_nil, List.length_append]; omega) | decide +kernel) ?_ | refine GDraw_one (by decide +kernel) ?_ | refine New.mk fun _ => ?_ | refine NewS.mk fun _ _ => ?_)
      refine ⟨fun hlt => ?_, fun hge => ?_⟩
      · have htl : (ms.take j).length ≤ 4 := by rw [List.length_take]; omega
        have hno1 : ckFresh (ms[j]!) (ms.take j) ≠ 0 → ¬ OkCat C := fun hne hk => hne (by have := hk.names j (by rw [hCm]; omega); rwa [hCm] at this)
        repeat (first | refine Step.imp ?_ | refine Side.mk (by first | exact True.intro | omega | exact ⟨trivial, rfl⟩ | exact ⟨by omega, trivial, rfl⟩ | exact ⟨by omega, rfl⟩ | exact ⟨by omega, by omega, rfl⟩ | (simp only [List.length_cons, List.length_nil, List.length_append]; done) | (simp only [List.length_cons, List.length_nil, List.length_append]; omega) | decide +kernel) ?_ | refine GDraw_one (by decide +kernel) ?_ | refine New.mk fun _ => ?_ | refine NewS.mk fun _ _ => ?_)
        refine ⟨fun hbad => ?_, fun hgood => ?_⟩
        · have hfin := hT.1 (-1) _ h2 ⟨hle2⟩ hbad (hno1 hbad)
          repeat (first | refine Step.imp ?_ | refine Side.mk (by first | exact True.intro | omega | exact ⟨trivial, rfl⟩ | exact ⟨by omega, trivial, rfl⟩ | exact ⟨by omega, rfl⟩ | exact ⟨by omega, by omega, rfl⟩ | (simp only [List.length_cons, List.length_nil, List.length_append]; done) | (simp only [List.length_cons, List.length_nil, List.length_append]; omega) | decide +kernel) ?_ | refine GDraw_one (by decide +kernel) ?_ | refine New.mk fun _ => ?_ | refine NewS.mk fun _ _ => ?_)
          exact Fin.val hfin rfl hle2
        · repeat (first | refine Step.imp ?_ | refine Side.mk (by first | exact True.intro | omega | exact ⟨trivial, rfl⟩ | exact ⟨by omega, trivial, rfl⟩ | exact ⟨by omega, rfl⟩ | exact ⟨by omega, by omega, rfl⟩ | (simp only [List.length_cons, List.length_nil, List.length_append]; done) | (simp only [List.length_cons, List.length_nil, List.length_append]; omega) | decide +kernel) ?_ | refine GDraw_one (by decide +kernel) ?_ | refine New.mk fun _ => ?_ | refine NewS.mk fun _ _ => ?_)
          refine X_roundE (j + 1) ?_ ?_ ?_ ?_
          · refine ⟨by omega, fun k hk => ?_⟩
            rcases Nat.lt_or_ge k j with h | h
            · exact hpre k h
            · have : k = j := by omega
              subst this; rw [hCm]; exact Decidable.not_not.1 hgood
          · show ms.length - (j + 1) < ms.length - j
            omega
          · exact ⟨rfl, rfl, rfl, rfl, rfl, rfl, rfl, trivial⟩
          · infer_instance
      · have hall2 : ∀ k < C.meas.length, ckFresh (C.meas[k]!) (C.meas.take k) = 0 := fun k hk => hpre k (by rw [hCm] at hk; omega)
        have hle' : C.leaves = le := by rw [hC]
        have hsc' : C.scens = sc := by rw [hC]
        by_cases hfine : (cellsF C ds.length ≤ 4096 ∧ leavesF C ds.length ≤ 1024) ∧ (1 ≤ le ∧ le ≤ 1024) ∧ (1 ≤ sc ∧ sc ≤ 8)
        · have hokC : OkCat C := ⟨by omega, by rw [hCm]; omega, hall, hall2, by rw [hCd]; omega, by rw [hCd]; omega, by rw [hle']; omega, by rw [hsc']; omega⟩
          refine G_freezeB db fun h3 le3 f3 => ?_
          refine G_freezeS (.slice ad dts.length cd) fun h4 le4 f4 => ?_
          have hle4 := hle2.trans (le3.le.trans le4.le)
          have hD : IsD h4 db C := ⟨dv', mv', _, ds', dts, _, _, by rw [hle', hsc']; exact Pt.mono le4.le f3, hd'.mono (hl2.trans (le3.le.trans le4.le)), by rw [hpu, hC], by rw [hCm]; exact FSl.mono (hl2.trans (le3.le.trans le4.le)) hm', f4, by omega, fun i hi => by
            have := hdt i (by omega)
            exact ⟨this.1, this.2.1, this.2.2.mono (le3.le.trans le4.le)⟩⟩
          have hfin := hT.2 hokC h4 db ⟨hle4⟩ hD
          repeat' (first | refine Step.imp ?_ | refine Side.mk (by first | exact True.intro | omega | exact ⟨trivial, rfl⟩ | exact ⟨by omega, trivial, rfl⟩ | exact ⟨by omega, rfl⟩ | exact ⟨by omega, by omega, rfl⟩ | (simp only [List.length_cons, List.length_nil, List.length_append]; done) | (simp only [List.length_cons, List.length_nil, List.length_append]; omega) | decide +kernel) ?_ | refine GDraw_one (by decide +kernel) ?_ | refine New.mk fun _ => ?_ | refine NewS.mk fun _ _ => ?_ | refine Ways.mk (fun _ => ?_) (fun _ => ?_))
          all_goals first | exact Fin.val hfin rfl hle4 | (exfalso; omega)
        · have hno : ¬ OkCat C := fun hk => hfine (by
            have h1 := hk.cells
            have h2 := hk.leaves
            have h3 := hk.most
            have h4 := hk.scens
            rw [hCd] at h1 h2; rw [hle'] at h3; rw [hsc'] at h4
            exact ⟨⟨h1, h2⟩, h3, h4⟩)
          have hf5 := hT.1 (-1) 5 h2 ⟨hle2⟩ (by decide) hno
          have hf17 := hT.1 (-1) 17 h2 ⟨hle2⟩ (by decide) hno
          repeat' (first | refine Step.imp ?_ | refine Side.mk (by first | exact True.intro | omega | exact ⟨trivial, rfl⟩ | exact ⟨by omega, trivial, rfl⟩ | exact ⟨by omega, rfl⟩ | exact ⟨by omega, by omega, rfl⟩ | (simp only [List.length_cons, List.length_nil, List.length_append]; done) | (simp only [List.length_cons, List.length_nil, List.length_append]; omega) | decide +kernel) ?_ | refine GDraw_one (by decide +kernel) ?_ | refine New.mk fun _ => ?_ | refine NewS.mk fun _ _ => ?_ | refine Ways.mk (fun _ => ?_) (fun _ => ?_))
          all_goals first | exact Fin.val hf5 rfl hle2 | exact Fin.val hf17 rfl hle2 | (exfalso; omega)
  · have hno : ¬ OkCat C := fun hok => hsz ⟨by have := hok.dims; omega, by have := hok.meas; rw [hCm] at this; omega⟩
    have hfin := hT.1 (-1) 5 h ⟨Hle.refl h⟩ (by decide) hno
    repeat' (first | refine Step.imp ?_ | refine Side.mk (by first | exact True.intro | omega | exact ⟨trivial, rfl⟩ | exact ⟨by omega, trivial, rfl⟩ | exact ⟨by omega, rfl⟩ | exact ⟨by omega, by omega, rfl⟩ | (simp only [List.length_cons, List.length_nil, List.length_append]; done) | (simp only [List.length_cons, List.length_nil, List.length_append]; omega) | decide +kernel) ?_ | refine GDraw_one (by decide +kernel) ?_ | refine New.mk fun _ => ?_ | refine NewS.mk fun _ _ => ?_ | refine Ways.mk (fun _ => ?_) (fun _ => ?_))
    all_goals first | exact Fin.val hfin rfl (Hle.refl _) | (exfalso; omega)⟩
end
end Go.Sl

/-
  Catalogues: what one says.
-/
namespace Go.Sl
open Go.Proofs
set_option linter.unusedVariables false
set_option linter.unusedSimpArgs false
set_option maxRecDepth 10000
set_option synthInstance.maxSize 2000
set_option synthInstance.maxHeartbeats 200000
set_option maxHeartbeats 1000000
section
variable {h : PHeap} {b : Nat} {C : Cat}
instance dims_many [hD : IsD h b C] : CallV Try.prog 27 [.pointer (some ⟨b, 0, none⟩)] h True (vI C.dims.length) := ⟨fun _ => by
  obtain ⟨dv, mv, tv, ds, dts, ty, fr, h1, h2, h3, h4, h5, h6, h7⟩ := hD.out
  refine spec_enter Try.func27 rfl Try.ntmps27 Try.results27 (by simp) fun K R hT => ?_
  repeat' (first | refine Step.imp ?_ | refine Side.mk (by first | exact True.intro | omega | exact ⟨trivial, rfl⟩ | exact ⟨by omega, trivial, rfl⟩ | exact ⟨by omega, rfl⟩ | exact ⟨by omega, by omega, rfl⟩ | (simp only [List.length_cons, List.length_nil, List.length_append]; done) | (simp only [List.length_cons, List.length_nil, List.length_append]; omega) | decide +kernel) ?_ | refine GDraw_one (by decide +kernel) ?_ | refine New.mk fun _ => ?_ | refine NewS.mk fun _ _ => ?_ | refine Ways.mk (fun _ => ?_) (fun _ => ?_))
  all_goals first | (exfalso; contradiction) | exact Fin.val hT (by rw [h6]) (Hle.refl _)⟩
instance dims_tree {L : List HP} {k : Int} {n : Nat} [hD : IsD h b C] [hn : ToN k n] : CallX Try.prog 32 [.pointer (some ⟨b, 0, none⟩), vI k] h L (0 ≤ k ∧ k < C.dims.length) (fun K => ∀ tb, IsTree h tb (mkTree (C.dims[n]!).2) → K (.pointer (some ⟨tb, 0, none⟩)) h []) := ⟨fun hk => by
  have hn := hn.eq
  subst hn
  obtain ⟨dv, mv, tv, ds, dts, ty, fr, h1, h2, h3, h4, h5, h6, h7⟩ := hD.out
  have h8 := h7 k.toNat (by omega)
  refine spec_enter Try.func32 rfl Try.ntmps32 Try.results32 (by simp) fun K R hT => ?_
  repeat' (first | refine Step.imp ?_ | refine Side.mk (by first | exact True.intro | omega | exact ⟨trivial, rfl⟩ | exact ⟨by omega, trivial, rfl⟩ | exact ⟨by omega, rfl⟩ | exact ⟨by omega, by omega, rfl⟩ | (simp only [List.length_cons, List.length_nil, List.length_append]; done) | (simp only [List.length_cons, List.length_nil, List.length_append]; omega) | decide +kernel) ?_ | refine GDraw_one (by decide +kernel) ?_ | refine New.mk fun _ => ?_ | refine NewS.mk fun _ _ => ?_ | refine Ways.mk (fun _ => ?_) (fun _ => ?_))
  all_goals first | (exfalso; omega) | exact Fin.val (hT _ h8.2.2) rfl (Hle.refl _)⟩
instance dims_cat {L : List HP} [hD : IsD h b C] [ok : OkCat C] : CallX Try.prog 31 [.pointer (some ⟨b, 0, none⟩)] h L True
    (fun K => ∀ h' dv' mv' ds', Le h h' → IsDims h' dv' ds' → ds'.map Dm.pure = C.dims → FSl h' mv' encS 1 C.meas → K (.agg [dv', mv', vI C.leaves, vI C.scens].toArray) h' []) := ⟨fun _ => by
  obtain ⟨dv, mv, tv, ds, dts, ty, fr, h1, h2, h3, h4, h5, h6, h7⟩ := hD.out
  have hl : ds.length = C.dims.length := by rw [← h3]; simp
  have hd := ok.dims
  have hm := ok.meas
  have hn : ∀ i < ds.length, (ds[i]!).nodes.length ≤ 4294967296 := fun i hi => by
    have := (treeErr_all (ok.trees i (by omega)).2).2.1
    rw [← h3, getElem!_pos _ i (by simpa using hi), List.getElem_map] at this
    rw [getElem!_pos ds i hi]
    have h0 : ((ds[i]).pure).2.length = (ds[i]).nodes.length := rfl
    omega
  refine spec_enter Try.func31 rfl Try.ntmps31 Try.results31 (by simp) fun K R hT => ?_
  repeat' (first | refine Step.imp ?_ | refine Side.mk (by first | exact True.intro | omega | exact ⟨trivial, rfl⟩ | exact ⟨by omega, trivial, rfl⟩ | exact ⟨by omega, rfl⟩ | exact ⟨by omega, by omega, rfl⟩ | (simp only [List.length_cons, List.length_nil, List.length_append]; done) | (simp only [List.length_cons, List.length_nil, List.length_append]; omega) | decide +kernel) ?_ | refine GDraw_one (by decide +kernel) ?_ | refine New.mk fun _ => ?_ | refine NewS.mk fun _ _ => ?_ | refine Ways.mk (fun _ => ?_) (fun _ => ?_))
  all_goals first | (exfalso; contradiction) | skip
  all_goals (refine Side.mk ⟨by omega, by omega, hn⟩ ?_)
  intro h' dv' mv' ds' le hd' hp hm'
  repeat (first | refine Step.imp ?_ | refine Side.mk (by first | exact True.intro | omega | exact ⟨trivial, rfl⟩ | exact ⟨by omega, trivial, rfl⟩ | exact ⟨by omega, rfl⟩ | exact ⟨by omega, by omega, rfl⟩ | (simp only [List.length_cons, List.length_nil, List.length_append]; done) | (simp only [List.length_cons, List.length_nil, List.length_append]; omega) | decide +kernel) ?_ | refine GDraw_one (by decide +kernel) ?_ | refine New.mk fun _ => ?_ | refine NewS.mk fun _ _ => ?_)
  exact Fin.val (hT h' dv' mv' ds' le hd' (by rw [hp, h3]) hm') rfl le.le⟩
/-- How many there are of a dimension. -/
def sizeF (C : Cat) (i : Nat) : Int := if i < C.dims.length then (C.dims[i]!).2.length else 1
def rightF (C : Cat) (m : Int) (a : Nat → Int) : Prop := (0 ≤ m ∧ m < C.meas.length) ∧ ∀ i < 4, 0 ≤ a i ∧ a i < sizeF C i
instance (C : Cat) (m : Int) (a : Nat → Int) : Decidable (rightF C m a) := by unfold rightF; infer_instance
instance dims_right {m a0 a1 a2 a3 : Int} [hD : IsD h b C] [ok : OkCat C] : CallV Try.prog 23 [.pointer (some ⟨b, 0, none⟩), .agg [vI m, vI a0, vI a1, vI a2, vI a3].toArray] h True (.bool (decide (rightF C m (get4 a0 a1 a2 a3)))) := ⟨fun _ => by
  obtain ⟨dv, mv, tv, ds, dts, ty, fr, h1, h2, h3, h4, h5, h6, h7⟩ := hD.out
  have hd := ok.dims
  have hm := ok.meas
  refine spec_enter Try.func23 rfl Try.ntmps23 Try.results23 (by simp) fun K R hT => ?_
  repeat' (first | refine Step.imp ?_ | refine Side.mk (by first | exact True.intro | omega | exact ⟨trivial, rfl⟩ | exact ⟨by omega, trivial, rfl⟩ | exact ⟨by omega, rfl⟩ | exact ⟨by omega, by omega, rfl⟩ | (simp only [List.length_cons, List.length_nil, List.length_append]; done) | (simp only [List.length_cons, List.length_nil, List.length_append]; omega) | decide +kernel) ?_ | refine GDraw_one (by decide +kernel) ?_ | refine New.mk fun _ => ?_ | refine NewS.mk fun _ _ => ?_ | refine Ways.mk (fun _ => ?_) (fun _ => ?_))
  all_goals first | (exfalso; contradiction) | skip
  · exact Fin.ff hT (fun hr => by have := hr.1; omega) (Hle.refl _)
  · refine G_loopE (σ := Nat) (fun k => k ≤ 4 ∧ ∀ j < k, 0 ≤ get4 a0 a1 a2 a3 j ∧ get4 a0 a1 a2 a3 j < sizeF C j) (fun k => 4 - k) (fun k => [(25, vI k), (24, .agg [vI a0, vI a1, vI a2, vI a3].toArray), (0, .pointer (some ⟨b, 0, none⟩))]) 0 ⟨by omega, fun j hj => by omega⟩ ⟨rfl, rfl, rfl, trivial⟩ ?_
    rintro k ⟨hk4, hall⟩
    have hno : ¬ (0 ≤ get4 a0 a1 a2 a3 k ∧ get4 a0 a1 a2 a3 k < sizeF C k) → k < 4 → ¬ rightF C m (get4 a0 a1 a2 a3) := fun hn h4 hr => hn (hr.2 k h4)
    have hnext : (0 ≤ get4 a0 a1 a2 a3 k ∧ get4 a0 a1 a2 a3 k < sizeF C k) → ∀ j < k + 1, 0 ≤ get4 a0 a1 a2 a3 j ∧ get4 a0 a1 a2 a3 j < sizeF C j := fun hn j hj => by
      rcases Nat.lt_or_ge j k with h | h
      · exact hall j h
      · have : j = k := by omega
        subst this; exact hn
    repeat (first | refine Step.imp ?_ | refine Side.mk (by first | exact True.intro | omega | exact ⟨trivial, rfl⟩ | exact ⟨by omega, trivial, rfl⟩ | exact ⟨by omega, rfl⟩ | exact ⟨by omega, by omega, rfl⟩ | (simp only [List.length_cons, List.length_nil, List.length_append]; done) | (simp only [List.length_cons, List.length_nil, List.length_append]; omega) | decide +kernel) ?_ | refine GDraw_one (by decide +kernel) ?_ | refine New.mk fun _ => ?_ | refine NewS.mk fun _ _ => ?_)
    refine ⟨fun hlt => ?_, fun hge => ?_⟩
    · repeat (first | refine Step.imp ?_ | refine Side.mk (by first | exact True.intro | omega | exact ⟨trivial, rfl⟩ | exact ⟨by omega, trivial, rfl⟩ | exact ⟨by omega, rfl⟩ | exact ⟨by omega, by omega, rfl⟩ | (simp only [List.length_cons, List.length_nil, List.length_append]; done) | (simp only [List.length_cons, List.length_nil, List.length_append]; omega) | decide +kernel) ?_ | refine GDraw_one (by decide +kernel) ?_ | refine New.mk fun _ => ?_ | refine NewS.mk fun _ _ => ?_)
      refine ⟨fun hin => ?_, fun hout => ?_⟩
      · have h8 := (h7 k (by omega)).2.2
        have hsz : sizeF C k = (mkTree (C.dims[k]!).2).nodes.length := by unfold sizeF; rw [if_pos (by omega)]; rfl
        have hsm := (treeErr_all (ok.trees k (by omega)).2).2.1
        have hsm2 : (mkTree (C.dims[k]!).2).nodes.length = (C.dims[k]!).2.length := rfl
        repeat (first | refine Step.imp ?_ | refine Side.mk (by first | exact True.intro | omega | exact ⟨trivial, rfl⟩ | exact ⟨by omega, trivial, rfl⟩ | exact ⟨by omega, rfl⟩ | exact ⟨by omega, by omega, rfl⟩ | (simp only [List.length_cons, List.length_nil, List.length_append]; done) | (simp only [List.length_cons, List.length_nil, List.length_append]; omega) | decide +kernel) ?_ | refine GDraw_one (by decide +kernel) ?_ | refine New.mk fun _ => ?_ | refine NewS.mk fun _ _ => ?_)
        refine ⟨fun hbad => ?_, fun hgood => ?_⟩
        · repeat (first | refine Step.imp ?_ | refine Side.mk (by first | exact True.intro | omega | exact ⟨trivial, rfl⟩ | exact ⟨by omega, trivial, rfl⟩ | exact ⟨by omega, rfl⟩ | exact ⟨by omega, by omega, rfl⟩ | (simp only [List.length_cons, List.length_nil, List.length_append]; done) | (simp only [List.length_cons, List.length_nil, List.length_append]; omega) | decide +kernel) ?_ | refine GDraw_one (by decide +kernel) ?_ | refine New.mk fun _ => ?_ | refine NewS.mk fun _ _ => ?_)
          exact Fin.ff hT (hno (by omega) (by omega)) (Hle.refl _)
        · repeat (first | refine Step.imp ?_ | refine Side.mk (by first | exact True.intro | omega | exact ⟨trivial, rfl⟩ | exact ⟨by omega, trivial, rfl⟩ | exact ⟨by omega, rfl⟩ | exact ⟨by omega, by omega, rfl⟩ | (simp only [List.length_cons, List.length_nil, List.length_append]; done) | (simp only [List.length_cons, List.length_nil, List.length_append]; omega) | decide +kernel) ?_ | refine GDraw_one (by decide +kernel) ?_ | refine New.mk fun _ => ?_ | refine NewS.mk fun _ _ => ?_)
          refine X_roundE (k + 1) ?_ ?_ ?_ ?_
          · exact ⟨by omega, hnext (by omega)⟩
          · show 4 - (k + 1) < 4 - k
            omega
          · exact ⟨rfl, rfl, rfl, trivial⟩
          · infer_instance
      · have hsz : sizeF C k = 1 := by unfold sizeF; rw [if_neg (by omega)]
        repeat (first | refine Step.imp ?_ | refine Side.mk (by first | exact True.intro | omega | exact ⟨trivial, rfl⟩ | exact ⟨by omega, trivial, rfl⟩ | exact ⟨by omega, rfl⟩ | exact ⟨by omega, by omega, rfl⟩ | (simp only [List.length_cons, List.length_nil, List.length_append]; done) | (simp only [List.length_cons, List.length_nil, List.length_append]; omega) | decide +kernel) ?_ | refine GDraw_one (by decide +kernel) ?_ | refine New.mk fun _ => ?_ | refine NewS.mk fun _ _ => ?_)
        refine ⟨fun hbad => ?_, fun hgood => ?_⟩
        · repeat (first | refine Step.imp ?_ | refine Side.mk (by first | exact True.intro | omega | exact ⟨trivial, rfl⟩ | exact ⟨by omega, trivial, rfl⟩ | exact ⟨by omega, rfl⟩ | exact ⟨by omega, by omega, rfl⟩ | (simp only [List.length_cons, List.length_nil, List.length_append]; done) | (simp only [List.length_cons, List.length_nil, List.length_append]; omega) | decide +kernel) ?_ | refine GDraw_one (by decide +kernel) ?_ | refine New.mk fun _ => ?_ | refine NewS.mk fun _ _ => ?_)
          exact Fin.ff hT (hno (by omega) (by omega)) (Hle.refl _)
        · repeat (first | refine Step.imp ?_ | refine Side.mk (by first | exact True.intro | omega | exact ⟨trivial, rfl⟩ | exact ⟨by omega, trivial, rfl⟩ | exact ⟨by omega, rfl⟩ | exact ⟨by omega, by omega, rfl⟩ | (simp only [List.length_cons, List.length_nil, List.length_append]; done) | (simp only [List.length_cons, List.length_nil, List.length_append]; omega) | decide +kernel) ?_ | refine GDraw_one (by decide +kernel) ?_ | refine New.mk fun _ => ?_ | refine NewS.mk fun _ _ => ?_)
          refine X_roundE (k + 1) ?_ ?_ ?_ ?_
          · exact ⟨by omega, hnext (by omega)⟩
          · show 4 - (k + 1) < 4 - k
            omega
          · exact ⟨rfl, rfl, rfl, trivial⟩
          · infer_instance
    · repeat (first | refine Step.imp ?_ | refine Side.mk (by first | exact True.intro | omega | exact ⟨trivial, rfl⟩ | exact ⟨by omega, trivial, rfl⟩ | exact ⟨by omega, rfl⟩ | exact ⟨by omega, by omega, rfl⟩ | (simp only [List.length_cons, List.length_nil, List.length_append]; done) | (simp only [List.length_cons, List.length_nil, List.length_append]; omega) | decide +kernel) ?_ | refine GDraw_one (by decide +kernel) ?_ | refine New.mk fun _ => ?_ | refine NewS.mk fun _ _ => ?_)
      exact Fin.tt hT ⟨by omega, fun j hj => hall j (by omega)⟩ (Hle.refl _)⟩
def leafF (C : Cat) (m : Int) (a : Nat → Int) : Prop := rightF C m a ∧ ∀ i < C.dims.length, (mkTree (C.dims[i]!).2).leafB (a i)
instance (C : Cat) (m : Int) (a : Nat → Int) : Decidable (leafF C m a) := by unfold leafF; infer_instance
instance dims_leaf {m a0 a1 a2 a3 : Int} [hD : IsD h b C] [ok : OkCat C] : CallV Try.prog 37 [.pointer (some ⟨b, 0, none⟩), .agg [vI m, vI a0, vI a1, vI a2, vI a3].toArray] h True (.bool (decide (leafF C m (get4 a0 a1 a2 a3)))) := ⟨fun _ => by
  have hD' := hD
  obtain ⟨dv, mv, tv, ds, dts, ty, fr, h1, h2, h3, h4, h5, h6, h7⟩ := hD'.out
  have hd := ok.dims
  refine spec_enter Try.func37 rfl Try.ntmps37 Try.results37 (by simp) fun K R hT => ?_
  repeat (first | refine Step.imp ?_ | refine Side.mk (by first | exact True.intro | omega | exact ⟨trivial, rfl⟩ | exact ⟨by omega, trivial, rfl⟩ | exact ⟨by omega, rfl⟩ | exact ⟨by omega, by omega, rfl⟩ | (simp only [List.length_cons, List.length_nil, List.length_append]; done) | (simp only [List.length_cons, List.length_nil, List.length_append]; omega) | decide +kernel) ?_ | refine GDraw_one (by decide +kernel) ?_ | refine New.mk fun _ => ?_ | refine NewS.mk fun _ _ => ?_)
  refine ⟨fun hr => ?_, fun hr => ?_⟩
  · repeat (first | refine Step.imp ?_ | refine Side.mk (by first | exact True.intro | omega | exact ⟨trivial, rfl⟩ | exact ⟨by omega, trivial, rfl⟩ | exact ⟨by omega, rfl⟩ | exact ⟨by omega, by omega, rfl⟩ | (simp only [List.length_cons, List.length_nil, List.length_append]; done) | (simp only [List.length_cons, List.length_nil, List.length_append]; omega) | decide +kernel) ?_ | refine GDraw_one (by decide +kernel) ?_ | refine New.mk fun _ => ?_ | refine NewS.mk fun _ _ => ?_)
    exact Fin.ff hT (fun hl => hr hl.1) (Hle.refl _)
  have hr := Decidable.not_not.1 hr
  repeat (first | refine Step.imp ?_ | refine Side.mk (by first | exact True.intro | omega | exact ⟨trivial, rfl⟩ | exact ⟨by omega, trivial, rfl⟩ | exact ⟨by omega, rfl⟩ | exact ⟨by omega, by omega, rfl⟩ | (simp only [List.length_cons, List.length_nil, List.length_append]; done) | (simp only [List.length_cons, List.length_nil, List.length_append]; omega) | decide +kernel) ?_ | refine GDraw_one (by decide +kernel) ?_ | refine New.mk fun _ => ?_ | refine NewS.mk fun _ _ => ?_)
  rename_i cb _
  refine G_loopE (σ := Nat) (fun k => k ≤ dts.length ∧ ∀ j < k, (mkTree (C.dims[j]!).2).leafB (get4 a0 a1 a2 a3 j)) (fun k => dts.length - k) (fun k => [(16, vI k), (15, vI dts.length), (14, tv), (3, .pointer (some ⟨cb, 0, none⟩))]) 0 ⟨by omega, fun j hj => by omega⟩ ⟨rfl, rfl, rfl, rfl, trivial⟩ ?_
  rintro k ⟨hk4, hall⟩
  repeat (first | refine Step.imp ?_ | refine Side.mk (by first | exact True.intro | omega | exact ⟨trivial, rfl⟩ | exact ⟨by omega, trivial, rfl⟩ | exact ⟨by omega, rfl⟩ | exact ⟨by omega, by omega, rfl⟩ | (simp only [List.length_cons, List.length_nil, List.length_append]; done) | (simp only [List.length_cons, List.length_nil, List.length_append]; omega) | decide +kernel) ?_ | refine GDraw_one (by decide +kernel) ?_ | refine New.mk fun _ => ?_ | refine NewS.mk fun _ _ => ?_)
  refine ⟨fun hlt => ?_, fun hge => ?_⟩
  · have h8 := (h7 k (by omega)).2.2
    haveI := mkTree_len (ok.trees k (by omega)).2
    repeat (first | refine Step.imp ?_ | refine Side.mk (by first | exact True.intro | omega | exact ⟨trivial, rfl⟩ | exact ⟨by omega, trivial, rfl⟩ | exact ⟨by omega, rfl⟩ | exact ⟨by omega, by omega, rfl⟩ | (simp only [List.length_cons, List.length_nil, List.length_append]; done) | (simp only [List.length_cons, List.length_nil, List.length_append]; omega) | decide +kernel) ?_ | refine GDraw_one (by decide +kernel) ?_ | refine New.mk fun _ => ?_ | refine NewS.mk fun _ _ => ?_)
    refine ⟨fun hbad => ?_, fun hgood => ?_⟩
    · repeat (first | refine Step.imp ?_ | refine Side.mk (by first | exact True.intro | omega | exact ⟨trivial, rfl⟩ | exact ⟨by omega, trivial, rfl⟩ | exact ⟨by omega, rfl⟩ | exact ⟨by omega, by omega, rfl⟩ | (simp only [List.length_cons, List.length_nil, List.length_append]; done) | (simp only [List.length_cons, List.length_nil, List.length_append]; omega) | decide +kernel) ?_ | refine GDraw_one (by decide +kernel) ?_ | refine New.mk fun _ => ?_ | refine NewS.mk fun _ _ => ?_)
      exact Fin.ff hT (fun hl => hbad (hl.2 k (by omega))) (Hle.refl _)
    · repeat (first | refine Step.imp ?_ | refine Side.mk (by first | exact True.intro | omega | exact ⟨trivial, rfl⟩ | exact ⟨by omega, trivial, rfl⟩ | exact ⟨by omega, rfl⟩ | exact ⟨by omega, by omega, rfl⟩ | (simp only [List.length_cons, List.length_nil, List.length_append]; done) | (simp only [List.length_cons, List.length_nil, List.length_append]; omega) | decide +kernel) ?_ | refine GDraw_one (by decide +kernel) ?_ | refine New.mk fun _ => ?_ | refine NewS.mk fun _ _ => ?_)
      refine X_roundE (k + 1) ?_ ?_ ?_ ?_
      · refine ⟨by omega, fun j hj => ?_⟩
        rcases Nat.lt_or_ge j k with h | h
        · exact hall j h
        · have : j = k := by omega
          subst this; exact Decidable.not_not.1 hgood
      · show dts.length - (k + 1) < dts.length - k
        omega
      · exact ⟨rfl, rfl, rfl, rfl, trivial⟩
      · infer_instance
  · repeat (first | refine Step.imp ?_ | refine Side.mk (by first | exact True.intro | omega | exact ⟨trivial, rfl⟩ | exact ⟨by omega, trivial, rfl⟩ | exact ⟨by omega, rfl⟩ | exact ⟨by omega, by omega, rfl⟩ | (simp only [List.length_cons, List.length_nil, List.length_append]; done) | (simp only [List.length_cons, List.length_nil, List.length_append]; omega) | decide +kernel) ?_ | refine GDraw_one (by decide +kernel) ?_ | refine New.mk fun _ => ?_ | refine NewS.mk fun _ _ => ?_)
    exact Fin.tt hT ⟨hr, fun j hj => hall j (by omega)⟩ (Hle.refl _)⟩
end
end Go.Sl

/-
  The space of a catalogue: made.
-/
namespace Go.Sl
open Go.Proofs
set_option linter.unusedVariables false
set_option linter.unusedSimpArgs false
set_option maxRecDepth 10000
set_option synthInstance.maxSize 2000
set_option synthInstance.maxHeartbeats 200000
set_option maxHeartbeats 1000000
/-- The first n of many numbers, and nothing behind. -/
def partF (g : Nat → Int) (n j : Nat) : Int := if j < n then g j else 0
theorem part_succ (g : Nat → Int) (n j : Nat) : partF g (n + 1) j = if n = j then g n else partF g n j := by
  unfold partF
  by_cases h : n = j
  · subst h; simp
  · by_cases h2 : j < n
    · rw [if_pos (by omega), if_neg h, if_pos h2]
    · rw [if_neg (by omega), if_neg h, if_neg h2]
def nodesN (C : Cat) (j : Nat) : Int := (C.dims[j]!).2.length
def leavesN (C : Cat) (j : Nat) : Int := (mkTree (C.dims[j]!).2).leaves.length
def fullF (C : Cat) : Nat → Int := partF (nodesN C) C.dims.length
def lowF (C : Cat) : Nat → Int := partF (leavesN C) C.dims.length
@[reducible] def encP (b : Nat) : List Value := [.pointer (some ⟨b, 0, none⟩)]
instance : EncOne encP := ⟨fun y u hu => by simp at hu; subst hu; rfl⟩
instance {b : Nat} : Mk encP [.pointer (some ⟨b, 0, none⟩)] b := ⟨rfl⟩
class IsSp (h : PHeap) (b : Nat) (C : outParam Cat) : Prop where
  out : ∃ db tv lv tbs lvs ty fr, Pt h b (.cells [.pointer (some ⟨db, 0, none⟩), vI C.meas.length, tv, lv, vI (fullF C 0), vI (fullF C 1), vI (fullF C 2), vI (fullF C 3), vI (lowF C 0), vI (lowF C 1), vI (lowF C 2), vI (lowF C 3)].toArray ty fr) ∧
    IsD h db C ∧ FSl h tv encP 1 tbs ∧ tbs.length = C.dims.length ∧ FSl h lv encV 1 lvs ∧ lvs.length = C.dims.length ∧
    ∀ i < C.dims.length, IsTree h (tbs[i]!) (mkTree (C.dims[i]!).2) ∧ FSl h (lvs[i]!) encI 1 (mkTree (C.dims[i]!).2).leaves
theorem IsSp.mono {h h' : PHeap} {b : Nat} {C : Cat} (hl : Hle h h') (d : IsSp h b C) : IsSp h' b C := ⟨by
  obtain ⟨db, tv, lv, tbs, lvs, ty, fr, h1, h2, h3, h4, h5, h6, h7⟩ := d.out
  exact ⟨db, tv, lv, tbs, lvs, ty, fr, Pt.mono hl h1, h2.mono hl, FSl.mono hl h3, h4, FSl.mono hl h5, h6, fun i hi => ⟨(h7 i hi).1.mono hl, FSl.mono hl (h7 i hi).2⟩⟩⟩
instance (priority := low) {h h' : PHeap} {b : Nat} {C : Cat} [l : Le h h'] [t : IsSp h b C] : IsSp h' b C := t.mono l.le
section
variable {h : PHeap} {C : Cat}
instance coord_new {L : List HP} {db : Nat} [hD : IsD h db C] [ok : OkCat C] : CallX Try.prog 10 [.pointer (some ⟨db, 0, none⟩)] h L True
    (fun K => ∀ h' b, Le h h' → IsSp h' b C → K (.tuple [.pointer (some ⟨b, 0, none⟩), vI 0].toArray) h' []) := ⟨fun _ => by
  have hd := ok.dims
  have hm := ok.meas
  refine spec_enter Try.func10 rfl Try.ntmps10 Try.results10 (by simp) fun K R hT => ?_
  repeat' (first | refine Step.imp ?_ | refine Side.mk (by first | exact True.intro | omega | exact ⟨trivial, rfl⟩ | exact ⟨by omega, trivial, rfl⟩ | exact ⟨by omega, rfl⟩ | exact ⟨by omega, by omega, rfl⟩ | (simp only [List.length_cons, List.length_nil, List.length_append]; done) | (simp only [List.length_cons, List.length_nil, List.length_append]; omega) | decide +kernel) ?_ | refine GDraw_one (by decide +kernel) ?_ | refine New.mk fun _ => ?_ | refine NewS.mk fun _ _ => ?_ | refine Ways.mk (fun _ => ?_) (fun _ => ?_))
  all_goals first | (exfalso; contradiction) | skip
  intro h1 dv' mv' ds' le1 hd' hp hm'
  repeat (first | refine Step.imp ?_ | refine Side.mk (by first | exact True.intro | omega | exact ⟨trivial, rfl⟩ | exact ⟨by omega, trivial, rfl⟩ | exact ⟨by omega, rfl⟩ | exact ⟨by omega, by omega, rfl⟩ | (simp only [List.length_cons, List.length_nil, List.length_append]; done) | (simp only [List.length_cons, List.length_nil, List.length_append]; omega) | decide +kernel) ?_ | refine GDraw_one (by decide +kernel) ?_ | refine New.mk fun _ => ?_ | refine NewS.mk fun _ _ => ?_)
  rename_i sb
  refine G_nil encP 1 none ?_
  refine G_nil encV 1 none ?_
  refine G_loop (σ := Nat × PHeap × (Option Addr × Nat) × (Option Addr × Nat) × List Nat × List Value) (fun s => s.1 ≤ C.dims.length ∧ Hle h1 s.2.1 ∧ s.2.2.2.2.1.length = s.1 ∧ s.2.2.2.2.2.length = s.1 ∧
      ∀ j < s.1, IsTree s.2.1 (s.2.2.2.2.1[j]!) (mkTree (C.dims[j]!).2) ∧ FSl s.2.1 (s.2.2.2.2.2[j]!) encI 1 (mkTree (C.dims[j]!).2).leaves) (fun s => C.dims.length - s.1)
    (fun s => [(18, vI s.1), (17, vI C.dims.length), (0, .pointer (some ⟨db, 0, none⟩)), (4, .pointer (some ⟨sb, 0, none⟩))]) (fun s => s.2.1)
    (fun s => slo encV 1 (.slice s.2.2.2.1.1 s.2.2.2.2.2.length s.2.2.2.1.2) s.2.2.2.2.2 :: slo encP 1 (.slice s.2.2.1.1 s.2.2.2.2.1.length s.2.2.1.2) s.2.2.2.2.1 ::
      blk sb (.cells [.pointer (some ⟨db, 0, none⟩), vI C.meas.length, .slice s.2.2.1.1 s.2.2.2.2.1.length s.2.2.1.2, .slice s.2.2.2.1.1 s.2.2.2.2.2.length s.2.2.2.1.2,
        vI (partF (nodesN C) s.1 0), vI (partF (nodesN C) s.1 1), vI (partF (nodesN C) s.1 2), vI (partF (nodesN C) s.1 3), vI (partF (leavesN C) s.1 0), vI (partF (leavesN C) s.1 1), vI (partF (leavesN C) s.1 2), vI (partF (leavesN C) s.1 3)].toArray 65 (0, 0)) :: (L ++ R))
    (0, h1, (none, 0), (none, 0), [], []) ⟨by omega, Hle.refl h1, rfl, rfl, fun j hj => by omega⟩ ⟨rfl, rfl, rfl, rfl, trivial⟩ rfl ?_ ?_
  · simp only [partF, Nat.not_lt_zero, if_false, List.length_nil]
    infer_instance
  rintro ⟨i, h2, ⟨ta, tc⟩, ⟨la, lc⟩, tbs, lvs⟩ ⟨hi, hl2, htl, hll, hall⟩
  simp only at hi hl2 htl hll hall ⊢
  haveI le2 : Le h1 h2 := ⟨hl2⟩
  repeat (first | refine Step.imp ?_ | refine Side.mk (by first | exact True.intro | omega | exact ⟨trivial, rfl⟩ | exact ⟨by omega, trivial, rfl⟩ | exact ⟨by omega, rfl⟩ | exact ⟨by omega, by omega, rfl⟩ | (simp only [List.length_cons, List.length_nil, List.length_append]; done) | (simp only [List.length_cons, List.length_nil, List.length_append]; omega) | decide +kernel) ?_ | refine GDraw_one (by decide +kernel) ?_ | refine New.mk fun _ => ?_ | refine NewS.mk fun _ _ => ?_)
  refine ⟨fun hlt => ?_, fun hge => ?_⟩
  · have hok := ok.trees i (by omega)
    have htl4 : tbs.length ≤ 4 := by omega
    have hll4 : lvs.length ≤ 4 := by omega
    have hsm := tree_small hok.2
    repeat (first | refine Step.imp ?_ | refine Side.mk (by first | exact True.intro | omega | exact ⟨trivial, rfl⟩ | exact ⟨by omega, trivial, rfl⟩ | exact ⟨by omega, rfl⟩ | exact ⟨by omega, by omega, rfl⟩ | (simp only [List.length_cons, List.length_nil, List.length_append]; done) | (simp only [List.length_cons, List.length_nil, List.length_append]; omega) | decide +kernel) ?_ | refine GDraw_one (by decide +kernel) ?_ | refine New.mk fun _ => ?_ | refine NewS.mk fun _ _ => ?_)
    intro tb htree
    repeat (first | refine GDraw_O (.slice la lvs.length lc) (by decide +kernel) ?_ | refine Step.imp ?_ | refine Side.mk (by first | exact True.intro | omega | exact ⟨trivial, rfl⟩ | exact ⟨by omega, trivial, rfl⟩ | exact ⟨by omega, rfl⟩ | exact ⟨by omega, by omega, rfl⟩ | (simp only [List.length_cons, List.length_nil, List.length_append]; done) | (simp only [List.length_cons, List.length_nil, List.length_append]; omega) | decide +kernel) ?_ | refine GDraw_one (by decide +kernel) ?_ | refine New.mk fun _ => ?_ | refine NewS.mk fun _ _ => ?_)
    rename_i b1 ta1 tc1
    intro va vc
    repeat (first | refine Step.imp ?_ | refine Side.mk (by first | exact True.intro | omega | exact ⟨trivial, rfl⟩ | exact ⟨by omega, trivial, rfl⟩ | exact ⟨by omega, rfl⟩ | exact ⟨by omega, by omega, rfl⟩ | (simp only [List.length_cons, List.length_nil, List.length_append]; done) | (simp only [List.length_cons, List.length_nil, List.length_append]; omega) | decide +kernel) ?_ | refine GDraw_one (by decide +kernel) ?_ | refine New.mk fun _ => ?_ | refine NewS.mk fun _ _ => ?_)
    have hv : (lvs ++ [Value.slice va (mkTree (C.dims[i]!).2).leaves.length vc])[i]! = .slice va (mkTree (C.dims[i]!).2).leaves.length vc := by
      rw [getElem!_pos _ i (by simp; omega), List.getElem_append_right (by omega)]; simp [hll]
    rw [hv]
    repeat (first | refine Step.imp ?_ | refine Side.mk (by first | exact True.intro | omega | exact ⟨trivial, rfl⟩ | exact ⟨by omega, trivial, rfl⟩ | exact ⟨by omega, rfl⟩ | exact ⟨by omega, by omega, rfl⟩ | (simp only [List.length_cons, List.length_nil, List.length_append]; done) | (simp only [List.length_cons, List.length_nil, List.length_append]; omega) | decide +kernel) ?_ | refine GDraw_one (by decide +kernel) ?_ | refine New.mk fun _ => ?_ | refine NewS.mk fun _ _ => ?_)
    refine X_freezeS (.slice va (mkTree (C.dims[i]!).2).leaves.length vc) fun h3 le3 f3 => ?_
    rename_i b2 la1 lc1
    refine X_round (i + 1, h3, (ta1, tc1), (la1, lc1), tbs ++ [tb], lvs ++ [.slice va (mkTree (C.dims[i]!).2).leaves.length vc]) ?_ ?_ ?_ ?_ ?_
    · refine ⟨by show i + 1 ≤ C.dims.length; omega, hl2.trans le3.le, by simp [htl], by simp [hll], fun j hj => ?_⟩
      show IsTree h3 ((tbs ++ [tb])[j]!) _ ∧ FSl h3 ((lvs ++ [.slice va (mkTree (C.dims[i]!).2).leaves.length vc])[j]!) encI 1 _
      have hj : j < i + 1 := hj
      rw [getElem!_pos (tbs ++ [tb]) j (by simp; omega), getElem!_pos (lvs ++ [_]) j (by simp; omega)]
      rcases Nat.lt_or_ge j i with hji | hji
      · rw [List.getElem_append_left (by omega), List.getElem_append_left (by omega)]
        have := hall j hji
        rw [getElem!_pos tbs j (by omega), getElem!_pos lvs j (by omega)] at this
        exact ⟨this.1.mono le3.le, FSl.mono le3.le this.2⟩
      · have : j = i := by omega
        subst this
        rw [List.getElem_append_right (by omega), List.getElem_append_right (by omega)]
        simp only [htl, hll, Nat.sub_self, List.getElem_cons_zero]
        exact ⟨htree.mono le3.le, f3⟩
    · show C.dims.length - (i + 1) < C.dims.length - i
      omega
    · exact ⟨rfl, rfl, rfl, rfl, trivial⟩
    · rfl
    · simp only [part_succ, List.length_append, List.length_cons, List.length_nil, Nat.zero_add]
      rw [show nodesN C i = ((mkTree (C.dims[i]!).2).nodes.length : Int) from rfl, show leavesN C i = ((mkTree (C.dims[i]!).2).leaves.length : Int) from rfl]
      infer_instance
  · have hi2 : i = C.dims.length := by omega
    subst hi2
    refine G_freezeB sb fun h3 le3 f3 => ?_
    refine G_freezeS (.slice ta tbs.length tc) fun h4 le4 f4 => ?_
    refine G_freezeS (.slice la lvs.length lc) fun h5 le5 f5 => ?_
    have hle := le1.le.trans (hl2.trans (le3.le.trans (le4.le.trans le5.le)))
    have hl25 := le3.le.trans (le4.le.trans le5.le)
    have hS : IsSp h5 sb C := ⟨db, _, _, tbs, lvs, _, _, Pt.mono (le4.le.trans le5.le) f3, hD.mono hle, FSl.mono le5.le f4, htl, f5, hll, fun i hi => ⟨(hall i hi).1.mono hl25, FSl.mono hl25 (hall i hi).2⟩⟩
    have hfin := hT h5 sb ⟨hle⟩ hS
    repeat (first | refine Step.imp ?_ | refine Side.mk (by first | exact True.intro | omega | exact ⟨trivial, rfl⟩ | exact ⟨by omega, trivial, rfl⟩ | exact ⟨by omega, rfl⟩ | exact ⟨by omega, by omega, rfl⟩ | (simp only [List.length_cons, List.length_nil, List.length_append]; done) | (simp only [List.length_cons, List.length_nil, List.length_append]; omega) | decide +kernel) ?_ | refine GDraw_one (by decide +kernel) ?_ | refine New.mk fun _ => ?_ | refine NewS.mk fun _ _ => ?_)
    exact Fin.val hfin rfl hle⟩
end
end Go.Sl

/-
  The space of a catalogue: numbers of cells, there and back.
-/
namespace Go.Sl
open Go.Proofs
set_option linter.unusedVariables false
set_option linter.unusedSimpArgs false
set_option maxRecDepth 10000
set_option synthInstance.maxSize 2000
set_option synthInstance.maxHeartbeats 200000
set_option maxHeartbeats 1000000
def allF (C : Cat) (o : Nat → Int) : Nat → Int
  | 0 => C.meas.length
  | n + 1 => allF C o n * o n
def packF (m : Int) (p o : Nat → Int) : Nat → Int
  | 0 => m
  | n + 1 => packF m p o n * o n + p n
def quoF (o : Nat → Int) (n : Int) (d : Nat) : Nat → Int
  | 0 => n
  | j + 1 => quoF o n d j / o (d - 1 - j)
def remF (o : Nat → Int) (n : Int) (d i : Nat) : Int := quoF o n d (d - 1 - i) % o i
def plF (o : Nat → Int) (n : Int) (d j i : Nat) : Int := if d - j ≤ i ∧ i < d then remF o n d i else 0
theorem plF_zero (o : Nat → Int) (n : Int) (d i : Nat) : plF o n d 0 i = 0 := by unfold plF; rw [if_neg (by omega)]
theorem plF_succ (o : Nat → Int) (n : Int) (d j i : Nat) (h : j < d) : plF o n d (j + 1) i = if d - 1 - j = i then quoF o n d j % o (d - 1 - j) else plF o n d j i := by
  unfold plF remF
  by_cases e : d - 1 - j = i
  · rw [if_pos e, if_pos (by omega), ← e, show d - 1 - (d - 1 - j) = j by omega]
  · rw [if_neg e]
    by_cases h2 : d - j ≤ i ∧ i < d
    · rw [if_pos h2, if_pos (by omega)]
    · rw [if_neg h2, if_neg (by omega)]
theorem get4_fun (f : Nat → Int) {k : Nat} (h : k < 4) : get4 (f 0) (f 1) (f 2) (f 3) k = f k := by
  have : k = 0 ∨ k = 1 ∨ k = 2 ∨ k = 3 := by omega
  rcases this with rfl | rfl | rfl | rfl <;> rfl
theorem quoF_nonneg {o : Nat → Int} {n : Int} {d : Nat} (hn : 0 ≤ n) (ho : ∀ k < d, 0 < o k) : ∀ j ≤ d, 0 ≤ quoF o n d j ∧ quoF o n d j ≤ n
  | 0, _ => ⟨hn, Int.le_refl _⟩
  | j + 1, h => by
    have ih := quoF_nonneg hn ho j (by omega)
    have h1 := ho (d - 1 - j) (by omega)
    simp only [quoF]
    exact ⟨Int.ediv_nonneg ih.1 (by omega), Int.le_trans (Int.ediv_le_self _ ih.1) ih.2⟩
theorem pack_lt {C : Cat} {m : Int} {p o : Nat → Int} {d : Nat} (hm : 0 ≤ m ∧ m < C.meas.length) (hp : ∀ k < d, 0 ≤ p k ∧ p k < o k) : ∀ k ≤ d, 0 ≤ packF m p o k ∧ packF m p o k < allF C o k
  | 0, _ => hm
  | k + 1, h => by
    have ih := pack_lt hm hp k (by omega)
    have h1 := hp k (by omega)
    simp only [packF, allF]
    have h2 : 0 ≤ packF m p o k * o k := Int.mul_nonneg ih.1 (by omega)
    have h3 : (packF m p o k + 1) * o k ≤ allF C o k * o k := Int.mul_le_mul_of_nonneg_right (by omega) (by omega)
    rw [Int.add_mul] at h3
    omega
section
variable {h : PHeap} {sb : Nat} {C : Cat}
instance space_all {o0 o1 o2 o3 : Int} [hS : IsSp h sb C] [ok : OkCat C] : CallV Try.prog 36 [.pointer (some ⟨sb, 0, none⟩), .agg [vI o0, vI o1, vI o2, vI o3].toArray] h (∀ k ≤ C.dims.length, 0 ≤ allF C (get4 o0 o1 o2 o3) k ∧ allF C (get4 o0 o1 o2 o3) k ≤ 9223372036854775807) (vI (allF C (get4 o0 o1 o2 o3) C.dims.length)) := ⟨fun hb => by
  obtain ⟨db, tv, lv, tbs, lvs, ty, fr, h1, h2, h3, h4, h5, h6, h7⟩ := hS.out
  have hd := ok.dims
  refine spec_enter Try.func36 rfl Try.ntmps36 Try.results36 (by simp) fun K R hT => ?_
  repeat (first | refine Step.imp ?_ | refine Side.mk (by first | exact True.intro | omega | exact ⟨trivial, rfl⟩ | exact ⟨by omega, trivial, rfl⟩ | exact ⟨by omega, rfl⟩ | exact ⟨by omega, by omega, rfl⟩ | (simp only [List.length_cons, List.length_nil, List.length_append]; done) | (simp only [List.length_cons, List.length_nil, List.length_append]; omega) | decide +kernel) ?_ | refine GDraw_one (by decide +kernel) ?_ | refine New.mk fun _ => ?_ | refine NewS.mk fun _ _ => ?_)
  rename_i ob
  refine G_loopE (σ := Nat) (fun k => k ≤ tbs.length) (fun k => tbs.length - k) (fun k => [(16, vI k), (15, vI tbs.length), (5, vI (allF C (get4 o0 o1 o2 o3) k)), (3, .pointer (some ⟨ob, 0, none⟩))]) 0 (by omega) ⟨rfl, rfl, rfl, rfl, trivial⟩ ?_
  intro k hk
  repeat (first | refine Step.imp ?_ | refine Side.mk (by first | exact True.intro | omega | exact ⟨trivial, rfl⟩ | exact ⟨by omega, trivial, rfl⟩ | exact ⟨by omega, rfl⟩ | exact ⟨by omega, by omega, rfl⟩ | (simp only [List.length_cons, List.length_nil, List.length_append]; done) | (simp only [List.length_cons, List.length_nil, List.length_append]; omega) | decide +kernel) ?_ | refine GDraw_one (by decide +kernel) ?_ | refine New.mk fun _ => ?_ | refine NewS.mk fun _ _ => ?_)
  refine ⟨fun hlt => ?_, fun hge => ?_⟩
  · have hbk := hb (k + 1) (by omega)
    simp only [allF] at hbk
    repeat (first | refine Step.imp ?_ | refine Side.mk (by first | exact True.intro | omega | exact ⟨trivial, rfl⟩ | exact ⟨by omega, trivial, rfl⟩ | exact ⟨by omega, rfl⟩ | exact ⟨by omega, by omega, rfl⟩ | (simp only [List.length_cons, List.length_nil, List.length_append]; done) | (simp only [List.length_cons, List.length_nil, List.length_append]; omega) | decide +kernel) ?_ | refine GDraw_one (by decide +kernel) ?_ | refine New.mk fun _ => ?_ | refine NewS.mk fun _ _ => ?_)
    refine X_roundE (k + 1) ?_ ?_ ?_ ?_
    · show k + 1 ≤ tbs.length
      omega
    · show tbs.length - (k + 1) < tbs.length - k
      omega
    · exact ⟨rfl, rfl, rfl, rfl, trivial⟩
    · infer_instance
  · have : k = C.dims.length := by omega
    subst this
    repeat (first | refine Step.imp ?_ | refine Side.mk (by first | exact True.intro | omega | exact ⟨trivial, rfl⟩ | exact ⟨by omega, trivial, rfl⟩ | exact ⟨by omega, rfl⟩ | exact ⟨by omega, by omega, rfl⟩ | (simp only [List.length_cons, List.length_nil, List.length_append]; done) | (simp only [List.length_cons, List.length_nil, List.length_append]; omega) | decide +kernel) ?_ | refine GDraw_one (by decide +kernel) ?_ | refine New.mk fun _ => ?_ | refine NewS.mk fun _ _ => ?_)
    exact Fin.val hT rfl (Hle.refl _)⟩
instance space_pack {m p0 p1 p2 p3 o0 o1 o2 o3 : Int} [hS : IsSp h sb C] [ok : OkCat C] : CallV Try.prog 30 [.pointer (some ⟨sb, 0, none⟩), vI m, .agg [vI p0, vI p1, vI p2, vI p3].toArray, .agg [vI o0, vI o1, vI o2, vI o3].toArray] h
    (∀ k < C.dims.length, 0 ≤ packF m (get4 p0 p1 p2 p3) (get4 o0 o1 o2 o3) k * get4 o0 o1 o2 o3 k ∧ packF m (get4 p0 p1 p2 p3) (get4 o0 o1 o2 o3) k * get4 o0 o1 o2 o3 k ≤ 9223372036854775807 ∧ 0 ≤ packF m (get4 p0 p1 p2 p3) (get4 o0 o1 o2 o3) (k + 1) ∧ packF m (get4 p0 p1 p2 p3) (get4 o0 o1 o2 o3) (k + 1) ≤ 9223372036854775807)
    (vI (packF m (get4 p0 p1 p2 p3) (get4 o0 o1 o2 o3) C.dims.length)) := ⟨fun hb => by
  obtain ⟨db, tv, lv, tbs, lvs, ty, fr, h1, h2, h3, h4, h5, h6, h7⟩ := hS.out
  have hd := ok.dims
  refine spec_enter Try.func30 rfl Try.ntmps30 Try.results30 (by simp) fun K R hT => ?_
  repeat (first | refine Step.imp ?_ | refine Side.mk (by first | exact True.intro | omega | exact ⟨trivial, rfl⟩ | exact ⟨by omega, trivial, rfl⟩ | exact ⟨by omega, rfl⟩ | exact ⟨by omega, by omega, rfl⟩ | (simp only [List.length_cons, List.length_nil, List.length_append]; done) | (simp only [List.length_cons, List.length_nil, List.length_append]; omega) | decide +kernel) ?_ | refine GDraw_one (by decide +kernel) ?_ | refine New.mk fun _ => ?_ | refine NewS.mk fun _ _ => ?_)
  rename_i pb ob
  refine G_loopE (σ := Nat) (fun k => k ≤ tbs.length) (fun k => tbs.length - k) (fun k => [(17, vI k), (16, vI tbs.length), (9, vI (packF m (get4 p0 p1 p2 p3) (get4 o0 o1 o2 o3) k)), (6, .pointer (some ⟨pb, 0, none⟩)), (7, .pointer (some ⟨ob, 0, none⟩))]) 0 (by omega) ⟨rfl, rfl, rfl, rfl, rfl, trivial⟩ ?_
  intro k hk
  repeat (first | refine Step.imp ?_ | refine Side.mk (by first | exact True.intro | omega | exact ⟨trivial, rfl⟩ | exact ⟨by omega, trivial, rfl⟩ | exact ⟨by omega, rfl⟩ | exact ⟨by omega, by omega, rfl⟩ | (simp only [List.length_cons, List.length_nil, List.length_append]; done) | (simp only [List.length_cons, List.length_nil, List.length_append]; omega) | decide +kernel) ?_ | refine GDraw_one (by decide +kernel) ?_ | refine New.mk fun _ => ?_ | refine NewS.mk fun _ _ => ?_)
  refine ⟨fun hlt => ?_, fun hge => ?_⟩
  · have hbk := hb k (by omega)
    simp only [packF] at hbk
    repeat (first | refine Step.imp ?_ | refine Side.mk (by first | exact True.intro | omega | exact ⟨trivial, rfl⟩ | exact ⟨by omega, trivial, rfl⟩ | exact ⟨by omega, rfl⟩ | exact ⟨by omega, by omega, rfl⟩ | (simp only [List.length_cons, List.length_nil, List.length_append]; done) | (simp only [List.length_cons, List.length_nil, List.length_append]; omega) | decide +kernel) ?_ | refine GDraw_one (by decide +kernel) ?_ | refine New.mk fun _ => ?_ | refine NewS.mk fun _ _ => ?_)
    refine X_roundE (k + 1) ?_ ?_ ?_ ?_
    · show k + 1 ≤ tbs.length
      omega
    · show tbs.length - (k + 1) < tbs.length - k
      omega
    · exact ⟨rfl, rfl, rfl, rfl, rfl, trivial⟩
    · infer_instance
  · have : k = C.dims.length := by omega
    subst this
    repeat (first | refine Step.imp ?_ | refine Side.mk (by first | exact True.intro | omega | exact ⟨trivial, rfl⟩ | exact ⟨by omega, trivial, rfl⟩ | exact ⟨by omega, rfl⟩ | exact ⟨by omega, by omega, rfl⟩ | (simp only [List.length_cons, List.length_nil, List.length_append]; done) | (simp only [List.length_cons, List.length_nil, List.length_append]; omega) | decide +kernel) ?_ | refine GDraw_one (by decide +kernel) ?_ | refine New.mk fun _ => ?_ | refine NewS.mk fun _ _ => ?_)
    exact Fin.val hT rfl (Hle.refl _)⟩
instance space_unpack {L : List HP} {n o0 o1 o2 o3 : Int} [hS : IsSp h sb C] [ok : OkCat C] : CallX Try.prog 35 [.pointer (some ⟨sb, 0, none⟩), vI n, .agg [vI o0, vI o1, vI o2, vI o3].toArray] h L
    ((∀ k ≤ C.dims.length, 0 ≤ allF C (get4 o0 o1 o2 o3) k ∧ allF C (get4 o0 o1 o2 o3) k ≤ 9223372036854775807) ∧ ((0 ≤ n ∧ n < allF C (get4 o0 o1 o2 o3) C.dims.length) → ∀ k < C.dims.length, 0 < get4 o0 o1 o2 o3 k))
    (fun K => (¬ (0 ≤ n ∧ n < allF C (get4 o0 o1 o2 o3) C.dims.length) → K (.tuple [vI 0, .agg [vI 0, vI 0, vI 0, vI 0].toArray, .bool false].toArray) h []) ∧
      ((0 ≤ n ∧ n < allF C (get4 o0 o1 o2 o3) C.dims.length) → K (.tuple [vI (quoF (get4 o0 o1 o2 o3) n C.dims.length C.dims.length), .agg [vI (plF (get4 o0 o1 o2 o3) n C.dims.length C.dims.length 0), vI (plF (get4 o0 o1 o2 o3) n C.dims.length C.dims.length 1), vI (plF (get4 o0 o1 o2 o3) n C.dims.length C.dims.length 2), vI (plF (get4 o0 o1 o2 o3) n C.dims.length C.dims.length 3)].toArray, .bool true].toArray) h [])) := ⟨fun ⟨hb, ho⟩ => by
  have hS' := hS
  obtain ⟨db, tv, lv, tbs, lvs, ty, fr, h1, h2, h3, h4, h5, h6, h7⟩ := hS'.out
  have hd := ok.dims
  have hbd := hb C.dims.length (Nat.le_refl _)
  refine spec_enter Try.func35 rfl Try.ntmps35 Try.results35 (by simp) fun K R hT => ?_
  by_cases hin : 0 ≤ n ∧ n < allF C (get4 o0 o1 o2 o3) C.dims.length
  · have hfin := hT.2 hin
    have ho := ho hin
    repeat' (first | refine Step.imp ?_ | refine Side.mk (by first | exact True.intro | omega | exact ⟨trivial, rfl⟩ | exact ⟨by omega, trivial, rfl⟩ | exact ⟨by omega, rfl⟩ | exact ⟨by omega, by omega, rfl⟩ | (simp only [List.length_cons, List.length_nil, List.length_append]; done) | (simp only [List.length_cons, List.length_nil, List.length_append]; omega) | decide +kernel) ?_ | refine GDraw_one (by decide +kernel) ?_ | refine New.mk fun _ => ?_ | refine NewS.mk fun _ _ => ?_ | refine Ways.mk (fun _ => ?_) (fun _ => ?_))
    all_goals first | (exfalso; omega) | (refine Side.mk hb ?_) | skip
    all_goals repeat' (first | refine Step.imp ?_ | refine Side.mk (by first | exact True.intro | omega | exact ⟨trivial, rfl⟩ | exact ⟨by omega, trivial, rfl⟩ | exact ⟨by omega, rfl⟩ | exact ⟨by omega, by omega, rfl⟩ | (simp only [List.length_cons, List.length_nil, List.length_append]; done) | (simp only [List.length_cons, List.length_nil, List.length_append]; omega) | decide +kernel) ?_ | refine GDraw_one (by decide +kernel) ?_ | refine New.mk fun _ => ?_ | refine NewS.mk fun _ _ => ?_ | refine Ways.mk (fun _ => ?_) (fun _ => ?_))
    all_goals first | (exfalso; omega) | skip
    rename_i ob rb pb _ _
    refine G_loop (σ := Nat) (fun j => j ≤ C.dims.length) (fun j => C.dims.length - j) (fun j => [(10, vI ((C.dims.length : Int) - 1 - j)), (1, vI (quoF (get4 o0 o1 o2 o3) n C.dims.length j)), (5, .pointer (some ⟨ob, 0, none⟩)), (7, .pointer (some ⟨rb, 0, none⟩)), (9, .pointer (some ⟨pb, 0, none⟩))]) (fun _ => h)
      (fun j => blk pb (.cells [vI (plF (get4 o0 o1 o2 o3) n C.dims.length j 0), vI (plF (get4 o0 o1 o2 o3) n C.dims.length j 1), vI (plF (get4 o0 o1 o2 o3) n C.dims.length j 2), vI (plF (get4 o0 o1 o2 o3) n C.dims.length j 3)].toArray 63 (0, 0)) ::
        blk rb (.cells [vI 0, vI 0, vI 0, vI 0].toArray 63 (0, 0)) :: blk ob (.cells [vI o0, vI o1, vI o2, vI o3].toArray 63 (0, 0)) :: (L ++ R)) 0 (by omega) ?_ rfl ?_ ?_
    · refine ⟨?_, rfl, rfl, rfl, rfl, trivial⟩
      simp only [h4]; simp [lk]
    · simp only [plF_zero]
      infer_instance
    intro j hj
    have hq := quoF_nonneg hin.1 ho j hj
    repeat (first | refine Step.imp ?_ | refine Side.mk (by first | exact True.intro | omega | exact ⟨trivial, rfl⟩ | exact ⟨by omega, trivial, rfl⟩ | exact ⟨by omega, rfl⟩ | exact ⟨by omega, by omega, rfl⟩ | (simp only [List.length_cons, List.length_nil, List.length_append]; done) | (simp only [List.length_cons, List.length_nil, List.length_append]; omega) | decide +kernel) ?_ | refine GDraw_one (by decide +kernel) ?_ | refine New.mk fun _ => ?_ | refine NewS.mk fun _ _ => ?_)
    refine ⟨fun hge => ?_, fun hlt => ?_⟩
    · have hji : (C.dims.length : Int) - 1 - j = ((C.dims.length - 1 - j : Nat) : Int) := by omega
      have ho1 := ho (C.dims.length - 1 - j) (by omega)
      have ho4 : C.dims.length - 1 - j < 4 := by omega
      rw [hji]
      repeat (first | refine Step.imp ?_ | refine Side.mk (by first | exact True.intro | omega | exact ⟨trivial, rfl⟩ | exact ⟨by omega, trivial, rfl⟩ | exact ⟨by omega, rfl⟩ | exact ⟨by omega, by omega, rfl⟩ | (simp only [List.length_cons, List.length_nil, List.length_append]; done) | (simp only [List.length_cons, List.length_nil, List.length_append]; omega) | decide +kernel) ?_ | refine GDraw_one (by decide +kernel) ?_ | refine New.mk fun _ => ?_ | refine NewS.mk fun _ _ => ?_)
      refine X_round (j + 1) ?_ ?_ ?_ ?_ ?_
      · show j + 1 ≤ C.dims.length
        omega
      · show C.dims.length - (j + 1) < C.dims.length - j
        omega
      · refine ⟨?_, rfl, rfl, rfl, rfl, trivial⟩
        have : (C.dims.length : Int) - 1 - ((j + 1 : Nat) : Int) = ((C.dims.length - 1 - j : Nat) : Int) - 1 := by omega
        rw [this]
      · rfl
      · simp only [plF_succ _ _ _ j _ (show j < C.dims.length by omega)]
        infer_instance
    · have : j = C.dims.length := by omega
      subst this
      repeat (first | refine Step.imp ?_ | refine Side.mk (by first | exact True.intro | omega | exact ⟨trivial, rfl⟩ | exact ⟨by omega, trivial, rfl⟩ | exact ⟨by omega, rfl⟩ | exact ⟨by omega, by omega, rfl⟩ | (simp only [List.length_cons, List.length_nil, List.length_append]; done) | (simp only [List.length_cons, List.length_nil, List.length_append]; omega) | decide +kernel) ?_ | refine GDraw_one (by decide +kernel) ?_ | refine New.mk fun _ => ?_ | refine NewS.mk fun _ _ => ?_)
      exact Fin.val hfin rfl (Hle.refl _)
  · have hfin := hT.1 hin
    repeat' (first | refine Step.imp ?_ | refine Side.mk (by first | exact True.intro | omega | exact ⟨trivial, rfl⟩ | exact ⟨by omega, trivial, rfl⟩ | exact ⟨by omega, rfl⟩ | exact ⟨by omega, by omega, rfl⟩ | (simp only [List.length_cons, List.length_nil, List.length_append]; done) | (simp only [List.length_cons, List.length_nil, List.length_append]; omega) | decide +kernel) ?_ | refine GDraw_one (by decide +kernel) ?_ | refine New.mk fun _ => ?_ | refine NewS.mk fun _ _ => ?_ | refine Ways.mk (fun _ => ?_) (fun _ => ?_))
    all_goals first | exact Fin.val hfin rfl (Hle.refl _) | (refine Side.mk hb ?_) | skip
    all_goals repeat' (first | refine Step.imp ?_ | refine Side.mk (by first | exact True.intro | omega | exact ⟨trivial, rfl⟩ | exact ⟨by omega, trivial, rfl⟩ | exact ⟨by omega, rfl⟩ | exact ⟨by omega, by omega, rfl⟩ | (simp only [List.length_cons, List.length_nil, List.length_append]; done) | (simp only [List.length_cons, List.length_nil, List.length_append]; omega) | decide +kernel) ?_ | refine GDraw_one (by decide +kernel) ?_ | refine New.mk fun _ => ?_ | refine NewS.mk fun _ _ => ?_ | refine Ways.mk (fun _ => ?_) (fun _ => ?_))
    all_goals first | exact Fin.val hfin rfl (Hle.refl _) | (exfalso; omega)⟩
/-! ### What the sizes come to -/
theorem fullF_eq {C : Cat} {k : Nat} (hd : C.dims.length ≤ 4) (hk : k < C.dims.length) : get4 (fullF C 0) (fullF C 1) (fullF C 2) (fullF C 3) k = nodesN C k := by
  rw [get4_fun (fullF C) (by omega)]; unfold fullF partF; rw [if_pos hk]
theorem lowF_eq {C : Cat} {k : Nat} (hd : C.dims.length ≤ 4) (hk : k < C.dims.length) : get4 (lowF C 0) (lowF C 1) (lowF C 2) (lowF C 3) k = leavesN C k := by
  rw [get4_fun (lowF C) (by omega)]; unfold lowF partF; rw [if_pos hk]
theorem all_full {C : Cat} (hd : C.dims.length ≤ 4) : ∀ k ≤ C.dims.length, allF C (get4 (fullF C 0) (fullF C 1) (fullF C 2) (fullF C 3)) k = cellsF C k
  | 0, _ => rfl
  | k + 1, h => by simp only [allF, cellsF]; rw [all_full hd k (by omega), fullF_eq hd (by omega)]; rfl
theorem all_low {C : Cat} (hd : C.dims.length ≤ 4) : ∀ k ≤ C.dims.length, allF C (get4 (lowF C 0) (lowF C 1) (lowF C 2) (lowF C 3)) k = leavesF C k
  | 0, _ => rfl
  | k + 1, h => by simp only [allF, leavesF]; rw [all_low hd k (by omega), lowF_eq hd (by omega)]; rfl
theorem cells_bound {C : Cat} (ok : OkCat C) : ∀ k ≤ C.dims.length, 0 ≤ cellsF C k ∧ cellsF C k ≤ 4294967296 := fun k hk => by
  have h1 := cellsF_le C ok.meas.2 k (fun i hi => (ok.trees i (by omega)).2)
  have h2 := pow4 (n := k) (by have := ok.dims; omega)
  omega
theorem leaves_bound {C : Cat} (ok : OkCat C) : ∀ k ≤ C.dims.length, 0 ≤ leavesF C k ∧ leavesF C k ≤ 4294967296 := fun k hk => by
  have h1 := leavesF_le C ok.meas.2 k (fun i hi => (ok.trees i (by omega)).2)
  have h2 := pow4 (n := k) (by have := ok.dims; omega)
  omega
instance space_leaves [hS : IsSp h sb C] [ok : OkCat C] : CallV Try.prog 14 [.pointer (some ⟨sb, 0, none⟩)] h True (vI (leavesF C C.dims.length)) := ⟨fun _ => by
  have hS' := hS
  obtain ⟨db, tv, lv, tbs, lvs, ty, fr, h1, h2, h3, h4, h5, h6, h7⟩ := hS'.out
  have hd := ok.dims
  have hb : ∀ k ≤ C.dims.length, 0 ≤ allF C (get4 (lowF C 0) (lowF C 1) (lowF C 2) (lowF C 3)) k ∧ allF C (get4 (lowF C 0) (lowF C 1) (lowF C 2) (lowF C 3)) k ≤ 9223372036854775807 := fun k hk => by
    rw [all_low hd.2 k hk]; have := leaves_bound ok k hk; omega
  refine spec_enter Try.func14 rfl Try.ntmps14 Try.results14 (by simp) fun K R hT => ?_
  repeat' (first | refine Step.imp ?_ | refine Side.mk (by first | exact True.intro | omega | exact ⟨trivial, rfl⟩ | exact ⟨by omega, trivial, rfl⟩ | exact ⟨by omega, rfl⟩ | exact ⟨by omega, by omega, rfl⟩ | (simp only [List.length_cons, List.length_nil, List.length_append]; done) | (simp only [List.length_cons, List.length_nil, List.length_append]; omega) | decide +kernel) ?_ | refine GDraw_one (by decide +kernel) ?_ | refine New.mk fun _ => ?_ | refine NewS.mk fun _ _ => ?_ | refine Ways.mk (fun _ => ?_) (fun _ => ?_))
  all_goals first | (exfalso; contradiction) | (refine Side.mk hb ?_) | skip
  repeat (first | refine Step.imp ?_ | refine Side.mk (by first | exact True.intro | omega | exact ⟨trivial, rfl⟩ | exact ⟨by omega, trivial, rfl⟩ | exact ⟨by omega, rfl⟩ | exact ⟨by omega, by omega, rfl⟩ | (simp only [List.length_cons, List.length_nil, List.length_append]; done) | (simp only [List.length_cons, List.length_nil, List.length_append]; omega) | decide +kernel) ?_ | refine GDraw_one (by decide +kernel) ?_ | refine New.mk fun _ => ?_ | refine NewS.mk fun _ _ => ?_)
  exact Fin.val hT (by rw [all_low hd.2 _ (Nat.le_refl _)]) (Hle.refl _)⟩
instance space_cells [hS : IsSp h sb C] [ok : OkCat C] : CallV Try.prog 15 [.pointer (some ⟨sb, 0, none⟩)] h True (vI (cellsF C C.dims.length)) := ⟨fun _ => by
  have hS' := hS
  obtain ⟨db, tv, lv, tbs, lvs, ty, fr, h1, h2, h3, h4, h5, h6, h7⟩ := hS'.out
  have hd := ok.dims
  have hb : ∀ k ≤ C.dims.length, 0 ≤ allF C (get4 (fullF C 0) (fullF C 1) (fullF C 2) (fullF C 3)) k ∧ allF C (get4 (fullF C 0) (fullF C 1) (fullF C 2) (fullF C 3)) k ≤ 9223372036854775807 := fun k hk => by
    rw [all_full hd.2 k hk]; have := cells_bound ok k hk; omega
  refine spec_enter Try.func15 rfl Try.ntmps15 Try.results15 (by simp) fun K R hT => ?_
  repeat' (first | refine Step.imp ?_ | refine Side.mk (by first | exact True.intro | omega | exact ⟨trivial, rfl⟩ | exact ⟨by omega, trivial, rfl⟩ | exact ⟨by omega, rfl⟩ | exact ⟨by omega, by omega, rfl⟩ | (simp only [List.length_cons, List.length_nil, List.length_append]; done) | (simp only [List.length_cons, List.length_nil, List.length_append]; omega) | decide +kernel) ?_ | refine GDraw_one (by decide +kernel) ?_ | refine New.mk fun _ => ?_ | refine NewS.mk fun _ _ => ?_ | refine Ways.mk (fun _ => ?_) (fun _ => ?_))
  all_goals first | (exfalso; contradiction) | (refine Side.mk hb ?_) | skip
  repeat (first | refine Step.imp ?_ | refine Side.mk (by first | exact True.intro | omega | exact ⟨trivial, rfl⟩ | exact ⟨by omega, trivial, rfl⟩ | exact ⟨by omega, rfl⟩ | exact ⟨by omega, by omega, rfl⟩ | (simp only [List.length_cons, List.length_nil, List.length_append]; done) | (simp only [List.length_cons, List.length_nil, List.length_append]; omega) | decide +kernel) ?_ | refine GDraw_one (by decide +kernel) ?_ | refine New.mk fun _ => ?_ | refine NewS.mk fun _ _ => ?_)
  exact Fin.val hT (by rw [all_full hd.2 _ (Nat.le_refl _)]) (Hle.refl _)⟩
end
end Go.Sl

/-
  The space of a catalogue: cells and leaves as numbers.
-/
namespace Go.Sl
open Go.Proofs
set_option linter.unusedVariables false
set_option linter.unusedSimpArgs false
set_option maxRecDepth 10000
set_option synthInstance.maxSize 2000
set_option synthInstance.maxHeartbeats 200000
set_option maxHeartbeats 1000000
theorem packF_congr {m : Int} {p p' o o' : Nat → Int} : ∀ d, (∀ k < d, p k = p' k ∧ o k = o' k) → packF m p o d = packF m p' o' d
  | 0, _ => rfl
  | d + 1, h => by simp only [packF]; rw [packF_congr d (fun k hk => h k (by omega)), (h d (by omega)).1, (h d (by omega)).2]
theorem quoF_congr {o o' : Nat → Int} {n : Int} {d : Nat} (h : ∀ k < d, o k = o' k) : ∀ j ≤ d, quoF o n d j = quoF o' n d j
  | 0, _ => rfl
  | j + 1, hj => by simp only [quoF]; rw [quoF_congr h j (by omega), h (d - 1 - j) (by omega)]
theorem remF_congr {o o' : Nat → Int} {n : Int} {d i : Nat} (h : ∀ k < d, o k = o' k) (hi : i < d) : remF o n d i = remF o' n d i := by
  unfold remF; rw [quoF_congr h _ (by omega), h i hi]
theorem plF_congr {o o' : Nat → Int} {n : Int} {d i : Nat} (h : ∀ k < d, o k = o' k) : plF o n d d i = plF o' n d d i := by
  unfold plF
  by_cases hi : i < d
  · rw [if_pos ⟨by omega, hi⟩, if_pos ⟨by omega, hi⟩, remF_congr h hi]
  · rw [if_neg (by omega), if_neg (by omega)]
theorem pos_of_all {C : Cat} {o : Nat → Int} (h0 : ∀ k, 0 ≤ o k) : ∀ d, 0 < allF C o d → ∀ k < d, 0 < o k
  | 0, _, k, hk => by omega
  | d + 1, h, k, hk => by
    simp only [allF] at h
    have hd : 0 < o d := by
      rcases Int.lt_or_eq_of_le (h0 d) with h1 | h1
      · exact h1
      · rw [← h1, Int.mul_zero] at h; omega
    have ha : 0 < allF C o d := by
      refine Int.not_le.1 fun hn => ?_
      have := Int.mul_nonpos_of_nonpos_of_nonneg hn (Int.le_of_lt hd)
      omega
    rcases Nat.lt_or_ge k d with h1 | h1
    · exact pos_of_all h0 d ha k h1
    · have : k = d := by omega
      subst this; exact hd
theorem partF_nonneg {g : Nat → Int} (h : ∀ k, 0 ≤ g k) (n k : Nat) : 0 ≤ partF g n k := by unfold partF; split; exact h k; omega
theorem get4_nonneg {f : Nat → Int} (h : ∀ k, 0 ≤ f k) (k : Nat) : 0 ≤ get4 (f 0) (f 1) (f 2) (f 3) k := by
  unfold get4; split <;> exact h _
section
variable {h : PHeap} {sb : Nat} {C : Cat}
def indexF (C : Cat) (m : Int) (a : Nat → Int) : Int := if rightF C m a then packF m a (nodesN C) C.dims.length else -1
def rankAt (C : Cat) (a : Nat → Int) (k : Nat) : Int := (mkTree (C.dims[k]!).2).rankF (a k)
def codeF (C : Cat) (m : Int) (a : Nat → Int) : Int := if leafF C m a then packF m (rankAt C a) (leavesN C) C.dims.length else -1
theorem right_in {C : Cat} {m : Int} {a : Nat → Int} (hr : rightF C m a) (hd : C.dims.length ≤ 4) : ∀ k < C.dims.length, 0 ≤ a k ∧ a k < nodesN C k := fun k hk => by
  have := hr.2 k (by omega)
  unfold sizeF at this
  rw [if_pos hk] at this
  exact this
instance space_index {m a0 a1 a2 a3 : Int} [hS : IsSp h sb C] [ok : OkCat C] : CallV Try.prog 17 [.pointer (some ⟨sb, 0, none⟩), .agg [vI m, vI a0, vI a1, vI a2, vI a3].toArray] h True (vI (indexF C m (get4 a0 a1 a2 a3))) := ⟨fun _ => by
  have hS' := hS
  obtain ⟨db, tv, lv, tbs, lvs, ty, fr, h1, h2, h3, h4, h5, h6, h7⟩ := hS'.out
  have hd := ok.dims
  unfold indexF
  by_cases hr : rightF C m (get4 a0 a1 a2 a3)
  · have hlt := pack_lt (C := C) (m := m) (p := get4 a0 a1 a2 a3) (o := get4 (fullF C 0) (fullF C 1) (fullF C 2) (fullF C 3)) (d := C.dims.length) hr.1 (fun k hk => by rw [fullF_eq hd.2 hk]; exact right_in hr hd.2 k hk)
    have hb : ∀ k < C.dims.length, 0 ≤ packF m (get4 a0 a1 a2 a3) (get4 (fullF C 0) (fullF C 1) (fullF C 2) (fullF C 3)) k * get4 (fullF C 0) (fullF C 1) (fullF C 2) (fullF C 3) k ∧ packF m (get4 a0 a1 a2 a3) (get4 (fullF C 0) (fullF C 1) (fullF C 2) (fullF C 3)) k * get4 (fullF C 0) (fullF C 1) (fullF C 2) (fullF C 3) k ≤ 9223372036854775807 ∧ 0 ≤ packF m (get4 a0 a1 a2 a3) (get4 (fullF C 0) (fullF C 1) (fullF C 2) (fullF C 3)) (k + 1) ∧ packF m (get4 a0 a1 a2 a3) (get4 (fullF C 0) (fullF C 1) (fullF C 2) (fullF C 3)) (k + 1) ≤ 9223372036854775807 := fun k hk => by
      have e1 := hlt k (by omega)
      have e2 := hlt (k + 1) (by omega)
      have e3 := all_full hd.2 (k + 1) (by omega)
      have e4 := cells_bound ok (k + 1) (by omega)
      have e5 := right_in hr hd.2 k hk
      rw [fullF_eq hd.2 hk]
      have e6 : 0 ≤ packF m (get4 a0 a1 a2 a3) (get4 (fullF C 0) (fullF C 1) (fullF C 2) (fullF C 3)) k * nodesN C k := Int.mul_nonneg e1.1 (by omega)
      have e7 : packF m (get4 a0 a1 a2 a3) (get4 (fullF C 0) (fullF C 1) (fullF C 2) (fullF C 3)) (k + 1) = packF m (get4 a0 a1 a2 a3) (get4 (fullF C 0) (fullF C 1) (fullF C 2) (fullF C 3)) k * nodesN C k + get4 a0 a1 a2 a3 k := by simp only [packF]; rw [fullF_eq hd.2 hk]
      omega
    have he : packF m (get4 a0 a1 a2 a3) (get4 (fullF C 0) (fullF C 1) (fullF C 2) (fullF C 3)) C.dims.length = packF m (get4 a0 a1 a2 a3) (nodesN C) C.dims.length := packF_congr _ fun k hk => ⟨rfl, fullF_eq hd.2 hk⟩
    refine spec_enter Try.func17 rfl Try.ntmps17 Try.results17 (by simp) fun K R hT => ?_
    simp only [hr, if_true] at hT
    repeat' (first | refine Step.imp ?_ | refine Side.mk (by first | exact True.intro | omega | exact ⟨trivial, rfl⟩ | exact ⟨by omega, trivial, rfl⟩ | exact ⟨by omega, rfl⟩ | exact ⟨by omega, by omega, rfl⟩ | (simp only [List.length_cons, List.length_nil, List.length_append]; done) | (simp only [List.length_cons, List.length_nil, List.length_append]; omega) | decide +kernel) ?_ | refine GDraw_one (by decide +kernel) ?_ | refine New.mk fun _ => ?_ | refine NewS.mk fun _ _ => ?_ | refine Ways.mk (fun _ => ?_) (fun _ => ?_))
    all_goals first | (exfalso; contradiction) | (refine Side.mk hb ?_) | skip
    repeat (first | refine Step.imp ?_ | refine Side.mk (by first | exact True.intro | omega | exact ⟨trivial, rfl⟩ | exact ⟨by omega, trivial, rfl⟩ | exact ⟨by omega, rfl⟩ | exact ⟨by omega, by omega, rfl⟩ | (simp only [List.length_cons, List.length_nil, List.length_append]; done) | (simp only [List.length_cons, List.length_nil, List.length_append]; omega) | decide +kernel) ?_ | refine GDraw_one (by decide +kernel) ?_ | refine New.mk fun _ => ?_ | refine NewS.mk fun _ _ => ?_)
    exact Fin.val hT (by rw [he]) (Hle.refl _)
  · refine spec_enter Try.func17 rfl Try.ntmps17 Try.results17 (by simp) fun K R hT => ?_
    simp only [hr, if_false] at hT
    repeat' (first | refine Step.imp ?_ | refine Side.mk (by first | exact True.intro | omega | exact ⟨trivial, rfl⟩ | exact ⟨by omega, trivial, rfl⟩ | exact ⟨by omega, rfl⟩ | exact ⟨by omega, by omega, rfl⟩ | (simp only [List.length_cons, List.length_nil, List.length_append]; done) | (simp only [List.length_cons, List.length_nil, List.length_append]; omega) | decide +kernel) ?_ | refine GDraw_one (by decide +kernel) ?_ | refine New.mk fun _ => ?_ | refine NewS.mk fun _ _ => ?_ | refine Ways.mk (fun _ => ?_) (fun _ => ?_))
    all_goals first | (exfalso; contradiction) | exact Fin.val hT rfl (Hle.refl _)⟩
end
end Go.Sl

/-
  Plain facts on spans and ranks.
-/
namespace Go.Sl
open Go.Proofs
set_option linter.unusedVariables false
set_option linter.unusedSimpArgs false
set_option maxRecDepth 10000
set_option synthInstance.maxSize 2000
set_option synthInstance.maxHeartbeats 200000
set_option maxHeartbeats 1000000
section
variable {kids : List (List Int)} {r : Int → Nat} (hr : ∀ i : Int, 0 ≤ i → i < kids.length → ∀ k ∈ kids[i.toNat]!, 0 ≤ k ∧ k < kids.length ∧ r k < r i)
include hr
theorem pre_fuel : ∀ (f g : Nat) (i : Int), 0 ≤ i → i < kids.length → r i < f → r i < g → pre kids f i = pre kids g i
  | 0, _, _, _, _, h, _ => by omega
  | _, 0, _, _, _, _, h => by omega
  | f + 1, g + 1, i, h0, h1, hf, hg => by
    simp only [pre]
    congr 1
    have : ∀ l : List Int, (∀ k ∈ l, k ∈ kids[i.toNat]!) → l.flatMap (pre kids f) = l.flatMap (pre kids g) := by
      intro l
      induction l with
      | nil => intro _; rfl
      | cons k l ih =>
        intro hl
        have hk := hr i h0 h1 k (hl k (by simp))
        rw [List.flatMap_cons, List.flatMap_cons, ih (fun x hx => hl x (by simp [hx])), pre_fuel f g k hk.1 hk.2.1 (by omega) (by omega)]
    exact this _ (fun _ h => h)
theorem pre_rank : ∀ (f : Nat) (i : Int), 0 ≤ i → i < kids.length → ∀ j ∈ pre kids f i, r j ≤ r i ∧ 0 ≤ j ∧ j < kids.length
  | 0, _, _, _, j, hj => by cases hj
  | f + 1, i, h0, h1, j, hj => by
    simp only [pre, List.mem_cons, List.mem_flatMap] at hj
    rcases hj with rfl | ⟨k, hk, hj⟩
    · exact ⟨Nat.le_refl _, h0, h1⟩
    · have h2 := hr i h0 h1 k hk
      have h3 := pre_rank f k h2.1 h2.2.1 j hj
      exact ⟨by omega, h3.2⟩
def SpanOk (kids : List (List Int)) (s : WS) (j : Int) : Prop := ∃ A B, s.leaves = A ++ ((pre kids 40 j).filter (leafK kids) ++ B) ∧ s.spans[j.toNat]! = ⟨A.length, A.length + ((pre kids 40 j).filter (leafK kids)).length⟩
omit hr in
theorem getSet {α : Type} [Inhabited α] {l : List α} {i j : Nat} {v : α} (hi : i < l.length) : (l.set i v)[j]! = if i = j then v else l[j]! := by
  by_cases hj : j < l.length
  · rw [getElem!_pos _ j (by simpa using hj), List.getElem_set, getElem!_pos l j hj]
  · rw [getElem!_neg _ j (by simpa using hj), getElem!_neg l j hj, if_neg (by omega)]
theorem down_out : ∀ (f : Nat) (i : Int) (s : WS), 0 ≤ i → i < kids.length → s.spans.length = kids.length → ∀ j : Int, 0 ≤ j → j ∉ pre kids f i → (downW kids f s i).spans[j.toNat]! = s.spans[j.toNat]!
  | 0, _, _, _, _, _, _, _, _ => rfl
  | f + 1, i, s, h0, h1, hs, j, hj, hn => by
    simp only [pre, List.mem_cons, List.mem_flatMap, not_or, not_exists, not_and] at hn
    have hfold : ∀ (l : List Int) (s : WS), (∀ k ∈ l, k ∈ kids[i.toNat]!) → s.spans.length = kids.length → (l.foldl (downW kids f) s).spans[j.toNat]! = s.spans[j.toNat]! := by
      intro l
      induction l with
      | nil => intro s _ _; rfl
      | cons k l ih =>
        intro s hl hs
        have hk := hr i h0 h1 k (hl k (by simp))
        rw [List.foldl_cons, ih _ (fun x hx => hl x (by simp [hx])) (by rw [downW_spans]; exact hs)]
        exact down_out f k s hk.1 hk.2.1 hs j hj (hn.2 k (hl k (by simp)))
    simp only [downW, closeW]
    have hlen : ((kids[i.toNat]!).foldl (downW kids f) (openW kids s i)).spans.length = kids.length := by rw [foldW_spans]; simp [openW, hs]
    rw [getSet (by omega), if_neg (by omega), hfold _ _ (fun _ h => h) (by simp [openW, hs])]
    simp only [openW]
    rw [getSet (by omega), if_neg (by omega)]
theorem down_good : ∀ (f : Nat) (i : Int) (s : WS) (X : Int → Prop), 0 ≤ i → i < kids.length → r i < f → f ≤ 40 → s.spans.length = kids.length → (∀ j, 0 ≤ j → X j → SpanOk kids s j) → ∀ j, 0 ≤ j → (X j ∨ j ∈ pre kids f i) → SpanOk kids (downW kids f s i) j
  | 0, _, _, _, _, _, h, _, _, _, _, _, _ => by omega
  | f + 1, i, s, X, h0, h1, hf, hf40, hs, hX, j, hj, hm => by
    have hkeep : ∀ (t : WS) (l : List Int), t.leaves = s.leaves ++ l → (∀ j : Int, 0 ≤ j → j ≠ i → t.spans[j.toNat]! = s.spans[j.toNat]!) → ∀ j, 0 ≤ j → X j ∧ j ≠ i → SpanOk kids t j := by
      intro t l ht hsp j hj hx
      obtain ⟨A, B, e1, e2⟩ := hX j hj hx.1
      exact ⟨A, B ++ l, by rw [ht, e1]; simp, by rw [hsp j hj hx.2, e2]⟩
    have hfold : ∀ (l : List Int) (s : WS) (Y : Int → Prop), (∀ k ∈ l, k ∈ kids[i.toNat]!) → s.spans.length = kids.length → (∀ j, 0 ≤ j → Y j → SpanOk kids s j) → ∀ j, 0 ≤ j → (Y j ∨ j ∈ l.flatMap (pre kids f)) → SpanOk kids (l.foldl (downW kids f) s) j := by
      intro l
      induction l with
      | nil => intro s Y _ _ hY j hj hm; rcases hm with h | h; exact hY j hj h; cases h
      | cons k l ih =>
        intro s Y hl hs hY j hj hm
        have hk := hr i h0 h1 k (hl k (by simp))
        rw [List.foldl_cons]
        refine ih _ (fun j => Y j ∨ j ∈ pre kids f k) (fun x hx => hl x (by simp [hx])) (by rw [downW_spans]; exact hs) (fun j hj hm => down_good f k s Y hk.1 hk.2.1 (by omega) (by omega) hs hY j hj hm) j hj ?_
        rw [List.flatMap_cons, List.mem_append] at hm
        rcases hm with h | h | h
        · exact .inl (.inl h)
        · exact .inl (.inr h)
        · exact .inr h
    obtain ⟨s1, hs1⟩ : ∃ s1, s1 = openW kids s i := ⟨_, rfl⟩
    have hs1s : s1.spans.length = kids.length := by rw [hs1]; simp [openW, hs]
    have hs1l : ∃ l, s1.leaves = s.leaves ++ l := by
      rw [hs1]; simp only [openW]
      split
      · exact ⟨[i], rfl⟩
      · exact ⟨[], by simp⟩
    obtain ⟨l1, hl1⟩ := hs1l
    have hs1i : s1.spans[i.toNat]! = ⟨s.leaves.length, (s.spans[i.toNat]!).to⟩ := by rw [hs1]; simp only [openW]; rw [getSet (by omega), if_pos rfl]
    have hs1j : ∀ j : Int, 0 ≤ j → j ≠ i → s1.spans[j.toNat]! = s.spans[j.toNat]! := fun j hj hne => by rw [hs1]; simp only [openW]; rw [getSet (by omega), if_neg (by omega)]
    have hY := hkeep s1 l1 hl1 hs1j
    have h2 := hfold (kids[i.toNat]!) s1 (fun j => X j ∧ j ≠ i) (fun _ h => h) hs1s hY
    obtain ⟨s2, hs2⟩ : ∃ s2, s2 = (kids[i.toNat]!).foldl (downW kids f) s1 := ⟨_, rfl⟩
    rw [← hs2] at h2
    have hs2s : s2.spans.length = kids.length := by rw [hs2, foldW_spans, hs1s]
    have hnot : i ∉ (kids[i.toNat]!).flatMap (pre kids f) := by
      intro hmem
      obtain ⟨k, hk, hik⟩ := List.mem_flatMap.1 hmem
      have h3 := hr i h0 h1 k hk
      have h4 := pre_rank hr f k h3.1 h3.2.1 i hik
      omega
    have hs2i : s2.spans[i.toNat]! = s1.spans[i.toNat]! := by
      have : ∀ (l : List Int) (s : WS), (∀ k ∈ l, k ∈ kids[i.toNat]!) → s.spans.length = kids.length → i ∉ l.flatMap (pre kids f) → (l.foldl (downW kids f) s).spans[i.toNat]! = s.spans[i.toNat]! := by
        intro l
        induction l with
        | nil => intro s _ _ _; rfl
        | cons k l ih =>
          intro s hl hs hn
          have hk := hr i h0 h1 k (hl k (by simp))
          rw [List.flatMap_cons, List.mem_append, not_or] at hn
          rw [List.foldl_cons, ih _ (fun x hx => hl x (by simp [hx])) (by rw [downW_spans]; exact hs) hn.2]
          exact down_out hr f k s hk.1 hk.2.1 hs i h0 hn.1
      rw [hs2]; exact this _ _ (fun _ h => h) hs1s hnot
    have hdown : downW kids (f + 1) s i = closeW i s2 := by simp only [downW]; rw [← hs1, ← hs2]
    have hleaves := downW_leaves kids (f + 1) s i
    rw [hdown] at hleaves ⊢
    simp only [closeW] at hleaves
    by_cases he : j = i
    · subst he
      have hp : pre kids (f + 1) j = pre kids 40 j := pre_fuel hr _ _ j h0 h1 (by omega) (by omega)
      refine ⟨s.leaves, [], ?_, ?_⟩
      · simp only [closeW]; rw [hleaves, hp]; simp
      · simp only [closeW]
        rw [getSet (by omega), if_pos rfl, hs2i, hs1i, hleaves, hp]
        simp
    · have hj2 : (X j ∧ j ≠ i) ∨ j ∈ (kids[i.toNat]!).flatMap (pre kids f) := by
        rcases hm with h | h
        · exact .inl ⟨h, he⟩
        · simp only [pre, List.mem_cons] at h
          rcases h with h | h
          · exact absurd h he
          · exact .inr h
      obtain ⟨A, B, e1, e2⟩ := h2 j hj hj2
      refine ⟨A, B, e1, ?_⟩
      simp only [closeW]
      rw [getSet (by omega), if_neg (by omega)]
      exact e2
end
end Go.Sl
