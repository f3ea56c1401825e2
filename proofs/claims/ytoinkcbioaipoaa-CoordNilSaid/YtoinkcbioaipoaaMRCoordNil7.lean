/-
  Facts that the proof is made of (part 7 of 8).
-/
import Derived.Test.YtoinkcbioaipoaaMRCoordNil6
import Derived.Test.YtoinkcbioaipoaaMRCoordNil3
import Derived.Test.YtoinkcbioaipoaaMRCoordNil4
/-
  All cells that a leaf is within.
-/
namespace Go.Sl
open Go.Proofs
set_option linter.unusedVariables false
set_option linter.unusedSimpArgs false
set_option maxRecDepth 10000
set_option synthInstance.maxSize 2000
set_option synthInstance.maxHeartbeats 200000
set_option maxHeartbeats 1000000
structure Cl where
  m : Int
  a0 : Int
  a1 : Int
  a2 : Int
  a3 : Int
deriving Inhabited
@[reducible] def encCl (c : Cl) : List Value := [vI c.m, vI c.a0, vI c.a1, vI c.a2, vI c.a3]
instance : EncOne encCl := ⟨fun y u hu => by simp at hu; rcases hu with rfl | rfl | rfl | rfl | rfl <;> rfl⟩
instance {m a0 a1 a2 a3 : Int} : Mk encCl [vI m, vI a0, vI a1, vI a2, vI a3] ⟨m, a0, a1, a2, a3⟩ := ⟨rfl⟩
/-- A slice in a box. -/
def outC (ob : Nat) (xs : List Cl) : HP := fun bs => ∃ a c b1 b2, bs = b1 ++ b2 ∧ blk ob (.cells [.slice a xs.length c].toArray 48 (0, 0)) b1 ∧ slo encCl 5 (.slice a xs.length c) xs b2
theorem St.outC {h : PHeap} {ob : Nat} {xs : List Cl} {L : List HP} {w : World} (s : St h (Sl.outC ob xs :: L) w) : ∃ a c, St h (blk ob (.cells [.slice a xs.length c].toArray 48 (0, 0)) :: slo encCl 5 (.slice a xs.length c) xs :: L) w := by
  obtain ⟨bs, ⟨b1, b2, rfl, ⟨a, c, c1, c2, rfl, h1, h2⟩, hd⟩, s0⟩ := s
  exact ⟨a, c, c1 ++ (c2 ++ b2), ⟨c1, c2 ++ b2, rfl, h1, c2, b2, rfl, h2, hd⟩, by rw [← List.append_assoc]; exact s0⟩
theorem St.inC {h : PHeap} {ob : Nat} {xs : List Cl} {L : List HP} {w : World} {a : Option Addr} {c : Nat} (s : St h (blk ob (.cells [.slice a xs.length c].toArray 48 (0, 0)) :: slo encCl 5 (.slice a xs.length c) xs :: L) w) : St h (Sl.outC ob xs :: L) w := by
  obtain ⟨bs, ⟨b1, b2, rfl, h1, c1, c2, rfl, h2, hd⟩, s0⟩ := s
  exact ⟨(b1 ++ c1) ++ c2, ⟨b1 ++ c1, c2, rfl, ⟨a, c, b1, c1, rfl, h1, h2⟩, hd⟩, by rw [List.append_assoc]; exact s0⟩
theorem X_outC {P : Program} {N : NN} {k : List It} {Q : Post} {e : Env} {h : PHeap} {ob : Nat} {xs : List Cl} {L : List HP} {x : Exit} (g : ∀ a c, X P N x k Q e h (blk ob (.cells [.slice a xs.length c].toArray 48 (0, 0)) :: slo encCl 5 (.slice a xs.length c) xs :: L)) : X P N x k Q e h (outC ob xs :: L) := fun a w s => by
  obtain ⟨b, c, st⟩ := s.st.outC
  exact g b c a w (s.ae.as st)
theorem G_outC {P : Program} {N : NN} {k : List It} {Q : Post} {e : Env} {h : PHeap} {ob : Nat} {xs : List Cl} {L : List HP} {x : Code} (g : ∀ a c, G P N x k Q e h (blk ob (.cells [.slice a xs.length c].toArray 48 (0, 0)) :: slo encCl 5 (.slice a xs.length c) xs :: L)) : G P N x k Q e h (outC ob xs :: L) := fun a w s => by
  obtain ⟨b, c, st⟩ := s.st.outC
  exact g b c a w (s.ae.as st)
theorem X_inC {P : Program} {N : NN} {k : List It} {Q : Post} {e : Env} {h : PHeap} {ob : Nat} {xs : List Cl} {L : List HP} {x : Exit} {a : Option Addr} {c : Nat} (g : X P N x k Q e h (outC ob xs :: L)) : X P N x k Q e h (blk ob (.cells [.slice a xs.length c].toArray 48 (0, 0)) :: slo encCl 5 (.slice a xs.length c) xs :: L) := fun ac w s => g ac w (s.ae.as s.st.inC)
/-- The members above a leaf's, in order. -/
def overL (C : Cat) (n : Int) (i : Nat) : List Int := sortS (above (C.dims[i]!).2 (leafAtF C n i))
def overLs (C : Cat) (n : Int) : List (List Int) := (List.range C.dims.length).map (overL C n)
def clOf (m : Int) (q : Nat → Int) : Cl := ⟨m, q 0, q 1, q 2, q 3⟩
def overF (C : Cat) (n : Int) : List Cl := if 0 ≤ n ∧ n < leavesF C C.dims.length then (combF (overLs C n) C.dims.length 0 (fun _ => 0)).map (clOf (quoF (leavesN C) n C.dims.length C.dims.length)) else []
theorem above_six {nodes : List Nd} (h : treeErr nodes = none) (i : Int) : (above nodes i).length ≤ 6 := by
  by_cases hi : 0 ≤ i ∧ i < nodes.length
  · have := (treeErr_all h).2.2 4 (by omega) i.toNat (by omega)
    simp only [ckStep] at this
    have h4 : ckDeep nodes i.toNat = 0 := by simpa using this
    unfold ckDeep at h4
    rw [show ((i.toNat : Nat) : Int) = i by omega] at h4
    split at h4
    · cases h4
    · omega
  · rw [above_no hi]; simp
theorem above_len (nodes : List Nd) (i : Int) : (above nodes i).length ≤ 33 := aboveF_len nodes 33 i
section
variable {h : PHeap} {sb : Nat} {C : Cat}
instance space_over {L : List HP} {n : Int} [hS : IsSp h sb C] [ok : OkCat C] : CallX Try.prog 18 [.pointer (some ⟨sb, 0, none⟩), vI n] h L True
    (fun K => ∀ h' ao c, Le h h' → K (.slice ao (overF C n).length c) h' [slo encCl 5 (.slice ao (overF C n).length c) (overF C n)]) := ⟨fun _ => by
  have hS' := hS
  obtain ⟨db, tv, lv, tbs, lvs, ty, fr, h1, h2, h3, h4, h5, h6, h7⟩ := hS'.out
  have hd := ok.dims
  refine spec_enterM Try.func18 rfl Try.ntmps18 Try.results18 (by simp) fun K R hT => ?_
  refine Step.imp ?_
  refine G_nil encCl 5 none ?_
  repeat (first | refine Step.imp ?_ | refine Side.mk (by first | exact True.intro | omega | exact ⟨trivial, rfl⟩ | exact ⟨by omega, trivial, rfl⟩ | exact ⟨by omega, rfl⟩ | exact ⟨by omega, by omega, rfl⟩ | (simp only [List.length_cons, List.length_nil, List.length_append]; done) | (simp only [List.length_cons, List.length_nil, List.length_append]; omega) | decide +kernel) ?_ | refine GDraw_one (by decide +kernel) ?_ | refine New.mk fun _ => ?_ | refine NewS.mk fun _ _ => ?_)
  refine ⟨fun hno => ?_, fun hin => ?_⟩
  · have hu : overF C n = [] := by unfold overF; rw [if_neg hno]
    rw [hu] at hT
    repeat (first | refine Step.imp ?_ | refine Side.mk (by first | exact True.intro | omega | exact ⟨trivial, rfl⟩ | exact ⟨by omega, trivial, rfl⟩ | exact ⟨by omega, rfl⟩ | exact ⟨by omega, by omega, rfl⟩ | (simp only [List.length_cons, List.length_nil, List.length_append]; done) | (simp only [List.length_cons, List.length_nil, List.length_append]; omega) | decide +kernel) ?_ | refine GDraw_one (by decide +kernel) ?_ | refine New.mk fun _ => ?_ | refine NewS.mk fun _ _ => ?_)
    exact Fin.val (hT h none 0 ⟨Hle.refl h⟩) rfl (Hle.refl _)
  · repeat (first | refine Step.imp ?_ | refine Side.mk (by first | exact True.intro | omega | exact ⟨trivial, rfl⟩ | exact ⟨by omega, trivial, rfl⟩ | exact ⟨by omega, rfl⟩ | exact ⟨by omega, by omega, rfl⟩ | (simp only [List.length_cons, List.length_nil, List.length_append]; done) | (simp only [List.length_cons, List.length_nil, List.length_append]; omega) | decide +kernel) ?_ | refine GDraw_one (by decide +kernel) ?_ | refine New.mk fun _ => ?_ | refine NewS.mk fun _ _ => ?_)
    rename_i cb
    refine G_nil encV 1 none ?_
    refine G_loop (σ := Nat × PHeap × (Option Addr × Nat) × List Value) (fun s => s.1 ≤ C.dims.length ∧ Hle h s.2.1 ∧ s.2.2.2.length = s.1 ∧ ∀ j < s.1, FSl s.2.1 (s.2.2.2[j]!) encI 1 (overL C n j)) (fun s => C.dims.length - s.1)
      (fun s => [(26, vI s.1), (25, vI C.dims.length), (24, tv), (5, .pointer (some ⟨cb, 0, none⟩)), (7, .slice s.2.2.1.1 s.2.2.2.length s.2.2.1.2)]) (fun s => s.2.1)
      (fun s => slo encV 1 (.slice s.2.2.1.1 s.2.2.2.length s.2.2.1.2) s.2.2.2 :: slo encCl 5 (.slice none 0 0) [] :: blk cb (.cells [vI (quoF (leavesN C) n C.dims.length C.dims.length), vI (leafAtF C n 0), vI (leafAtF C n 1), vI (leafAtF C n 2), vI (leafAtF C n 3)].toArray 28 (0, 0)) :: (L ++ R))
      (0, h, (none, 0), []) ⟨by omega, Hle.refl h, rfl, fun j hj => by omega⟩ ⟨rfl, by rw [← h4], rfl, rfl, rfl, trivial⟩ rfl inferInstance ?_
    rintro ⟨i, h8, ⟨la, lc⟩, lss⟩ ⟨hi, hl8, hll, hall⟩
    simp only at hi hl8 hll hall ⊢
    haveI le8 : Le h h8 := ⟨hl8⟩
    repeat (first | refine Step.imp ?_ | refine Side.mk (by first | exact True.intro | omega | exact ⟨trivial, rfl⟩ | exact ⟨by omega, trivial, rfl⟩ | exact ⟨by omega, rfl⟩ | exact ⟨by omega, by omega, rfl⟩ | (simp only [List.length_cons, List.length_nil, List.length_append]; done) | (simp only [List.length_cons, List.length_nil, List.length_append]; omega) | decide +kernel) ?_ | refine GDraw_one (by decide +kernel) ?_ | refine New.mk fun _ => ?_ | refine NewS.mk fun _ _ => ?_)
    refine ⟨fun hlt => ?_, fun hge => ?_⟩
    · have hi4 : i < 4 := by omega
      have ht := (h7 i (by omega)).1
      haveI : Acyc (mkTree (C.dims[i]!).2).nodes := treeErr_acyc (ok.trees i (by omega)).2
      have h6' := above_six (ok.trees i (by omega)).2 (leafAtF C n i)
      have hg4 : get4 (leafAtF C n 0) (leafAtF C n 1) (leafAtF C n 2) (leafAtF C n 3) i = leafAtF C n i := get4_fun _ hi4
      have hnn : (mkTree (C.dims[i]!).2).nodes = (C.dims[i]!).2 := rfl
      repeat (first | refine Step.imp ?_ | refine Side.mk (by first | exact True.intro | omega | exact ⟨trivial, rfl⟩ | exact ⟨by omega, trivial, rfl⟩ | exact ⟨by omega, rfl⟩ | exact ⟨by omega, by omega, rfl⟩ | (simp only [List.length_cons, List.length_nil, List.length_append]; done) | (simp only [List.length_cons, List.length_nil, List.length_append]; omega) | decide +kernel) ?_ | refine GDraw_one (by decide +kernel) ?_ | refine New.mk fun _ => ?_ | refine NewS.mk fun _ _ => ?_)
      intro ra rc
      rw [hg4, hnn]
      repeat (first | refine Step.imp ?_ | refine Side.mk (by first | exact True.intro | omega | exact ⟨trivial, rfl⟩ | exact ⟨by omega, trivial, rfl⟩ | exact ⟨by omega, rfl⟩ | exact ⟨by omega, by omega, rfl⟩ | (simp only [List.length_cons, List.length_nil, List.length_append]; done) | (simp only [List.length_cons, List.length_nil, List.length_append]; omega) | decide +kernel) ?_ | refine GDraw_one (by decide +kernel) ?_ | refine New.mk fun _ => ?_ | refine NewS.mk fun _ _ => ?_)
      intro ys hy1 hy2
      have hys := sort_is hy1 hy2
      have hyl := hy1.length_eq
      repeat (first | refine Step.imp ?_ | refine Side.mk (by first | exact True.intro | omega | exact ⟨trivial, rfl⟩ | exact ⟨by omega, trivial, rfl⟩ | exact ⟨by omega, rfl⟩ | exact ⟨by omega, by omega, rfl⟩ | (simp only [List.length_cons, List.length_nil, List.length_append]; done) | (simp only [List.length_cons, List.length_nil, List.length_append]; omega) | decide +kernel) ?_ | refine GDraw_one (by decide +kernel) ?_ | refine New.mk fun _ => ?_ | refine NewS.mk fun _ _ => ?_)
      rename_i b1 la1 lc1
      refine X_freezeS (.slice ra (above (C.dims[i]!).2 (leafAtF C n i)).length rc) fun h9 le9 f9 => ?_
      refine X_round (i + 1, h9, (la1, lc1), lss ++ [.slice ra (above (C.dims[i]!).2 (leafAtF C n i)).length rc]) ?_ ?_ ?_ ?_ ?_
      · refine ⟨by show i + 1 ≤ C.dims.length; omega, hl8.trans le9.le, by simp [hll], fun j hj => ?_⟩
        show FSl h9 ((lss ++ [.slice ra (above (C.dims[i]!).2 (leafAtF C n i)).length rc])[j]!) encI 1 _
        have hj : j < i + 1 := hj
        rw [getElem!_pos (lss ++ [_]) j (by simp; omega)]
        rcases Nat.lt_or_ge j i with hji | hji
        · rw [List.getElem_append_left (by omega)]
          have := hall j hji
          rw [getElem!_pos lss j (by omega)] at this
          exact FSl.mono le9.le this
        · have : j = i := by omega
          subst this
          rw [List.getElem_append_right (by omega)]
          simp only [hll, Nat.sub_self, List.getElem_cons_zero]
          unfold overL
          rw [← hys]
          exact f9
      · show C.dims.length - (i + 1) < C.dims.length - i
        omega
      · refine ⟨rfl, rfl, rfl, rfl, ?_, trivial⟩
        show _ = some (Value.slice la1 (lss ++ [_]).length lc1)
        rw [List.length_append]; rfl
      · rfl
      · simp only [List.length_append, List.length_cons, List.length_nil, Nat.zero_add]
        infer_instance
    · have hi2 : i = C.dims.length := by omega
      subst hi2
      repeat (first | refine Step.imp ?_ | refine Side.mk (by first | exact True.intro | omega | exact ⟨trivial, rfl⟩ | exact ⟨by omega, trivial, rfl⟩ | exact ⟨by omega, rfl⟩ | exact ⟨by omega, by omega, rfl⟩ | (simp only [List.length_cons, List.length_nil, List.length_append]; done) | (simp only [List.length_cons, List.length_nil, List.length_append]; omega) | decide +kernel) ?_ | refine GDraw_one (by decide +kernel) ?_ | refine New.mk fun _ => ?_ | refine NewS.mk fun _ _ => ?_)
      rename_i ob
      refine GO1_freezeS (.slice la lss.length lc) fun h10 le10 f10 => ?_
      have hlo : (overLs C n).length = C.dims.length := by simp [overLs]
      have hlg : ∀ j, j < C.dims.length → (overLs C n)[j]! = overL C n j := fun j hj => by
        rw [getElem!_pos _ j (by omega)]; simp [overLs]
      have hrl : ∀ j, j < C.dims.length → (overL C n j).length ≤ 6 := fun j hj => by
        unfold overL
        rw [(sortS_perm _).length_eq]
        exact above_six (ok.trees j hj).2 _
      haveI hIL : IsLists h10 (.slice la lss.length lc) (overLs C n) := ⟨lss, f10, by rw [hlo, hll], fun j hj => by
        rw [hlo] at hj
        rw [hlg j hj]
        exact ⟨FSl.mono le10.le (hall j hj), by have := hrl j hj; omega⟩⟩
      repeat (first | refine Step.imp ?_ | refine Side.mk (by first | exact True.intro | omega | exact ⟨trivial, rfl⟩ | exact ⟨by omega, trivial, rfl⟩ | exact ⟨by omega, rfl⟩ | exact ⟨by omega, by omega, rfl⟩ | (simp only [List.length_cons, List.length_nil, List.length_append]; done) | (simp only [List.length_cons, List.length_nil, List.length_append]; omega) | decide +kernel) ?_ | refine GDraw_one (by decide +kernel) ?_ | refine New.mk fun _ => ?_ | refine NewS.mk fun _ _ => ?_)
      intro h11 lb tt le11 hlb
      repeat (first | refine Step.imp ?_ | refine Side.mk (by first | exact True.intro | omega | exact ⟨trivial, rfl⟩ | exact ⟨by omega, trivial, rfl⟩ | exact ⟨by omega, rfl⟩ | exact ⟨by omega, by omega, rfl⟩ | (simp only [List.length_cons, List.length_nil, List.length_append]; done) | (simp only [List.length_cons, List.length_nil, List.length_append]; omega) | decide +kernel) ?_ | refine GDraw_one (by decide +kernel) ?_ | refine New.mk fun _ => ?_ | refine NewS.mk fun _ _ => ?_)
      have hl11 : Hle h h11 := hl8.trans (le10.le.trans le11.le)
      have hcnt : cntF (overLs C n) (overLs C n).length 0 ≤ 4294967296 := by
        have h1 := cntF_le (ls := overLs C n) (fun k hk => by rw [hlo] at hk; rw [hlg k hk]; have := hrl k hk; omega) (overLs C n).length 0 (by omega)
        have h2 : (32 : Nat) ^ (overLs C n).length ≤ 32 ^ 4 := Nat.pow_le_pow_right (by omega) (by omega)
        have h3 : (32 : Nat) ^ 4 = 1048576 := by decide
        omega
      obtain ⟨mm, hmm⟩ : ∃ mm, mm = quoF (leavesN C) n C.dims.length C.dims.length := ⟨_, rfl⟩
      rw [← hmm]
      refine G_conv (x := blk ob (.cells [.slice none 0 0].toArray 48 (0, 0))) (y := outC ob ([] : List Cl)) (fun bs hb => ⟨none, 0, bs, [], by simp, hb, ⟨by simp, .inl ⟨⟨none, rfl⟩, rfl, rfl⟩⟩⟩) ?_
      let J : Nat → Loop → List (Nat → Int) → List HP := fun l r pre => [blk l (.loop r), outC ob (pre.map (clOf mm)), blk cb (.cells [vI mm, vI (leafAtF C n 0), vI (leafAtF C n 1), vI (leafAtF C n 2), vI (leafAtF C n 3)].toArray 28 (0, 0))]
      refine G_range (p := 46) (fk := 51) (caps := [.pointer (some ⟨lb, 0, none⟩)]) rfl inferInstance (fun l D r K => ∀ h', Hle h11 h' → K (.tuple ([] : List Value).toArray) h' (J l r (combF (overLs C n) (overLs C n).length 0 (fun _ => 0)) ++ (blk D (.deferred (some [])) :: slo encCl 5 (.slice none 0 0) [] :: (L ++ R)))) ?_ ?_
      · intro l D r hrec
        refine Spec.permL (Lp' := J l r [] ++ (blk D (.deferred (some [])) :: slo encCl 5 (.slice none 0 0) [] :: (L ++ R))) (List.Perm.cons _ ((List.Perm.swap _ _ _).trans (List.Perm.cons _ (((List.Perm.cons _ (List.Perm.swap _ _ _))).trans (List.Perm.swap _ _ _))))) ?_
        refine Spec.frameH (every_in (J := J l r) (B := 4294967296) (by omega) hcnt ?_)
        intro h' hle pre q hq hpre
        haveI : Le h11 h' := ⟨hle⟩
        refine yspec_of (N0 := 55) (p := 46) (by omega) hrec.ps hrec.ae fun K' R' hT' => ?_
        rw [hrec.as, hrec.bo]
        repeat (first | refine Step.imp ?_ | refine Side.mk (by first | exact True.intro | omega | exact ⟨trivial, rfl⟩ | exact ⟨by omega, trivial, rfl⟩ | exact ⟨by omega, rfl⟩ | exact ⟨by omega, by omega, rfl⟩ | (simp only [List.length_cons, List.length_nil, List.length_append]; done) | (simp only [List.length_cons, List.length_nil, List.length_append]; omega) | decide +kernel) ?_ | refine GDraw_one (by decide +kernel) ?_ | refine New.mk fun _ => ?_ | refine NewS.mk fun _ _ => ?_)
        refine X_begin (.swap _ _ _) hrec.st ?_ rfl
        rename_i xb
        refine G_perm (L' := outC ob (pre.map (clOf mm)) :: blk l (.loop { r with state := .busy }) :: blk xb (.cells [vI (q 0), vI (q 1), vI (q 2), vI (q 3)].toArray 63 (0, 0)) :: blk cb (.cells [vI mm, vI (leafAtF C n 0), vI (leafAtF C n 1), vI (leafAtF C n 2), vI (leafAtF C n 3)].toArray 28 (0, 0)) :: R') ((List.Perm.cons _ (List.Perm.swap _ _ _)).trans (List.Perm.swap _ _ _)) ?_
        refine G_outC fun a c => ?_
        have hml : (pre.map (clOf mm)).length < 4294967296 := by rw [List.length_map]; exact hpre
        repeat (first | refine GDraw_O (.slice a (pre.map (clOf mm)).length c) (by decide +kernel) ?_ | refine Step.imp ?_ | refine Side.mk (by first | exact True.intro | omega | exact ⟨trivial, rfl⟩ | exact ⟨by omega, trivial, rfl⟩ | exact ⟨by omega, rfl⟩ | exact ⟨by omega, by omega, rfl⟩ | (simp only [List.length_cons, List.length_nil, List.length_append]; done) | (simp only [List.length_cons, List.length_nil, List.length_append]; omega) | decide +kernel) ?_ | refine GDraw_one (by decide +kernel) ?_ | refine New.mk fun _ => ?_ | refine NewS.mk fun _ _ => ?_)
        rename_i b1 oa oc
        have hmap : pre.map (clOf mm) ++ [⟨mm, q 0, q 1, q 2, q 3⟩] = (pre ++ [q]).map (clOf mm) := by rw [List.map_append]; rfl
        have hml2 : (pre.map (clOf mm)).length + 1 = ((pre ++ [q]).map (clOf mm)).length := by simp
        rw [hmap, hml2]
        refine X_sub (V := blk ob (.cells [.slice oa ((pre ++ [q]).map (clOf mm)).length oc].toArray 48 (0, 0)) :: slo encCl 5 (.slice oa ((pre ++ [q]).map (clOf mm)).length oc) ((pre ++ [q]).map (clOf mm)) :: blk l (.loop { r with state := .busy }) :: blk cb (.cells [vI mm, vI (leafAtF C n 0), vI (leafAtF C n 1), vI (leafAtF C n 2), vI (leafAtF C n 3)].toArray 28 (0, 0)) :: R') inferInstance ?_
        refine X_inC ?_
        have hrr : ({ ({ r with state := .busy } : Loop) with state := .ready, pending := none } : Loop) = r := by
          have e1 := hrec.st
          have e2 := hrec.pe
          cases r; simp_all
        refine X_roundEnd (r := { r with state := .busy }) (L' := [outC ob ((pre ++ [q]).map (clOf mm)), blk cb (.cells [vI mm, vI (leafAtF C n 0), vI (leafAtF C n 1), vI (leafAtF C n 2), vI (leafAtF C n 3)].toArray 28 (0, 0))]) (.swap _ _ _) (Hle.refl _) ?_
        rw [hrr]
        exact hT'
      · intro l D r hrec h' hle
        haveI : Le h11 h' := ⟨hle⟩
        have hout : (combF (overLs C n) (overLs C n).length 0 (fun _ => 0)).map (clOf mm) = overF C n := by
          unfold overF; rw [if_pos hin, hlo, ← hmm]
        refine ⟨outC ob ((combF (overLs C n) (overLs C n).length 0 (fun _ => 0)).map (clOf mm)) :: blk cb _ :: blk D (.deferred (some [])) :: slo encCl 5 (.slice none 0 0) [] :: (L ++ R), .refl _, ?_⟩
        rw [hout]
        refine X_outC fun a c => ?_
        have hfin := hT h' a c ⟨hl11.trans hle⟩
        repeat (first | refine Step.imp ?_ | refine Side.mk (by first | exact True.intro | omega | exact ⟨trivial, rfl⟩ | exact ⟨by omega, trivial, rfl⟩ | exact ⟨by omega, rfl⟩ | exact ⟨by omega, by omega, rfl⟩ | (simp only [List.length_cons, List.length_nil, List.length_append]; done) | (simp only [List.length_cons, List.length_nil, List.length_append]; omega) | decide +kernel) ?_ | refine GDraw_one (by decide +kernel) ?_ | refine New.mk fun _ => ?_ | refine NewS.mk fun _ _ => ?_)
        exact Fin.val hfin rfl (hl11.trans hle)⟩
end
end Go.Sl

/-
  Regions that draw their order and hold several hard operations, some of them guarded: all orders are walked.
-/
namespace Go.Sl
set_option linter.unusedVariables false
set_option linter.unusedSimpArgs false
section
variable {P : Program} {N : NN} {k : List It} {Q : Post} {e : Env} {h h0 : PHeap} {L V M : List HP} {ops : List Oper} {fuel : Nat} {li : Array Bool}
/-- More is frozen, step by step. -/
class LeT (h h' : PHeap) : Prop where
  le : Hle h h'
instance (priority := high) {h : PHeap} : LeT h h := ⟨Hle.refl h⟩
instance {h a b : PHeap} [l : Le a b] [t : LeT h a] : LeT h b := ⟨t.le.trans l.le⟩
/-- Is an operation wanted? -/
class GuardIs (ops : List Oper) (e : Env) (g : Option (Nat × Bool)) (b : outParam Bool) : Prop where
  eq : ∀ N a (o : Oper), o.guard = g → AE N e a → Region.wanted o (yielded ops.toArray a.tmps) = b
instance : GuardIs ops e none true := ⟨fun N a o ho _ => by unfold Region.wanted; rw [ho]⟩
theorem guard_eq {j t : Nat} {b want : Bool} {a : Act} {o : Oper} (ho : o.guard = some (j, want)) (hd : dstAt ops j = some t) (hv : lk e t = some (.bool b)) (s : AE N e a) : Region.wanted o (yielded ops.toArray a.tmps) = (b == want) := by
  obtain ⟨d, op, ty, pos, af, g⟩ := o
  subst ho
  exact guard_is hd hv s
theorem guard_eq_un {j t : Nat} {want : Bool} {a : Act} {o : Oper} (ho : o.guard = some (j, want)) (hd : dstAt ops j = some t) (hv : lk e t = some undef) (s : AE N e a) : Region.wanted o (yielded ops.toArray a.tmps) = false := by
  obtain ⟨d, op, ty, pos, af, g⟩ := o
  subst ho
  exact guard_un hd hv s
instance {j t : Nat} [hd : Is (dstAt ops j) (some t)] [hv : Is (lk e t) (some (.bool true))] : GuardIs ops e (some (j, true)) true := ⟨fun N a o ho s => guard_eq ho hd.eq hv.eq s⟩
instance {j t : Nat} [hd : Is (dstAt ops j) (some t)] [hv : Is (lk e t) (some (.bool false))] : GuardIs ops e (some (j, false)) true := ⟨fun N a o ho s => guard_eq ho hd.eq hv.eq s⟩
instance {j t : Nat} [hd : Is (dstAt ops j) (some t)] [hv : Is (lk e t) (some (.bool true))] : GuardIs ops e (some (j, false)) false := ⟨fun N a o ho s => guard_eq ho hd.eq hv.eq s⟩
instance {j t : Nat} [hd : Is (dstAt ops j) (some t)] [hv : Is (lk e t) (some (.bool false))] : GuardIs ops e (some (j, true)) false := ⟨fun N a o ho s => guard_eq ho hd.eq hv.eq s⟩
instance {j t : Nat} {b : Bool} [hd : Is (dstAt ops j) (some t)] [hv : Is (lk e t) (some undef)] : GuardIs ops e (some (j, b)) false := ⟨fun N a o ho s => guard_eq_un ho hd.eq hv.eq s⟩
/-! ### A plan of all orders -/
inductive Sch where
  | e
  | s (m : Nat) (r : Sch)
  | h (j : Nat) (r alt : Sch)
  | n
def Sch.alts : Sch → List Nat
  | .h j _ alt => j :: alt.alts
  | _ => []
def Sch.depth : Sch → Nat
  | .e => 0
  | .s _ r => r.depth + 1
  | .h _ r alt => max (r.depth + 1) alt.depth
  | .n => 0
def schOK (ops : Array Oper) (li : Array Bool) (top : Bool) : Sch → Bool
  | .e => top && (Region.ready .any ops li).isEmpty
  | .s m r => top && nextSoft ops li == some m && schOK ops (li.setIfInBounds m true) true r
  | .h j r alt => (!top || ((nextSoft ops li).isNone && !(Region.ready .any ops li).isEmpty && (Region.ready .any ops li).all ((Sch.h j r alt).alts.contains ·))) && schOK ops (li.setIfInBounds j true) true r && schOK ops li false alt
  | .n => !top
/-- What is left of the plan. -/
def GT (P : Program) (N : NN) (ops : List Oper) (V : List HP) (h0 : PHeap) (sch : Sch) (k : List It) (Q : Post) (e : Env) (h : PHeap) (L : List HP) : Prop :=
  Hle h0 h → (∃ w, Cw V h0 w) → ∀ a w, AS N e h L a w → ∀ li fuel, schOK ops.toArray li true sch = true → sch.depth ≤ fuel → wpSched P ops.toArray (Cw V h0) (needs ops.toArray) (fun a w => cQ N.ro P k Q .normal a w) fuel li a w
def GTa (P : Program) (N : NN) (ops : List Oper) (V : List HP) (h0 : PHeap) (sch : Sch) (k : List It) (Q : Post) (e : Env) (h : PHeap) (L : List HP) : Prop :=
  Hle h0 h → (∃ w, Cw V h0 w) → ∀ a w, AS N e h L a w → ∀ li fuel, schOK ops.toArray li false sch = true → sch.depth ≤ fuel + 1 → ∀ j ∈ sch.alts, ∃ o, ops.toArray[j]? = some o ∧
    hardOp P ops.toArray o (fun a' w' => (needs ops.toArray j = true → Cw V h0 w') ∧ wpSched P ops.toArray (Cw V h0) (needs ops.toArray) (fun a w => cQ N.ro P k Q .normal a w) fuel (li.setIfInBounds j true) a' w') a w
/-- Operation m comes next: it is soft; it is to be done, or not. -/
def GTn (P : Program) (N : NN) (ops : List Oper) (V : List HP) (h0 : PHeap) (o : Oper) (r : Sch) (k : List It) (Q : Post) (e : Env) (h : PHeap) (L : List HP) : Prop :=
  Hle h0 h → (∃ w, Cw V h0 w) → ∀ a w, AS N e h L a w → ∃ v e', Yc P ops.toArray (Cw V h0) o v a ∧ AE N e' (a.put o.dst v) ∧ GT P N ops V h0 r k Q e' h L
/-- A hard operation. -/
def GTo (P : Program) (N : NN) (ops : List Oper) (V : List HP) (h0 : PHeap) (o : Oper) (r : Sch) (k : List It) (Q : Post) (e : Env) (h : PHeap) (L : List HP) : Prop :=
  ∀ a w, AE N e a → St h L w → hardOp P ops.toArray o (fun a' w' => ∃ e' h' L', AE N e' a' ∧ Hle h h' ∧ St h' L' w' ∧ Sub L' V ∧ GT P N ops V h0 r k Q e' h' L') a w
structure Both (p q : Prop) : Prop where
  fst : p
  snd : q
theorem GDraw_sch {id : Nat} (sch : Sch) [hm : Mixed P] (hok : (manyOK ops.toArray && schOK ops.toArray (Array.replicate ops.length false) true sch && decide (sch.depth ≤ ops.length)) = true) (g : GT P N ops L h sch k Q e h L) : GDraw P N id ops k Q e h L := by
  simp only [Bool.and_eq_true, decide_eq_true_eq] at hok
  obtain ⟨⟨h1, h2⟩, h3⟩ := hok
  exact GDraw_many h1 fun hl hc a w s => g hl hc a w s _ _ h2 h3
theorem GDraw_schV {id : Nat} (V : List HP) {Z : List HP} (sch : Sch) [hm : Mixed P] (hp : L.Perm (V ++ Z)) (hok : (manyOK ops.toArray && schOK ops.toArray (Array.replicate ops.length false) true sch && decide (sch.depth ≤ ops.length)) = true) (g : GT P N ops V h sch k Q e h L) : GDraw P N id ops k Q e h L := by
  simp only [Bool.and_eq_true, decide_eq_true_eq] at hok
  obtain ⟨⟨h1, h2⟩, h3⟩ := hok
  intro a w s
  have hs : St h L { w with drawn := w.drawn + 1 } := s.st.heap rfl
  have hc : Cw V h { w with drawn := w.drawn + 1 } := Cw.of hp hs
  exact wp_many (C := Cw V h) hm.eq h1 hc (g (Hle.refl h) ⟨_, hc⟩ a _ (s.ae.as hs) _ _ (by simpa using h2) (by simpa using h3))
instance gt_e : Step (GT P N ops V h0 .e k Q e h L) (X P N .normal k Q e h L) := ⟨fun g hl hc a w s li fuel h1 _ => by
  simp only [schOK, Bool.true_and, List.isEmpty_iff] at h1
  cases fuel with
  | zero => exact ⟨h1, g a w s⟩
  | succ fuel =>
    unfold wpSched
    have : nextSoft ops.toArray li = none := by simp [nextSoft, h1]
    simp only [this, h1]
    exact ⟨fun _ => g a w s, fun j hj => (by cases hj)⟩⟩
instance gt_s {m : Nat} {r : Sch} {o : Oper} [ho : Is (atL ops m) (some o)] : Step (GT P N ops V h0 (.s m r) k Q e h L) (GTn P N ops V h0 o r k Q e h L) := ⟨fun g hl hc a w s li fuel h1 h2 => by
  simp only [schOK, Bool.true_and, Bool.and_eq_true, beq_iff_eq] at h1
  simp only [Sch.depth] at h2
  obtain ⟨fuel, rfl⟩ : ∃ f, fuel = f + 1 := ⟨fuel - 1, by omega⟩
  unfold wpSched
  simp only [h1.1]
  obtain ⟨v, e', h3, h4, h5⟩ := g hl hc a w s
  exact ⟨_, v, by have := ho.eq; rw [atL_eq] at this; simpa using this, h3, h5 hl hc _ w (h4.as s.st) _ _ h1.2 (by omega)⟩⟩
instance gt_h {j : Nat} {r alt : Sch} {o : Oper} [ho : Is (atL ops j) (some o)] : Step (GT P N ops V h0 (.h j r alt) k Q e h L) (Both (GTo P N ops V h0 o r k Q e h L) (GTa P N ops V h0 alt k Q e h L)) := ⟨fun g hl hc a w s li fuel h1 h2 => by
  simp only [schOK, Bool.not_true, Bool.false_or, Bool.and_eq_true, Option.isNone_iff_eq_none, Bool.not_eq_true'] at h1
  obtain ⟨⟨⟨⟨h3, h4⟩, h5⟩, h6⟩, h7⟩ := h1
  simp only [Sch.depth] at h2
  obtain ⟨fuel, rfl⟩ : ∃ f, fuel = f + 1 := ⟨fuel - 1, by omega⟩
  unfold wpSched
  simp only [h3]
  refine ⟨fun h => (by rw [h] at h4; cases h4), fun i hi => ?_⟩
  have hm := List.all_eq_true.1 h5 i hi
  simp only [Sch.alts, List.contains_cons, Bool.or_eq_true, beq_iff_eq] at hm
  rcases hm with rfl | hm
  · refine ⟨o, by have := ho.eq; rw [atL_eq] at this; simpa using this, hardOp_mono (fun u w' hk => ?_) (g.fst a w s.ae s.st)⟩
    obtain ⟨e', h', L', k1, k2, k3, k4, k5⟩ := hk
    refine ⟨fun _ => ?_, k5 (hl.trans k2) hc _ w' (k1.as k3) _ _ h6 (by omega)⟩
    obtain ⟨Z, hz⟩ := k4.eq
    exact ⟨Z, _, hl.trans k2, k3.perm hz⟩
  · exact g.snd hl hc a w s li fuel h7 (by omega) i (by simpa using hm)⟩
instance gta_n : Step (GTa P N ops V h0 .n k Q e h L) True := ⟨fun _ hl hc a w s li fuel _ _ j hj => by cases hj⟩
instance gta_h {j : Nat} {r alt : Sch} {o : Oper} [ho : Is (atL ops j) (some o)] : Step (GTa P N ops V h0 (.h j r alt) k Q e h L) (Both (GTo P N ops V h0 o r k Q e h L) (GTa P N ops V h0 alt k Q e h L)) := ⟨fun g hl hc a w s li fuel h1 h2 i hi => by
  simp only [schOK, Bool.not_false, Bool.true_or, Bool.true_and, Bool.and_eq_true] at h1
  simp only [Sch.depth] at h2
  rcases List.mem_cons.1 hi with rfl | hi
  · refine ⟨o, by have := ho.eq; rw [atL_eq] at this; simpa using this, hardOp_mono (fun u w' hk => ?_) (g.fst a w s.ae s.st)⟩
    obtain ⟨e', h', L', k1, k2, k3, k4, k5⟩ := hk
    refine ⟨fun _ => ?_, k5 (hl.trans k2) hc _ w' (k1.as k3) _ _ h1.1 (by omega)⟩
    obtain ⟨Z, hz⟩ := k4.eq
    exact ⟨Z, _, hl.trans k2, k3.perm hz⟩
  · exact g.snd hl hc a w s li fuel h1.2 (by omega) i hi⟩
instance gtn_soft {d : Nat} {op : Op} {ty : TypeId} {pos : String} {af : Array Edge} {g : Option (Nat × Bool)} {r : Sch} {s : Prop} {v : Value} [hg : GuardIs ops e g true] [hs : Soft P N V h0 e op s v] [hN : InN N d] :
    Step (GTn P N ops V h0 ⟨some d, op, ty, pos, af, g⟩ r k Q e h L) (Side s (GT P N ops V h0 r k Q ((d, v) :: e) h L)) :=
  ⟨fun hk hl hc a w se => ⟨v, _, .inl ⟨hg.eq N a _ rfl se.ae, fun w' hw' => hs.run hk.side hc (some d) ty pos af g a w' se.ae hw'⟩, se.ae.put hN.eq, hk.rest⟩⟩
instance gtn_skip {d : Nat} {op : Op} {ty : TypeId} {pos : String} {af : Array Edge} {g : Option (Nat × Bool)} {r : Sch} [hg : GuardIs ops e g false] [hN : InN N d] :
    Step (GTn P N ops V h0 ⟨some d, op, ty, pos, af, g⟩ r k Q e h L) (GT P N ops V h0 r k Q ((d, undef) :: e) h L) :=
  ⟨fun hk hl hc a w se => ⟨undef, _, .inr ⟨hg.eq N a _ rfl se.ae, rfl⟩, se.ae.put hN.eq, hk⟩⟩
instance gto_skip {d : Nat} {op : Op} {ty : TypeId} {pos : String} {af : Array Edge} {g : Option (Nat × Bool)} {r : Sch} [hg : GuardIs ops e g false] [hN : InN N d] [hs : Sub L V] :
    Step (GTo P N ops V h0 ⟨some d, op, ty, pos, af, g⟩ r k Q e h L) (GT P N ops V h0 r k Q ((d, undef) :: e) h L) :=
  ⟨fun hk a w se st => by
    unfold hardOp
    rw [if_neg (by rw [hg.eq N a _ rfl se]; simp)]
    exact ⟨_, h, L, se.put hN.eq, Hle.refl h, st, hs, hk⟩⟩
theorem GTo_do {o : Oper} {r : Sch} [hg : GuardIs ops e o.guard true] (hh : HardS P N o e h L (fun e' h' L' => Sub L' V ∧ GT P N ops V h0 r k Q e' h' L')) : GTo P N ops V h0 o r k Q e h L := fun a w se st => by
  unfold hardOp
  rw [if_pos (hg.eq N a _ rfl se)]
  obtain ⟨h1, h2⟩ := hh a w se st
  refine ⟨Oper.wp_mono (fun a' w' hk => ?_) h1, h2⟩
  obtain ⟨e', h', L', k1, k2, k3, k4⟩ := hk
  exact ⟨e', h', L', k1, k2, k3, k4⟩
theorem GT_app {d : Option Nat} {v : Value} {r : Sch} {X M LL : List HP} [ha : AppL X M LL] (hs : Sub LL V) (g : GT P N ops V h0 r k Q (putR d v e) h LL) : Sub (X ++ M) V ∧ GT P N ops V h0 r k Q (putR d v e) h (X ++ M) := by
  rw [ha.eq]; exact ⟨hs, g⟩
/-! ### Tests whose outcome is known -/
class Known (p : Prop) : Prop where
  yes : p
instance guard_known {j t : Nat} {p : Prop} [Decidable p] [hp : Known p] [hd : Is (dstAt ops j) (some t)] [hv : Is (lk e t) (some (.bool (decide p)))] : GuardIs ops e (some (j, true)) true := ⟨fun N a o ho s => guard_eq (b := true) ho hd.eq (by rw [hv.eq]; simp [hp.yes]) s⟩
instance guard_known' {j t : Nat} {p : Prop} [Decidable p] [hp : Known p] [hd : Is (dstAt ops j) (some t)] [hv : Is (lk e t) (some (.bool (decide p)))] : GuardIs ops e (some (j, false)) false := ⟨fun N a o ho s => guard_eq (b := true) ho hd.eq (by rw [hv.eq]; simp [hp.yes]) s⟩
instance pick_known {c x y : Operand} {v : Value} {p : Prop} [Decidable p] [hp : Known p] [hc : Is (lkO e c) (some (.bool (decide p)))] [hx : Is (lkO e x) (some v)] : Soft P N V h e (.pick c x y) True v := ⟨fun _ _ d ty pos af g a w s _ => by
  have h1 := s.eval hc.eq
  rw [decide_eq_true hp.yes] at h1
  simp [execOp, h1, s.eval hx.eq, asBool]⟩
instance {α : Type} {n : α} : Known (n = n) := ⟨rfl⟩
section
variable {d : Option Tmp} {op : Op} {ty : TypeId} {pos : String} {af : Array Edge} {j t i : Nat} {p : Prop} [Decidable p] {l : List Oper}
instance go_known [hp : Known p] [hd : Is (dstAt ops j) (some t)] [hv : Is (lk e t) (some (.bool (decide p)))] : Step (GO P N ops (⟨d, op, ty, pos, af, some (j, true)⟩ :: l) k Q e h L) (GO1 P N ops ⟨d, op, ty, pos, af, some (j, true)⟩ l k Q e h L) :=
  ⟨GO_of_GO1 fun a s => by rw [guard_is (b := true) hd.eq (by rw [hv.eq]; simp [hp.yes]) s]; rfl⟩
instance gd_known [hp : Known p] [hd : Is (dstAt ops j) (some t)] [hv : Is (lk e t) (some (.bool (decide p)))] : Step (GD P N ops V h0 i (⟨d, op, ty, pos, af, some (j, true)⟩ :: l) k Q e h L) (GD1 P N ops V h0 i ⟨d, op, ty, pos, af, some (j, true)⟩ l k Q e h L) :=
  ⟨GD_of_GD1 fun a s => by rw [guard_is (b := true) hd.eq (by rw [hv.eq]; simp [hp.yes]) s]; rfl⟩
instance cond_known {x y : Code} [hp : Known p] [hv : Is (lk e t) (some (.bool (decide p)))] : Step (G P N (.cond (.tmp t) x y) k Q e h L) (G P N x k Q e h L) :=
  ⟨fun g a w s => wpIn_cond_true (by rw [s.ae.eval (x := .tmp t) hv.eq]; simp [hp.yes]) (g a w s)⟩
end
/-! ### Regions of many operations, written in two parts -/
class AppO (a b : List Oper) (c : outParam (List Oper)) : Prop where
  eq : a.append b = c
instance {b : List Oper} : AppO [] b b := ⟨rfl⟩
instance {x : Oper} {a b c : List Oper} [r : AppO a b c] : AppO (x :: a) b (x :: c) := ⟨by show x :: a.append b = x :: c; rw [r.eq]⟩
instance (priority := high) step_region2 {id : Nat} {a b l : List Oper} [r : AppO a b l] : Step (G P N (.region id (a.append b).toArray false) k Q e h L) (GO P N l l k Q e h L) := ⟨fun g => by rw [r.eq]; exact fun a w s => wpIn_region_lit (g a w s)⟩
instance (priority := high) step_draw2 {id : Nat} {a b l : List Oper} [r : AppO a b l] : Step (G P N (.region id (a.append b).toArray true) k Q e h L) (GDraw P N id l k Q e h L) := ⟨fun g => by rw [r.eq]; exact g⟩
/-! ### Slices written out, as lists -/
class EncT (P : Program) (el : TypeId) {α : outParam Type} (enc : outParam (α → List Value)) (k : outParam Nat) : Prop where
  one : EncOne enc
section
variable {d : Nat} {ty : TypeId} {pos : String} {af : Array Edge} {g : Option (Nat × Bool)} {C : Env → PHeap → List HP → Prop}
theorem hard_buildO {t el n sz : Nat} {agg : Bool} {z : Value} {ps : List (Nat × Operand)} {zs cs0 cs : List Value} {α : Type} {enc : α → List Value} {kk : Nat} {ys : List α} [ht : SliT P t el] [he : EncT P el enc kk] [hs : TySz P el agg sz] [hz : ZeroT P el z] [hzc : CellsOf L h z zs] [hl : LenN zs sz] [hr : RepN n zs cs0] [hf : Fill P L h e (fun i => some (i * sz, sz)) ps cs0 cs] [hd : Dec enc kk cs ys] [hy : LenL ys n] [hN : InN N d]
    (hsz : 0 < n * sz ∧ n * sz ≤ 16777216) (hk : ∀ b, C ((d, .slice (some ⟨b, 0, none⟩) n n) :: e) h (slo enc kk (.slice (some ⟨b, 0, none⟩) n n) ys :: L)) : HardS P N ⟨some d, .buildSlice t n ps.toArray, ty, pos, af, g⟩ e h L C := by
  intro a w s st
  have := hard_buildSlice (P := P) (N := N) (d := d) (ty := ty) (pos := pos) (af := af) (g := g) (t := t) (n := n) (ps := ps) (L := L) (e := e) (h := h) (C := fun e' h' L' => ∃ b, e' = (d, .slice (some ⟨b, 0, none⟩) n n) :: e ∧ h' = h ∧ L' = blk b (.cells cs.toArray el (0, 0)) :: L) hsz (fun b => ⟨b, rfl, rfl, rfl⟩) a w s st
  refine ⟨Oper.wp_mono (fun a' w' hq => ?_) this.1, this.2⟩
  obtain ⟨e', h', L', h1, h2, h3, b, rfl, rfl, rfl⟩ := hq
  refine ⟨_, h', slo enc kk (.slice (some ⟨b, 0, none⟩) n n) ys :: L, h1, h2, ?_, hk b⟩
  have ho := he.one
  have := own_st (L := blk b (.cells cs.toArray el (0, 0)) :: L) (enc := enc) (kk := kk) (ys := ys) (R := L) ⟨.refl _⟩ hd ho h3
  rw [hy.eq] at this
  exact this
end
theorem hard_callP {C : Env → PHeap → List HP → Prop} {d : Option Nat} {ty : TypeId} {pos : String} {af : Array Edge} {g : Option (Nat × Bool)} {n : FuncId} {f : Operand} {xs : List Operand} {ts : Array TypeId} {vs : List Value} {s : Prop} {v : Value} [hf : Is (lkO e f) (some (.func (.func n) #[] #[]))] [ha : ArgsOf e xs vs] [hcf : CallF P n] [hc : CallV P n vs h s v] [hd : DstOk N d]
    (hs : s) (hT : C (putR d v e) h ([] ++ L)) : HardS P N ⟨d, .call { callee := .value f, args := xs.toArray, argTypes := ts }, ty, pos, af, g⟩ e h L C :=
  hard_call (M := L) (Lp := []) hf.eq (ha.eq N) hcf hd (.refl _) (hc.spec hs) hT
end
end Go.Sl

/-
  Lists that are held against each other.
-/
namespace Go.Sl
open Go.Proofs
set_option linter.unusedVariables false
set_option linter.unusedSimpArgs false
set_option maxRecDepth 10000
set_option synthInstance.maxSize 2000
set_option synthInstance.maxHeartbeats 200000
set_option maxHeartbeats 1000000
instance : EncT Try.prog 3 encI 1 := ⟨inferInstance⟩
instance : EncT Try.prog 28 encCl 5 := ⟨inferInstance⟩
theorem list_eq {α : Type} [Inhabited α] {xs ys : List α} (hl : xs.length = ys.length) (h : ∀ j < xs.length, xs[j]! = ys[j]!) : xs = ys := by
  refine List.ext_getElem hl fun j h1 h2 => ?_
  have := h j h1
  rwa [getElem!_pos xs j h1, getElem!_pos ys j h2] at this
instance : DecidableEq Cl := fun x y => decidable_of_iff (x.m = y.m ∧ x.a0 = y.a0 ∧ x.a1 = y.a1 ∧ x.a2 = y.a2 ∧ x.a3 = y.a3) (by cases x; cases y; simp)
theorem cl_eq {x y : Cl} : (x.m = y.m ∧ (x.a0 = y.a0 ∧ x.a1 = y.a1 ∧ x.a2 = y.a2 ∧ x.a3 = y.a3 ∧ True) ∧ True) ↔ x = y := by cases x; cases y; simp
section
variable {h : PHeap} {v u : Value}
instance ints_same {L : List HP} {xs ys : List Int} [hv : Rds L h v encI 1 xs] [hu : Rds L h u encI 1 ys] : CallX Try.prog 25 [v, u] h L (xs.length ≤ 4294967296) (fun K => K (.bool (decide (xs = ys))) h []) := ⟨fun hn => by
  refine spec_enter Try.func25 rfl Try.ntmps25 Try.results25 (by simp) fun K R hT => ?_
  repeat (first | refine Step.imp ?_ | refine Side.mk (by first | exact True.intro | omega | exact ⟨trivial, rfl⟩ | exact ⟨by omega, trivial, rfl⟩ | exact ⟨by omega, rfl⟩ | exact ⟨by omega, by omega, rfl⟩ | (simp only [List.length_cons, List.length_nil, List.length_append]; done) | (simp only [List.length_cons, List.length_nil, List.length_append]; omega) | decide +kernel) ?_ | refine GDraw_one (by decide +kernel) ?_ | refine New.mk fun _ => ?_ | refine NewS.mk fun _ _ => ?_)
  refine ⟨fun hne => ?_, fun heq => ?_⟩
  · repeat (first | refine Step.imp ?_ | refine Side.mk (by first | exact True.intro | omega | exact ⟨trivial, rfl⟩ | exact ⟨by omega, trivial, rfl⟩ | exact ⟨by omega, rfl⟩ | exact ⟨by omega, by omega, rfl⟩ | (simp only [List.length_cons, List.length_nil, List.length_append]; done) | (simp only [List.length_cons, List.length_nil, List.length_append]; omega) | decide +kernel) ?_ | refine GDraw_one (by decide +kernel) ?_ | refine New.mk fun _ => ?_ | refine NewS.mk fun _ _ => ?_)
    exact Fin.ff hT (fun he => hne (by rw [he])) (Hle.refl _)
  have hl : xs.length = ys.length := by omega
  repeat (first | refine Step.imp ?_ | refine Side.mk (by first | exact True.intro | omega | exact ⟨trivial, rfl⟩ | exact ⟨by omega, trivial, rfl⟩ | exact ⟨by omega, rfl⟩ | exact ⟨by omega, by omega, rfl⟩ | (simp only [List.length_cons, List.length_nil, List.length_append]; done) | (simp only [List.length_cons, List.length_nil, List.length_append]; omega) | decide +kernel) ?_ | refine GDraw_one (by decide +kernel) ?_ | refine New.mk fun _ => ?_ | refine NewS.mk fun _ _ => ?_)
  refine G_loopE (σ := Nat) (fun k => k ≤ xs.length ∧ ∀ j < k, xs[j]! = ys[j]!) (fun k => xs.length - k) (fun k => [(5, vI k), (0, v), (1, u)]) 0 ⟨by omega, by omega⟩ ⟨rfl, rfl, rfl, trivial⟩ fun k hk => ?_
  obtain ⟨hk, hall⟩ := hk
  repeat (first | refine Step.imp ?_ | refine Side.mk (by first | exact True.intro | omega | exact ⟨trivial, rfl⟩ | exact ⟨by omega, trivial, rfl⟩ | exact ⟨by omega, rfl⟩ | exact ⟨by omega, by omega, rfl⟩ | (simp only [List.length_cons, List.length_nil, List.length_append]; done) | (simp only [List.length_cons, List.length_nil, List.length_append]; omega) | decide +kernel) ?_ | refine GDraw_one (by decide +kernel) ?_ | refine New.mk fun _ => ?_ | refine NewS.mk fun _ _ => ?_)
  refine ⟨fun hlt => ?_, fun hge => ?_⟩
  · repeat (first | refine Step.imp ?_ | refine Side.mk (by first | exact True.intro | omega | exact ⟨trivial, rfl⟩ | exact ⟨by omega, trivial, rfl⟩ | exact ⟨by omega, rfl⟩ | exact ⟨by omega, by omega, rfl⟩ | (simp only [List.length_cons, List.length_nil, List.length_append]; done) | (simp only [List.length_cons, List.length_nil, List.length_append]; omega) | decide +kernel) ?_ | refine GDraw_one (by decide +kernel) ?_ | refine New.mk fun _ => ?_ | refine NewS.mk fun _ _ => ?_)
    refine ⟨fun hne => ?_, fun he => ?_⟩
    · repeat (first | refine Step.imp ?_ | refine Side.mk (by first | exact True.intro | omega | exact ⟨trivial, rfl⟩ | exact ⟨by omega, trivial, rfl⟩ | exact ⟨by omega, rfl⟩ | exact ⟨by omega, by omega, rfl⟩ | (simp only [List.length_cons, List.length_nil, List.length_append]; done) | (simp only [List.length_cons, List.length_nil, List.length_append]; omega) | decide +kernel) ?_ | refine GDraw_one (by decide +kernel) ?_ | refine New.mk fun _ => ?_ | refine NewS.mk fun _ _ => ?_)
      exact Fin.ff hT (fun he => hne (by rw [he])) (Hle.refl _)
    · repeat (first | refine Step.imp ?_ | refine Side.mk (by first | exact True.intro | omega | exact ⟨trivial, rfl⟩ | exact ⟨by omega, trivial, rfl⟩ | exact ⟨by omega, rfl⟩ | exact ⟨by omega, by omega, rfl⟩ | (simp only [List.length_cons, List.length_nil, List.length_append]; done) | (simp only [List.length_cons, List.length_nil, List.length_append]; omega) | decide +kernel) ?_ | refine GDraw_one (by decide +kernel) ?_ | refine New.mk fun _ => ?_ | refine NewS.mk fun _ _ => ?_)
      refine X_roundE (k + 1) ⟨by omega, fun j hj => ?_⟩ (by omega) ⟨rfl, rfl, rfl, trivial⟩ inferInstance
      rcases Nat.lt_or_ge j k with h1 | h1
      · exact hall j h1
      · have : j = k := by omega
        subst this; exact Decidable.not_not.1 he
  · repeat (first | refine Step.imp ?_ | refine Side.mk (by first | exact True.intro | omega | exact ⟨trivial, rfl⟩ | exact ⟨by omega, trivial, rfl⟩ | exact ⟨by omega, rfl⟩ | exact ⟨by omega, by omega, rfl⟩ | (simp only [List.length_cons, List.length_nil, List.length_append]; done) | (simp only [List.length_cons, List.length_nil, List.length_append]; omega) | decide +kernel) ?_ | refine GDraw_one (by decide +kernel) ?_ | refine New.mk fun _ => ?_ | refine NewS.mk fun _ _ => ?_)
    exact Fin.tt hT (list_eq hl fun j hj => hall j (by omega)) (Hle.refl _)⟩
instance cells_same {L : List HP} {xs ys : List Cl} [hv : Rds L h v encCl 5 xs] [hu : Rds L h u encCl 5 ys] : CallX Try.prog 26 [v, u] h L (xs.length ≤ 4294967296) (fun K => K (.bool (decide (xs = ys))) h []) := ⟨fun hn => by
  refine spec_enter Try.func26 rfl Try.ntmps26 Try.results26 (by simp) fun K R hT => ?_
  repeat (first | refine Step.imp ?_ | refine Side.mk (by first | exact True.intro | omega | exact ⟨trivial, rfl⟩ | exact ⟨by omega, trivial, rfl⟩ | exact ⟨by omega, rfl⟩ | exact ⟨by omega, by omega, rfl⟩ | (simp only [List.length_cons, List.length_nil, List.length_append]; done) | (simp only [List.length_cons, List.length_nil, List.length_append]; omega) | decide +kernel) ?_ | refine GDraw_one (by decide +kernel) ?_ | refine New.mk fun _ => ?_ | refine NewS.mk fun _ _ => ?_)
  refine ⟨fun hne => ?_, fun heq => ?_⟩
  · repeat (first | refine Step.imp ?_ | refine Side.mk (by first | exact True.intro | omega | exact ⟨trivial, rfl⟩ | exact ⟨by omega, trivial, rfl⟩ | exact ⟨by omega, rfl⟩ | exact ⟨by omega, by omega, rfl⟩ | (simp only [List.length_cons, List.length_nil, List.length_append]; done) | (simp only [List.length_cons, List.length_nil, List.length_append]; omega) | decide +kernel) ?_ | refine GDraw_one (by decide +kernel) ?_ | refine New.mk fun _ => ?_ | refine NewS.mk fun _ _ => ?_)
    exact Fin.ff hT (fun he => hne (by rw [he])) (Hle.refl _)
  have hl : xs.length = ys.length := by omega
  repeat (first | refine Step.imp ?_ | refine Side.mk (by first | exact True.intro | omega | exact ⟨trivial, rfl⟩ | exact ⟨by omega, trivial, rfl⟩ | exact ⟨by omega, rfl⟩ | exact ⟨by omega, by omega, rfl⟩ | (simp only [List.length_cons, List.length_nil, List.length_append]; done) | (simp only [List.length_cons, List.length_nil, List.length_append]; omega) | decide +kernel) ?_ | refine GDraw_one (by decide +kernel) ?_ | refine New.mk fun _ => ?_ | refine NewS.mk fun _ _ => ?_)
  refine G_loopE (σ := Nat) (fun k => k ≤ xs.length ∧ ∀ j < k, xs[j]! = ys[j]!) (fun k => xs.length - k) (fun k => [(5, vI k), (0, v), (1, u)]) 0 ⟨by omega, by omega⟩ ⟨rfl, rfl, rfl, trivial⟩ fun k hk => ?_
  obtain ⟨hk, hall⟩ := hk
  repeat (first | refine Step.imp ?_ | refine Side.mk (by first | exact True.intro | omega | exact ⟨trivial, rfl⟩ | exact ⟨by omega, trivial, rfl⟩ | exact ⟨by omega, rfl⟩ | exact ⟨by omega, by omega, rfl⟩ | (simp only [List.length_cons, List.length_nil, List.length_append]; done) | (simp only [List.length_cons, List.length_nil, List.length_append]; omega) | decide +kernel) ?_ | refine GDraw_one (by decide +kernel) ?_ | refine New.mk fun _ => ?_ | refine NewS.mk fun _ _ => ?_)
  refine ⟨fun hlt => ?_, fun hge => ?_⟩
  · repeat (first | refine Step.imp ?_ | refine Side.mk (by first | exact True.intro | omega | exact ⟨trivial, rfl⟩ | exact ⟨by omega, trivial, rfl⟩ | exact ⟨by omega, rfl⟩ | exact ⟨by omega, by omega, rfl⟩ | (simp only [List.length_cons, List.length_nil, List.length_append]; done) | (simp only [List.length_cons, List.length_nil, List.length_append]; omega) | decide +kernel) ?_ | refine GDraw_one (by decide +kernel) ?_ | refine New.mk fun _ => ?_ | refine NewS.mk fun _ _ => ?_)
    refine ⟨fun hne => ?_, fun he => ?_⟩
    · repeat (first | refine Step.imp ?_ | refine Side.mk (by first | exact True.intro | omega | exact ⟨trivial, rfl⟩ | exact ⟨by omega, trivial, rfl⟩ | exact ⟨by omega, rfl⟩ | exact ⟨by omega, by omega, rfl⟩ | (simp only [List.length_cons, List.length_nil, List.length_append]; done) | (simp only [List.length_cons, List.length_nil, List.length_append]; omega) | decide +kernel) ?_ | refine GDraw_one (by decide +kernel) ?_ | refine New.mk fun _ => ?_ | refine NewS.mk fun _ _ => ?_)
      exact Fin.ff hT (fun he => hne (cl_eq.2 (by rw [he]))) (Hle.refl _)
    · repeat (first | refine Step.imp ?_ | refine Side.mk (by first | exact True.intro | omega | exact ⟨trivial, rfl⟩ | exact ⟨by omega, trivial, rfl⟩ | exact ⟨by omega, rfl⟩ | exact ⟨by omega, by omega, rfl⟩ | (simp only [List.length_cons, List.length_nil, List.length_append]; done) | (simp only [List.length_cons, List.length_nil, List.length_append]; omega) | decide +kernel) ?_ | refine GDraw_one (by decide +kernel) ?_ | refine New.mk fun _ => ?_ | refine NewS.mk fun _ _ => ?_)
      refine X_roundE (k + 1) ⟨by omega, fun j hj => ?_⟩ (by omega) ⟨rfl, rfl, rfl, trivial⟩ inferInstance
      rcases Nat.lt_or_ge j k with h1 | h1
      · exact hall j h1
      · have : j = k := by omega
        subst this; exact cl_eq.1 (Decidable.not_not.1 he)
  · repeat (first | refine Step.imp ?_ | refine Side.mk (by first | exact True.intro | omega | exact ⟨trivial, rfl⟩ | exact ⟨by omega, trivial, rfl⟩ | exact ⟨by omega, rfl⟩ | exact ⟨by omega, by omega, rfl⟩ | (simp only [List.length_cons, List.length_nil, List.length_append]; done) | (simp only [List.length_cons, List.length_nil, List.length_append]; omega) | decide +kernel) ?_ | refine GDraw_one (by decide +kernel) ?_ | refine New.mk fun _ => ?_ | refine NewS.mk fun _ _ => ?_)
    exact Fin.tt hT (list_eq hl fun j hj => hall j (by omega)) (Hle.refl _)⟩
end
end Go.Sl

/-
  The document's names.
-/
namespace Go.Sl
open Go.Proofs
set_option linter.unusedVariables false
set_option linter.unusedSimpArgs false
set_option maxRecDepth 10000
set_option synthInstance.maxSize 2000
set_option synthInstance.maxHeartbeats 200000
set_option maxHeartbeats 1000000
def isDigit (c : Int) : Prop := 48 ≤ c ∧ c ≤ 57
instance (c : Int) : Decidable (isDigit c) := by unfold isDigit; infer_instance
section
variable {h : PHeap}
instance rletter_ok {c : Int} : CallV Try.prog 89 [.int .u8 c] h True (.bool (decide (isLetter c))) := ⟨fun _ => by
  refine spec_enter Try.func89 rfl Try.ntmps89 Try.results89 (by simp) fun K R hT => ?_
  repeat' (first | refine Step.imp ?_ | refine Side.mk (by first | exact True.intro | omega | exact ⟨trivial, rfl⟩ | exact ⟨by omega, trivial, rfl⟩ | exact ⟨by omega, rfl⟩ | exact ⟨by omega, by omega, rfl⟩ | (simp only [List.length_cons, List.length_nil, List.length_append]; done) | (simp only [List.length_cons, List.length_nil, List.length_append]; omega) | decide +kernel) ?_ | refine GDraw_one (by decide +kernel) ?_ | refine New.mk fun _ => ?_ | refine NewS.mk fun _ _ => ?_ | refine Ways.mk (fun _ => ?_) (fun _ => ?_))
  all_goals first | exact Fin.dec hT (by unfold isLetter; omega) (Hle.refl _) | exact Fin.ff hT (by unfold isLetter; omega) (Hle.refl _) | exact Fin.tt hT (by unfold isLetter; omega) (Hle.refl _)⟩
instance rdigit_ok {c : Int} : CallV Try.prog 90 [.int .u8 c] h True (.bool (decide (isDigit c))) := ⟨fun _ => by
  refine spec_enter Try.func90 rfl Try.ntmps90 Try.results90 (by simp) fun K R hT => ?_
  repeat' (first | refine Step.imp ?_ | refine Side.mk (by first | exact True.intro | omega | exact ⟨trivial, rfl⟩ | exact ⟨by omega, trivial, rfl⟩ | exact ⟨by omega, rfl⟩ | exact ⟨by omega, by omega, rfl⟩ | (simp only [List.length_cons, List.length_nil, List.length_append]; done) | (simp only [List.length_cons, List.length_nil, List.length_append]; omega) | decide +kernel) ?_ | refine GDraw_one (by decide +kernel) ?_ | refine New.mk fun _ => ?_ | refine NewS.mk fun _ _ => ?_ | refine Ways.mk (fun _ => ?_) (fun _ => ?_))
  all_goals first | exact Fin.dec hT (by unfold isDigit; omega) (Hle.refl _) | exact Fin.ff hT (by unfold isDigit; omega) (Hle.refl _) | exact Fin.tt hT (by unfold isDigit; omega) (Hle.refl _)⟩
instance rname_ok {s : ByteArray} : CallV Try.prog 64 [.string s] h True (.bool (decide (okName s))) := ⟨fun _ => by
  refine spec_enter Try.func64 rfl Try.ntmps64 Try.results64 (by simp) fun K R hT => ?_
  repeat' (first | refine Step.imp ?_ | refine Side.mk (by first | exact True.intro | omega | exact ⟨trivial, rfl⟩ | exact ⟨by omega, trivial, rfl⟩ | exact ⟨by omega, rfl⟩ | exact ⟨by omega, by omega, rfl⟩ | (simp only [List.length_cons, List.length_nil, List.length_append]; done) | (simp only [List.length_cons, List.length_nil, List.length_append]; omega) | decide +kernel) ?_ | refine GDraw_one (by decide +kernel) ?_ | refine New.mk fun _ => ?_ | refine NewS.mk fun _ _ => ?_ | refine Ways.mk (fun _ => ?_) (fun _ => ?_))
  · exact Fin.ff hT (fun hn => by have := hn.1; omega) (Hle.refl _)
  · exact Fin.ff hT (fun hn => by have := hn.2.1; omega) (Hle.refl _)
  · rename_i h1 h2 h3
    exact Fin.ff hT (fun hn => h3 hn.2.2.1) (Hle.refl _)
  · rename_i h1 h2 h3
    have h3 := Decidable.not_not.1 h3
    refine G_loopE (σ := Nat) (fun k => 1 ≤ k ∧ k ≤ s.size ∧ ∀ j < k, okChar (bAt s j)) (fun k => s.size - k) (fun k => [(3, vI k), (0, .string s)]) 1 ⟨by omega, by omega, fun j hj => by
      have : j = 0 := by omega
      subst this; exact .inl h3⟩ ⟨rfl, rfl, trivial⟩ fun k hk => ?_
    obtain ⟨hk1, hk, hall⟩ := hk
    repeat (first | refine Step.imp ?_ | refine Side.mk (by first | exact True.intro | omega | exact ⟨trivial, rfl⟩ | exact ⟨by omega, trivial, rfl⟩ | exact ⟨by omega, rfl⟩ | exact ⟨by omega, by omega, rfl⟩ | (simp only [List.length_cons, List.length_nil, List.length_append]; done) | (simp only [List.length_cons, List.length_nil, List.length_append]; omega) | decide +kernel) ?_ | refine GDraw_one (by decide +kernel) ?_ | refine New.mk fun _ => ?_ | refine NewS.mk fun _ _ => ?_)
    refine ⟨fun hlt => ?_, fun hge => ?_⟩
    · have hnext : okChar (bAt s k) → ∀ j < k + 1, okChar (bAt s j) := fun hc j hj => by
        rcases Nat.lt_or_ge j k with h1 | h1
        · exact hall j h1
        · have : j = k := by omega
          subst this; exact hc
      repeat' (first | refine Step.imp ?_ | refine Side.mk (by first | exact True.intro | omega | exact ⟨trivial, rfl⟩ | exact ⟨by omega, trivial, rfl⟩ | exact ⟨by omega, rfl⟩ | exact ⟨by omega, by omega, rfl⟩ | (simp only [List.length_cons, List.length_nil, List.length_append]; done) | (simp only [List.length_cons, List.length_nil, List.length_append]; omega) | decide +kernel) ?_ | refine GDraw_one (by decide +kernel) ?_ | refine New.mk fun _ => ?_ | refine NewS.mk fun _ _ => ?_ | refine Ways.mk (fun _ => ?_) (fun _ => ?_))
      all_goals first
        | exact Fin.ff hT (fun hn => (by have := hn.2.2.2 k (by omega); unfold okChar at this; (rcases this with h1 | h1 | h1 <;> first | contradiction | omega))) (Hle.refl _)
        | (refine X_roundE (k + 1) ?_ ?_ ?_ inferInstance; exact ⟨by omega, by omega, hnext (by unfold okChar; first | (left; exact Decidable.not_not.1 (by assumption)) | (right; left; omega) | (right; right; exact Decidable.not_not.1 (by assumption)))⟩; exact Nat.sub_lt_sub_left (by omega) (by omega); exact ⟨rfl, rfl, trivial⟩)
    · repeat (first | refine Step.imp ?_ | refine Side.mk (by first | exact True.intro | omega | exact ⟨trivial, rfl⟩ | exact ⟨by omega, trivial, rfl⟩ | exact ⟨by omega, rfl⟩ | exact ⟨by omega, by omega, rfl⟩ | (simp only [List.length_cons, List.length_nil, List.length_append]; done) | (simp only [List.length_cons, List.length_nil, List.length_append]; omega) | decide +kernel) ?_ | refine GDraw_one (by decide +kernel) ?_ | refine New.mk fun _ => ?_ | refine NewS.mk fun _ _ => ?_)
      exact Fin.tt hT ⟨by omega, by omega, h3, fun j hj => hall j (by omega)⟩ (Hle.refl _)⟩
end
end Go.Sl

/-
  The document's trees: what one says.
-/
namespace Go.Sl
open Go.Proofs
set_option linter.unusedVariables false
set_option linter.unusedSimpArgs false
set_option maxRecDepth 10000
set_option synthInstance.maxSize 2000
set_option synthInstance.maxHeartbeats 200000
set_option maxHeartbeats 1000000
/-- A tree of the document's at a block. -/
class IsRT (h : PHeap) (b : Nat) (nodes : outParam (List Nd)) : Prop where
  out : ∃ nv ty fr, Pt h b (.cells [nv].toArray ty fr) ∧ FSl h nv encNd 2 nodes
theorem IsRT.mono {h h' : PHeap} {b : Nat} {nodes : List Nd} (hl : Hle h h') (t : IsRT h b nodes) : IsRT h' b nodes := ⟨by
  obtain ⟨nv, ty, fr, h1, h2⟩ := t.out
  exact ⟨nv, ty, fr, Pt.mono hl h1, FSl.mono hl h2⟩⟩
instance (priority := low) {h h' : PHeap} {b : Nat} {nodes : List Nd} [l : Le h h'] [t : IsRT h b nodes] : IsRT h' b nodes := t.mono l.le
theorem above_facts {nodes : List Nd} [ha : Acyc nodes] : ∃ d : Int → Nat, ∀ j : Int, (above nodes j).Nodup ∧ ∀ x ∈ above nodes j, (0 ≤ x ∧ x < nodes.length) ∧ d x ≤ d j := by
  obtain ⟨d, hd⟩ := ha.eq
  refine ⟨d, above_ind (nodes := nodes) (fun j hj => ?_) (fun j hj ih => ?_)⟩
  · rw [above_no hj]; exact ⟨List.nodup_nil, fun x hx => by cases hx⟩
  · have hdj := hd j hj.1 hj.2
    unfold upF at ih
    rw [above_step hj, List.nodup_cons]
    refine ⟨⟨fun hm => ?_, ih.1⟩, fun x hx => ?_⟩
    · have := (ih.2 _ hm).2; omega
    · rcases List.mem_cons.1 hx with rfl | hx
      · exact ⟨hj, Nat.le_refl _⟩
      · have := ih.2 x hx; exact ⟨this.1, by omega⟩
theorem above_len_le {nodes : List Nd} [ha : Acyc nodes] (j : Int) : (above nodes j).length ≤ nodes.length := by
  obtain ⟨d, hd⟩ := above_facts (nodes := nodes)
  exact nodup_len _ _ (hd j).1 fun x hx => ((hd j).2 x hx).1
def findN (nodes : List Nd) (s : ByteArray) : Int := idxI (nodes.map Nd.name) s
theorem name_get {nodes : List Nd} {j : Nat} (hj : j < nodes.length) : (nodes.map Nd.name)[j]! = (nodes[j]!).name := by
  rw [getElem!_pos _ j (by simpa using hj), List.getElem_map, getElem!_pos nodes j hj]
def rkids (nodes : List Nd) (i : Int) : List Int := if 0 ≤ i ∧ i < nodes.length then kidsTo nodes nodes.length i.toNat else []
theorem kidsTo_len (nodes : List Nd) (n i : Nat) : (kidsTo nodes n i).length ≤ n := by
  have := List.length_filter_le (fun j => decide ((nodes[j]!).up = (i : Int))) (List.range n)
  unfold kidsTo; rw [List.length_map]; simpa using this
section
variable {h : PHeap} {b : Nat} {nodes : List Nd}
instance rt_is {i : Int} [hI : IsRT h b nodes] : CallV Try.prog 93 [.pointer (some ⟨b, 0, none⟩), vI i] h True (.bool (decide (0 ≤ i ∧ i < nodes.length))) := ⟨fun _ => by
  obtain ⟨nv, ty, fr, h1, h2⟩ := hI.out
  refine spec_enter Try.func93 rfl Try.ntmps93 Try.results93 (by simp) fun K R hT => ?_
  repeat' (first | refine Step.imp ?_ | refine Side.mk (by first | exact True.intro | omega | exact ⟨trivial, rfl⟩ | exact ⟨by omega, trivial, rfl⟩ | exact ⟨by omega, rfl⟩ | exact ⟨by omega, by omega, rfl⟩ | (simp only [List.length_cons, List.length_nil, List.length_append]; done) | (simp only [List.length_cons, List.length_nil, List.length_append]; omega) | decide +kernel) ?_ | refine GDraw_one (by decide +kernel) ?_ | refine New.mk fun _ => ?_ | refine NewS.mk fun _ _ => ?_ | refine Ways.mk (fun _ => ?_) (fun _ => ?_))
  all_goals first | exact Fin.val hT rfl (Hle.refl _) | (exfalso; omega) | (exfalso; contradiction) | exact Fin.dec hT (by omega) (Hle.refl _) | exact Fin.tt hT (by omega) (Hle.refl _) | exact Fin.ff hT (by omega) (Hle.refl _)⟩
instance rt_find {s : ByteArray} [hI : IsRT h b nodes] : CallV Try.prog 65 [.pointer (some ⟨b, 0, none⟩), .string s] h (nodes.length ≤ 4294967296) (vI (findN nodes s)) := ⟨fun hn => by
  obtain ⟨nv, ty, fr, h1, h2⟩ := hI.out
  have hW : ∀ k, (∀ j < k, (nodes.map Nd.name)[j]! ≠ s) → nodes.length ≤ k → findN nodes s = -1 := fun k h1 h2 => idxI_none fun j hj => h1 j (by rw [List.length_map] at hj; omega)
  refine spec_enter Try.func65 rfl Try.ntmps65 Try.results65 (by simp) fun K R hT => ?_
  repeat (first | refine Step.imp ?_ | refine Side.mk (by first | exact True.intro | omega | exact ⟨trivial, rfl⟩ | exact ⟨by omega, trivial, rfl⟩ | exact ⟨by omega, rfl⟩ | exact ⟨by omega, by omega, rfl⟩ | (simp only [List.length_cons, List.length_nil, List.length_append]; done) | (simp only [List.length_cons, List.length_nil, List.length_append]; omega) | decide +kernel) ?_ | refine GDraw_one (by decide +kernel) ?_ | refine New.mk fun _ => ?_ | refine NewS.mk fun _ _ => ?_)
  refine G_loopE (σ := Nat) (fun k => k ≤ nodes.length ∧ ∀ j < k, (nodes.map Nd.name)[j]! ≠ s) (fun k => nodes.length - k) (fun k => [(5, vI k), (0, .pointer (some ⟨b, 0, none⟩)), (1, .string s)]) 0 ⟨by omega, by omega⟩ ⟨rfl, rfl, rfl, trivial⟩ fun k hk => ?_
  obtain ⟨hk, hno⟩ := hk
  repeat (first | refine Step.imp ?_ | refine Side.mk (by first | exact True.intro | omega | exact ⟨trivial, rfl⟩ | exact ⟨by omega, trivial, rfl⟩ | exact ⟨by omega, rfl⟩ | exact ⟨by omega, by omega, rfl⟩ | (simp only [List.length_cons, List.length_nil, List.length_append]; done) | (simp only [List.length_cons, List.length_nil, List.length_append]; omega) | decide +kernel) ?_ | refine GDraw_one (by decide +kernel) ?_ | refine New.mk fun _ => ?_ | refine NewS.mk fun _ _ => ?_)
  refine ⟨fun hlt => ?_, fun hge => ?_⟩
  · have hng := name_get (nodes := nodes) (j := k) (by omega)
    repeat (first | refine Step.imp ?_ | refine Side.mk (by first | exact True.intro | omega | exact ⟨trivial, rfl⟩ | exact ⟨by omega, trivial, rfl⟩ | exact ⟨by omega, rfl⟩ | exact ⟨by omega, by omega, rfl⟩ | (simp only [List.length_cons, List.length_nil, List.length_append]; done) | (simp only [List.length_cons, List.length_nil, List.length_append]; omega) | decide +kernel) ?_ | refine GDraw_one (by decide +kernel) ?_ | refine New.mk fun _ => ?_ | refine NewS.mk fun _ _ => ?_)
    refine ⟨fun he => ?_, fun hne => ?_⟩
    · repeat (first | refine Step.imp ?_ | refine Side.mk (by first | exact True.intro | omega | exact ⟨trivial, rfl⟩ | exact ⟨by omega, trivial, rfl⟩ | exact ⟨by omega, rfl⟩ | exact ⟨by omega, by omega, rfl⟩ | (simp only [List.length_cons, List.length_nil, List.length_append]; done) | (simp only [List.length_cons, List.length_nil, List.length_append]; omega) | decide +kernel) ?_ | refine GDraw_one (by decide +kernel) ?_ | refine New.mk fun _ => ?_ | refine NewS.mk fun _ _ => ?_)
      exact Fin.val hT (by unfold findN; rw [idxI_some (by rw [List.length_map]; omega) hno (by rw [hng]; exact he.symm)]) (Hle.refl _)
    · repeat (first | refine Step.imp ?_ | refine Side.mk (by first | exact True.intro | omega | exact ⟨trivial, rfl⟩ | exact ⟨by omega, trivial, rfl⟩ | exact ⟨by omega, rfl⟩ | exact ⟨by omega, by omega, rfl⟩ | (simp only [List.length_cons, List.length_nil, List.length_append]; done) | (simp only [List.length_cons, List.length_nil, List.length_append]; omega) | decide +kernel) ?_ | refine GDraw_one (by decide +kernel) ?_ | refine New.mk fun _ => ?_ | refine NewS.mk fun _ _ => ?_)
      refine X_roundE (k + 1) ⟨by omega, fun j hj => ?_⟩ (by omega) ⟨rfl, rfl, rfl, trivial⟩ inferInstance
      rcases Nat.lt_or_ge j k with h1 | h1
      · exact hno j h1
      · have : j = k := by omega
        subst this; rw [hng]; exact hne
  · repeat (first | refine Step.imp ?_ | refine Side.mk (by first | exact True.intro | omega | exact ⟨trivial, rfl⟩ | exact ⟨by omega, trivial, rfl⟩ | exact ⟨by omega, rfl⟩ | exact ⟨by omega, by omega, rfl⟩ | (simp only [List.length_cons, List.length_nil, List.length_append]; done) | (simp only [List.length_cons, List.length_nil, List.length_append]; omega) | decide +kernel) ?_ | refine GDraw_one (by decide +kernel) ?_ | refine New.mk fun _ => ?_ | refine NewS.mk fun _ _ => ?_)
    exact Fin.val hT (by rw [hW k hno (by omega)]) (Hle.refl _)⟩
instance rt_above {L : List HP} {i0 : Int} [hI : IsRT h b nodes] [ha : Acyc nodes] : CallX Try.prog 91 [.pointer (some ⟨b, 0, none⟩), vI i0] h L True (fun K => ∀ a c, K (.slice a (above nodes i0).length c) h [slo encI 1 (.slice a (above nodes i0).length c) (above nodes i0)]) := ⟨fun _ => by
  have hI' := hI
  obtain ⟨nv, ty, fr, h1, h2⟩ := hI'.out
  obtain ⟨d, hd⟩ := ha.eq
  have hall : (above nodes i0).length ≤ 33 := aboveF_len nodes 33 i0
  have hln := above_len_le (nodes := nodes) i0
  refine spec_enter Try.func91 rfl Try.ntmps91 Try.results91 (by simp) fun K R hT => ?_
  refine Step.imp ?_
  refine G_nil encI 1 none ?_
  repeat (first | refine Step.imp ?_ | refine Side.mk (by first | exact True.intro | omega | exact ⟨trivial, rfl⟩ | exact ⟨by omega, trivial, rfl⟩ | exact ⟨by omega, rfl⟩ | exact ⟨by omega, by omega, rfl⟩ | (simp only [List.length_cons, List.length_nil, List.length_append]; done) | (simp only [List.length_cons, List.length_nil, List.length_append]; omega) | decide +kernel) ?_ | refine GDraw_one (by decide +kernel) ?_ | refine New.mk fun _ => ?_ | refine NewS.mk fun _ _ => ?_)
  refine G_loop (σ := Int × List Int × Option Addr × Nat) (fun s => s.2.1 ++ above nodes s.1 = above nodes i0) (fun s => d s.1) (fun s => [(1, vI s.1), (5, .slice s.2.2.1 s.2.1.length s.2.2.2), (0, .pointer (some ⟨b, 0, none⟩))]) (fun _ => h) (fun s => slo encI 1 (.slice s.2.2.1 s.2.1.length s.2.2.2) s.2.1 :: (L ++ R)) (i0, [], none, 0) (by simp) ⟨rfl, rfl, rfl, trivial⟩ rfl inferInstance ?_
  rintro ⟨i, acc, a, c⟩ hinv
  simp only at hinv ⊢
  have hl2 : acc.length ≤ 33 := by have := congrArg List.length hinv; rw [List.length_append] at this; omega
  by_cases hi : 0 ≤ i ∧ i < nodes.length
  · have hdi := hd i hi.1 hi.2
    have hstep := above_step hi
    have hl3 : acc.length + 1 ≤ nodes.length := by
      have := congrArg List.length hinv
      rw [List.length_append, hstep, List.length_cons] at this; omega
    repeat (first | refine Step.imp ?_ | refine Side.mk (by first | exact True.intro | omega | exact ⟨trivial, rfl⟩ | exact ⟨by omega, trivial, rfl⟩ | exact ⟨by omega, rfl⟩ | exact ⟨by omega, by omega, rfl⟩ | (simp only [List.length_cons, List.length_nil, List.length_append]; done) | (simp only [List.length_cons, List.length_nil, List.length_append]; omega) | decide +kernel) ?_ | refine GDraw_one (by decide +kernel) ?_ | refine New.mk fun _ => ?_ | refine NewS.mk fun _ _ => ?_)
    refine ⟨fun _ => ?_, fun hno => absurd hi hno⟩
    repeat (first | refine Step.imp ?_ | refine Side.mk (by first | exact True.intro | omega | exact ⟨trivial, rfl⟩ | exact ⟨by omega, trivial, rfl⟩ | exact ⟨by omega, rfl⟩ | exact ⟨by omega, by omega, rfl⟩ | (simp only [List.length_cons, List.length_nil, List.length_append]; done) | (simp only [List.length_cons, List.length_nil, List.length_append]; omega) | decide +kernel) ?_ | refine GDraw_one (by decide +kernel) ?_ | refine New.mk fun _ => ?_ | refine NewS.mk fun _ _ => ?_)
    refine ⟨fun _ => ?_, fun hno => absurd (by omega) hno⟩
    repeat (first | refine Step.imp ?_ | refine Side.mk (by first | exact True.intro | omega | exact ⟨trivial, rfl⟩ | exact ⟨by omega, trivial, rfl⟩ | exact ⟨by omega, rfl⟩ | exact ⟨by omega, by omega, rfl⟩ | (simp only [List.length_cons, List.length_nil, List.length_append]; done) | (simp only [List.length_cons, List.length_nil, List.length_append]; omega) | decide +kernel) ?_ | refine GDraw_one (by decide +kernel) ?_ | refine New.mk fun _ => ?_ | refine NewS.mk fun _ _ => ?_)
    rename_i b' a' c'
    refine X_round ((nodes[i.toNat]!).up, acc ++ [i], a', c') ?_ hdi.1 ⟨rfl, by simp only [List.length_append, List.length_cons, List.length_nil, Nat.zero_add], rfl, trivial⟩ rfl (by first | infer_instance | (simp only [List.length_append, List.length_cons, List.length_nil, Nat.zero_add]; infer_instance))
    simp only [List.append_assoc, List.singleton_append]
    rw [← hinv, hstep]
  · have hacc : acc = above nodes i0 := by rw [← hinv, above_no hi]; simp
    subst hacc
    repeat (first | refine Step.imp ?_ | refine Side.mk (by first | exact True.intro | omega | exact ⟨trivial, rfl⟩ | exact ⟨by omega, trivial, rfl⟩ | exact ⟨by omega, rfl⟩ | exact ⟨by omega, by omega, rfl⟩ | (simp only [List.length_cons, List.length_nil, List.length_append]; done) | (simp only [List.length_cons, List.length_nil, List.length_append]; omega) | decide +kernel) ?_ | refine GDraw_one (by decide +kernel) ?_ | refine New.mk fun _ => ?_ | refine NewS.mk fun _ _ => ?_)
    refine ⟨fun hin => absurd hin hi, fun _ => ?_⟩
    repeat (first | refine Step.imp ?_ | refine Side.mk (by first | exact True.intro | omega | exact ⟨trivial, rfl⟩ | exact ⟨by omega, trivial, rfl⟩ | exact ⟨by omega, rfl⟩ | exact ⟨by omega, by omega, rfl⟩ | (simp only [List.length_cons, List.length_nil, List.length_append]; done) | (simp only [List.length_cons, List.length_nil, List.length_append]; omega) | decide +kernel) ?_ | refine GDraw_one (by decide +kernel) ?_ | refine New.mk fun _ => ?_ | refine NewS.mk fun _ _ => ?_)
    exact Fin.val (hT _ _) rfl (Hle.refl _)⟩
instance rt_depth {L : List HP} {i0 : Int} [hI : IsRT h b nodes] [ha : Acyc nodes] : CallX Try.prog 66 [.pointer (some ⟨b, 0, none⟩), vI i0] h L True (fun K => K (vI (max 0 ((above nodes i0).length - 1))) h []) := ⟨fun _ => by
  have hall : (above nodes i0).length ≤ 33 := aboveF_len nodes 33 i0
  refine spec_enter Try.func66 rfl Try.ntmps66 Try.results66 (by simp) fun K R hT => ?_
  repeat (first | refine Step.imp ?_ | refine Side.mk (by first | exact True.intro | omega | exact ⟨trivial, rfl⟩ | exact ⟨by omega, trivial, rfl⟩ | exact ⟨by omega, rfl⟩ | exact ⟨by omega, by omega, rfl⟩ | (simp only [List.length_cons, List.length_nil, List.length_append]; done) | (simp only [List.length_cons, List.length_nil, List.length_append]; omega) | decide +kernel) ?_ | refine GDraw_one (by decide +kernel) ?_ | refine New.mk fun _ => ?_ | refine NewS.mk fun _ _ => ?_)
  intro a c
  repeat (first | refine Step.imp ?_ | refine Side.mk (by first | exact True.intro | omega | exact ⟨trivial, rfl⟩ | exact ⟨by omega, trivial, rfl⟩ | exact ⟨by omega, rfl⟩ | exact ⟨by omega, by omega, rfl⟩ | (simp only [List.length_cons, List.length_nil, List.length_append]; done) | (simp only [List.length_cons, List.length_nil, List.length_append]; omega) | decide +kernel) ?_ | refine GDraw_one (by decide +kernel) ?_ | refine New.mk fun _ => ?_ | refine NewS.mk fun _ _ => ?_)
  refine ⟨fun h0 => ?_, fun h0 => ?_⟩
  · repeat (first | refine Step.imp ?_ | refine Side.mk (by first | exact True.intro | omega | exact ⟨trivial, rfl⟩ | exact ⟨by omega, trivial, rfl⟩ | exact ⟨by omega, rfl⟩ | exact ⟨by omega, by omega, rfl⟩ | (simp only [List.length_cons, List.length_nil, List.length_append]; done) | (simp only [List.length_cons, List.length_nil, List.length_append]; omega) | decide +kernel) ?_ | refine GDraw_one (by decide +kernel) ?_ | refine New.mk fun _ => ?_ | refine NewS.mk fun _ _ => ?_)
    exact Fin.val hT (by congr 1; omega) (Hle.refl _)
  · repeat (first | refine Step.imp ?_ | refine Side.mk (by first | exact True.intro | omega | exact ⟨trivial, rfl⟩ | exact ⟨by omega, trivial, rfl⟩ | exact ⟨by omega, rfl⟩ | exact ⟨by omega, by omega, rfl⟩ | (simp only [List.length_cons, List.length_nil, List.length_append]; done) | (simp only [List.length_cons, List.length_nil, List.length_append]; omega) | decide +kernel) ?_ | refine GDraw_one (by decide +kernel) ?_ | refine New.mk fun _ => ?_ | refine NewS.mk fun _ _ => ?_)
    exact Fin.val hT (by congr 1; omega) (Hle.refl _)⟩
instance rt_kids {L : List HP} {i : Int} [hI : IsRT h b nodes] : CallX Try.prog 94 [.pointer (some ⟨b, 0, none⟩), vI i] h L (nodes.length ≤ 4294967295) (fun K => ∀ a c, K (.slice a (rkids nodes i).length c) h [slo encI 1 (.slice a (rkids nodes i).length c) (rkids nodes i)]) := ⟨fun hn => by
  have hI' := hI
  obtain ⟨nv, ty, fr, h1, h2⟩ := hI'.out
  refine spec_enter Try.func94 rfl Try.ntmps94 Try.results94 (by simp) fun K R hT => ?_
  refine Step.imp ?_
  refine G_nil encI 1 none ?_
  unfold rkids at hT
  by_cases hi : 0 ≤ i ∧ i < nodes.length
  · simp only [hi, and_self, if_true] at hT
    repeat (first | refine Step.imp ?_ | refine Side.mk (by first | exact True.intro | omega | exact ⟨trivial, rfl⟩ | exact ⟨by omega, trivial, rfl⟩ | exact ⟨by omega, rfl⟩ | exact ⟨by omega, by omega, rfl⟩ | (simp only [List.length_cons, List.length_nil, List.length_append]; done) | (simp only [List.length_cons, List.length_nil, List.length_append]; omega) | decide +kernel) ?_ | refine GDraw_one (by decide +kernel) ?_ | refine New.mk fun _ => ?_ | refine NewS.mk fun _ _ => ?_)
    refine G_loop (σ := Nat × Option Addr × Nat) (fun s => s.1 ≤ nodes.length) (fun s => nodes.length - s.1) (fun s => [(6, vI s.1), (5, .slice s.2.1 (kidsTo nodes s.1 i.toNat).length s.2.2), (0, .pointer (some ⟨b, 0, none⟩)), (1, vI i)]) (fun _ => h) (fun s => slo encI 1 (.slice s.2.1 (kidsTo nodes s.1 i.toNat).length s.2.2) (kidsTo nodes s.1 i.toNat) :: (L ++ R)) (0, none, 0) (Nat.zero_le _) ⟨rfl, rfl, rfl, rfl, trivial⟩ rfl (by simp only [kidsTo, List.range_zero, List.filter_nil, List.map_nil, List.length_nil]; infer_instance) ?_
    rintro ⟨k, a, c⟩ hk
    simp only at hk ⊢
    have hkl := kidsTo_len nodes k i.toNat
    have hks := kidsTo_succ nodes k i.toNat
    repeat (first | refine Step.imp ?_ | refine Side.mk (by first | exact True.intro | omega | exact ⟨trivial, rfl⟩ | exact ⟨by omega, trivial, rfl⟩ | exact ⟨by omega, rfl⟩ | exact ⟨by omega, by omega, rfl⟩ | (simp only [List.length_cons, List.length_nil, List.length_append]; done) | (simp only [List.length_cons, List.length_nil, List.length_append]; omega) | decide +kernel) ?_ | refine GDraw_one (by decide +kernel) ?_ | refine New.mk fun _ => ?_ | refine NewS.mk fun _ _ => ?_)
    refine ⟨fun hlt => ?_, fun hge => ?_⟩
    · repeat (first | refine Step.imp ?_ | refine Side.mk (by first | exact True.intro | omega | exact ⟨trivial, rfl⟩ | exact ⟨by omega, trivial, rfl⟩ | exact ⟨by omega, rfl⟩ | exact ⟨by omega, by omega, rfl⟩ | (simp only [List.length_cons, List.length_nil, List.length_append]; done) | (simp only [List.length_cons, List.length_nil, List.length_append]; omega) | decide +kernel) ?_ | refine GDraw_one (by decide +kernel) ?_ | refine New.mk fun _ => ?_ | refine NewS.mk fun _ _ => ?_)
      refine ⟨fun _ => ?_, fun hno => absurd hi hno⟩
      repeat (first | refine Step.imp ?_ | refine Side.mk (by first | exact True.intro | omega | exact ⟨trivial, rfl⟩ | exact ⟨by omega, trivial, rfl⟩ | exact ⟨by omega, rfl⟩ | exact ⟨by omega, by omega, rfl⟩ | (simp only [List.length_cons, List.length_nil, List.length_append]; done) | (simp only [List.length_cons, List.length_nil, List.length_append]; omega) | decide +kernel) ?_ | refine GDraw_one (by decide +kernel) ?_ | refine New.mk fun _ => ?_ | refine NewS.mk fun _ _ => ?_)
      refine ⟨fun he => ?_, fun hne => ?_⟩
      · rw [if_pos (by omega)] at hks
        repeat (first | refine Step.imp ?_ | refine Side.mk (by first | exact True.intro | omega | exact ⟨trivial, rfl⟩ | exact ⟨by omega, trivial, rfl⟩ | exact ⟨by omega, rfl⟩ | exact ⟨by omega, by omega, rfl⟩ | (simp only [List.length_cons, List.length_nil, List.length_append]; done) | (simp only [List.length_cons, List.length_nil, List.length_append]; omega) | decide +kernel) ?_ | refine GDraw_one (by decide +kernel) ?_ | refine New.mk fun _ => ?_ | refine NewS.mk fun _ _ => ?_)
        rename_i b' a' c'
        refine X_round (k + 1, a', c') ?_ ?_ ?_ ?_ ?_
        · show k + 1 ≤ nodes.length
          omega
        · show nodes.length - (k + 1) < nodes.length - k
          omega
        · refine ⟨rfl, ?_, rfl, rfl, trivial⟩
          rw [hks, List.length_append]; rfl
        · rfl
        · simp only [hks, List.length_append, List.length_cons, List.length_nil, Nat.zero_add]
          infer_instance
      · rw [if_neg (by omega)] at hks
        repeat (first | refine Step.imp ?_ | refine Side.mk (by first | exact True.intro | omega | exact ⟨trivial, rfl⟩ | exact ⟨by omega, trivial, rfl⟩ | exact ⟨by omega, rfl⟩ | exact ⟨by omega, by omega, rfl⟩ | (simp only [List.length_cons, List.length_nil, List.length_append]; done) | (simp only [List.length_cons, List.length_nil, List.length_append]; omega) | decide +kernel) ?_ | refine GDraw_one (by decide +kernel) ?_ | refine New.mk fun _ => ?_ | refine NewS.mk fun _ _ => ?_)
        refine X_round (k + 1, a, c) ?_ ?_ ?_ ?_ ?_
        · show k + 1 ≤ nodes.length
          omega
        · show nodes.length - (k + 1) < nodes.length - k
          omega
        · refine ⟨rfl, ?_, rfl, rfl, trivial⟩
          rw [hks]
        · rfl
        · simp only [hks]
          infer_instance
    · have hk2 : k = nodes.length := by omega
      subst hk2
      repeat (first | refine Step.imp ?_ | refine Side.mk (by first | exact True.intro | omega | exact ⟨trivial, rfl⟩ | exact ⟨by omega, trivial, rfl⟩ | exact ⟨by omega, rfl⟩ | exact ⟨by omega, by omega, rfl⟩ | (simp only [List.length_cons, List.length_nil, List.length_append]; done) | (simp only [List.length_cons, List.length_nil, List.length_append]; omega) | decide +kernel) ?_ | refine GDraw_one (by decide +kernel) ?_ | refine New.mk fun _ => ?_ | refine NewS.mk fun _ _ => ?_)
      exact Fin.val (hT _ _) rfl (Hle.refl _)
  · simp only [hi, if_false] at hT
    repeat (first | refine Step.imp ?_ | refine Side.mk (by first | exact True.intro | omega | exact ⟨trivial, rfl⟩ | exact ⟨by omega, trivial, rfl⟩ | exact ⟨by omega, rfl⟩ | exact ⟨by omega, by omega, rfl⟩ | (simp only [List.length_cons, List.length_nil, List.length_append]; done) | (simp only [List.length_cons, List.length_nil, List.length_append]; omega) | decide +kernel) ?_ | refine GDraw_one (by decide +kernel) ?_ | refine New.mk fun _ => ?_ | refine NewS.mk fun _ _ => ?_)
    refine G_loopE (σ := Unit) (fun _ => True) (fun _ => 0) (fun _ => [(6, vI 0), (5, .slice none 0 0), (0, .pointer (some ⟨b, 0, none⟩)), (1, vI i)]) () trivial ⟨rfl, rfl, rfl, rfl, trivial⟩ fun _ _ => ?_
    repeat (first | refine Step.imp ?_ | refine Side.mk (by first | exact True.intro | omega | exact ⟨trivial, rfl⟩ | exact ⟨by omega, trivial, rfl⟩ | exact ⟨by omega, rfl⟩ | exact ⟨by omega, by omega, rfl⟩ | (simp only [List.length_cons, List.length_nil, List.length_append]; done) | (simp only [List.length_cons, List.length_nil, List.length_append]; omega) | decide +kernel) ?_ | refine GDraw_one (by decide +kernel) ?_ | refine New.mk fun _ => ?_ | refine NewS.mk fun _ _ => ?_)
    refine ⟨fun hlt => ?_, fun hge => ?_⟩
    · repeat (first | refine Step.imp ?_ | refine Side.mk (by first | exact True.intro | omega | exact ⟨trivial, rfl⟩ | exact ⟨by omega, trivial, rfl⟩ | exact ⟨by omega, rfl⟩ | exact ⟨by omega, by omega, rfl⟩ | (simp only [List.length_cons, List.length_nil, List.length_append]; done) | (simp only [List.length_cons, List.length_nil, List.length_append]; omega) | decide +kernel) ?_ | refine GDraw_one (by decide +kernel) ?_ | refine New.mk fun _ => ?_ | refine NewS.mk fun _ _ => ?_)
      refine ⟨fun hin => absurd hin hi, fun _ => ?_⟩
      repeat (first | refine Step.imp ?_ | refine Side.mk (by first | exact True.intro | omega | exact ⟨trivial, rfl⟩ | exact ⟨by omega, trivial, rfl⟩ | exact ⟨by omega, rfl⟩ | exact ⟨by omega, by omega, rfl⟩ | (simp only [List.length_cons, List.length_nil, List.length_append]; done) | (simp only [List.length_cons, List.length_nil, List.length_append]; omega) | decide +kernel) ?_ | refine GDraw_one (by decide +kernel) ?_ | refine New.mk fun _ => ?_ | refine NewS.mk fun _ _ => ?_)
      exact Fin.val (hT none 0) rfl (Hle.refl _)
    · repeat (first | refine Step.imp ?_ | refine Side.mk (by first | exact True.intro | omega | exact ⟨trivial, rfl⟩ | exact ⟨by omega, trivial, rfl⟩ | exact ⟨by omega, rfl⟩ | exact ⟨by omega, by omega, rfl⟩ | (simp only [List.length_cons, List.length_nil, List.length_append]; done) | (simp only [List.length_cons, List.length_nil, List.length_append]; omega) | decide +kernel) ?_ | refine GDraw_one (by decide +kernel) ?_ | refine New.mk fun _ => ?_ | refine NewS.mk fun _ _ => ?_)
      exact Fin.val (hT none 0) rfl (Hle.refl _)⟩
theorem leafB_rkids {i : Int} : (mkTree nodes).leafB i ↔ (0 ≤ i ∧ i < nodes.length) ∧ (rkids nodes i).length = 0 := by
  unfold Tr.leafB
  show (0 ≤ i ∧ i < (nodes.length : Int) ∧ ((kidsOf nodes)[i.toNat]!).length = 0) ↔ _
  constructor
  · rintro ⟨h1, h2, h3⟩
    rw [kidsOf_get (by omega)] at h3
    exact ⟨⟨h1, h2⟩, by unfold rkids; rw [if_pos ⟨h1, h2⟩]; exact h3⟩
  · rintro ⟨⟨h1, h2⟩, h3⟩
    unfold rkids at h3; rw [if_pos ⟨h1, h2⟩] at h3
    exact ⟨h1, h2, by rw [kidsOf_get (by omega)]; exact h3⟩
instance rt_leaf {L : List HP} {i : Int} [hI : IsRT h b nodes] : CallX Try.prog 68 [.pointer (some ⟨b, 0, none⟩), vI i] h L (nodes.length ≤ 4294967295) (fun K => K (.bool (decide ((mkTree nodes).leafB i))) h []) := ⟨fun hn => by
  have hl := leafB_rkids (nodes := nodes) (i := i)
  refine spec_enter Try.func68 rfl Try.ntmps68 Try.results68 (by simp) fun K R hT => ?_
  repeat (first | refine Step.imp ?_ | refine Side.mk (by first | exact True.intro | omega | exact ⟨trivial, rfl⟩ | exact ⟨by omega, trivial, rfl⟩ | exact ⟨by omega, rfl⟩ | exact ⟨by omega, by omega, rfl⟩ | (simp only [List.length_cons, List.length_nil, List.length_append]; done) | (simp only [List.length_cons, List.length_nil, List.length_append]; omega) | decide +kernel) ?_ | refine GDraw_one (by decide +kernel) ?_ | refine New.mk fun _ => ?_ | refine NewS.mk fun _ _ => ?_)
  refine ⟨fun hi => ?_, fun hi => ?_⟩
  · repeat (first | refine Step.imp ?_ | refine Side.mk (by first | exact True.intro | omega | exact ⟨trivial, rfl⟩ | exact ⟨by omega, trivial, rfl⟩ | exact ⟨by omega, rfl⟩ | exact ⟨by omega, by omega, rfl⟩ | (simp only [List.length_cons, List.length_nil, List.length_append]; done) | (simp only [List.length_cons, List.length_nil, List.length_append]; omega) | decide +kernel) ?_ | refine GDraw_one (by decide +kernel) ?_ | refine New.mk fun _ => ?_ | refine NewS.mk fun _ _ => ?_)
    intro a c
    repeat (first | refine Step.imp ?_ | refine Side.mk (by first | exact True.intro | omega | exact ⟨trivial, rfl⟩ | exact ⟨by omega, trivial, rfl⟩ | exact ⟨by omega, rfl⟩ | exact ⟨by omega, by omega, rfl⟩ | (simp only [List.length_cons, List.length_nil, List.length_append]; done) | (simp only [List.length_cons, List.length_nil, List.length_append]; omega) | decide +kernel) ?_ | refine GDraw_one (by decide +kernel) ?_ | refine New.mk fun _ => ?_ | refine NewS.mk fun _ _ => ?_)
    exact Fin.dec hT (by rw [hl]; exact ⟨fun h0 => ⟨hi, by omega⟩, fun h0 => by have := h0.2; omega⟩) (Hle.refl _)
  · repeat (first | refine Step.imp ?_ | refine Side.mk (by first | exact True.intro | omega | exact ⟨trivial, rfl⟩ | exact ⟨by omega, trivial, rfl⟩ | exact ⟨by omega, rfl⟩ | exact ⟨by omega, by omega, rfl⟩ | (simp only [List.length_cons, List.length_nil, List.length_append]; done) | (simp only [List.length_cons, List.length_nil, List.length_append]; omega) | decide +kernel) ?_ | refine GDraw_one (by decide +kernel) ?_ | refine New.mk fun _ => ?_ | refine NewS.mk fun _ _ => ?_)
    exact Fin.ff hT (fun h0 => hi (hl.1 h0).1) (Hle.refl _)⟩
end
end Go.Sl

/-
  The document's trees: the order, the leaves.
-/
namespace Go.Sl
open Go.Proofs
set_option linter.unusedVariables false
set_option linter.unusedSimpArgs false
set_option maxRecDepth 10000
set_option synthInstance.maxSize 2000
set_option synthInstance.maxHeartbeats 200000
set_option maxHeartbeats 1000000
/-- Members that may be above each other so. -/
class OkT (nodes : List Nd) : Prop where
  eq : treeErr nodes = none
instance {nodes : List Nd} [o : OkT nodes] : Acyc nodes := treeErr_acyc o.eq
theorem rkids_in {nodes : List Nd} {i : Int} (hi : 0 ≤ i ∧ i < nodes.length) : rkids nodes i = (kidsOf nodes)[i.toNat]! := by
  unfold rkids; rw [if_pos hi, kidsOf_get (by omega)]
theorem rkids_mem {nodes : List Nd} {i k : Int} (hk : k ∈ rkids nodes i) : 0 ≤ k ∧ k < nodes.length := by
  unfold rkids at hk
  split at hk
  · have := mem_kidsTo.1 hk; exact ⟨this.1, this.2.1⟩
  · cases hk
theorem rkids_len (nodes : List Nd) (i : Int) : (rkids nodes i).length ≤ nodes.length := by
  unfold rkids; split
  · exact kidsTo_len _ _ _
  · simp
theorem mem_get {l : List Int} {k : Nat} (h : k < l.length) : l[k]! ∈ l := by rw [getElem!_pos l k h]; exact List.getElem_mem h
theorem order_fuel {nodes : List Nd} (ha : Acyc nodes) : (rootsTo nodes nodes.length).flatMap (pre (kidsOf nodes) 41) = orderF nodes := by
  obtain ⟨r, h40, hr⟩ := kids_wf ha
  unfold orderF
  have : ∀ l : List Int, (∀ k ∈ l, 0 ≤ k ∧ k < nodes.length) → l.flatMap (pre (kidsOf nodes) 41) = l.flatMap (pre (kidsOf nodes) 40) := by
    intro l
    induction l with
    | nil => intro _; simp only [List.flatMap_nil]
    | cons k l ih =>
      intro hl
      have hk := hl k (by simp)
      rw [List.flatMap_cons, List.flatMap_cons, ih (fun x hx => hl x (by simp [hx])), pre_fuel hr 41 40 k hk.1 (by rw [kidsOf_len]; exact hk.2) (by have := h40 k; omega) (h40 k)]
  exact this _ fun k hk => by have := mem_rootsTo.1 hk; exact ⟨this.1, this.2.1⟩
theorem take_snoc {α β : Type} [Inhabited α] (g : α → List β) (l : List α) (n : Nat) (hn : n < l.length) : (l.take (n + 1)).flatMap g = (l.take n).flatMap g ++ g (l[n]!) := by
  rw [List.take_succ_eq_append_getElem hn, List.flatMap_append, getElem!_pos l n hn]; simp
section
variable {h : PHeap} {b : Nat} {nodes : List Nd}
theorem rt_down [hI : IsRT h b nodes] (hn : nodes.length ≤ 4294967295) : ∀ (f : Nat) (deep : Int) (i : Int) (L : List HP), deep + f = 40 → 0 ≤ deep → (0 ≤ i ∧ i < nodes.length) → (pre (kidsOf nodes) (f + 1) i).length ≤ 4294967296 →
    Spec Try.prog 92 [.pointer (some ⟨b, 0, none⟩), vI i, vI deep] h L (fun K => ∀ a c, K (.slice a (pre (kidsOf nodes) (f + 1) i).length c) h (slo encI 1 (.slice a (pre (kidsOf nodes) (f + 1) i).length c) (pre (kidsOf nodes) (f + 1) i) :: L)) := by
  intro f
  induction f with
  | zero =>
    intro deep i L hdf hd0 hi hb
    have hp : pre (kidsOf nodes) (0 + 1) i = [i] := by
      simp only [pre]
      have : ∀ l : List Int, l.flatMap (pre (kidsOf nodes) 0) = [] := fun l => by induction l with
        | nil => rfl
        | cons x l ih => rw [List.flatMap_cons, ih]; rfl
      have h2 := this ((kidsOf nodes)[i.toNat]!)
      simp only [pre] at h2
      rw [h2]
    have hd : deep = 40 := by omega
    subst hd
    rw [hp]
    refine spec_enter Try.func92 rfl Try.ntmps92 Try.results92 (by simp) fun K R hT => ?_
    repeat (first | refine Step.imp ?_ | refine Side.mk (by first | exact True.intro | omega | exact ⟨trivial, rfl⟩ | exact ⟨by omega, trivial, rfl⟩ | exact ⟨by omega, rfl⟩ | exact ⟨by omega, by omega, rfl⟩ | (simp only [List.length_cons, List.length_nil, List.length_append]; done) | (simp only [List.length_cons, List.length_nil, List.length_append]; omega) | decide +kernel) ?_ | refine GDraw_one (by decide +kernel) ?_ | refine New.mk fun _ => ?_ | refine NewS.mk fun _ _ => ?_)
    rename_i ob
    intro ka kc
    repeat (first | refine Step.imp ?_ | refine Side.mk (by first | exact True.intro | omega | exact ⟨trivial, rfl⟩ | exact ⟨by omega, trivial, rfl⟩ | exact ⟨by omega, rfl⟩ | exact ⟨by omega, by omega, rfl⟩ | (simp only [List.length_cons, List.length_nil, List.length_append]; done) | (simp only [List.length_cons, List.length_nil, List.length_append]; omega) | decide +kernel) ?_ | refine GDraw_one (by decide +kernel) ?_ | refine New.mk fun _ => ?_ | refine NewS.mk fun _ _ => ?_)
    refine G_conv (x := blk ob (.cells [vI i].toArray 3 (0, 0))) (y := slo encI 1 (.slice (some ⟨ob, 0, none⟩) 1 1) [i]) (fun bs hb => ⟨by simp [Value.oneCell'], .inr ⟨ob, 1, [], 3, rfl, by simp, hb, by simp⟩⟩) ?_
    have hT := hT (some ⟨ob, 0, none⟩) 1
    refine G_loopE (σ := Unit) (fun _ => True) (fun _ => 0) (fun _ => [(9, vI 0), (8, .slice ka (rkids nodes i).length kc), (7, .slice (some ⟨ob, 0, none⟩) 1 1), (2, vI 40)]) () trivial ⟨rfl, rfl, rfl, rfl, trivial⟩ fun _ _ => ?_
    repeat' (first | refine Step.imp ?_ | refine Side.mk (by first | exact True.intro | omega | exact ⟨trivial, rfl⟩ | exact ⟨by omega, trivial, rfl⟩ | exact ⟨by omega, rfl⟩ | exact ⟨by omega, by omega, rfl⟩ | (simp only [List.length_cons, List.length_nil, List.length_append]; done) | (simp only [List.length_cons, List.length_nil, List.length_append]; omega) | decide +kernel) ?_ | refine GDraw_one (by decide +kernel) ?_ | refine New.mk fun _ => ?_ | refine NewS.mk fun _ _ => ?_ | refine Ways.mk (fun _ => ?_) (fun _ => ?_))
    all_goals first | (exfalso; omega) | exact Fin.val hT rfl (Hle.refl _)
  | succ f ih =>
    intro deep i L hdf hd0 hi hb
    haveI hrec : ∀ {L : List HP} {j : Int}, CallX Try.prog 92 [.pointer (some ⟨b, 0, none⟩), vI j, vI (deep + 1)] h L ((0 ≤ j ∧ j < nodes.length) ∧ (pre (kidsOf nodes) (f + 1) j).length ≤ 4294967296)
        (fun K => ∀ a c, K (.slice a (pre (kidsOf nodes) (f + 1) j).length c) h [slo encI 1 (.slice a (pre (kidsOf nodes) (f + 1) j).length c) (pre (kidsOf nodes) (f + 1) j)]) := fun {L j} => ⟨fun hj => ih (deep + 1) j L (by omega) (by omega) hj.1 hj.2⟩
    have hp : pre (kidsOf nodes) (f + 1 + 1) i = i :: (rkids nodes i).flatMap (pre (kidsOf nodes) (f + 1)) := by rw [pre, rkids_in hi]
    rw [hp] at hb ⊢
    rw [List.length_cons] at hb
    obtain ⟨l, hl⟩ : ∃ l, l = rkids nodes i := ⟨_, rfl⟩
    have hlm : ∀ k ∈ l, 0 ≤ k ∧ k < nodes.length := fun k hk => rkids_mem (by rw [hl] at hk; exact hk)
    have hll : l.length ≤ nodes.length := by rw [hl]; exact rkids_len _ _
    refine spec_enter Try.func92 rfl Try.ntmps92 Try.results92 (by simp) fun K R hT => ?_
    repeat (first | refine Step.imp ?_ | refine Side.mk (by first | exact True.intro | omega | exact ⟨trivial, rfl⟩ | exact ⟨by omega, trivial, rfl⟩ | exact ⟨by omega, rfl⟩ | exact ⟨by omega, by omega, rfl⟩ | (simp only [List.length_cons, List.length_nil, List.length_append]; done) | (simp only [List.length_cons, List.length_nil, List.length_append]; omega) | decide +kernel) ?_ | refine GDraw_one (by decide +kernel) ?_ | refine New.mk fun _ => ?_ | refine NewS.mk fun _ _ => ?_)
    rename_i ob
    intro ka kc
    rw [← hl] at hT hb ⊢
    repeat (first | refine Step.imp ?_ | refine Side.mk (by first | exact True.intro | omega | exact ⟨trivial, rfl⟩ | exact ⟨by omega, trivial, rfl⟩ | exact ⟨by omega, rfl⟩ | exact ⟨by omega, by omega, rfl⟩ | (simp only [List.length_cons, List.length_nil, List.length_append]; done) | (simp only [List.length_cons, List.length_nil, List.length_append]; omega) | decide +kernel) ?_ | refine GDraw_one (by decide +kernel) ?_ | refine New.mk fun _ => ?_ | refine NewS.mk fun _ _ => ?_)
    refine G_conv (x := blk ob (.cells [vI i].toArray 3 (0, 0))) (y := slo encI 1 (.slice (some ⟨ob, 0, none⟩) 1 1) [i]) (fun bs hb => ⟨by simp [Value.oneCell'], .inr ⟨ob, 1, [], 3, rfl, by simp, hb, by simp⟩⟩) ?_
    refine G_loop (σ := Nat × Option Addr × Nat) (fun s => s.1 ≤ l.length) (fun s => l.length - s.1)
      (fun s => [(9, vI s.1), (8, .slice ka l.length kc), (7, .slice s.2.1 (i :: (l.take s.1).flatMap (pre (kidsOf nodes) (f + 1))).length s.2.2), (2, vI deep), (0, .pointer (some ⟨b, 0, none⟩))]) (fun _ => h)
      (fun s => slo encI 1 (.slice s.2.1 (i :: (l.take s.1).flatMap (pre (kidsOf nodes) (f + 1))).length s.2.2) (i :: (l.take s.1).flatMap (pre (kidsOf nodes) (f + 1))) :: slo encI 1 (.slice ka l.length kc) l :: (L ++ R))
      (0, some ⟨ob, 0, none⟩, 1) (Nat.zero_le _) ⟨rfl, rfl, rfl, rfl, rfl, trivial⟩ rfl ?_ ?_
    · simp only [List.take_zero, List.flatMap_nil, List.length_cons, List.length_nil, Nat.zero_add]
      infer_instance
    rintro ⟨k, a, c⟩ hk
    simp only at hk ⊢
    repeat (first | refine Step.imp ?_ | refine Side.mk (by first | exact True.intro | omega | exact ⟨trivial, rfl⟩ | exact ⟨by omega, trivial, rfl⟩ | exact ⟨by omega, rfl⟩ | exact ⟨by omega, by omega, rfl⟩ | (simp only [List.length_cons, List.length_nil, List.length_append]; done) | (simp only [List.length_cons, List.length_nil, List.length_append]; omega) | decide +kernel) ?_ | refine GDraw_one (by decide +kernel) ?_ | refine New.mk fun _ => ?_ | refine NewS.mk fun _ _ => ?_)
    refine ⟨fun hlt => ?_, fun hge => ?_⟩
    · have hft := flat_take (pre (kidsOf nodes) (f + 1)) l k (by omega)
      have hts := take_snoc (pre (kidsOf nodes) (f + 1)) l k (by omega)
      have hkm := hlm (l[k]!) (mem_get (by omega))
      repeat (first | refine Step.imp ?_ | refine Side.mk (by first | exact True.intro | omega | exact ⟨trivial, rfl⟩ | exact ⟨by omega, trivial, rfl⟩ | exact ⟨by omega, rfl⟩ | exact ⟨by omega, by omega, rfl⟩ | (simp only [List.length_cons, List.length_nil, List.length_append]; done) | (simp only [List.length_cons, List.length_nil, List.length_append]; omega) | decide +kernel) ?_ | refine GDraw_one (by decide +kernel) ?_ | refine New.mk fun _ => ?_ | refine NewS.mk fun _ _ => ?_)
      refine ⟨fun hd40 => ?_, fun hd40 => absurd (by omega) hd40⟩
      repeat (first | refine Step.imp ?_ | refine Side.mk (by first | exact True.intro | omega | exact ⟨trivial, rfl⟩ | exact ⟨by omega, trivial, rfl⟩ | exact ⟨by omega, rfl⟩ | exact ⟨by omega, by omega, rfl⟩ | (simp only [List.length_cons, List.length_nil, List.length_append]; done) | (simp only [List.length_cons, List.length_nil, List.length_append]; omega) | decide +kernel) ?_ | refine GDraw_one (by decide +kernel) ?_ | refine New.mk fun _ => ?_ | refine NewS.mk fun _ _ => ?_)
      intro pa pc
      repeat (first | refine Step.imp ?_ | refine Side.mk (by first | exact True.intro | omega | exact ⟨trivial, rfl⟩ | exact ⟨by omega, trivial, rfl⟩ | exact ⟨by omega, rfl⟩ | exact ⟨by omega, by omega, rfl⟩ | (simp only [List.length_cons, List.length_nil, List.length_append]; done) | (simp only [List.length_cons, List.length_nil, List.length_append]; omega) | decide +kernel) ?_ | refine GDraw_one (by decide +kernel) ?_ | refine New.mk fun _ => ?_ | refine NewS.mk fun _ _ => ?_)
      rename_i a1 c1
      refine X_round (k + 1, a1, c1) ?_ ?_ ?_ ?_ ?_
      · show k + 1 ≤ l.length
        omega
      · show l.length - (k + 1) < l.length - k
        omega
      · refine ⟨rfl, rfl, ?_, rfl, rfl, trivial⟩
        rw [hts, ← List.cons_append (α := Int), List.length_append (α := Int)]
      · rfl
      · simp only [hts]
        rw [← List.cons_append (α := Int), List.length_append (α := Int)]
        infer_instance
    · have hk2 : k = l.length := by omega
      subst hk2
      simp only [List.take_length] at *
      repeat (first | refine Step.imp ?_ | refine Side.mk (by first | exact True.intro | omega | exact ⟨trivial, rfl⟩ | exact ⟨by omega, trivial, rfl⟩ | exact ⟨by omega, rfl⟩ | exact ⟨by omega, by omega, rfl⟩ | (simp only [List.length_cons, List.length_nil, List.length_append]; done) | (simp only [List.length_cons, List.length_nil, List.length_append]; omega) | decide +kernel) ?_ | refine GDraw_one (by decide +kernel) ?_ | refine New.mk fun _ => ?_ | refine NewS.mk fun _ _ => ?_)
      exact Fin.val (hT a c) rfl (Hle.refl _)
instance rt_down0 {L : List HP} {i : Int} [hI : IsRT h b nodes] : CallX Try.prog 92 [.pointer (some ⟨b, 0, none⟩), vI i, vI 0] h L (nodes.length ≤ 4294967295 ∧ (0 ≤ i ∧ i < nodes.length) ∧ (pre (kidsOf nodes) 41 i).length ≤ 4294967296)
    (fun K => ∀ a c, K (.slice a (pre (kidsOf nodes) 41 i).length c) h [slo encI 1 (.slice a (pre (kidsOf nodes) 41 i).length c) (pre (kidsOf nodes) 41 i)]) := ⟨fun ⟨h1, h2, h3⟩ => rt_down h1 40 0 i L (by omega) (by omega) h2 h3⟩
instance rt_order {L : List HP} [hI : IsRT h b nodes] [ok : OkT nodes] : CallX Try.prog 67 [.pointer (some ⟨b, 0, none⟩)] h L True
    (fun K => ∀ a c, K (.slice a (orderF nodes).length c) h [slo encI 1 (.slice a (orderF nodes).length c) (orderF nodes)]) := ⟨fun _ => by
  have hI' := hI
  obtain ⟨nv, ty, fr, h1, h2⟩ := hI'.out
  have h32 := (treeErr_all ok.eq).2.1
  have hol := order_len (treeErr_acyc ok.eq) (treeErr_ups ok.eq)
  have hof := order_fuel (treeErr_acyc ok.eq)
  rw [← hof] at hol ⊢
  have hrl : ∀ n ≤ nodes.length, ((rootsTo nodes n).flatMap (pre (kidsOf nodes) 41)).length ≤ 32 := fun n hn => by
    have := roots_len (kidsOf nodes) nodes 41 hn; omega
  refine spec_enter Try.func67 rfl Try.ntmps67 Try.results67 (by simp) fun K R hT => ?_
  refine Step.imp ?_
  refine G_nil encI 1 none ?_
  repeat (first | refine Step.imp ?_ | refine Side.mk (by first | exact True.intro | omega | exact ⟨trivial, rfl⟩ | exact ⟨by omega, trivial, rfl⟩ | exact ⟨by omega, rfl⟩ | exact ⟨by omega, by omega, rfl⟩ | (simp only [List.length_cons, List.length_nil, List.length_append]; done) | (simp only [List.length_cons, List.length_nil, List.length_append]; omega) | decide +kernel) ?_ | refine GDraw_one (by decide +kernel) ?_ | refine New.mk fun _ => ?_ | refine NewS.mk fun _ _ => ?_)
  refine G_loop (σ := Nat × Option Addr × Nat) (fun s => s.1 ≤ nodes.length) (fun s => nodes.length - s.1)
    (fun s => [(4, vI s.1), (3, .slice s.2.1 ((rootsTo nodes s.1).flatMap (pre (kidsOf nodes) 41)).length s.2.2), (0, .pointer (some ⟨b, 0, none⟩))]) (fun _ => h)
    (fun s => slo encI 1 (.slice s.2.1 ((rootsTo nodes s.1).flatMap (pre (kidsOf nodes) 41)).length s.2.2) ((rootsTo nodes s.1).flatMap (pre (kidsOf nodes) 41)) :: (L ++ R))
    (0, none, 0) (Nat.zero_le _) ⟨rfl, rfl, rfl, trivial⟩ rfl ?_ ?_
  · simp only [rootsTo, List.range_zero, List.filter_nil, List.map_nil, List.flatMap_nil, List.length_nil]
    infer_instance
  rintro ⟨k, a, c⟩ hk
  simp only at hk ⊢
  repeat (first | refine Step.imp ?_ | refine Side.mk (by first | exact True.intro | omega | exact ⟨trivial, rfl⟩ | exact ⟨by omega, trivial, rfl⟩ | exact ⟨by omega, rfl⟩ | exact ⟨by omega, by omega, rfl⟩ | (simp only [List.length_cons, List.length_nil, List.length_append]; done) | (simp only [List.length_cons, List.length_nil, List.length_append]; omega) | decide +kernel) ?_ | refine GDraw_one (by decide +kernel) ?_ | refine New.mk fun _ => ?_ | refine NewS.mk fun _ _ => ?_)
  refine ⟨fun hlt => ?_, fun hge => ?_⟩
  · have hrk := hrl k hk
    have hrk1 := hrl (k + 1) (by omega)
    have hrs := rootsTo_succ nodes k
    repeat (first | refine Step.imp ?_ | refine Side.mk (by first | exact True.intro | omega | exact ⟨trivial, rfl⟩ | exact ⟨by omega, trivial, rfl⟩ | exact ⟨by omega, rfl⟩ | exact ⟨by omega, by omega, rfl⟩ | (simp only [List.length_cons, List.length_nil, List.length_append]; done) | (simp only [List.length_cons, List.length_nil, List.length_append]; omega) | decide +kernel) ?_ | refine GDraw_one (by decide +kernel) ?_ | refine New.mk fun _ => ?_ | refine NewS.mk fun _ _ => ?_)
    refine ⟨fun hup => ?_, fun hup => ?_⟩
    · rw [if_pos hup] at hrs
      rw [hrs, List.flatMap_append, List.length_append] at hrk1
      have he1 : [(k : Int)].flatMap (pre (kidsOf nodes) 41) = pre (kidsOf nodes) 41 k := by simp
      rw [he1] at hrk1
      repeat (first | refine Step.imp ?_ | refine Side.mk (by first | exact True.intro | omega | exact ⟨trivial, rfl⟩ | exact ⟨by omega, trivial, rfl⟩ | exact ⟨by omega, rfl⟩ | exact ⟨by omega, by omega, rfl⟩ | (simp only [List.length_cons, List.length_nil, List.length_append]; done) | (simp only [List.length_cons, List.length_nil, List.length_append]; omega) | decide +kernel) ?_ | refine GDraw_one (by decide +kernel) ?_ | refine New.mk fun _ => ?_ | refine NewS.mk fun _ _ => ?_)
      intro pa pc
      repeat (first | refine Step.imp ?_ | refine Side.mk (by first | exact True.intro | omega | exact ⟨trivial, rfl⟩ | exact ⟨by omega, trivial, rfl⟩ | exact ⟨by omega, rfl⟩ | exact ⟨by omega, by omega, rfl⟩ | (simp only [List.length_cons, List.length_nil, List.length_append]; done) | (simp only [List.length_cons, List.length_nil, List.length_append]; omega) | decide +kernel) ?_ | refine GDraw_one (by decide +kernel) ?_ | refine New.mk fun _ => ?_ | refine NewS.mk fun _ _ => ?_)
      rename_i a1 c1
      refine X_round (k + 1, a1, c1) ?_ ?_ ?_ ?_ ?_
      · show k + 1 ≤ nodes.length
        omega
      · show nodes.length - (k + 1) < nodes.length - k
        omega
      · refine ⟨rfl, ?_, rfl, trivial⟩
        rw [hrs, List.flatMap_append, List.length_append, he1]
      · rfl
      · simp only [hrs, List.flatMap_append, he1, List.length_append]
        infer_instance
    · rw [if_neg hup] at hrs
      repeat (first | refine Step.imp ?_ | refine Side.mk (by first | exact True.intro | omega | exact ⟨trivial, rfl⟩ | exact ⟨by omega, trivial, rfl⟩ | exact ⟨by omega, rfl⟩ | exact ⟨by omega, by omega, rfl⟩ | (simp only [List.length_cons, List.length_nil, List.length_append]; done) | (simp only [List.length_cons, List.length_nil, List.length_append]; omega) | decide +kernel) ?_ | refine GDraw_one (by decide +kernel) ?_ | refine New.mk fun _ => ?_ | refine NewS.mk fun _ _ => ?_)
      refine X_round (k + 1, a, c) ?_ ?_ ?_ ?_ ?_
      · show k + 1 ≤ nodes.length
        omega
      · show nodes.length - (k + 1) < nodes.length - k
        omega
      · refine ⟨rfl, ?_, rfl, trivial⟩
        rw [hrs]
      · rfl
      · simp only [hrs]
        infer_instance
  · have hk2 : k = nodes.length := by omega
    subst hk2
    repeat (first | refine Step.imp ?_ | refine Side.mk (by first | exact True.intro | omega | exact ⟨trivial, rfl⟩ | exact ⟨by omega, trivial, rfl⟩ | exact ⟨by omega, rfl⟩ | exact ⟨by omega, by omega, rfl⟩ | (simp only [List.length_cons, List.length_nil, List.length_append]; done) | (simp only [List.length_cons, List.length_nil, List.length_append]; omega) | decide +kernel) ?_ | refine GDraw_one (by decide +kernel) ?_ | refine New.mk fun _ => ?_ | refine NewS.mk fun _ _ => ?_)
    exact Fin.val (hT a c) rfl (Hle.refl _)⟩
def leavesTo (nodes : List Nd) (n : Nat) : List Int := ((orderF nodes).take n).filter (fun i => decide ((mkTree nodes).leafB i))
theorem leavesTo_succ {nodes : List Nd} {n : Nat} (hn : n < (orderF nodes).length) : leavesTo nodes (n + 1) = if (mkTree nodes).leafB ((orderF nodes)[n]!) then leavesTo nodes n ++ [(orderF nodes)[n]!] else leavesTo nodes n := by
  unfold leavesTo
  rw [List.take_succ_eq_append_getElem hn, List.filter_append, getElem!_pos _ n hn]
  split <;> rename_i hb <;> simp [List.filter_cons, hb]
theorem leavesTo_all {nodes : List Nd} (ht : treeErr nodes = none) : leavesTo nodes (orderF nodes).length = (mkTree nodes).leaves := by
  unfold leavesTo
  rw [List.take_length, mkTree_leaves]
  refine List.filter_congr fun i hi => ?_
  have hr := (order_mem (treeErr_acyc ht) (treeErr_ups ht) i).1 hi
  have := leafB_iff ht (i := i)
  by_cases hl : leafK (kidsOf nodes) i = true
  · rw [hl, decide_eq_true_eq]; exact this.2 ⟨hr, hl⟩
  · have h2 : leafK (kidsOf nodes) i = false := by simpa using hl
    rw [h2, decide_eq_false_iff_not]; exact fun h3 => hl (this.1 h3).2
instance rt_leaves {L : List HP} [hI : IsRT h b nodes] [ok : OkT nodes] : CallX Try.prog 48 [.pointer (some ⟨b, 0, none⟩)] h L True
    (fun K => ∀ a c, K (.slice a (mkTree nodes).leaves.length c) h [slo encI 1 (.slice a (mkTree nodes).leaves.length c) (mkTree nodes).leaves]) := ⟨fun _ => by
  have h32 := (treeErr_all ok.eq).2.1
  have hol := order_len (treeErr_acyc ok.eq) (treeErr_ups ok.eq)
  have hla := leavesTo_all ok.eq
  have hlt0 : ∀ n, (leavesTo nodes n).length ≤ n := fun n => by
    unfold leavesTo
    have h1 := List.length_filter_le (fun i => decide ((mkTree nodes).leafB i)) ((orderF nodes).take n)
    have h2 := List.length_take_le n (orderF nodes)
    omega
  refine spec_enter Try.func48 rfl Try.ntmps48 Try.results48 (by simp) fun K R hT => ?_
  refine Step.imp ?_
  refine G_nil encI 1 none ?_
  repeat (first | refine Step.imp ?_ | refine Side.mk (by first | exact True.intro | omega | exact ⟨trivial, rfl⟩ | exact ⟨by omega, trivial, rfl⟩ | exact ⟨by omega, rfl⟩ | exact ⟨by omega, by omega, rfl⟩ | (simp only [List.length_cons, List.length_nil, List.length_append]; done) | (simp only [List.length_cons, List.length_nil, List.length_append]; omega) | decide +kernel) ?_ | refine GDraw_one (by decide +kernel) ?_ | refine New.mk fun _ => ?_ | refine NewS.mk fun _ _ => ?_)
  intro oa oc
  repeat (first | refine Step.imp ?_ | refine Side.mk (by first | exact True.intro | omega | exact ⟨trivial, rfl⟩ | exact ⟨by omega, trivial, rfl⟩ | exact ⟨by omega, rfl⟩ | exact ⟨by omega, by omega, rfl⟩ | (simp only [List.length_cons, List.length_nil, List.length_append]; done) | (simp only [List.length_cons, List.length_nil, List.length_append]; omega) | decide +kernel) ?_ | refine GDraw_one (by decide +kernel) ?_ | refine New.mk fun _ => ?_ | refine NewS.mk fun _ _ => ?_)
  refine G_loop (σ := Nat × Option Addr × Nat) (fun s => s.1 ≤ (orderF nodes).length) (fun s => (orderF nodes).length - s.1)
    (fun s => [(5, vI s.1), (4, .slice oa (orderF nodes).length oc), (3, .slice s.2.1 (leavesTo nodes s.1).length s.2.2), (0, .pointer (some ⟨b, 0, none⟩))]) (fun _ => h)
    (fun s => slo encI 1 (.slice s.2.1 (leavesTo nodes s.1).length s.2.2) (leavesTo nodes s.1) :: slo encI 1 (.slice oa (orderF nodes).length oc) (orderF nodes) :: (L ++ R))
    (0, none, 0) (Nat.zero_le _) ⟨rfl, rfl, rfl, rfl, trivial⟩ rfl ?_ ?_
  · simp only [leavesTo, List.take_zero, List.filter_nil, List.length_nil]
    infer_instance
  rintro ⟨k, a, c⟩ hk
  simp only at hk ⊢
  have hlk := hlt0 k
  repeat (first | refine Step.imp ?_ | refine Side.mk (by first | exact True.intro | omega | exact ⟨trivial, rfl⟩ | exact ⟨by omega, trivial, rfl⟩ | exact ⟨by omega, rfl⟩ | exact ⟨by omega, by omega, rfl⟩ | (simp only [List.length_cons, List.length_nil, List.length_append]; done) | (simp only [List.length_cons, List.length_nil, List.length_append]; omega) | decide +kernel) ?_ | refine GDraw_one (by decide +kernel) ?_ | refine New.mk fun _ => ?_ | refine NewS.mk fun _ _ => ?_)
  refine ⟨fun hlt => ?_, fun hge => ?_⟩
  · have hs := leavesTo_succ (nodes := nodes) (n := k) (by omega)
    repeat (first | refine Step.imp ?_ | refine Side.mk (by first | exact True.intro | omega | exact ⟨trivial, rfl⟩ | exact ⟨by omega, trivial, rfl⟩ | exact ⟨by omega, rfl⟩ | exact ⟨by omega, by omega, rfl⟩ | (simp only [List.length_cons, List.length_nil, List.length_append]; done) | (simp only [List.length_cons, List.length_nil, List.length_append]; omega) | decide +kernel) ?_ | refine GDraw_one (by decide +kernel) ?_ | refine New.mk fun _ => ?_ | refine NewS.mk fun _ _ => ?_)
    refine ⟨fun hl => ?_, fun hl => ?_⟩
    · rw [if_pos hl] at hs
      repeat (first | refine Step.imp ?_ | refine Side.mk (by first | exact True.intro | omega | exact ⟨trivial, rfl⟩ | exact ⟨by omega, trivial, rfl⟩ | exact ⟨by omega, rfl⟩ | exact ⟨by omega, by omega, rfl⟩ | (simp only [List.length_cons, List.length_nil, List.length_append]; done) | (simp only [List.length_cons, List.length_nil, List.length_append]; omega) | decide +kernel) ?_ | refine GDraw_one (by decide +kernel) ?_ | refine New.mk fun _ => ?_ | refine NewS.mk fun _ _ => ?_)
      rename_i b1 a1 c1
      refine X_round (k + 1, a1, c1) ?_ ?_ ?_ ?_ ?_
      · show k + 1 ≤ (orderF nodes).length
        omega
      · show (orderF nodes).length - (k + 1) < (orderF nodes).length - k
        omega
      · refine ⟨rfl, rfl, ?_, rfl, trivial⟩
        rw [hs, List.length_append]; rfl
      · rfl
      · simp only [hs, List.length_append, List.length_cons, List.length_nil, Nat.zero_add]
        infer_instance
    · rw [if_neg hl] at hs
      repeat (first | refine Step.imp ?_ | refine Side.mk (by first | exact True.intro | omega | exact ⟨trivial, rfl⟩ | exact ⟨by omega, trivial, rfl⟩ | exact ⟨by omega, rfl⟩ | exact ⟨by omega, by omega, rfl⟩ | (simp only [List.length_cons, List.length_nil, List.length_append]; done) | (simp only [List.length_cons, List.length_nil, List.length_append]; omega) | decide +kernel) ?_ | refine GDraw_one (by decide +kernel) ?_ | refine New.mk fun _ => ?_ | refine NewS.mk fun _ _ => ?_)
      refine X_round (k + 1, a, c) ?_ ?_ ?_ ?_ ?_
      · show k + 1 ≤ (orderF nodes).length
        omega
      · show (orderF nodes).length - (k + 1) < (orderF nodes).length - k
        omega
      · refine ⟨rfl, rfl, ?_, rfl, trivial⟩
        rw [hs]
      · rfl
      · simp only [hs]
        infer_instance
  · have hk2 : k = (orderF nodes).length := by omega
    subst hk2
    rw [hla]
    repeat (first | refine Step.imp ?_ | refine Side.mk (by first | exact True.intro | omega | exact ⟨trivial, rfl⟩ | exact ⟨by omega, trivial, rfl⟩ | exact ⟨by omega, rfl⟩ | exact ⟨by omega, by omega, rfl⟩ | (simp only [List.length_cons, List.length_nil, List.length_append]; done) | (simp only [List.length_cons, List.length_nil, List.length_append]; omega) | decide +kernel) ?_ | refine GDraw_one (by decide +kernel) ?_ | refine New.mk fun _ => ?_ | refine NewS.mk fun _ _ => ?_)
    exact Fin.val (hT a c) rfl (Hle.refl _)⟩
end
end Go.Sl

/-
  The document's trees: made.
-/
namespace Go.Sl
open Go.Proofs
set_option linter.unusedVariables false
set_option linter.unusedSimpArgs false
set_option maxRecDepth 10000
set_option synthInstance.maxSize 2000
set_option synthInstance.maxHeartbeats 200000
set_option maxHeartbeats 1000000
theorem ck0 (nodes : List Nd) (i : Nat) : ckStep nodes 0 i = ckName nodes i := rfl
theorem ck1 (nodes : List Nd) (i : Nat) : ckStep nodes 1 i = ckTwice nodes i := rfl
theorem ck2 (nodes : List Nd) (i : Nat) : ckStep nodes 2 i = ckRange nodes i := rfl
theorem ck3 (nodes : List Nd) (i : Nat) : ckStep nodes 3 i = ckLoop nodes i := rfl
theorem ck4 (nodes : List Nd) (i : Nat) : ckStep nodes 4 i = ckDeep nodes i := rfl
theorem bad_err {nodes : List Nd} {s i : Nat} (hs : s < 5) (hi : i < nodes.length) (h : ckStep nodes s i ≠ 0) : treeErr nodes ≠ none := fun hn => h ((treeErr_all hn).2.2 s hs i hi)
theorem find_twice {nodes : List Nd} {i : Nat} (hi : i < nodes.length) : findN nodes (nodes[i]!).name < i ↔ ckTwice nodes i ≠ 0 := by
  have hm : mhas (namesTo nodes i) (nodes[i]!).name = true ↔ ∃ j < i, (nodes[j]!).name = (nodes[i]!).name := by
    unfold mhas mget namesTo
    rw [Option.isSome_map, List.find?_isSome]
    constructor
    · rintro ⟨p, hp, he⟩
      obtain ⟨j, hj, rfl⟩ := List.mem_map.1 hp
      exact ⟨j, List.mem_range.1 hj, by simpa using he⟩
    · rintro ⟨j, hj, he⟩
      exact ⟨_, List.mem_map.2 ⟨j, List.mem_range.2 hj, rfl⟩, by simpa using he⟩
  have hck : ckTwice nodes i ≠ 0 ↔ mhas (namesTo nodes i) (nodes[i]!).name = true := by
    unfold ckTwice
    cases mhas (namesTo nodes i) (nodes[i]!).name <;> simp
  rw [hck, hm]
  unfold findN idxI
  cases hf : (nodes.map Nd.name).findIdx? (fun x => decide (x = (nodes[i]!).name)) with
  | none =>
    rw [List.findIdx?_eq_none_iff] at hf
    have := hf (nodes[i]!).name (by rw [List.mem_map]; exact ⟨nodes[i]!, by rw [getElem!_pos nodes i hi]; exact List.getElem_mem _, rfl⟩)
    simp at this
  | some k =>
    rw [List.findIdx?_eq_some_iff_getElem] at hf
    obtain ⟨hk, he, hb⟩ := hf
    rw [List.length_map] at hk
    simp only [List.getElem_map, decide_eq_true_eq] at he
    show ((k : Nat) : Int) < i ↔ _
    constructor
    · intro hki
      exact ⟨k, by omega, by rw [getElem!_pos nodes k hk]; exact he⟩
    · rintro ⟨j, hj, hje⟩
      refine Int.not_le.1 fun hik => ?_
      have := hb j (by omega)
      simp only [List.getElem_map, decide_eq_true_eq] at this
      rw [getElem!_pos nodes j (by omega)] at hje
      exact this hje
section
variable {h : PHeap} {nodes : List Nd} {lv : Value}
instance rt_new {L : List HP} [hs : FSl h lv encNd 2 nodes] : CallX Try.prog 47 [lv] h L (nodes.length ≤ 4294967296)
    (fun K => (∀ (i why : Int) h', Le h h' → why ≠ 0 → treeErr nodes ≠ none → K (.tuple [.pointer none, vI i, vI why].toArray) h' []) ∧
      (treeErr nodes = none → ∀ h' b, Le h h' → IsRT h' b nodes → K (.tuple [.pointer (some ⟨b, 0, none⟩), vI 0, vI 0].toArray) h' [])) := ⟨fun hn => by
  refine spec_enter Try.func47 rfl Try.ntmps47 Try.results47 (by simp) fun K R hT => ?_
  by_cases hlen : nodes.length = 0 ∨ 32 < nodes.length
  · have he := hT.1 0 5 h ⟨Hle.refl h⟩ (by decide) (by unfold treeErr; rw [if_pos hlen]; simp)
    repeat' (first | refine Step.imp ?_ | refine Side.mk (by first | exact True.intro | omega | exact ⟨trivial, rfl⟩ | exact ⟨by omega, trivial, rfl⟩ | exact ⟨by omega, rfl⟩ | exact ⟨by omega, by omega, rfl⟩ | (simp only [List.length_cons, List.length_nil, List.length_append]; done) | (simp only [List.length_cons, List.length_nil, List.length_append]; omega) | decide +kernel) ?_ | refine GDraw_one (by decide +kernel) ?_ | refine New.mk fun _ => ?_ | refine NewS.mk fun _ _ => ?_ | refine Ways.mk (fun _ => ?_) (fun _ => ?_))
    all_goals first | exact Fin.val he rfl (Hle.refl _) | (exfalso; omega)
  · have h32 : nodes.length ≤ 32 := by omega
    repeat' (first | refine Step.imp ?_ | refine Side.mk (by first | exact True.intro | omega | exact ⟨trivial, rfl⟩ | exact ⟨by omega, trivial, rfl⟩ | exact ⟨by omega, rfl⟩ | exact ⟨by omega, by omega, rfl⟩ | (simp only [List.length_cons, List.length_nil, List.length_append]; done) | (simp only [List.length_cons, List.length_nil, List.length_append]; omega) | decide +kernel) ?_ | refine GDraw_one (by decide +kernel) ?_ | refine New.mk fun _ => ?_ | refine NewS.mk fun _ _ => ?_ | refine Ways.mk (fun _ => ?_) (fun _ => ?_))
    all_goals first | (exfalso; omega) | skip
    rename_i tb aa cc
    refine G_freezeB tb fun h1 le1 f1 => ?_
    refine G_freezeS (.slice aa nodes.length cc) fun h2 le2 f2 => ?_
    have hle2 := le1.le.trans le2.le
    haveI hRT : IsRT h2 tb nodes := ⟨_, _, _, Pt.mono le2.le f1, f2⟩
    have hbad : ∀ (s : Nat) (i : Nat) (w : Int), s < 5 → i < nodes.length → w ≠ 0 → ckStep nodes s i ≠ 0 → K (.tuple [.pointer none, vI (i : Nat), vI w].toArray) h2 ([] ++ L) := fun s i w h1 h3 h4 h5 => hT.1 i w h2 ⟨hle2⟩ h4 (bad_err h1 h3 h5)
    refine G_loopE (σ := Nat) (fun k => k ≤ nodes.length ∧ ∀ j < k, ckStep nodes 0 j = 0) (fun k => nodes.length - k) (fun k => [(6, vI k), (0, lv), (5, .pointer (some ⟨tb, 0, none⟩))]) 0 ⟨by omega, by omega⟩ ⟨rfl, rfl, rfl, trivial⟩ fun k hk => ?_
    obtain ⟨hk, hall⟩ := hk
    repeat (first | refine Step.imp ?_ | refine Side.mk (by first | exact True.intro | omega | exact ⟨trivial, rfl⟩ | exact ⟨by omega, trivial, rfl⟩ | exact ⟨by omega, rfl⟩ | exact ⟨by omega, by omega, rfl⟩ | (simp only [List.length_cons, List.length_nil, List.length_append]; done) | (simp only [List.length_cons, List.length_nil, List.length_append]; omega) | decide +kernel) ?_ | refine GDraw_one (by decide +kernel) ?_ | refine New.mk fun _ => ?_ | refine NewS.mk fun _ _ => ?_)
    refine ⟨fun hlt => ?_, fun hge => ?_⟩
    · repeat (first | refine Step.imp ?_ | refine Side.mk (by first | exact True.intro | omega | exact ⟨trivial, rfl⟩ | exact ⟨by omega, trivial, rfl⟩ | exact ⟨by omega, rfl⟩ | exact ⟨by omega, by omega, rfl⟩ | (simp only [List.length_cons, List.length_nil, List.length_append]; done) | (simp only [List.length_cons, List.length_nil, List.length_append]; omega) | decide +kernel) ?_ | refine GDraw_one (by decide +kernel) ?_ | refine New.mk fun _ => ?_ | refine NewS.mk fun _ _ => ?_)
      refine ⟨fun hno => ?_, fun hok => ?_⟩
      · have hb := hbad 0 k 3 (by omega) (by omega) (by decide) (by rw [ck0, ckName, if_neg hno]; decide)
        repeat (first | refine Step.imp ?_ | refine Side.mk (by first | exact True.intro | omega | exact ⟨trivial, rfl⟩ | exact ⟨by omega, trivial, rfl⟩ | exact ⟨by omega, rfl⟩ | exact ⟨by omega, by omega, rfl⟩ | (simp only [List.length_cons, List.length_nil, List.length_append]; done) | (simp only [List.length_cons, List.length_nil, List.length_append]; omega) | decide +kernel) ?_ | refine GDraw_one (by decide +kernel) ?_ | refine New.mk fun _ => ?_ | refine NewS.mk fun _ _ => ?_)
        exact Fin.val hb rfl hle2
      · have hok := Decidable.not_not.1 hok
        repeat (first | refine Step.imp ?_ | refine Side.mk (by first | exact True.intro | omega | exact ⟨trivial, rfl⟩ | exact ⟨by omega, trivial, rfl⟩ | exact ⟨by omega, rfl⟩ | exact ⟨by omega, by omega, rfl⟩ | (simp only [List.length_cons, List.length_nil, List.length_append]; done) | (simp only [List.length_cons, List.length_nil, List.length_append]; omega) | decide +kernel) ?_ | refine GDraw_one (by decide +kernel) ?_ | refine New.mk fun _ => ?_ | refine NewS.mk fun _ _ => ?_)
        refine X_roundE (k + 1) ⟨by omega, fun j hj => ?_⟩ (by omega) ⟨rfl, rfl, rfl, trivial⟩ inferInstance
        rcases Nat.lt_or_ge j k with h1 | h1
        · exact hall j h1
        · have : j = k := by omega
          subst this; rw [ck0, ckName, if_pos hok]
    have hk2 : k = nodes.length := by omega
    subst hk2
    repeat (first | refine Step.imp ?_ | refine Side.mk (by first | exact True.intro | omega | exact ⟨trivial, rfl⟩ | exact ⟨by omega, trivial, rfl⟩ | exact ⟨by omega, rfl⟩ | exact ⟨by omega, by omega, rfl⟩ | (simp only [List.length_cons, List.length_nil, List.length_append]; done) | (simp only [List.length_cons, List.length_nil, List.length_append]; omega) | decide +kernel) ?_ | refine GDraw_one (by decide +kernel) ?_ | refine New.mk fun _ => ?_ | refine NewS.mk fun _ _ => ?_)
    refine G_loopE (σ := Nat) (fun k => k ≤ nodes.length ∧ ∀ j < k, ckStep nodes 1 j = 0) (fun k => nodes.length - k) (fun k => [(7, vI k), (0, lv), (5, .pointer (some ⟨tb, 0, none⟩))]) 0 ⟨by omega, by omega⟩ ⟨rfl, rfl, rfl, trivial⟩ fun k hk => ?_
    obtain ⟨hk, hall1⟩ := hk
    repeat (first | refine Step.imp ?_ | refine Side.mk (by first | exact True.intro | omega | exact ⟨trivial, rfl⟩ | exact ⟨by omega, trivial, rfl⟩ | exact ⟨by omega, rfl⟩ | exact ⟨by omega, by omega, rfl⟩ | (simp only [List.length_cons, List.length_nil, List.length_append]; done) | (simp only [List.length_cons, List.length_nil, List.length_append]; omega) | decide +kernel) ?_ | refine GDraw_one (by decide +kernel) ?_ | refine New.mk fun _ => ?_ | refine NewS.mk fun _ _ => ?_)
    refine ⟨fun hlt => ?_, fun hge => ?_⟩
    · have hft := find_twice (nodes := nodes) (i := k) (by omega)
      repeat (first | refine Step.imp ?_ | refine Side.mk (by first | exact True.intro | omega | exact ⟨trivial, rfl⟩ | exact ⟨by omega, trivial, rfl⟩ | exact ⟨by omega, rfl⟩ | exact ⟨by omega, by omega, rfl⟩ | (simp only [List.length_cons, List.length_nil, List.length_append]; done) | (simp only [List.length_cons, List.length_nil, List.length_append]; omega) | decide +kernel) ?_ | refine GDraw_one (by decide +kernel) ?_ | refine New.mk fun _ => ?_ | refine NewS.mk fun _ _ => ?_)
      refine ⟨fun hno => ?_, fun hok => ?_⟩
      · have hb := hbad 1 k 4 (by omega) (by omega) (by decide) (by rw [ck1]; exact hft.1 hno)
        repeat (first | refine Step.imp ?_ | refine Side.mk (by first | exact True.intro | omega | exact ⟨trivial, rfl⟩ | exact ⟨by omega, trivial, rfl⟩ | exact ⟨by omega, rfl⟩ | exact ⟨by omega, by omega, rfl⟩ | (simp only [List.length_cons, List.length_nil, List.length_append]; done) | (simp only [List.length_cons, List.length_nil, List.length_append]; omega) | decide +kernel) ?_ | refine GDraw_one (by decide +kernel) ?_ | refine New.mk fun _ => ?_ | refine NewS.mk fun _ _ => ?_)
        exact Fin.val hb rfl hle2
      · repeat (first | refine Step.imp ?_ | refine Side.mk (by first | exact True.intro | omega | exact ⟨trivial, rfl⟩ | exact ⟨by omega, trivial, rfl⟩ | exact ⟨by omega, rfl⟩ | exact ⟨by omega, by omega, rfl⟩ | (simp only [List.length_cons, List.length_nil, List.length_append]; done) | (simp only [List.length_cons, List.length_nil, List.length_append]; omega) | decide +kernel) ?_ | refine GDraw_one (by decide +kernel) ?_ | refine New.mk fun _ => ?_ | refine NewS.mk fun _ _ => ?_)
        refine X_roundE (k + 1) ⟨by omega, fun j hj => ?_⟩ (by omega) ⟨rfl, rfl, rfl, trivial⟩ inferInstance
        rcases Nat.lt_or_ge j k with h1 | h1
        · exact hall1 j h1
        · have : j = k := by omega
          subst this; rw [ck1]; exact Decidable.not_not.1 fun hne => hok (hft.2 hne)
    have hk2 : k = nodes.length := by omega
    subst hk2
    repeat (first | refine Step.imp ?_ | refine Side.mk (by first | exact True.intro | omega | exact ⟨trivial, rfl⟩ | exact ⟨by omega, trivial, rfl⟩ | exact ⟨by omega, rfl⟩ | exact ⟨by omega, by omega, rfl⟩ | (simp only [List.length_cons, List.length_nil, List.length_append]; done) | (simp only [List.length_cons, List.length_nil, List.length_append]; omega) | decide +kernel) ?_ | refine GDraw_one (by decide +kernel) ?_ | refine New.mk fun _ => ?_ | refine NewS.mk fun _ _ => ?_)
    refine G_loopE (σ := Nat) (fun k => k ≤ nodes.length ∧ ∀ j < k, ckStep nodes 2 j = 0) (fun k => nodes.length - k) (fun k => [(8, vI k), (0, lv), (5, .pointer (some ⟨tb, 0, none⟩))]) 0 ⟨by omega, by omega⟩ ⟨rfl, rfl, rfl, trivial⟩ fun k hk => ?_
    obtain ⟨hk, hall2⟩ := hk
    repeat (first | refine Step.imp ?_ | refine Side.mk (by first | exact True.intro | omega | exact ⟨trivial, rfl⟩ | exact ⟨by omega, trivial, rfl⟩ | exact ⟨by omega, rfl⟩ | exact ⟨by omega, by omega, rfl⟩ | (simp only [List.length_cons, List.length_nil, List.length_append]; done) | (simp only [List.length_cons, List.length_nil, List.length_append]; omega) | decide +kernel) ?_ | refine GDraw_one (by decide +kernel) ?_ | refine New.mk fun _ => ?_ | refine NewS.mk fun _ _ => ?_)
    refine ⟨fun hlt => ?_, fun hge => ?_⟩
    · have hne : ((nodes[k]!).up < -1 ∨ (nodes.length : Int) ≤ (nodes[k]!).up) → ckStep nodes 2 k ≠ 0 := fun hc => by rw [ck2, ckRange, if_pos hc]; decide
      repeat' (first | refine Step.imp ?_ | refine Side.mk (by first | exact True.intro | omega | exact ⟨trivial, rfl⟩ | exact ⟨by omega, trivial, rfl⟩ | exact ⟨by omega, rfl⟩ | exact ⟨by omega, by omega, rfl⟩ | (simp only [List.length_cons, List.length_nil, List.length_append]; done) | (simp only [List.length_cons, List.length_nil, List.length_append]; omega) | decide +kernel) ?_ | refine GDraw_one (by decide +kernel) ?_ | refine New.mk fun _ => ?_ | refine NewS.mk fun _ _ => ?_ | refine Ways.mk (fun _ => ?_) (fun _ => ?_))
      · have hb := hbad 2 k 17 (by omega) (by omega) (by decide) (hne (by omega))
        exact Fin.val hb rfl hle2
      · have hb := hbad 2 k 17 (by omega) (by omega) (by decide) (hne (by omega))
        exact Fin.val hb rfl hle2
      · refine X_roundE (k + 1) ⟨by omega, fun j hj => ?_⟩ (by omega) ⟨rfl, rfl, rfl, trivial⟩ inferInstance
        rcases Nat.lt_or_ge j k with h1 | h1
        · exact hall2 j h1
        · have : j = k := by omega
          subst this; rw [ck2, ckRange, if_neg (by omega)]
    have hk2 : k = nodes.length := by omega
    subst hk2
    have hups : UpsIn nodes := upsIn_of fun i hi => by have := hall2 i hi; simpa [ckStep] using this
    repeat (first | refine Step.imp ?_ | refine Side.mk (by first | exact True.intro | omega | exact ⟨trivial, rfl⟩ | exact ⟨by omega, trivial, rfl⟩ | exact ⟨by omega, rfl⟩ | exact ⟨by omega, by omega, rfl⟩ | (simp only [List.length_cons, List.length_nil, List.length_append]; done) | (simp only [List.length_cons, List.length_nil, List.length_append]; omega) | decide +kernel) ?_ | refine GDraw_one (by decide +kernel) ?_ | refine New.mk fun _ => ?_ | refine NewS.mk fun _ _ => ?_)
    refine G_loopE (σ := Nat) (fun k => k ≤ nodes.length ∧ ∀ j < k, ckStep nodes 3 j = 0) (fun k => nodes.length - k) (fun k => [(9, vI k), (0, lv), (5, .pointer (some ⟨tb, 0, none⟩))]) 0 ⟨by omega, by omega⟩ ⟨rfl, rfl, rfl, trivial⟩ fun k hk => ?_
    obtain ⟨hk, hall3⟩ := hk
    repeat (first | refine Step.imp ?_ | refine Side.mk (by first | exact True.intro | omega | exact ⟨trivial, rfl⟩ | exact ⟨by omega, trivial, rfl⟩ | exact ⟨by omega, rfl⟩ | exact ⟨by omega, by omega, rfl⟩ | (simp only [List.length_cons, List.length_nil, List.length_append]; done) | (simp only [List.length_cons, List.length_nil, List.length_append]; omega) | decide +kernel) ?_ | refine GDraw_one (by decide +kernel) ?_ | refine New.mk fun _ => ?_ | refine NewS.mk fun _ _ => ?_)
    refine ⟨fun hlt => ?_, fun hge => ?_⟩
    · have h0 := hups.eq k (by omega)
      have hck : ckStep nodes 3 k = if chase nodes k nodes.length (nodes[k]!).up then 15 else 0 := rfl
      have hnext : chase nodes k nodes.length (nodes[k]!).up = false → ∀ j < k + 1, ckStep nodes 3 j = 0 := fun hf j hj => by
        rcases Nat.lt_or_ge j k with h1 | h1
        · exact hall3 j h1
        · have : j = k := by omega
          subst this; rw [hck, hf]; rfl
      repeat (first | refine Step.imp ?_ | refine Side.mk (by first | exact True.intro | omega | exact ⟨trivial, rfl⟩ | exact ⟨by omega, trivial, rfl⟩ | exact ⟨by omega, rfl⟩ | exact ⟨by omega, by omega, rfl⟩ | (simp only [List.length_cons, List.length_nil, List.length_append]; done) | (simp only [List.length_cons, List.length_nil, List.length_append]; omega) | decide +kernel) ?_ | refine GDraw_one (by decide +kernel) ?_ | refine New.mk fun _ => ?_ | refine NewS.mk fun _ _ => ?_)
      refine G_loopE (σ := Nat × Int) (fun s => s.1 ≤ nodes.length ∧ -1 ≤ s.2 ∧ s.2 < nodes.length ∧ chase nodes k nodes.length (nodes[k]!).up = chase nodes k (nodes.length - s.1) s.2) (fun s => nodes.length - s.1) (fun s => [(11, vI s.1), (10, vI s.2), (9, vI k), (0, lv), (5, .pointer (some ⟨tb, 0, none⟩))]) (0, (nodes[k]!).up) ⟨by omega, h0.1, h0.2, rfl⟩ ⟨rfl, rfl, rfl, rfl, rfl, trivial⟩ ?_
      rintro ⟨n, u⟩ ⟨h1, h2, h3, h4⟩
      simp only at h1 h2 h3 h4 ⊢
      repeat (first | refine Step.imp ?_ | refine Side.mk (by first | exact True.intro | omega | exact ⟨trivial, rfl⟩ | exact ⟨by omega, trivial, rfl⟩ | exact ⟨by omega, rfl⟩ | exact ⟨by omega, by omega, rfl⟩ | (simp only [List.length_cons, List.length_nil, List.length_append]; done) | (simp only [List.length_cons, List.length_nil, List.length_append]; omega) | decide +kernel) ?_ | refine GDraw_one (by decide +kernel) ?_ | refine New.mk fun _ => ?_ | refine NewS.mk fun _ _ => ?_)
      refine ⟨fun hnl => ?_, fun hnl => ?_⟩
      · rw [show nodes.length - n = (nodes.length - (n + 1)) + 1 by omega, chase] at h4
        repeat (first | refine Step.imp ?_ | refine Side.mk (by first | exact True.intro | omega | exact ⟨trivial, rfl⟩ | exact ⟨by omega, trivial, rfl⟩ | exact ⟨by omega, rfl⟩ | exact ⟨by omega, by omega, rfl⟩ | (simp only [List.length_cons, List.length_nil, List.length_append]; done) | (simp only [List.length_cons, List.length_nil, List.length_append]; omega) | decide +kernel) ?_ | refine GDraw_one (by decide +kernel) ?_ | refine New.mk fun _ => ?_ | refine NewS.mk fun _ _ => ?_)
        refine ⟨fun hu => ?_, fun hu => ?_⟩
        · rw [if_neg (by omega)] at h4
          repeat (first | refine Step.imp ?_ | refine Side.mk (by first | exact True.intro | omega | exact ⟨trivial, rfl⟩ | exact ⟨by omega, trivial, rfl⟩ | exact ⟨by omega, rfl⟩ | exact ⟨by omega, by omega, rfl⟩ | (simp only [List.length_cons, List.length_nil, List.length_append]; done) | (simp only [List.length_cons, List.length_nil, List.length_append]; omega) | decide +kernel) ?_ | refine GDraw_one (by decide +kernel) ?_ | refine New.mk fun _ => ?_ | refine NewS.mk fun _ _ => ?_)
          refine ⟨fun he => ?_, fun hne => ?_⟩
          · rw [if_pos he] at h4
            have hb := hbad 3 k 15 (by omega) (by omega) (by decide) (by rw [hck, h4]; decide)
            repeat (first | refine Step.imp ?_ | refine Side.mk (by first | exact True.intro | omega | exact ⟨trivial, rfl⟩ | exact ⟨by omega, trivial, rfl⟩ | exact ⟨by omega, rfl⟩ | exact ⟨by omega, by omega, rfl⟩ | (simp only [List.length_cons, List.length_nil, List.length_append]; done) | (simp only [List.length_cons, List.length_nil, List.length_append]; omega) | decide +kernel) ?_ | refine GDraw_one (by decide +kernel) ?_ | refine New.mk fun _ => ?_ | refine NewS.mk fun _ _ => ?_)
            exact Fin.val hb rfl hle2
          · rw [if_neg hne] at h4
            have h5 := hups.eq u.toNat (by omega)
            repeat (first | refine Step.imp ?_ | refine Side.mk (by first | exact True.intro | omega | exact ⟨trivial, rfl⟩ | exact ⟨by omega, trivial, rfl⟩ | exact ⟨by omega, rfl⟩ | exact ⟨by omega, by omega, rfl⟩ | (simp only [List.length_cons, List.length_nil, List.length_append]; done) | (simp only [List.length_cons, List.length_nil, List.length_append]; omega) | decide +kernel) ?_ | refine GDraw_one (by decide +kernel) ?_ | refine New.mk fun _ => ?_ | refine NewS.mk fun _ _ => ?_)
            refine X_roundE (n + 1, (nodes[u.toNat]!).up) ⟨by show n + 1 ≤ nodes.length; omega, h5.1, h5.2, h4⟩ ?_ ⟨rfl, rfl, rfl, rfl, rfl, trivial⟩ inferInstance
            show nodes.length - (n + 1) < nodes.length - n
            omega
        · rw [if_pos (by omega)] at h4
          repeat (first | refine Step.imp ?_ | refine Side.mk (by first | exact True.intro | omega | exact ⟨trivial, rfl⟩ | exact ⟨by omega, trivial, rfl⟩ | exact ⟨by omega, rfl⟩ | exact ⟨by omega, by omega, rfl⟩ | (simp only [List.length_cons, List.length_nil, List.length_append]; done) | (simp only [List.length_cons, List.length_nil, List.length_append]; omega) | decide +kernel) ?_ | refine GDraw_one (by decide +kernel) ?_ | refine New.mk fun _ => ?_ | refine NewS.mk fun _ _ => ?_)
          exact X_roundE (k + 1) ⟨by omega, hnext h4⟩ (by omega) ⟨rfl, rfl, rfl, trivial⟩ inferInstance
      · have h0 : nodes.length - n = 0 := by omega
        rw [h0, chase] at h4
        repeat (first | refine Step.imp ?_ | refine Side.mk (by first | exact True.intro | omega | exact ⟨trivial, rfl⟩ | exact ⟨by omega, trivial, rfl⟩ | exact ⟨by omega, rfl⟩ | exact ⟨by omega, by omega, rfl⟩ | (simp only [List.length_cons, List.length_nil, List.length_append]; done) | (simp only [List.length_cons, List.length_nil, List.length_append]; omega) | decide +kernel) ?_ | refine GDraw_one (by decide +kernel) ?_ | refine New.mk fun _ => ?_ | refine NewS.mk fun _ _ => ?_)
        exact X_roundE (k + 1) ⟨by omega, hnext h4⟩ (by omega) ⟨rfl, rfl, rfl, trivial⟩ inferInstance
    have hk2 : k = nodes.length := by omega
    subst hk2
    haveI hac : Acyc nodes := acyc_of h32 hups fun i hi => by have := hall3 i hi; simpa [ckStep] using this
    repeat (first | refine Step.imp ?_ | refine Side.mk (by first | exact True.intro | omega | exact ⟨trivial, rfl⟩ | exact ⟨by omega, trivial, rfl⟩ | exact ⟨by omega, rfl⟩ | exact ⟨by omega, by omega, rfl⟩ | (simp only [List.length_cons, List.length_nil, List.length_append]; done) | (simp only [List.length_cons, List.length_nil, List.length_append]; omega) | decide +kernel) ?_ | refine GDraw_one (by decide +kernel) ?_ | refine New.mk fun _ => ?_ | refine NewS.mk fun _ _ => ?_)
    refine G_loopE (σ := Nat) (fun k => k ≤ nodes.length ∧ ∀ j < k, ckStep nodes 4 j = 0) (fun k => nodes.length - k) (fun k => [(12, vI k), (0, lv), (5, .pointer (some ⟨tb, 0, none⟩))]) 0 ⟨by omega, by omega⟩ ⟨rfl, rfl, rfl, trivial⟩ fun k hk => ?_
    obtain ⟨hk, hall4⟩ := hk
    repeat (first | refine Step.imp ?_ | refine Side.mk (by first | exact True.intro | omega | exact ⟨trivial, rfl⟩ | exact ⟨by omega, trivial, rfl⟩ | exact ⟨by omega, rfl⟩ | exact ⟨by omega, by omega, rfl⟩ | (simp only [List.length_cons, List.length_nil, List.length_append]; done) | (simp only [List.length_cons, List.length_nil, List.length_append]; omega) | decide +kernel) ?_ | refine GDraw_one (by decide +kernel) ?_ | refine New.mk fun _ => ?_ | refine NewS.mk fun _ _ => ?_)
    refine ⟨fun hlt => ?_, fun hge => ?_⟩
    · repeat (first | refine Step.imp ?_ | refine Side.mk (by first | exact True.intro | omega | exact ⟨trivial, rfl⟩ | exact ⟨by omega, trivial, rfl⟩ | exact ⟨by omega, rfl⟩ | exact ⟨by omega, by omega, rfl⟩ | (simp only [List.length_cons, List.length_nil, List.length_append]; done) | (simp only [List.length_cons, List.length_nil, List.length_append]; omega) | decide +kernel) ?_ | refine GDraw_one (by decide +kernel) ?_ | refine New.mk fun _ => ?_ | refine NewS.mk fun _ _ => ?_)
      refine ⟨fun hno => ?_, fun hok => ?_⟩
      · have hb := hbad 4 k 16 (by omega) (by omega) (by decide) (by rw [ck4, ckDeep, if_pos hno]; decide)
        repeat (first | refine Step.imp ?_ | refine Side.mk (by first | exact True.intro | omega | exact ⟨trivial, rfl⟩ | exact ⟨by omega, trivial, rfl⟩ | exact ⟨by omega, rfl⟩ | exact ⟨by omega, by omega, rfl⟩ | (simp only [List.length_cons, List.length_nil, List.length_append]; done) | (simp only [List.length_cons, List.length_nil, List.length_append]; omega) | decide +kernel) ?_ | refine GDraw_one (by decide +kernel) ?_ | refine New.mk fun _ => ?_ | refine NewS.mk fun _ _ => ?_)
        exact Fin.val hb rfl hle2
      · repeat (first | refine Step.imp ?_ | refine Side.mk (by first | exact True.intro | omega | exact ⟨trivial, rfl⟩ | exact ⟨by omega, trivial, rfl⟩ | exact ⟨by omega, rfl⟩ | exact ⟨by omega, by omega, rfl⟩ | (simp only [List.length_cons, List.length_nil, List.length_append]; done) | (simp only [List.length_cons, List.length_nil, List.length_append]; omega) | decide +kernel) ?_ | refine GDraw_one (by decide +kernel) ?_ | refine New.mk fun _ => ?_ | refine NewS.mk fun _ _ => ?_)
        refine X_roundE (k + 1) ⟨by omega, fun j hj => ?_⟩ (by omega) ⟨rfl, rfl, rfl, trivial⟩ inferInstance
        rcases Nat.lt_or_ge j k with h1 | h1
        · exact hall4 j h1
        · have : j = k := by omega
          subst this; rw [ck4, ckDeep, if_neg hok]
    have hk2 : k = nodes.length := by omega
    subst hk2
    have hnone : treeErr nodes = none := treeErr_none hlen fun s hs j hj => by
      have : s = 0 ∨ s = 1 ∨ s = 2 ∨ s = 3 ∨ s = 4 := by omega
      rcases this with rfl | rfl | rfl | rfl | rfl
      · exact hall j hj
      · exact hall1 j hj
      · exact hall2 j hj
      · exact hall3 j hj
      · exact hall4 j hj
    have hfin := hT.2 hnone h2 tb ⟨hle2⟩ hRT
    repeat (first | refine Step.imp ?_ | refine Side.mk (by first | exact True.intro | omega | exact ⟨trivial, rfl⟩ | exact ⟨by omega, trivial, rfl⟩ | exact ⟨by omega, rfl⟩ | exact ⟨by omega, by omega, rfl⟩ | (simp only [List.length_cons, List.length_nil, List.length_append]; done) | (simp only [List.length_cons, List.length_nil, List.length_append]; omega) | decide +kernel) ?_ | refine GDraw_one (by decide +kernel) ?_ | refine New.mk fun _ => ?_ | refine NewS.mk fun _ _ => ?_)
    exact Fin.val hfin rfl hle2⟩
end
end Go.Sl
