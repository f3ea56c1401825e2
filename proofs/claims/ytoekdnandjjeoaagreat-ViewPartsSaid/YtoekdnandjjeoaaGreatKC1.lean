/-
  Facts that the proof is made of (C1).
-/
import Derived.Test.YtoekdnandjjeoaaGreatKD1
import Derived.Test.YtoekdnandjjeoaaGreatKT3
/-
  The space of a catalogue: made.
-/
namespace Go.Sl
open Go.Proofs
set_option linter.unusedVariables false
set_option linter.unusedSimpArgs false
set_option maxRecDepth 10000
set_option synthInstance.maxSize 2000
set_option synthInstance.maxHeartbeats 200000
set_option maxHeartbeats 1000000
/-- The first n of many numbers, and nothing behind. -/
def partF (g : Nat → Int) (n j : Nat) : Int := if j < n then g j else 0
theorem part_succ (g : Nat → Int) (n j : Nat) : partF g (n + 1) j = if n = j then g n else partF g n j := by
  unfold partF
  by_cases h : n = j
  · subst h; simp
  · by_cases h2 : j < n
    · rw [if_pos (by omega), if_neg h, if_pos h2]
    · rw [if_neg (by omega), if_neg h, if_neg h2]
def nodesN (C : Cat) (j : Nat) : Int := (C.dims[j]!).2.length
def leavesN (C : Cat) (j : Nat) : Int := (mkTree (C.dims[j]!).2).leaves.length
def fullF (C : Cat) : Nat → Int := partF (nodesN C) C.dims.length
def lowF (C : Cat) : Nat → Int := partF (leavesN C) C.dims.length
@[reducible] def encP (b : Nat) : List Value := [.pointer (some ⟨b, 0, none⟩)]
instance : EncOne encP := ⟨fun y u hu => by simp at hu; subst hu; rfl⟩
instance {b : Nat} : Mk encP [.pointer (some ⟨b, 0, none⟩)] b := ⟨rfl⟩
class IsSp (h : PHeap) (b : Nat) (C : outParam Cat) : Prop where
  out : ∃ db tv lv tbs lvs ty fr, Pt h b (.cells [.pointer (some ⟨db, 0, none⟩), vI C.meas.length, tv, lv, vI (fullF C 0), vI (fullF C 1), vI (fullF C 2), vI (fullF C 3), vI (lowF C 0), vI (lowF C 1), vI (lowF C 2), vI (lowF C 3)].toArray ty fr) ∧
    IsD h db C ∧ FSl h tv encP 1 tbs ∧ tbs.length = C.dims.length ∧ FSl h lv encV 1 lvs ∧ lvs.length = C.dims.length ∧
    ∀ i < C.dims.length, IsTree h (tbs[i]!) (mkTree (C.dims[i]!).2) ∧ FSl h (lvs[i]!) encI 1 (mkTree (C.dims[i]!).2).leaves
theorem IsSp.mono {h h' : PHeap} {b : Nat} {C : Cat} (hl : Hle h h') (d : IsSp h b C) : IsSp h' b C := ⟨by
  obtain ⟨db, tv, lv, tbs, lvs, ty, fr, h1, h2, h3, h4, h5, h6, h7⟩ := d.out
  exact ⟨db, tv, lv, tbs, lvs, ty, fr, Pt.mono hl h1, h2.mono hl, FSl.mono hl h3, h4, FSl.mono hl h5, h6, fun i hi => ⟨(h7 i hi).1.mono hl, FSl.mono hl (h7 i hi).2⟩⟩⟩
instance (priority := low) {h h' : PHeap} {b : Nat} {C : Cat} [l : Le h h'] [t : IsSp h b C] : IsSp h' b C := t.mono l.le
section
variable {h : PHeap} {C : Cat}
instance coord_new {L : List HP} {db : Nat} [hD : IsD h db C] [ok : OkCat C] : CallX Tryz.prog 11 [.pointer (some ⟨db, 0, none⟩)] h L True
    (fun K => ∀ h' b, Le h h' → IsSp h' b C → K (.tuple [.pointer (some ⟨b, 0, none⟩), vI 0].toArray) h' []) := ⟨fun _ => by
  have hd := ok.dims
  have hm := ok.meas
  refine spec_enter Tryz.func11 rfl Tryz.ntmps11 Tryz.results11 (by simp) fun K R hT => ?_
  repeat' (first | refine Step.imp ?_ | refine Side.mk (by first | exact True.intro | omega | exact ⟨trivial, rfl⟩ | exact ⟨by omega, trivial, rfl⟩ | exact ⟨by omega, rfl⟩ | exact ⟨by omega, by omega, rfl⟩ | (simp only [List.length_cons, List.length_nil, List.length_append]; done) | (simp only [List.length_cons, List.length_nil, List.length_append]; omega) | decide +kernel) ?_ | refine GDraw_one (by decide +kernel) ?_ | refine New.mk fun _ => ?_ | refine NewS.mk fun _ _ => ?_ | refine Ways.mk (fun _ => ?_) (fun _ => ?_))
  all_goals first | (exfalso; contradiction) | skip
  intro h1 dv' mv' ds' le1 hd' hp hm'
  repeat (first | refine Step.imp ?_ | refine Side.mk (by first | exact True.intro | omega | exact ⟨trivial, rfl⟩ | exact ⟨by omega, trivial, rfl⟩ | exact ⟨by omega, rfl⟩ | exact ⟨by omega, by omega, rfl⟩ | (simp only [List.length_cons, List.length_nil, List.length_append]; done) | (simp only [List.length_cons, List.length_nil, List.length_append]; omega) | decide +kernel) ?_ | refine GDraw_one (by decide +kernel) ?_ | refine New.mk fun _ => ?_ | refine NewS.mk fun _ _ => ?_)
  rename_i sb
  refine G_nil encP 1 none ?_
  refine G_nil encV 1 none ?_
  refine G_loop (σ := Nat × PHeap × (Option Addr × Nat) × (Option Addr × Nat) × List Nat × List Value) (fun s => s.1 ≤ C.dims.length ∧ Hle h1 s.2.1 ∧ s.2.2.2.2.1.length = s.1 ∧ s.2.2.2.2.2.length = s.1 ∧
      ∀ j < s.1, IsTree s.2.1 (s.2.2.2.2.1[j]!) (mkTree (C.dims[j]!).2) ∧ FSl s.2.1 (s.2.2.2.2.2[j]!) encI 1 (mkTree (C.dims[j]!).2).leaves) (fun s => C.dims.length - s.1)
    (fun s => [(18, vI s.1), (17, vI C.dims.length), (0, .pointer (some ⟨db, 0, none⟩)), (4, .pointer (some ⟨sb, 0, none⟩))]) (fun s => s.2.1)
    (fun s => slo encV 1 (.slice s.2.2.2.1.1 s.2.2.2.2.2.length s.2.2.2.1.2) s.2.2.2.2.2 :: slo encP 1 (.slice s.2.2.1.1 s.2.2.2.2.1.length s.2.2.1.2) s.2.2.2.2.1 ::
      blk sb (.cells [.pointer (some ⟨db, 0, none⟩), vI C.meas.length, .slice s.2.2.1.1 s.2.2.2.2.1.length s.2.2.1.2, .slice s.2.2.2.1.1 s.2.2.2.2.2.length s.2.2.2.1.2,
        vI (partF (nodesN C) s.1 0), vI (partF (nodesN C) s.1 1), vI (partF (nodesN C) s.1 2), vI (partF (nodesN C) s.1 3), vI (partF (leavesN C) s.1 0), vI (partF (leavesN C) s.1 1), vI (partF (leavesN C) s.1 2), vI (partF (leavesN C) s.1 3)].toArray 115 (0, 0)) :: (L ++ R))
    (0, h1, (none, 0), (none, 0), [], []) ⟨by omega, Hle.refl h1, rfl, rfl, fun j hj => by omega⟩ ⟨rfl, rfl, rfl, rfl, trivial⟩ rfl ?_ ?_
  · simp only [partF, Nat.not_lt_zero, if_false, List.length_nil]
    infer_instance
  rintro ⟨i, h2, ⟨ta, tc⟩, ⟨la, lc⟩, tbs, lvs⟩ ⟨hi, hl2, htl, hll, hall⟩
  simp only at hi hl2 htl hll hall ⊢
  haveI le2 : Le h1 h2 := ⟨hl2⟩
  repeat (first | refine Step.imp ?_ | refine Side.mk (by first | exact True.intro | omega | exact ⟨trivial, rfl⟩ | exact ⟨by omega, trivial, rfl⟩ | exact ⟨by omega, rfl⟩ | exact ⟨by omega, by omega, rfl⟩ | (simp only [List.length_cons, List.length_nil, List.length_append]; done) | (simp only [List.length_cons, List.length_nil, List.length_append]; omega) | decide +kernel) ?_ | refine GDraw_one (by decide +kernel) ?_ | refine New.mk fun _ => ?_ | refine NewS.mk fun _ _ => ?_)
  refine ⟨fun hlt => ?_, fun hge => ?_⟩
  · have hok := ok.trees i (by omega)
    have htl4 : tbs.length ≤ 4 := by omega
    have hll4 : lvs.length ≤ 4 := by omega
    have hsm := tree_small hok.2
    repeat (first | refine Step.imp ?_ | refine Side.mk (by first | exact True.intro | omega | exact ⟨trivial, rfl⟩ | exact ⟨by omega, trivial, rfl⟩ | exact ⟨by omega, rfl⟩ | exact ⟨by omega, by omega, rfl⟩ | (simp only [List.length_cons, List.length_nil, List.length_append]; done) | (simp only [List.length_cons, List.length_nil, List.length_append]; omega) | decide +kernel) ?_ | refine GDraw_one (by decide +kernel) ?_ | refine New.mk fun _ => ?_ | refine NewS.mk fun _ _ => ?_)
    intro tb htree
    repeat (first | refine GDraw_O (.slice la lvs.length lc) (by decide +kernel) ?_ | refine Step.imp ?_ | refine Side.mk (by first | exact True.intro | omega | exact ⟨trivial, rfl⟩ | exact ⟨by omega, trivial, rfl⟩ | exact ⟨by omega, rfl⟩ | exact ⟨by omega, by omega, rfl⟩ | (simp only [List.length_cons, List.length_nil, List.length_append]; done) | (simp only [List.length_cons, List.length_nil, List.length_append]; omega) | decide +kernel) ?_ | refine GDraw_one (by decide +kernel) ?_ | refine New.mk fun _ => ?_ | refine NewS.mk fun _ _ => ?_)
    rename_i b1 ta1 tc1
    intro va vc
    repeat (first | refine Step.imp ?_ | refine Side.mk (by first | exact True.intro | omega | exact ⟨trivial, rfl⟩ | exact ⟨by omega, trivial, rfl⟩ | exact ⟨by omega, rfl⟩ | exact ⟨by omega, by omega, rfl⟩ | (simp only [List.length_cons, List.length_nil, List.length_append]; done) | (simp only [List.length_cons, List.length_nil, List.length_append]; omega) | decide +kernel) ?_ | refine GDraw_one (by decide +kernel) ?_ | refine New.mk fun _ => ?_ | refine NewS.mk fun _ _ => ?_)
    have hv : (lvs ++ [Value.slice va (mkTree (C.dims[i]!).2).leaves.length vc])[i]! = .slice va (mkTree (C.dims[i]!).2).leaves.length vc := by
      rw [getElem!_pos _ i (by simp; omega), List.getElem_append_right (by omega)]; simp [hll]
    rw [hv]
    repeat (first | refine Step.imp ?_ | refine Side.mk (by first | exact True.intro | omega | exact ⟨trivial, rfl⟩ | exact ⟨by omega, trivial, rfl⟩ | exact ⟨by omega, rfl⟩ | exact ⟨by omega, by omega, rfl⟩ | (simp only [List.length_cons, List.length_nil, List.length_append]; done) | (simp only [List.length_cons, List.length_nil, List.length_append]; omega) | decide +kernel) ?_ | refine GDraw_one (by decide +kernel) ?_ | refine New.mk fun _ => ?_ | refine NewS.mk fun _ _ => ?_)
    refine X_freezeS (.slice va (mkTree (C.dims[i]!).2).leaves.length vc) fun h3 le3 f3 => ?_
    rename_i b2 la1 lc1
    refine X_round (i + 1, h3, (ta1, tc1), (la1, lc1), tbs ++ [tb], lvs ++ [.slice va (mkTree (C.dims[i]!).2).leaves.length vc]) ?_ ?_ ?_ ?_ ?_
    · refine ⟨by show i + 1 ≤ C.dims.length; omega, hl2.trans le3.le, by simp [htl], by simp [hll], fun j hj => ?_⟩
      show IsTree h3 ((tbs ++ [tb])[j]!) _ ∧ FSl h3 ((lvs ++ [.slice va (mkTree (C.dims[i]!).2).leaves.length vc])[j]!) encI 1 _
      have hj : j < i + 1 := hj
      rw [getElem!_pos (tbs ++ [tb]) j (by simp; omega), getElem!_pos (lvs ++ [_]) j (by simp; omega)]
      rcases Nat.lt_or_ge j i with hji | hji
      · rw [List.getElem_append_left (by omega), List.getElem_append_left (by omega)]
        have := hall j hji
        rw [getElem!_pos tbs j (by omega), getElem!_pos lvs j (by omega)] at this
        exact ⟨this.1.mono le3.le, FSl.mono le3.le this.2⟩
      · have : j = i := by omega
        subst this
        rw [List.getElem_append_right (by omega), List.getElem_append_right (by omega)]
        simp only [htl, hll, Nat.sub_self, List.getElem_cons_zero]
        exact ⟨htree.mono le3.le, f3⟩
    · show C.dims.length - (i + 1) < C.dims.length - i
      omega
    · exact ⟨rfl, rfl, rfl, rfl, trivial⟩
    · rfl
    · simp only [part_succ, List.length_append, List.length_cons, List.length_nil, Nat.zero_add]
      rw [show nodesN C i = ((mkTree (C.dims[i]!).2).nodes.length : Int) from rfl, show leavesN C i = ((mkTree (C.dims[i]!).2).leaves.length : Int) from rfl]
      infer_instance
  · have hi2 : i = C.dims.length := by omega
    subst hi2
    refine G_freezeB sb fun h3 le3 f3 => ?_
    refine G_freezeS (.slice ta tbs.length tc) fun h4 le4 f4 => ?_
    refine G_freezeS (.slice la lvs.length lc) fun h5 le5 f5 => ?_
    have hle := le1.le.trans (hl2.trans (le3.le.trans (le4.le.trans le5.le)))
    have hl25 := le3.le.trans (le4.le.trans le5.le)
    have hS : IsSp h5 sb C := ⟨db, _, _, tbs, lvs, _, _, Pt.mono (le4.le.trans le5.le) f3, hD.mono hle, FSl.mono le5.le f4, htl, f5, hll, fun i hi => ⟨(hall i hi).1.mono hl25, FSl.mono hl25 (hall i hi).2⟩⟩
    have hfin := hT h5 sb ⟨hle⟩ hS
    repeat (first | refine Step.imp ?_ | refine Side.mk (by first | exact True.intro | omega | exact ⟨trivial, rfl⟩ | exact ⟨by omega, trivial, rfl⟩ | exact ⟨by omega, rfl⟩ | exact ⟨by omega, by omega, rfl⟩ | (simp only [List.length_cons, List.length_nil, List.length_append]; done) | (simp only [List.length_cons, List.length_nil, List.length_append]; omega) | decide +kernel) ?_ | refine GDraw_one (by decide +kernel) ?_ | refine New.mk fun _ => ?_ | refine NewS.mk fun _ _ => ?_)
    exact Fin.val hfin rfl hle⟩
end
end Go.Sl

/-
  The space of a catalogue: numbers of cells, there and back.
-/
namespace Go.Sl
open Go.Proofs
set_option linter.unusedVariables false
set_option linter.unusedSimpArgs false
set_option maxRecDepth 10000
set_option synthInstance.maxSize 2000
set_option synthInstance.maxHeartbeats 200000
set_option maxHeartbeats 1000000
def allF (C : Cat) (o : Nat → Int) : Nat → Int
  | 0 => C.meas.length
  | n + 1 => allF C o n * o n
def packF (m : Int) (p o : Nat → Int) : Nat → Int
  | 0 => m
  | n + 1 => packF m p o n * o n + p n
def quoF (o : Nat → Int) (n : Int) (d : Nat) : Nat → Int
  | 0 => n
  | j + 1 => quoF o n d j / o (d - 1 - j)
def remF (o : Nat → Int) (n : Int) (d i : Nat) : Int := quoF o n d (d - 1 - i) % o i
def plF (o : Nat → Int) (n : Int) (d j i : Nat) : Int := if d - j ≤ i ∧ i < d then remF o n d i else 0
theorem plF_zero (o : Nat → Int) (n : Int) (d i : Nat) : plF o n d 0 i = 0 := by unfold plF; rw [if_neg (by omega)]
theorem plF_succ (o : Nat → Int) (n : Int) (d j i : Nat) (h : j < d) : plF o n d (j + 1) i = if d - 1 - j = i then quoF o n d j % o (d - 1 - j) else plF o n d j i := by
  unfold plF remF
  by_cases e : d - 1 - j = i
  · rw [if_pos e, if_pos (by omega), ← e, show d - 1 - (d - 1 - j) = j by omega]
  · rw [if_neg e]
    by_cases h2 : d - j ≤ i ∧ i < d
    · rw [if_pos h2, if_pos (by omega)]
    · rw [if_neg h2, if_neg (by omega)]
theorem get4_fun (f : Nat → Int) {k : Nat} (h : k < 4) : get4 (f 0) (f 1) (f 2) (f 3) k = f k := by
  have : k = 0 ∨ k = 1 ∨ k = 2 ∨ k = 3 := by omega
  rcases this with rfl | rfl | rfl | rfl <;> rfl
theorem quoF_nonneg {o : Nat → Int} {n : Int} {d : Nat} (hn : 0 ≤ n) (ho : ∀ k < d, 0 < o k) : ∀ j ≤ d, 0 ≤ quoF o n d j ∧ quoF o n d j ≤ n
  | 0, _ => ⟨hn, Int.le_refl _⟩
  | j + 1, h => by
    have ih := quoF_nonneg hn ho j (by omega)
    have h1 := ho (d - 1 - j) (by omega)
    simp only [quoF]
    exact ⟨Int.ediv_nonneg ih.1 (by omega), Int.le_trans (Int.ediv_le_self _ ih.1) ih.2⟩
theorem pack_lt {C : Cat} {m : Int} {p o : Nat → Int} {d : Nat} (hm : 0 ≤ m ∧ m < C.meas.length) (hp : ∀ k < d, 0 ≤ p k ∧ p k < o k) : ∀ k ≤ d, 0 ≤ packF m p o k ∧ packF m p o k < allF C o k
  | 0, _ => hm
  | k + 1, h => by
    have ih := pack_lt hm hp k (by omega)
    have h1 := hp k (by omega)
    simp only [packF, allF]
    have h2 : 0 ≤ packF m p o k * o k := Int.mul_nonneg ih.1 (by omega)
    have h3 : (packF m p o k + 1) * o k ≤ allF C o k * o k := Int.mul_le_mul_of_nonneg_right (by omega) (by omega)
    rw [Int.add_mul] at h3
    omega
section
variable {h : PHeap} {sb : Nat} {C : Cat}
instance space_all {o0 o1 o2 o3 : Int} [hS : IsSp h sb C] [ok : OkCat C] : CallV Tryz.prog 50 [.pointer (some ⟨sb, 0, none⟩), .agg [vI o0, vI o1, vI o2, vI o3].toArray] h (∀ k ≤ C.dims.length, 0 ≤ allF C (get4 o0 o1 o2 o3) k ∧ allF C (get4 o0 o1 o2 o3) k ≤ 9223372036854775807) (vI (allF C (get4 o0 o1 o2 o3) C.dims.length)) := ⟨fun hb => by
  obtain ⟨db, tv, lv, tbs, lvs, ty, fr, h1, h2, h3, h4, h5, h6, h7⟩ := hS.out
  have hd := ok.dims
  refine spec_enter Tryz.func50 rfl Tryz.ntmps50 Tryz.results50 (by simp) fun K R hT => ?_
  repeat (first | refine Step.imp ?_ | refine Side.mk (by first | exact True.intro | omega | exact ⟨trivial, rfl⟩ | exact ⟨by omega, trivial, rfl⟩ | exact ⟨by omega, rfl⟩ | exact ⟨by omega, by omega, rfl⟩ | (simp only [List.length_cons, List.length_nil, List.length_append]; done) | (simp only [List.length_cons, List.length_nil, List.length_append]; omega) | decide +kernel) ?_ | refine GDraw_one (by decide +kernel) ?_ | refine New.mk fun _ => ?_ | refine NewS.mk fun _ _ => ?_)
  rename_i ob
  refine G_loopE (σ := Nat) (fun k => k ≤ tbs.length) (fun k => tbs.length - k) (fun k => [(16, vI k), (15, vI tbs.length), (5, vI (allF C (get4 o0 o1 o2 o3) k)), (3, .pointer (some ⟨ob, 0, none⟩))]) 0 (by omega) ⟨rfl, rfl, rfl, rfl, trivial⟩ ?_
  intro k hk
  repeat (first | refine Step.imp ?_ | refine Side.mk (by first | exact True.intro | omega | exact ⟨trivial, rfl⟩ | exact ⟨by omega, trivial, rfl⟩ | exact ⟨by omega, rfl⟩ | exact ⟨by omega, by omega, rfl⟩ | (simp only [List.length_cons, List.length_nil, List.length_append]; done) | (simp only [List.length_cons, List.length_nil, List.length_append]; omega) | decide +kernel) ?_ | refine GDraw_one (by decide +kernel) ?_ | refine New.mk fun _ => ?_ | refine NewS.mk fun _ _ => ?_)
  refine ⟨fun hlt => ?_, fun hge => ?_⟩
  · have hbk := hb (k + 1) (by omega)
    simp only [allF] at hbk
    repeat (first | refine Step.imp ?_ | refine Side.mk (by first | exact True.intro | omega | exact ⟨trivial, rfl⟩ | exact ⟨by omega, trivial, rfl⟩ | exact ⟨by omega, rfl⟩ | exact ⟨by omega, by omega, rfl⟩ | (simp only [List.length_cons, List.length_nil, List.length_append]; done) | (simp only [List.length_cons, List.length_nil, List.length_append]; omega) | decide +kernel) ?_ | refine GDraw_one (by decide +kernel) ?_ | refine New.mk fun _ => ?_ | refine NewS.mk fun _ _ => ?_)
    refine X_roundE (k + 1) ?_ ?_ ?_ ?_
    · show k + 1 ≤ tbs.length
      omega
    · show tbs.length - (k + 1) < tbs.length - k
      omega
    · exact ⟨rfl, rfl, rfl, rfl, trivial⟩
    · infer_instance
  · have : k = C.dims.length := by omega
    subst this
    repeat (first | refine Step.imp ?_ | refine Side.mk (by first | exact True.intro | omega | exact ⟨trivial, rfl⟩ | exact ⟨by omega, trivial, rfl⟩ | exact ⟨by omega, rfl⟩ | exact ⟨by omega, by omega, rfl⟩ | (simp only [List.length_cons, List.length_nil, List.length_append]; done) | (simp only [List.length_cons, List.length_nil, List.length_append]; omega) | decide +kernel) ?_ | refine GDraw_one (by decide +kernel) ?_ | refine New.mk fun _ => ?_ | refine NewS.mk fun _ _ => ?_)
    exact Fin.val hT rfl (Hle.refl _)⟩
instance space_pack {m p0 p1 p2 p3 o0 o1 o2 o3 : Int} [hS : IsSp h sb C] [ok : OkCat C] : CallV Tryz.prog 115 [.pointer (some ⟨sb, 0, none⟩), vI m, .agg [vI p0, vI p1, vI p2, vI p3].toArray, .agg [vI o0, vI o1, vI o2, vI o3].toArray] h
    (∀ k < C.dims.length, 0 ≤ packF m (get4 p0 p1 p2 p3) (get4 o0 o1 o2 o3) k * get4 o0 o1 o2 o3 k ∧ packF m (get4 p0 p1 p2 p3) (get4 o0 o1 o2 o3) k * get4 o0 o1 o2 o3 k ≤ 9223372036854775807 ∧ 0 ≤ packF m (get4 p0 p1 p2 p3) (get4 o0 o1 o2 o3) (k + 1) ∧ packF m (get4 p0 p1 p2 p3) (get4 o0 o1 o2 o3) (k + 1) ≤ 9223372036854775807)
    (vI (packF m (get4 p0 p1 p2 p3) (get4 o0 o1 o2 o3) C.dims.length)) := ⟨fun hb => by
  obtain ⟨db, tv, lv, tbs, lvs, ty, fr, h1, h2, h3, h4, h5, h6, h7⟩ := hS.out
  have hd := ok.dims
  refine spec_enter Tryz.func115 rfl Tryz.ntmps115 Tryz.results115 (by simp) fun K R hT => ?_
  repeat (first | refine Step.imp ?_ | refine Side.mk (by first | exact True.intro | omega | exact ⟨trivial, rfl⟩ | exact ⟨by omega, trivial, rfl⟩ | exact ⟨by omega, rfl⟩ | exact ⟨by omega, by omega, rfl⟩ | (simp only [List.length_cons, List.length_nil, List.length_append]; done) | (simp only [List.length_cons, List.length_nil, List.length_append]; omega) | decide +kernel) ?_ | refine GDraw_one (by decide +kernel) ?_ | refine New.mk fun _ => ?_ | refine NewS.mk fun _ _ => ?_)
  rename_i pb ob
  refine G_loopE (σ := Nat) (fun k => k ≤ tbs.length) (fun k => tbs.length - k) (fun k => [(17, vI k), (16, vI tbs.length), (9, vI (packF m (get4 p0 p1 p2 p3) (get4 o0 o1 o2 o3) k)), (6, .pointer (some ⟨pb, 0, none⟩)), (7, .pointer (some ⟨ob, 0, none⟩))]) 0 (by omega) ⟨rfl, rfl, rfl, rfl, rfl, trivial⟩ ?_
  intro k hk
  repeat (first | refine Step.imp ?_ | refine Side.mk (by first | exact True.intro | omega | exact ⟨trivial, rfl⟩ | exact ⟨by omega, trivial, rfl⟩ | exact ⟨by omega, rfl⟩ | exact ⟨by omega, by omega, rfl⟩ | (simp only [List.length_cons, List.length_nil, List.length_append]; done) | (simp only [List.length_cons, List.length_nil, List.length_append]; omega) | decide +kernel) ?_ | refine GDraw_one (by decide +kernel) ?_ | refine New.mk fun _ => ?_ | refine NewS.mk fun _ _ => ?_)
  refine ⟨fun hlt => ?_, fun hge => ?_⟩
  · have hbk := hb k (by omega)
    simp only [packF] at hbk
    repeat (first | refine Step.imp ?_ | refine Side.mk (by first | exact True.intro | omega | exact ⟨trivial, rfl⟩ | exact ⟨by omega, trivial, rfl⟩ | exact ⟨by omega, rfl⟩ | exact ⟨by omega, by omega, rfl⟩ | (simp only [List.length_cons, List.length_nil, List.length_append]; done) | (simp only [List.length_cons, List.length_nil, List.length_append]; omega) | decide +kernel) ?_ | refine GDraw_one (by decide +kernel) ?_ | refine New.mk fun _ => ?_ | refine NewS.mk fun _ _ => ?_)
    refine X_roundE (k + 1) ?_ ?_ ?_ ?_
    · show k + 1 ≤ tbs.length
      omega
    · show tbs.length - (k + 1) < tbs.length - k
      omega
    · exact ⟨rfl, rfl, rfl, rfl, rfl, trivial⟩
    · infer_instance
  · have : k = C.dims.length := by omega
    subst this
    repeat (first | refine Step.imp ?_ | refine Side.mk (by first | exact True.intro | omega | exact ⟨trivial, rfl⟩ | exact ⟨by omega, trivial, rfl⟩ | exact ⟨by omega, rfl⟩ | exact ⟨by omega, by omega, rfl⟩ | (simp only [List.length_cons, List.length_nil, List.length_append]; done) | (simp only [List.length_cons, List.length_nil, List.length_append]; omega) | decide +kernel) ?_ | refine GDraw_one (by decide +kernel) ?_ | refine New.mk fun _ => ?_ | refine NewS.mk fun _ _ => ?_)
    exact Fin.val hT rfl (Hle.refl _)⟩
instance space_unpack {L : List HP} {n o0 o1 o2 o3 : Int} [hS : IsSp h sb C] [ok : OkCat C] : CallX Tryz.prog 107 [.pointer (some ⟨sb, 0, none⟩), vI n, .agg [vI o0, vI o1, vI o2, vI o3].toArray] h L
    ((∀ k ≤ C.dims.length, 0 ≤ allF C (get4 o0 o1 o2 o3) k ∧ allF C (get4 o0 o1 o2 o3) k ≤ 9223372036854775807) ∧ ((0 ≤ n ∧ n < allF C (get4 o0 o1 o2 o3) C.dims.length) → ∀ k < C.dims.length, 0 < get4 o0 o1 o2 o3 k))
    (fun K => (¬ (0 ≤ n ∧ n < allF C (get4 o0 o1 o2 o3) C.dims.length) → K (.tuple [vI 0, .agg [vI 0, vI 0, vI 0, vI 0].toArray, .bool false].toArray) h []) ∧
      ((0 ≤ n ∧ n < allF C (get4 o0 o1 o2 o3) C.dims.length) → K (.tuple [vI (quoF (get4 o0 o1 o2 o3) n C.dims.length C.dims.length), .agg [vI (plF (get4 o0 o1 o2 o3) n C.dims.length C.dims.length 0), vI (plF (get4 o0 o1 o2 o3) n C.dims.length C.dims.length 1), vI (plF (get4 o0 o1 o2 o3) n C.dims.length C.dims.length 2), vI (plF (get4 o0 o1 o2 o3) n C.dims.length C.dims.length 3)].toArray, .bool true].toArray) h [])) := ⟨fun ⟨hb, ho⟩ => by
  have hS' := hS
  obtain ⟨db, tv, lv, tbs, lvs, ty, fr, h1, h2, h3, h4, h5, h6, h7⟩ := hS'.out
  have hd := ok.dims
  have hbd := hb C.dims.length (Nat.le_refl _)
  refine spec_enter Tryz.func107 rfl Tryz.ntmps107 Tryz.results107 (by simp) fun K R hT => ?_
  by_cases hin : 0 ≤ n ∧ n < allF C (get4 o0 o1 o2 o3) C.dims.length
  · have hfin := hT.2 hin
    have ho := ho hin
    repeat' (first | refine Step.imp ?_ | refine Side.mk (by first | exact True.intro | omega | exact ⟨trivial, rfl⟩ | exact ⟨by omega, trivial, rfl⟩ | exact ⟨by omega, rfl⟩ | exact ⟨by omega, by omega, rfl⟩ | (simp only [List.length_cons, List.length_nil, List.length_append]; done) | (simp only [List.length_cons, List.length_nil, List.length_append]; omega) | decide +kernel) ?_ | refine GDraw_one (by decide +kernel) ?_ | refine New.mk fun _ => ?_ | refine NewS.mk fun _ _ => ?_ | refine Ways.mk (fun _ => ?_) (fun _ => ?_))
    all_goals first | (exfalso; omega) | (refine Side.mk hb ?_) | skip
    all_goals repeat' (first | refine Step.imp ?_ | refine Side.mk (by first | exact True.intro | omega | exact ⟨trivial, rfl⟩ | exact ⟨by omega, trivial, rfl⟩ | exact ⟨by omega, rfl⟩ | exact ⟨by omega, by omega, rfl⟩ | (simp only [List.length_cons, List.length_nil, List.length_append]; done) | (simp only [List.length_cons, List.length_nil, List.length_append]; omega) | decide +kernel) ?_ | refine GDraw_one (by decide +kernel) ?_ | refine New.mk fun _ => ?_ | refine NewS.mk fun _ _ => ?_ | refine Ways.mk (fun _ => ?_) (fun _ => ?_))
    all_goals first | (exfalso; omega) | skip
    rename_i ob rb pb _ _
    refine G_loop (σ := Nat) (fun j => j ≤ C.dims.length) (fun j => C.dims.length - j) (fun j => [(10, vI ((C.dims.length : Int) - 1 - j)), (1, vI (quoF (get4 o0 o1 o2 o3) n C.dims.length j)), (5, .pointer (some ⟨ob, 0, none⟩)), (7, .pointer (some ⟨rb, 0, none⟩)), (9, .pointer (some ⟨pb, 0, none⟩))]) (fun _ => h)
      (fun j => blk pb (.cells [vI (plF (get4 o0 o1 o2 o3) n C.dims.length j 0), vI (plF (get4 o0 o1 o2 o3) n C.dims.length j 1), vI (plF (get4 o0 o1 o2 o3) n C.dims.length j 2), vI (plF (get4 o0 o1 o2 o3) n C.dims.length j 3)].toArray 113 (0, 0)) ::
        blk rb (.cells [vI 0, vI 0, vI 0, vI 0].toArray 113 (0, 0)) :: blk ob (.cells [vI o0, vI o1, vI o2, vI o3].toArray 113 (0, 0)) :: (L ++ R)) 0 (by omega) ?_ rfl ?_ ?_
    · refine ⟨?_, rfl, rfl, rfl, rfl, trivial⟩
      simp only [h4]; simp [lk]
    · simp only [plF_zero]
      infer_instance
    intro j hj
    have hq := quoF_nonneg hin.1 ho j hj
    repeat (first | refine Step.imp ?_ | refine Side.mk (by first | exact True.intro | omega | exact ⟨trivial, rfl⟩ | exact ⟨by omega, trivial, rfl⟩ | exact ⟨by omega, rfl⟩ | exact ⟨by omega, by omega, rfl⟩ | (simp only [List.length_cons, List.length_nil, List.length_append]; done) | (simp only [List.length_cons, List.length_nil, List.length_append]; omega) | decide +kernel) ?_ | refine GDraw_one (by decide +kernel) ?_ | refine New.mk fun _ => ?_ | refine NewS.mk fun _ _ => ?_)
    refine ⟨fun hge => ?_, fun hlt => ?_⟩
    · have hji : (C.dims.length : Int) - 1 - j = ((C.dims.length - 1 - j : Nat) : Int) := by omega
      have ho1 := ho (C.dims.length - 1 - j) (by omega)
      have ho4 : C.dims.length - 1 - j < 4 := by omega
      rw [hji]
      repeat (first | refine Step.imp ?_ | refine Side.mk (by first | exact True.intro | omega | exact ⟨trivial, rfl⟩ | exact ⟨by omega, trivial, rfl⟩ | exact ⟨by omega, rfl⟩ | exact ⟨by omega, by omega, rfl⟩ | (simp only [List.length_cons, List.length_nil, List.length_append]; done) | (simp only [List.length_cons, List.length_nil, List.length_append]; omega) | decide +kernel) ?_ | refine GDraw_one (by decide +kernel) ?_ | refine New.mk fun _ => ?_ | refine NewS.mk fun _ _ => ?_)
      refine X_round (j + 1) ?_ ?_ ?_ ?_ ?_
      · show j + 1 ≤ C.dims.length
        omega
      · show C.dims.length - (j + 1) < C.dims.length - j
        omega
      · refine ⟨?_, rfl, rfl, rfl, rfl, trivial⟩
        have : (C.dims.length : Int) - 1 - ((j + 1 : Nat) : Int) = ((C.dims.length - 1 - j : Nat) : Int) - 1 := by omega
        rw [this]
      · rfl
      · simp only [plF_succ _ _ _ j _ (show j < C.dims.length by omega)]
        infer_instance
    · have : j = C.dims.length := by omega
      subst this
      repeat (first | refine Step.imp ?_ | refine Side.mk (by first | exact True.intro | omega | exact ⟨trivial, rfl⟩ | exact ⟨by omega, trivial, rfl⟩ | exact ⟨by omega, rfl⟩ | exact ⟨by omega, by omega, rfl⟩ | (simp only [List.length_cons, List.length_nil, List.length_append]; done) | (simp only [List.length_cons, List.length_nil, List.length_append]; omega) | decide +kernel) ?_ | refine GDraw_one (by decide +kernel) ?_ | refine New.mk fun _ => ?_ | refine NewS.mk fun _ _ => ?_)
      exact Fin.val hfin rfl (Hle.refl _)
  · have hfin := hT.1 hin
    repeat' (first | refine Step.imp ?_ | refine Side.mk (by first | exact True.intro | omega | exact ⟨trivial, rfl⟩ | exact ⟨by omega, trivial, rfl⟩ | exact ⟨by omega, rfl⟩ | exact ⟨by omega, by omega, rfl⟩ | (simp only [List.length_cons, List.length_nil, List.length_append]; done) | (simp only [List.length_cons, List.length_nil, List.length_append]; omega) | decide +kernel) ?_ | refine GDraw_one (by decide +kernel) ?_ | refine New.mk fun _ => ?_ | refine NewS.mk fun _ _ => ?_ | refine Ways.mk (fun _ => ?_) (fun _ => ?_))
    all_goals first | exact Fin.val hfin rfl (Hle.refl _) | (refine Side.mk hb ?_) | skip
    all_goals repeat' (first | refine Step.imp ?_ | refine Side.mk (by first | exact True.intro | omega | exact ⟨trivial, rfl⟩ | exact ⟨by omega, trivial, rfl⟩ | exact ⟨by omega, rfl⟩ | exact ⟨by omega, by omega, rfl⟩ | (simp only [List.length_cons, List.length_nil, List.length_append]; done) | (simp only [List.length_cons, List.length_nil, List.length_append]; omega) | decide +kernel) ?_ | refine GDraw_one (by decide +kernel) ?_ | refine New.mk fun _ => ?_ | refine NewS.mk fun _ _ => ?_ | refine Ways.mk (fun _ => ?_) (fun _ => ?_))
    all_goals first | exact Fin.val hfin rfl (Hle.refl _) | (exfalso; omega)⟩
/-! ### What the sizes come to -/
theorem fullF_eq {C : Cat} {k : Nat} (hd : C.dims.length ≤ 4) (hk : k < C.dims.length) : get4 (fullF C 0) (fullF C 1) (fullF C 2) (fullF C 3) k = nodesN C k := by
  rw [get4_fun (fullF C) (by omega)]; unfold fullF partF; rw [if_pos hk]
theorem lowF_eq {C : Cat} {k : Nat} (hd : C.dims.length ≤ 4) (hk : k < C.dims.length) : get4 (lowF C 0) (lowF C 1) (lowF C 2) (lowF C 3) k = leavesN C k := by
  rw [get4_fun (lowF C) (by omega)]; unfold lowF partF; rw [if_pos hk]
theorem all_full {C : Cat} (hd : C.dims.length ≤ 4) : ∀ k ≤ C.dims.length, allF C (get4 (fullF C 0) (fullF C 1) (fullF C 2) (fullF C 3)) k = cellsF C k
  | 0, _ => rfl
  | k + 1, h => by simp only [allF, cellsF]; rw [all_full hd k (by omega), fullF_eq hd (by omega)]; rfl
theorem all_low {C : Cat} (hd : C.dims.length ≤ 4) : ∀ k ≤ C.dims.length, allF C (get4 (lowF C 0) (lowF C 1) (lowF C 2) (lowF C 3)) k = leavesF C k
  | 0, _ => rfl
  | k + 1, h => by simp only [allF, leavesF]; rw [all_low hd k (by omega), lowF_eq hd (by omega)]; rfl
theorem cells_bound {C : Cat} (ok : OkCat C) : ∀ k ≤ C.dims.length, 0 ≤ cellsF C k ∧ cellsF C k ≤ 4294967296 := fun k hk => by
  have h1 := cellsF_le C ok.meas.2 k (fun i hi => (ok.trees i (by omega)).2)
  have h2 := pow4 (n := k) (by have := ok.dims; omega)
  omega
theorem leaves_bound {C : Cat} (ok : OkCat C) : ∀ k ≤ C.dims.length, 0 ≤ leavesF C k ∧ leavesF C k ≤ 4294967296 := fun k hk => by
  have h1 := leavesF_le C ok.meas.2 k (fun i hi => (ok.trees i (by omega)).2)
  have h2 := pow4 (n := k) (by have := ok.dims; omega)
  omega
instance space_leaves [hS : IsSp h sb C] [ok : OkCat C] : CallV Tryz.prog 15 [.pointer (some ⟨sb, 0, none⟩)] h True (vI (leavesF C C.dims.length)) := ⟨fun _ => by
  have hS' := hS
  obtain ⟨db, tv, lv, tbs, lvs, ty, fr, h1, h2, h3, h4, h5, h6, h7⟩ := hS'.out
  have hd := ok.dims
  have hb : ∀ k ≤ C.dims.length, 0 ≤ allF C (get4 (lowF C 0) (lowF C 1) (lowF C 2) (lowF C 3)) k ∧ allF C (get4 (lowF C 0) (lowF C 1) (lowF C 2) (lowF C 3)) k ≤ 9223372036854775807 := fun k hk => by
    rw [all_low hd.2 k hk]; have := leaves_bound ok k hk; omega
  refine spec_enter Tryz.func15 rfl Tryz.ntmps15 Tryz.results15 (by simp) fun K R hT => ?_
  repeat' (first | refine Step.imp ?_ | refine Side.mk (by first | exact True.intro | omega | exact ⟨trivial, rfl⟩ | exact ⟨by omega, trivial, rfl⟩ | exact ⟨by omega, rfl⟩ | exact ⟨by omega, by omega, rfl⟩ | (simp only [List.length_cons, List.length_nil, List.length_append]; done) | (simp only [List.length_cons, List.length_nil, List.length_append]; omega) | decide +kernel) ?_ | refine GDraw_one (by decide +kernel) ?_ | refine New.mk fun _ => ?_ | refine NewS.mk fun _ _ => ?_ | refine Ways.mk (fun _ => ?_) (fun _ => ?_))
  all_goals first | (exfalso; contradiction) | (refine Side.mk hb ?_) | skip
  repeat (first | refine Step.imp ?_ | refine Side.mk (by first | exact True.intro | omega | exact ⟨trivial, rfl⟩ | exact ⟨by omega, trivial, rfl⟩ | exact ⟨by omega, rfl⟩ | exact ⟨by omega, by omega, rfl⟩ | (simp only [List.length_cons, List.length_nil, List.length_append]; done) | (simp only [List.length_cons, List.length_nil, List.length_append]; omega) | decide +kernel) ?_ | refine GDraw_one (by decide +kernel) ?_ | refine New.mk fun _ => ?_ | refine NewS.mk fun _ _ => ?_)
  exact Fin.val hT (by rw [all_low hd.2 _ (Nat.le_refl _)]) (Hle.refl _)⟩
instance space_cells [hS : IsSp h sb C] [ok : OkCat C] : CallV Tryz.prog 68 [.pointer (some ⟨sb, 0, none⟩)] h True (vI (cellsF C C.dims.length)) := ⟨fun _ => by
  have hS' := hS
  obtain ⟨db, tv, lv, tbs, lvs, ty, fr, h1, h2, h3, h4, h5, h6, h7⟩ := hS'.out
  have hd := ok.dims
  have hb : ∀ k ≤ C.dims.length, 0 ≤ allF C (get4 (fullF C 0) (fullF C 1) (fullF C 2) (fullF C 3)) k ∧ allF C (get4 (fullF C 0) (fullF C 1) (fullF C 2) (fullF C 3)) k ≤ 9223372036854775807 := fun k hk => by
    rw [all_full hd.2 k hk]; have := cells_bound ok k hk; omega
  refine spec_enter Tryz.func68 rfl Tryz.ntmps68 Tryz.results68 (by simp) fun K R hT => ?_
  repeat' (first | refine Step.imp ?_ | refine Side.mk (by first | exact True.intro | omega | exact ⟨trivial, rfl⟩ | exact ⟨by omega, trivial, rfl⟩ | exact ⟨by omega, rfl⟩ | exact ⟨by omega, by omega, rfl⟩ | (simp only [List.length_cons, List.length_nil, List.length_append]; done) | (simp only [List.length_cons, List.length_nil, List.length_append]; omega) | decide +kernel) ?_ | refine GDraw_one (by decide +kernel) ?_ | refine New.mk fun _ => ?_ | refine NewS.mk fun _ _ => ?_ | refine Ways.mk (fun _ => ?_) (fun _ => ?_))
  all_goals first | (exfalso; contradiction) | (refine Side.mk hb ?_) | skip
  repeat (first | refine Step.imp ?_ | refine Side.mk (by first | exact True.intro | omega | exact ⟨trivial, rfl⟩ | exact ⟨by omega, trivial, rfl⟩ | exact ⟨by omega, rfl⟩ | exact ⟨by omega, by omega, rfl⟩ | (simp only [List.length_cons, List.length_nil, List.length_append]; done) | (simp only [List.length_cons, List.length_nil, List.length_append]; omega) | decide +kernel) ?_ | refine GDraw_one (by decide +kernel) ?_ | refine New.mk fun _ => ?_ | refine NewS.mk fun _ _ => ?_)
  exact Fin.val hT (by rw [all_full hd.2 _ (Nat.le_refl _)]) (Hle.refl _)⟩
end
end Go.Sl

/-
  The space of a catalogue: cells and leaves as numbers.
-/
namespace Go.Sl
open Go.Proofs
set_option linter.unusedVariables false
set_option linter.unusedSimpArgs false
set_option maxRecDepth 10000
set_option synthInstance.maxSize 2000
set_option synthInstance.maxHeartbeats 200000
set_option maxHeartbeats 1000000
theorem packF_congr {m : Int} {p p' o o' : Nat → Int} : ∀ d, (∀ k < d, p k = p' k ∧ o k = o' k) → packF m p o d = packF m p' o' d
  | 0, _ => rfl
  | d + 1, h => by simp only [packF]; rw [packF_congr d (fun k hk => h k (by omega)), (h d (by omega)).1, (h d (by omega)).2]
theorem quoF_congr {o o' : Nat → Int} {n : Int} {d : Nat} (h : ∀ k < d, o k = o' k) : ∀ j ≤ d, quoF o n d j = quoF o' n d j
  | 0, _ => rfl
  | j + 1, hj => by simp only [quoF]; rw [quoF_congr h j (by omega), h (d - 1 - j) (by omega)]
theorem remF_congr {o o' : Nat → Int} {n : Int} {d i : Nat} (h : ∀ k < d, o k = o' k) (hi : i < d) : remF o n d i = remF o' n d i := by
  unfold remF; rw [quoF_congr h _ (by omega), h i hi]
theorem plF_congr {o o' : Nat → Int} {n : Int} {d i : Nat} (h : ∀ k < d, o k = o' k) : plF o n d d i = plF o' n d d i := by
  unfold plF
  by_cases hi : i < d
  · rw [if_pos ⟨by omega, hi⟩, if_pos ⟨by omega, hi⟩, remF_congr h hi]
  · rw [if_neg (by omega), if_neg (by omega)]
theorem pos_of_all {C : Cat} {o : Nat → Int} (h0 : ∀ k, 0 ≤ o k) : ∀ d, 0 < allF C o d → ∀ k < d, 0 < o k
  | 0, _, k, hk => by omega
  | d + 1, h, k, hk => by
    simp only [allF] at h
    have hd : 0 < o d := by
      rcases Int.lt_or_eq_of_le (h0 d) with h1 | h1
      · exact h1
      · rw [← h1, Int.mul_zero] at h; omega
    have ha : 0 < allF C o d := by
      refine Int.not_le.1 fun hn => ?_
      have := Int.mul_nonpos_of_nonpos_of_nonneg hn (Int.le_of_lt hd)
      omega
    rcases Nat.lt_or_ge k d with h1 | h1
    · exact pos_of_all h0 d ha k h1
    · have : k = d := by omega
      subst this; exact hd
theorem partF_nonneg {g : Nat → Int} (h : ∀ k, 0 ≤ g k) (n k : Nat) : 0 ≤ partF g n k := by unfold partF; split; exact h k; omega
theorem get4_nonneg {f : Nat → Int} (h : ∀ k, 0 ≤ f k) (k : Nat) : 0 ≤ get4 (f 0) (f 1) (f 2) (f 3) k := by
  unfold get4; split <;> exact h _
section
variable {h : PHeap} {sb : Nat} {C : Cat}
def indexF (C : Cat) (m : Int) (a : Nat → Int) : Int := if rightF C m a then packF m a (nodesN C) C.dims.length else -1
def rankAt (C : Cat) (a : Nat → Int) (k : Nat) : Int := (mkTree (C.dims[k]!).2).rankF (a k)
def codeF (C : Cat) (m : Int) (a : Nat → Int) : Int := if leafF C m a then packF m (rankAt C a) (leavesN C) C.dims.length else -1
theorem right_in {C : Cat} {m : Int} {a : Nat → Int} (hr : rightF C m a) (hd : C.dims.length ≤ 4) : ∀ k < C.dims.length, 0 ≤ a k ∧ a k < nodesN C k := fun k hk => by
  have := hr.2 k (by omega)
  unfold sizeF at this
  rw [if_pos hk] at this
  exact this
instance space_index {m a0 a1 a2 a3 : Int} [hS : IsSp h sb C] [ok : OkCat C] : CallV Tryz.prog 71 [.pointer (some ⟨sb, 0, none⟩), .agg [vI m, vI a0, vI a1, vI a2, vI a3].toArray] h True (vI (indexF C m (get4 a0 a1 a2 a3))) := ⟨fun _ => by
  have hS' := hS
  obtain ⟨db, tv, lv, tbs, lvs, ty, fr, h1, h2, h3, h4, h5, h6, h7⟩ := hS'.out
  have hd := ok.dims
  unfold indexF
  by_cases hr : rightF C m (get4 a0 a1 a2 a3)
  · have hlt := pack_lt (C := C) (m := m) (p := get4 a0 a1 a2 a3) (o := get4 (fullF C 0) (fullF C 1) (fullF C 2) (fullF C 3)) (d := C.dims.length) hr.1 (fun k hk => by rw [fullF_eq hd.2 hk]; exact right_in hr hd.2 k hk)
    have hb : ∀ k < C.dims.length, 0 ≤ packF m (get4 a0 a1 a2 a3) (get4 (fullF C 0) (fullF C 1) (fullF C 2) (fullF C 3)) k * get4 (fullF C 0) (fullF C 1) (fullF C 2) (fullF C 3) k ∧ packF m (get4 a0 a1 a2 a3) (get4 (fullF C 0) (fullF C 1) (fullF C 2) (fullF C 3)) k * get4 (fullF C 0) (fullF C 1) (fullF C 2) (fullF C 3) k ≤ 9223372036854775807 ∧ 0 ≤ packF m (get4 a0 a1 a2 a3) (get4 (fullF C 0) (fullF C 1) (fullF C 2) (fullF C 3)) (k + 1) ∧ packF m (get4 a0 a1 a2 a3) (get4 (fullF C 0) (fullF C 1) (fullF C 2) (fullF C 3)) (k + 1) ≤ 9223372036854775807 := fun k hk => by
      have e1 := hlt k (by omega)
      have e2 := hlt (k + 1) (by omega)
      have e3 := all_full hd.2 (k + 1) (by omega)
      have e4 := cells_bound ok (k + 1) (by omega)
      have e5 := right_in hr hd.2 k hk
      rw [fullF_eq hd.2 hk]
      have e6 : 0 ≤ packF m (get4 a0 a1 a2 a3) (get4 (fullF C 0) (fullF C 1) (fullF C 2) (fullF C 3)) k * nodesN C k := Int.mul_nonneg e1.1 (by omega)
      have e7 : packF m (get4 a0 a1 a2 a3) (get4 (fullF C 0) (fullF C 1) (fullF C 2) (fullF C 3)) (k + 1) = packF m (get4 a0 a1 a2 a3) (get4 (fullF C 0) (fullF C 1) (fullF C 2) (fullF C 3)) k * nodesN C k + get4 a0 a1 a2 a3 k := by simp only [packF]; rw [fullF_eq hd.2 hk]
      omega
    have he : packF m (get4 a0 a1 a2 a3) (get4 (fullF C 0) (fullF C 1) (fullF C 2) (fullF C 3)) C.dims.length = packF m (get4 a0 a1 a2 a3) (nodesN C) C.dims.length := packF_congr _ fun k hk => ⟨rfl, fullF_eq hd.2 hk⟩
    refine spec_enter Tryz.func71 rfl Tryz.ntmps71 Tryz.results71 (by simp) fun K R hT => ?_
    simp only [hr, if_true] at hT
    repeat' (first | refine Step.imp ?_ | refine Side.mk (by first | exact True.intro | omega | exact ⟨trivial, rfl⟩ | exact ⟨by omega, trivial, rfl⟩ | exact ⟨by omega, rfl⟩ | exact ⟨by omega, by omega, rfl⟩ | (simp only [List.length_cons, List.length_nil, List.length_append]; done) | (simp only [List.length_cons, List.length_nil, List.length_append]; omega) | decide +kernel) ?_ | refine GDraw_one (by decide +kernel) ?_ | refine New.mk fun _ => ?_ | refine NewS.mk fun _ _ => ?_ | refine Ways.mk (fun _ => ?_) (fun _ => ?_))
    all_goals first | (exfalso; contradiction) | (refine Side.mk hb ?_) | skip
    repeat (first | refine Step.imp ?_ | refine Side.mk (by first | exact True.intro | omega | exact ⟨trivial, rfl⟩ | exact ⟨by omega, trivial, rfl⟩ | exact ⟨by omega, rfl⟩ | exact ⟨by omega, by omega, rfl⟩ | (simp only [List.length_cons, List.length_nil, List.length_append]; done) | (simp only [List.length_cons, List.length_nil, List.length_append]; omega) | decide +kernel) ?_ | refine GDraw_one (by decide +kernel) ?_ | refine New.mk fun _ => ?_ | refine NewS.mk fun _ _ => ?_)
    exact Fin.val hT (by rw [he]) (Hle.refl _)
  · refine spec_enter Tryz.func71 rfl Tryz.ntmps71 Tryz.results71 (by simp) fun K R hT => ?_
    simp only [hr, if_false] at hT
    repeat' (first | refine Step.imp ?_ | refine Side.mk (by first | exact True.intro | omega | exact ⟨trivial, rfl⟩ | exact ⟨by omega, trivial, rfl⟩ | exact ⟨by omega, rfl⟩ | exact ⟨by omega, by omega, rfl⟩ | (simp only [List.length_cons, List.length_nil, List.length_append]; done) | (simp only [List.length_cons, List.length_nil, List.length_append]; omega) | decide +kernel) ?_ | refine GDraw_one (by decide +kernel) ?_ | refine New.mk fun _ => ?_ | refine NewS.mk fun _ _ => ?_ | refine Ways.mk (fun _ => ?_) (fun _ => ?_))
    all_goals first | (exfalso; contradiction) | exact Fin.val hT rfl (Hle.refl _)⟩
end
end Go.Sl

/-
  The space of a catalogue: leaves and cells of numbers, and what is within what.
-/
namespace Go.Sl
open Go.Proofs
set_option linter.unusedVariables false
set_option linter.unusedSimpArgs false
set_option maxRecDepth 10000
set_option synthInstance.maxSize 2000
set_option synthInstance.maxHeartbeats 200000
set_option maxHeartbeats 1000000
section
variable {h : PHeap} {sb : Nat} {C : Cat}
theorem full_bound {C : Cat} (ok : OkCat C) : ∀ k ≤ C.dims.length, 0 ≤ allF C (get4 (fullF C 0) (fullF C 1) (fullF C 2) (fullF C 3)) k ∧ allF C (get4 (fullF C 0) (fullF C 1) (fullF C 2) (fullF C 3)) k ≤ 9223372036854775807 := fun k hk => by
  rw [all_full ok.dims.2 k hk]; have := cells_bound ok k hk; omega
theorem low_bound {C : Cat} (ok : OkCat C) : ∀ k ≤ C.dims.length, 0 ≤ allF C (get4 (lowF C 0) (lowF C 1) (lowF C 2) (lowF C 3)) k ∧ allF C (get4 (lowF C 0) (lowF C 1) (lowF C 2) (lowF C 3)) k ≤ 9223372036854775807 := fun k hk => by
  rw [all_low ok.dims.2 k hk]; have := leaves_bound ok k hk; omega
theorem full_nonneg (C : Cat) (k : Nat) : 0 ≤ get4 (fullF C 0) (fullF C 1) (fullF C 2) (fullF C 3) k := get4_nonneg (fun k => partF_nonneg (fun k => by unfold nodesN; omega) _ k) k
theorem low_nonneg (C : Cat) (k : Nat) : 0 ≤ get4 (lowF C 0) (lowF C 1) (lowF C 2) (lowF C 3) k := get4_nonneg (fun k => partF_nonneg (fun k => by unfold leavesN; omega) _ k) k

instance space_cell {L : List HP} {n : Int} [hS : IsSp h sb C] [ok : OkCat C] : CallX Tryz.prog 74 [.pointer (some ⟨sb, 0, none⟩), vI n] h L True
    (fun K => (¬ (0 ≤ n ∧ n < cellsF C C.dims.length) → K (.tuple [.agg [vI 0, vI 0, vI 0, vI 0, vI 0].toArray, .bool false].toArray) h []) ∧
      ((0 ≤ n ∧ n < cellsF C C.dims.length) → K (.tuple [.agg [vI (quoF (nodesN C) n C.dims.length C.dims.length), vI (plF (nodesN C) n C.dims.length C.dims.length 0), vI (plF (nodesN C) n C.dims.length C.dims.length 1), vI (plF (nodesN C) n C.dims.length C.dims.length 2), vI (plF (nodesN C) n C.dims.length C.dims.length 3)].toArray, .bool true].toArray) h [])) := ⟨fun _ => by
  have hS' := hS
  obtain ⟨db, tv, lv, tbs, lvs, ty, fr, h1, h2, h3, h4, h5, h6, h7⟩ := hS'.out
  have hd := ok.dims
  have ha := all_full (C := C) hd.2 C.dims.length (Nat.le_refl _)
  have hc : ∀ k < C.dims.length, get4 (fullF C 0) (fullF C 1) (fullF C 2) (fullF C 3) k = nodesN C k := fun k hk => fullF_eq hd.2 hk
  refine spec_enter Tryz.func74 rfl Tryz.ntmps74 Tryz.results74 (by simp) fun K R hT => ?_
  repeat' (first | refine Step.imp ?_ | refine Side.mk (by first | exact True.intro | omega | exact ⟨trivial, rfl⟩ | exact ⟨by omega, trivial, rfl⟩ | exact ⟨by omega, rfl⟩ | exact ⟨by omega, by omega, rfl⟩ | (simp only [List.length_cons, List.length_nil, List.length_append]; done) | (simp only [List.length_cons, List.length_nil, List.length_append]; omega) | decide +kernel) ?_ | refine GDraw_one (by decide +kernel) ?_ | refine New.mk fun _ => ?_ | refine NewS.mk fun _ _ => ?_ | refine Ways.mk (fun _ => ?_) (fun _ => ?_))
  all_goals first | (exfalso; contradiction) | skip
  refine Side.mk ⟨full_bound ok, fun hin => pos_of_all (C := C) (full_nonneg C) C.dims.length (by omega)⟩ ?_
  refine ⟨fun hno => ?_, fun hin => ?_⟩
  · have hfin := hT.1 (by rw [← ha]; exact hno)
    repeat (first | refine Step.imp ?_ | refine Side.mk (by first | exact True.intro | omega | exact ⟨trivial, rfl⟩ | exact ⟨by omega, trivial, rfl⟩ | exact ⟨by omega, rfl⟩ | exact ⟨by omega, by omega, rfl⟩ | (simp only [List.length_cons, List.length_nil, List.length_append]; done) | (simp only [List.length_cons, List.length_nil, List.length_append]; omega) | decide +kernel) ?_ | refine GDraw_one (by decide +kernel) ?_ | refine New.mk fun _ => ?_ | refine NewS.mk fun _ _ => ?_)
    exact Fin.val hfin rfl (Hle.refl _)
  · have hfin := hT.2 (by rw [← ha]; exact hin)
    simp only [← quoF_congr hc C.dims.length (Nat.le_refl _), ← plF_congr hc] at hfin
    repeat (first | refine Step.imp ?_ | refine Side.mk (by first | exact True.intro | omega | exact ⟨trivial, rfl⟩ | exact ⟨by omega, trivial, rfl⟩ | exact ⟨by omega, rfl⟩ | exact ⟨by omega, by omega, rfl⟩ | (simp only [List.length_cons, List.length_nil, List.length_append]; done) | (simp only [List.length_cons, List.length_nil, List.length_append]; omega) | decide +kernel) ?_ | refine GDraw_one (by decide +kernel) ?_ | refine New.mk fun _ => ?_ | refine NewS.mk fun _ _ => ?_)
    exact Fin.val hfin rfl (Hle.refl _)⟩

/-- The member of a leaf's place. -/
def leafAt (C : Cat) (n : Int) (i : Nat) : Int := (mkTree (C.dims[i]!).2).leaves[(remF (leavesN C) n C.dims.length i).toNat]!
def leafAtF (C : Cat) (n : Int) : Nat → Int := partF (leafAt C n) C.dims.length
instance space_leaf {L : List HP} {n : Int} [hS : IsSp h sb C] [ok : OkCat C] : CallX Tryz.prog 62 [.pointer (some ⟨sb, 0, none⟩), vI n] h L True
    (fun K => (¬ (0 ≤ n ∧ n < leavesF C C.dims.length) → K (.tuple [.agg [vI 0, vI 0, vI 0, vI 0, vI 0].toArray, .bool false].toArray) h []) ∧
      ((0 ≤ n ∧ n < leavesF C C.dims.length) → K (.tuple [.agg [vI (quoF (leavesN C) n C.dims.length C.dims.length), vI (leafAtF C n 0), vI (leafAtF C n 1), vI (leafAtF C n 2), vI (leafAtF C n 3)].toArray, .bool true].toArray) h [])) := ⟨fun _ => by
  have hS' := hS
  obtain ⟨db, tv, lv, tbs, lvs, ty, fr, h1, h2, h3, h4, h5, h6, h7⟩ := hS'.out
  have hd := ok.dims
  have ha := all_low (C := C) hd.2 C.dims.length (Nat.le_refl _)
  have hc : ∀ k < C.dims.length, get4 (lowF C 0) (lowF C 1) (lowF C 2) (lowF C 3) k = leavesN C k := fun k hk => lowF_eq hd.2 hk
  refine spec_enter Tryz.func62 rfl Tryz.ntmps62 Tryz.results62 (by simp) fun K R hT => ?_
  repeat' (first | refine Step.imp ?_ | refine Side.mk (by first | exact True.intro | omega | exact ⟨trivial, rfl⟩ | exact ⟨by omega, trivial, rfl⟩ | exact ⟨by omega, rfl⟩ | exact ⟨by omega, by omega, rfl⟩ | (simp only [List.length_cons, List.length_nil, List.length_append]; done) | (simp only [List.length_cons, List.length_nil, List.length_append]; omega) | decide +kernel) ?_ | refine GDraw_one (by decide +kernel) ?_ | refine New.mk fun _ => ?_ | refine NewS.mk fun _ _ => ?_ | refine Ways.mk (fun _ => ?_) (fun _ => ?_))
  all_goals first | (exfalso; contradiction) | skip
  refine Side.mk ⟨low_bound ok, fun hin => pos_of_all (C := C) (low_nonneg C) C.dims.length (by omega)⟩ ?_
  refine ⟨fun hno => ?_, fun hin => ?_⟩
  · have hfin := hT.1 (by rw [← ha]; exact hno)
    repeat (first | refine Step.imp ?_ | refine Side.mk (by first | exact True.intro | omega | exact ⟨trivial, rfl⟩ | exact ⟨by omega, trivial, rfl⟩ | exact ⟨by omega, rfl⟩ | exact ⟨by omega, by omega, rfl⟩ | (simp only [List.length_cons, List.length_nil, List.length_append]; done) | (simp only [List.length_cons, List.length_nil, List.length_append]; omega) | decide +kernel) ?_ | refine GDraw_one (by decide +kernel) ?_ | refine New.mk fun _ => ?_ | refine NewS.mk fun _ _ => ?_)
    exact Fin.val hfin rfl (Hle.refl _)
  · have hpos := pos_of_all (low_nonneg C) C.dims.length (show 0 < allF C (get4 (lowF C 0) (lowF C 1) (lowF C 2) (lowF C 3)) C.dims.length by omega)
    have hfin := hT.2 (by rw [← ha]; exact hin)
    simp only [quoF_congr hc C.dims.length (Nat.le_refl _), plF_congr hc]
    repeat (first | refine Step.imp ?_ | refine Side.mk (by first | exact True.intro | omega | exact ⟨trivial, rfl⟩ | exact ⟨by omega, trivial, rfl⟩ | exact ⟨by omega, rfl⟩ | exact ⟨by omega, by omega, rfl⟩ | (simp only [List.length_cons, List.length_nil, List.length_append]; done) | (simp only [List.length_cons, List.length_nil, List.length_append]; omega) | decide +kernel) ?_ | refine GDraw_one (by decide +kernel) ?_ | refine New.mk fun _ => ?_ | refine NewS.mk fun _ _ => ?_)
    rename_i rb _ qb cb
    refine G_loop (σ := Nat) (fun j => j ≤ C.dims.length) (fun j => C.dims.length - j) (fun j => [(36, vI j), (35, vI C.dims.length), (34, lv), (7, .pointer (some ⟨qb, 0, none⟩)), (9, .pointer (some ⟨cb, 0, none⟩)), (4, .pointer (some ⟨rb, 0, none⟩))]) (fun _ => h)
      (fun j => blk cb (.cells [vI (quoF (leavesN C) n C.dims.length C.dims.length), vI (partF (leafAt C n) j 0), vI (partF (leafAt C n) j 1), vI (partF (leafAt C n) j 2), vI (partF (leafAt C n) j 3)].toArray 48 (0, 0)) ::
        blk qb (.cells [vI (plF (leavesN C) n C.dims.length C.dims.length 0), vI (plF (leavesN C) n C.dims.length C.dims.length 1), vI (plF (leavesN C) n C.dims.length C.dims.length 2), vI (plF (leavesN C) n C.dims.length C.dims.length 3)].toArray 113 (0, 0)) ::
        blk rb (.cells [vI 0, vI 0, vI 0, vI 0, vI 0].toArray 48 (0, 0)) :: (L ++ R)) 0 (by omega) ?_ rfl ?_ ?_
    · exact ⟨rfl, by rw [← h6], rfl, rfl, rfl, rfl, trivial⟩
    · simp only [partF, Nat.not_lt_zero, if_false]
      infer_instance
    intro j hj
    repeat (first | refine Step.imp ?_ | refine Side.mk (by first | exact True.intro | omega | exact ⟨trivial, rfl⟩ | exact ⟨by omega, trivial, rfl⟩ | exact ⟨by omega, rfl⟩ | exact ⟨by omega, by omega, rfl⟩ | (simp only [List.length_cons, List.length_nil, List.length_append]; done) | (simp only [List.length_cons, List.length_nil, List.length_append]; omega) | decide +kernel) ?_ | refine GDraw_one (by decide +kernel) ?_ | refine New.mk fun _ => ?_ | refine NewS.mk fun _ _ => ?_)
    refine ⟨fun hlt => ?_, fun hge => ?_⟩
    · have h8 := (h7 j (by omega)).2
      have hj4 : j < 4 := by omega
      have hpl : get4 (plF (leavesN C) n C.dims.length C.dims.length 0) (plF (leavesN C) n C.dims.length C.dims.length 1) (plF (leavesN C) n C.dims.length C.dims.length 2) (plF (leavesN C) n C.dims.length C.dims.length 3) j = remF (leavesN C) n C.dims.length j := by
        rw [get4_fun (plF (leavesN C) n C.dims.length C.dims.length) hj4]; unfold plF; rw [if_pos ⟨by omega, by omega⟩]
      have hpj : 0 < leavesN C j := by have := hpos j (by omega); rwa [hc j (by omega)] at this
      have hr0 : 0 ≤ remF (leavesN C) n C.dims.length j ∧ remF (leavesN C) n C.dims.length j < leavesN C j := ⟨Int.emod_nonneg _ (by omega), Int.emod_lt_of_pos _ hpj⟩
      have hlN : leavesN C j = (mkTree (C.dims[j]!).2).leaves.length := rfl
      rw [hlN] at hr0
      repeat (first | refine Step.imp ?_ | refine Side.mk (by first | exact True.intro | omega | exact ⟨trivial, rfl⟩ | exact ⟨by omega, trivial, rfl⟩ | exact ⟨by omega, rfl⟩ | exact ⟨by omega, by omega, rfl⟩ | (simp only [List.length_cons, List.length_nil, List.length_append]; done) | (simp only [List.length_cons, List.length_nil, List.length_append]; omega) | decide +kernel) ?_ | refine GDraw_one (by decide +kernel) ?_ | refine New.mk fun _ => ?_ | refine NewS.mk fun _ _ => ?_)
      refine X_round (j + 1) ?_ ?_ ?_ ?_ ?_
      · show j + 1 ≤ C.dims.length
        omega
      · show C.dims.length - (j + 1) < C.dims.length - j
        omega
      · exact ⟨rfl, rfl, rfl, rfl, rfl, rfl, trivial⟩
      · rfl
      · simp only [part_succ, hpl]
        rw [show leafAt C n j = (mkTree (C.dims[j]!).2).leaves[(remF (leavesN C) n C.dims.length j).toNat]! from rfl]
        infer_instance
    · have : j = C.dims.length := by omega
      subst this
      repeat (first | refine Step.imp ?_ | refine Side.mk (by first | exact True.intro | omega | exact ⟨trivial, rfl⟩ | exact ⟨by omega, trivial, rfl⟩ | exact ⟨by omega, rfl⟩ | exact ⟨by omega, by omega, rfl⟩ | (simp only [List.length_cons, List.length_nil, List.length_append]; done) | (simp only [List.length_cons, List.length_nil, List.length_append]; omega) | decide +kernel) ?_ | refine GDraw_one (by decide +kernel) ?_ | refine New.mk fun _ => ?_ | refine NewS.mk fun _ _ => ?_)
      exact Fin.val hfin rfl (Hle.refl _)⟩
theorem rankAt_in {C : Cat} {m : Int} {a : Nat → Int} (ok : OkCat C) (hl : leafF C m a) : ∀ k < C.dims.length, 0 ≤ rankAt C a k ∧ rankAt C a k < leavesN C k := fun k hk => by
  have := rank_ok (ok.trees k hk).2 (hl.2 k hk)
  exact ⟨this.1, this.2.1⟩
instance space_dims {L : List HP} [hS : IsSp h sb C] : CallX Tryz.prog 54 [.pointer (some ⟨sb, 0, none⟩)] h L True (fun K => ∀ db, IsD h db C → K (.pointer (some ⟨db, 0, none⟩)) h []) := ⟨fun _ => by
  obtain ⟨db, tv, lv, tbs, lvs, ty, fr, h1, h2, h3, h4, h5, h6, h7⟩ := hS.out
  refine spec_enter Tryz.func54 rfl Tryz.ntmps54 Tryz.results54 (by simp) fun K R hT => ?_
  repeat' (first | refine Step.imp ?_ | refine Side.mk (by first | exact True.intro | omega | exact ⟨trivial, rfl⟩ | exact ⟨by omega, trivial, rfl⟩ | exact ⟨by omega, rfl⟩ | exact ⟨by omega, by omega, rfl⟩ | (simp only [List.length_cons, List.length_nil, List.length_append]; done) | (simp only [List.length_cons, List.length_nil, List.length_append]; omega) | decide +kernel) ?_ | refine GDraw_one (by decide +kernel) ?_ | refine New.mk fun _ => ?_ | refine NewS.mk fun _ _ => ?_ | refine Ways.mk (fun _ => ?_) (fun _ => ?_))
  all_goals first | (exfalso; contradiction) | exact Fin.val (hT db h2) rfl (Hle.refl _)⟩
def spWithin (C : Cat) (m : Int) (a : Nat → Int) (m' : Int) (a' : Nat → Int) : Prop := rightF C m a ∧ rightF C m' a' ∧ m = m' ∧ ∀ i < C.dims.length, withinF (C.dims[i]!).2 (a i) (a' i)
instance (C : Cat) (m : Int) (a : Nat → Int) (m' : Int) (a' : Nat → Int) : Decidable (spWithin C m a m' a') := by unfold spWithin; infer_instance
end
end Go.Sl

/-
  The space of a catalogue: what is within what.
-/
namespace Go.Sl
open Go.Proofs
set_option linter.unusedVariables false
set_option linter.unusedSimpArgs false
set_option maxRecDepth 10000
set_option synthInstance.maxSize 2000
set_option synthInstance.maxHeartbeats 200000
set_option maxHeartbeats 1000000
section
variable {h : PHeap} {sb : Nat} {C : Cat}
/-- Is a leaf within a cell? -/
def insideF (C : Cat) (m : Int) (a : Nat → Int) (n : Int) : Prop := (0 ≤ n ∧ n < leavesF C C.dims.length) ∧ spWithin C (quoF (leavesN C) n C.dims.length C.dims.length) (leafAtF C n) m a
instance (C : Cat) (m : Int) (a : Nat → Int) (n : Int) : Decidable (insideF C m a n) := by unfold insideF; infer_instance
theorem leafAtF_get (C : Cat) (n : Int) : get4 (leafAtF C n 0) (leafAtF C n 1) (leafAtF C n 2) (leafAtF C n 3) = fun k => if k < 4 then leafAtF C n k else leafAtF C n 3 := by
  funext k
  split
  · rw [get4_fun _ (by assumption)]
  · unfold get4; split <;> first | omega | rfl
theorem spWithin_congr {C : Cat} {m : Int} {a a' : Nat → Int} {m' : Int} {b : Nat → Int} (hd : C.dims.length ≤ 4) (h : ∀ k < 4, a k = a' k) : spWithin C m a m' b ↔ spWithin C m a' m' b := by
  have hr : rightF C m a ↔ rightF C m a' := by
    unfold rightF
    constructor
    · rintro ⟨h1, h2⟩; exact ⟨h1, fun i hi => by rw [← h i hi]; exact h2 i hi⟩
    · rintro ⟨h1, h2⟩; exact ⟨h1, fun i hi => by rw [h i hi]; exact h2 i hi⟩
  unfold spWithin
  rw [hr]
  constructor
  · rintro ⟨h1, h2, h3, h4⟩; exact ⟨h1, h2, h3, fun i hi => by rw [← h i (by omega)]; exact h4 i hi⟩
  · rintro ⟨h1, h2, h3, h4⟩; exact ⟨h1, h2, h3, fun i hi => by rw [h i (by omega)]; exact h4 i hi⟩
end
end Go.Sl
