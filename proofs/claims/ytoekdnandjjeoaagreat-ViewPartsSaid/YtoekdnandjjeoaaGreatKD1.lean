/-
  Facts that the proof is made of (D1).
-/
import Derived.Test.YtoekdnandjjeoaaGreatKT3
/-
  Catalogues: small functions, a copy.
-/
namespace Go.Sl
open Go.Proofs
set_option linter.unusedVariables false
set_option linter.unusedSimpArgs false
set_option maxRecDepth 10000
set_option synthInstance.maxSize 2000
set_option synthInstance.maxHeartbeats 200000
set_option maxHeartbeats 1000000
/-- A catalogue, apart from where it lies. -/
structure Cat where
  dims : List (ByteArray × List Nd)
  meas : List ByteArray
  leaves : Int
  scens : Int
deriving Inhabited
def Dm.pure (d : Dm) : ByteArray × List Nd := (d.name, d.nodes)
/-- Dimensions that are never changed. -/
class IsDims (h : PHeap) (v : Value) (ds : outParam (List Dm)) : Prop where
  sl : FSl h v encDm 2 ds
  nd : ∀ i < ds.length, FSl h (ds[i]!).nv encNd 2 (ds[i]!).nodes
instance {h : PHeap} {v : Value} {ds : List Dm} [d : IsDims h v ds] : FSl h v encDm 2 ds := d.sl
theorem IsDims.mono {h h' : PHeap} {v : Value} {ds : List Dm} (hl : Hle h h') (d : IsDims h v ds) : IsDims h' v ds := ⟨FSl.mono hl d.sl, fun i hi => FSl.mono hl (d.nd i hi)⟩
instance (priority := low) {h h' : PHeap} {v : Value} {ds : List Dm} [l : Le h h'] [d : IsDims h v ds] : IsDims h' v ds := d.mono l.le
section
variable {h : PHeap}
instance dims_within {n lo hi : Int} : CallV Tryz.prog 40 [vI n, vI lo, vI hi] h True (.bool (decide (lo ≤ n ∧ n ≤ hi))) := ⟨fun _ => by
  refine spec_enter Tryz.func40 rfl Tryz.ntmps40 Tryz.results40 (by simp) fun K R hT => ?_
  repeat' (first | refine Step.imp ?_ | refine Side.mk (by first | exact True.intro | omega | exact ⟨trivial, rfl⟩ | exact ⟨by omega, trivial, rfl⟩ | exact ⟨by omega, rfl⟩ | exact ⟨by omega, by omega, rfl⟩ | (simp only [List.length_cons, List.length_nil, List.length_append]; done) | (simp only [List.length_cons, List.length_nil, List.length_append]; omega) | decide +kernel) ?_ | refine GDraw_one (by decide +kernel) ?_ | refine New.mk fun _ => ?_ | refine NewS.mk fun _ _ => ?_ | refine Ways.mk (fun _ => ?_) (fun _ => ?_))
  all_goals first | exact Fin.val hT rfl (Hle.refl _) | (exfalso; omega) | (exfalso; contradiction) | exact Fin.dec hT (by omega) (Hle.refl _) | exact Fin.tt hT (by omega) (Hle.refl _) | exact Fin.ff hT (by omega) (Hle.refl _)⟩
def ckFresh (s : ByteArray) (xs : List ByteArray) : Int := if okName s then (if s ∈ xs then 4 else 0) else 3
instance dims_fresh {L : List HP} {s : ByteArray} {v : Value} {xs : List ByteArray} [hs : Rds L h v encS 1 xs] : CallX Tryz.prog 42 [.string s, v] h L (xs.length ≤ 4294967296) (fun K => K (vI (ckFresh s xs)) h []) := ⟨fun hn => by
  refine spec_enter Tryz.func42 rfl Tryz.ntmps42 Tryz.results42 (by simp) fun K R hT => ?_
  unfold ckFresh at hT
  by_cases h1 : okName s
  · by_cases h2 : s ∈ xs
    · simp only [h1, h2, if_true] at hT
      repeat' (first | refine Step.imp ?_ | refine Side.mk (by first | exact True.intro | omega | exact ⟨trivial, rfl⟩ | exact ⟨by omega, trivial, rfl⟩ | exact ⟨by omega, rfl⟩ | exact ⟨by omega, by omega, rfl⟩ | (simp only [List.length_cons, List.length_nil, List.length_append]; done) | (simp only [List.length_cons, List.length_nil, List.length_append]; omega) | decide +kernel) ?_ | refine GDraw_one (by decide +kernel) ?_ | refine New.mk fun _ => ?_ | refine NewS.mk fun _ _ => ?_ | refine Ways.mk (fun _ => ?_) (fun _ => ?_))
      all_goals first | exact Fin.val hT rfl (Hle.refl _) | (exfalso; contradiction)
    · simp only [h1, h2, if_true, if_false] at hT
      repeat' (first | refine Step.imp ?_ | refine Side.mk (by first | exact True.intro | omega | exact ⟨trivial, rfl⟩ | exact ⟨by omega, trivial, rfl⟩ | exact ⟨by omega, rfl⟩ | exact ⟨by omega, by omega, rfl⟩ | (simp only [List.length_cons, List.length_nil, List.length_append]; done) | (simp only [List.length_cons, List.length_nil, List.length_append]; omega) | decide +kernel) ?_ | refine GDraw_one (by decide +kernel) ?_ | refine New.mk fun _ => ?_ | refine NewS.mk fun _ _ => ?_ | refine Ways.mk (fun _ => ?_) (fun _ => ?_))
      all_goals first | exact Fin.val hT rfl (Hle.refl _) | (exfalso; contradiction)
  · simp only [h1, if_false] at hT
    repeat' (first | refine Step.imp ?_ | refine Side.mk (by first | exact True.intro | omega | exact ⟨trivial, rfl⟩ | exact ⟨by omega, trivial, rfl⟩ | exact ⟨by omega, rfl⟩ | exact ⟨by omega, by omega, rfl⟩ | (simp only [List.length_cons, List.length_nil, List.length_append]; done) | (simp only [List.length_cons, List.length_nil, List.length_append]; omega) | decide +kernel) ?_ | refine GDraw_one (by decide +kernel) ?_ | refine New.mk fun _ => ?_ | refine NewS.mk fun _ _ => ?_ | refine Ways.mk (fun _ => ?_) (fun _ => ?_))
    all_goals first | exact Fin.val hT rfl (Hle.refl _) | (exfalso; contradiction)⟩
instance dims_copied {L : List HP} {dv mv : Value} {le sc : Int} {ds : List Dm} {ms : List ByteArray} [hd : IsDims h dv ds] [hm : FSl h mv encS 1 ms] : CallX Tryz.prog 41 [.agg [dv, mv, vI le, vI sc].toArray] h L (ds.length ≤ 4294967296 ∧ ms.length ≤ 4294967296 ∧ ∀ i < ds.length, (ds[i]!).nodes.length ≤ 4294967296)
    (fun K => ∀ h' dv' mv' ds', Le h h' → IsDims h' dv' ds' → ds'.map Dm.pure = ds.map Dm.pure → FSl h' mv' encS 1 ms → K (.agg [dv', mv', vI le, vI sc].toArray) h' []) := ⟨fun ⟨hn1, hn2, hn3⟩ => by
  refine spec_enter Tryz.func41 rfl Tryz.ntmps41 Tryz.results41 (by simp) fun K R hT => ?_
  repeat (first | refine Step.imp ?_ | refine Side.mk (by first | exact True.intro | omega | exact ⟨trivial, rfl⟩ | exact ⟨by omega, trivial, rfl⟩ | exact ⟨by omega, rfl⟩ | exact ⟨by omega, by omega, rfl⟩ | (simp only [List.length_cons, List.length_nil, List.length_append]; done) | (simp only [List.length_cons, List.length_nil, List.length_append]; omega) | decide +kernel) ?_ | refine GDraw_one (by decide +kernel) ?_ | refine New.mk fun _ => ?_ | refine NewS.mk fun _ _ => ?_)
  intro a1 c1
  repeat (first | refine Step.imp ?_ | refine Side.mk (by first | exact True.intro | omega | exact ⟨trivial, rfl⟩ | exact ⟨by omega, trivial, rfl⟩ | exact ⟨by omega, rfl⟩ | exact ⟨by omega, by omega, rfl⟩ | (simp only [List.length_cons, List.length_nil, List.length_append]; done) | (simp only [List.length_cons, List.length_nil, List.length_append]; omega) | decide +kernel) ?_ | refine GDraw_one (by decide +kernel) ?_ | refine New.mk fun _ => ?_ | refine NewS.mk fun _ _ => ?_)
  intro a2 c2
  repeat (first | refine Step.imp ?_ | refine Side.mk (by first | exact True.intro | omega | exact ⟨trivial, rfl⟩ | exact ⟨by omega, trivial, rfl⟩ | exact ⟨by omega, rfl⟩ | exact ⟨by omega, by omega, rfl⟩ | (simp only [List.length_cons, List.length_nil, List.length_append]; done) | (simp only [List.length_cons, List.length_nil, List.length_append]; omega) | decide +kernel) ?_ | refine GDraw_one (by decide +kernel) ?_ | refine New.mk fun _ => ?_ | refine NewS.mk fun _ _ => ?_)
  rename_i cb rb
  refine G_loop (σ := Nat × PHeap × List Dm) (fun s => s.1 ≤ ds.length ∧ Hle h s.2.1 ∧ s.2.2.map Dm.pure = ds.map Dm.pure ∧ ∀ j < ds.length, FSl s.2.1 (s.2.2[j]!).nv encNd 2 (s.2.2[j]!).nodes) (fun s => ds.length - s.1)
    (fun s => [(15, vI s.1), (14, vI ds.length), (13, .slice a2 ds.length c2), (1, .pointer (some ⟨cb, 0, none⟩)), (2, .pointer (some ⟨rb, 0, none⟩))]) (fun s => s.2.1)
    (fun s => slo encDm 2 (.slice a2 ds.length c2) s.2.2 :: slo encS 1 (.slice a1 ms.length c1) ms :: blk rb (.cells [.slice none 0 0, .slice none 0 0, vI 0, vI 0].toArray 25 (0, 0)) :: blk cb (.cells [.slice a2 ds.length c2, .slice a1 ms.length c1, vI le, vI sc].toArray 25 (0, 0)) :: (L ++ R))
    (0, h, ds) ⟨by omega, Hle.refl h, rfl, hd.nd⟩ ⟨rfl, rfl, rfl, rfl, rfl, trivial⟩ rfl inferInstance ?_
  rintro ⟨i, h1, cur⟩ ⟨hi, hl1, hpu, hnd⟩
  simp only at hi hl1 hpu hnd ⊢
  have hcl : cur.length = ds.length := by have := congrArg List.length hpu; simpa using this
  repeat (first | refine Step.imp ?_ | refine Side.mk (by first | exact True.intro | omega | exact ⟨trivial, rfl⟩ | exact ⟨by omega, trivial, rfl⟩ | exact ⟨by omega, rfl⟩ | exact ⟨by omega, by omega, rfl⟩ | (simp only [List.length_cons, List.length_nil, List.length_append]; done) | (simp only [List.length_cons, List.length_nil, List.length_append]; omega) | decide +kernel) ?_ | refine GDraw_one (by decide +kernel) ?_ | refine New.mk fun _ => ?_ | refine NewS.mk fun _ _ => ?_)
  refine ⟨fun hlt => ?_, fun hge => ?_⟩
  · have hndi := hnd i (by omega)
    have hpi : (cur[i]!).pure = (ds[i]!).pure := by
      have := congrArg (fun l => l[i]?) hpu
      simp only [List.getElem?_map] at this
      rw [getElem!_pos cur i (by omega), getElem!_pos ds i (by omega)]
      rw [List.getElem?_eq_getElem (by omega), List.getElem?_eq_getElem (by omega)] at this
      simpa using this
    have hni : (cur[i]!).nodes = (ds[i]!).nodes := congrArg Prod.snd hpi
    have hbi := hn3 i (by omega)
    rw [← hni] at hbi
    repeat (first | refine Step.imp ?_ | refine Side.mk (by first | exact True.intro | omega | exact ⟨trivial, rfl⟩ | exact ⟨by omega, trivial, rfl⟩ | exact ⟨by omega, rfl⟩ | exact ⟨by omega, by omega, rfl⟩ | (simp only [List.length_cons, List.length_nil, List.length_append]; done) | (simp only [List.length_cons, List.length_nil, List.length_append]; omega) | decide +kernel) ?_ | refine GDraw_one (by decide +kernel) ?_ | refine New.mk fun _ => ?_ | refine NewS.mk fun _ _ => ?_)
    intro a3 c3
    haveI : Mk encDm [.string (cur[i]!).name, .slice a3 (cur[i]!).nodes.length c3] ⟨(cur[i]!).name, .slice a3 (cur[i]!).nodes.length c3, rfl, (cur[i]!).nodes⟩ := ⟨rfl⟩
    repeat (first | refine Step.imp ?_ | refine Side.mk (by first | exact True.intro | omega | exact ⟨trivial, rfl⟩ | exact ⟨by omega, trivial, rfl⟩ | exact ⟨by omega, rfl⟩ | exact ⟨by omega, by omega, rfl⟩ | (simp only [List.length_cons, List.length_nil, List.length_append]; done) | (simp only [List.length_cons, List.length_nil, List.length_append]; omega) | decide +kernel) ?_ | refine GDraw_one (by decide +kernel) ?_ | refine New.mk fun _ => ?_ | refine NewS.mk fun _ _ => ?_)
    refine X_freezeS (.slice a3 (cur[i]!).nodes.length c3) fun h2 le2 f2 => ?_
    refine X_round (i + 1, h2, cur.set i ⟨(cur[i]!).name, .slice a3 (cur[i]!).nodes.length c3, rfl, (cur[i]!).nodes⟩) ?_ ?_ ?_ ?_ ?_
    · refine ⟨by show i + 1 ≤ ds.length; omega, hl1.trans le2.le, ?_, fun j hj => ?_⟩
      · show (cur.set i _).map Dm.pure = _
        rw [List.map_set, ← hpu]
        have : (cur.map Dm.pure)[i]'(by simpa [hcl] using hlt) = ((cur[i]!).name, (cur[i]!).nodes) := by rw [List.getElem_map, getElem!_pos cur i (by omega)]; rfl
        show (cur.map Dm.pure).set i ((cur[i]!).name, (cur[i]!).nodes) = _
        rw [← this, List.set_getElem_self]
      · show FSl h2 ((cur.set i _)[j]!).nv encNd 2 ((cur.set i _)[j]!).nodes
        rw [getElem!_pos _ j (by simpa [hcl] using hj), List.getElem_set]
        by_cases he : i = j
        · rw [if_pos he]; exact f2
        · rw [if_neg he]
          have := hnd j hj
          rw [getElem!_pos cur j (by omega)] at this
          exact FSl.mono le2.le this
    · show ds.length - (i + 1) < ds.length - i
      omega
    · exact ⟨rfl, rfl, rfl, rfl, rfl, trivial⟩
    · rfl
    · infer_instance
  · refine G_freezeS (.slice a2 ds.length c2) fun h2 le2 f2 => ?_
    refine G_freezeS (.slice a1 ms.length c1) fun h3 le3 f3 => ?_
    have hle := hl1.trans (le2.le.trans le3.le)
    have hfin := hT h3 _ _ cur ⟨hle⟩ ⟨FSl.mono le3.le f2, fun j hj => FSl.mono (le2.le.trans le3.le) (hnd j (by omega))⟩ hpu f3
    repeat (first | refine Step.imp ?_ | refine Side.mk (by first | exact True.intro | omega | exact ⟨trivial, rfl⟩ | exact ⟨by omega, trivial, rfl⟩ | exact ⟨by omega, rfl⟩ | exact ⟨by omega, by omega, rfl⟩ | (simp only [List.length_cons, List.length_nil, List.length_append]; done) | (simp only [List.length_cons, List.length_nil, List.length_append]; omega) | decide +kernel) ?_ | refine GDraw_one (by decide +kernel) ?_ | refine New.mk fun _ => ?_ | refine NewS.mk fun _ _ => ?_)
    exact Fin.val hfin rfl hle⟩
end
end Go.Sl

/-
  Catalogues: made of what is given.
-/
namespace Go.Sl
open Go.Proofs
set_option linter.unusedVariables false
set_option linter.unusedSimpArgs false
set_option maxRecDepth 10000
set_option synthInstance.maxSize 2000
set_option synthInstance.maxHeartbeats 200000
set_option maxHeartbeats 1000000
structure DT where
  tb : Nat
  name : ByteArray
  T : Tr
deriving Inhabited
@[reducible] def encDT (x : DT) : List Value := [.pointer (some ⟨x.tb, 0, none⟩), .string x.name]
instance : EncOne encDT := ⟨fun y u hu => by simp at hu; rcases hu with rfl | rfl <;> rfl⟩
def cellsF (C : Cat) : Nat → Int
  | 0 => C.meas.length
  | n + 1 => cellsF C n * (C.dims[n]!).2.length
def leavesF (C : Cat) : Nat → Int
  | 0 => C.meas.length
  | n + 1 => leavesF C n * (mkTree (C.dims[n]!).2).leaves.length
def namesF (C : Cat) : List ByteArray := C.dims.map (·.1)
class OkCat (C : Cat) : Prop where
  dims : 1 ≤ C.dims.length ∧ C.dims.length ≤ 4
  meas : 1 ≤ C.meas.length ∧ C.meas.length ≤ 4
  trees : ∀ i < C.dims.length, ckFresh (C.dims[i]!).1 ((namesF C).take i) = 0 ∧ treeErr (C.dims[i]!).2 = none
  names : ∀ i < C.meas.length, ckFresh (C.meas[i]!) (C.meas.take i) = 0
  cells : cellsF C C.dims.length ≤ 4096
  leaves : leavesF C C.dims.length ≤ 1024
  most : 1 ≤ C.leaves ∧ C.leaves ≤ 1024
  scens : 1 ≤ C.scens ∧ C.scens ≤ 8
/-- A catalogue that was accepted, at a block. -/
class IsD (h : PHeap) (b : Nat) (C : outParam Cat) : Prop where
  out : ∃ dv mv tv ds dts ty fr, Pt h b (.cells [dv, mv, vI C.leaves, vI C.scens, tv].toArray ty fr) ∧ IsDims h dv ds ∧ ds.map Dm.pure = C.dims ∧ FSl h mv encS 1 C.meas ∧ FSl h tv encDT 2 dts ∧ dts.length = C.dims.length ∧
    ∀ i < dts.length, (dts[i]!).name = (C.dims[i]!).1 ∧ (dts[i]!).T = mkTree (C.dims[i]!).2 ∧ IsTree h (dts[i]!).tb (mkTree (C.dims[i]!).2)
theorem IsD.mono {h h' : PHeap} {b : Nat} {C : Cat} (hl : Hle h h') (d : IsD h b C) : IsD h' b C := ⟨by
  obtain ⟨dv, mv, tv, ds, dts, ty, fr, h1, h2, h3, h4, h5, h6, h7⟩ := d.out
  exact ⟨dv, mv, tv, ds, dts, ty, fr, Pt.mono hl h1, h2.mono hl, h3, FSl.mono hl h4, FSl.mono hl h5, h6, fun i hi => ⟨(h7 i hi).1, (h7 i hi).2.1, (h7 i hi).2.2.mono hl⟩⟩⟩
instance (priority := low) {h h' : PHeap} {b : Nat} {C : Cat} [l : Le h h'] [t : IsD h b C] : IsD h' b C := t.mono l.le
theorem tree_small {nodes : List Nd} (h : treeErr nodes = none) : nodes.length ≤ 32 ∧ (mkTree nodes).leaves.length ≤ 32 := ⟨(treeErr_all h).2.1, (mkTree_len h).leaves⟩
theorem cellsF_le (C : Cat) (hm : C.meas.length ≤ 4) : ∀ n, (∀ i < n, treeErr (C.dims[i]!).2 = none) → 0 ≤ cellsF C n ∧ cellsF C n ≤ 4 * 32 ^ n
  | 0, _ => by simp only [cellsF]; omega
  | n + 1, h => by
    have ih := cellsF_le C hm n (fun i hi => h i (by omega))
    have h1 := (tree_small (h n (by omega))).1
    simp only [cellsF]
    refine ⟨Int.mul_nonneg ih.1 (by omega), ?_⟩
    have hp : (0 : Int) ≤ 32 ^ n := Int.pow_nonneg (by omega)
    have hm : cellsF C n * ((C.dims[n]!).2.length : Int) ≤ (4 * 32 ^ n) * 32 := Int.mul_le_mul ih.2 (by omega) (by omega) (by omega)
    rw [Int.pow_succ]; omega
theorem leavesF_le (C : Cat) (hm : C.meas.length ≤ 4) : ∀ n, (∀ i < n, treeErr (C.dims[i]!).2 = none) → 0 ≤ leavesF C n ∧ leavesF C n ≤ 4 * 32 ^ n
  | 0, _ => by simp only [leavesF]; omega
  | n + 1, h => by
    have ih := leavesF_le C hm n (fun i hi => h i (by omega))
    have h1 := (tree_small (h n (by omega))).2
    simp only [leavesF]
    refine ⟨Int.mul_nonneg ih.1 (by omega), ?_⟩
    have hp : (0 : Int) ≤ 32 ^ n := Int.pow_nonneg (by omega)
    have hm : leavesF C n * ((mkTree (C.dims[n]!).2).leaves.length : Int) ≤ (4 * 32 ^ n) * 32 := Int.mul_le_mul ih.2 (by omega) (by omega) (by omega)
    rw [Int.pow_succ]; omega
theorem pow4 {n : Nat} (h : n ≤ 4) : (32 : Int) ^ n ≤ 1048576 := by
  have : n = 0 ∨ n = 1 ∨ n = 2 ∨ n = 3 ∨ n = 4 := by omega
  rcases this with rfl | rfl | rfl | rfl | rfl <;> decide
section
variable {h : PHeap} {dv mv : Value} {le sc : Int} {ds : List Dm} {ms : List ByteArray}
instance dims_new {L : List HP} [hd : IsDims h dv ds] [hm : FSl h mv encS 1 ms] : CallX Tryz.prog 10 [.agg [dv, mv, vI le, vI sc].toArray] h L (ds.length ≤ 4294967296 ∧ ms.length ≤ 4294967296 ∧ ∀ i < ds.length, (ds[i]!).nodes.length ≤ 4294967296)
    (fun K => (∀ (i why : Int) h', Le h h' → why ≠ 0 → ¬ OkCat ⟨ds.map Dm.pure, ms, le, sc⟩ → K (.tuple [.pointer none, vI i, vI why].toArray) h' []) ∧
      (OkCat ⟨ds.map Dm.pure, ms, le, sc⟩ → ∀ h' b, Le h h' → IsD h' b ⟨ds.map Dm.pure, ms, le, sc⟩ → K (.tuple [.pointer (some ⟨b, 0, none⟩), vI 0, vI 0].toArray) h' [])) := ⟨fun ⟨hn1, hn2, hn3⟩ => by
  obtain ⟨C, hC⟩ : ∃ C : Cat, C = ⟨ds.map Dm.pure, ms, le, sc⟩ := ⟨_, rfl⟩
  have hCd : C.dims.length = ds.length := by rw [hC]; simp
  have hCm : C.meas = ms := by rw [hC]
  have hCi : ∀ i, i < ds.length → C.dims[i]! = ((ds[i]!).name, (ds[i]!).nodes) := fun i hi => by
    rw [hC]
    show (ds.map Dm.pure)[i]! = _
    rw [getElem!_pos _ i (by simpa using hi), List.getElem_map, getElem!_pos ds i hi]; rfl
  refine spec_enter Tryz.func10 rfl Tryz.ntmps10 Tryz.results10 (by simp) fun K R hT => ?_
  rw [← hC] at hT
  by_cases hsz : (1 ≤ ds.length ∧ ds.length ≤ 4) ∧ (1 ≤ ms.length ∧ ms.length ≤ 4)
  · repeat' (first | refine Step.imp ?_ | refine Side.mk (by first | exact True.intro | omega | exact ⟨trivial, rfl⟩ | exact ⟨by omega, trivial, rfl⟩ | exact ⟨by omega, rfl⟩ | exact ⟨by omega, by omega, rfl⟩ | (simp only [List.length_cons, List.length_nil, List.length_append]; done) | (simp only [List.length_cons, List.length_nil, List.length_append]; omega) | decide +kernel) ?_ | refine GDraw_one (by decide +kernel) ?_ | refine New.mk fun _ => ?_ | refine NewS.mk fun _ _ => ?_ | refine Ways.mk (fun _ => ?_) (fun _ => ?_))
    all_goals first | (exfalso; omega) | skip
    all_goals (intro h1 dv' mv' ds' le1 hd' hpu hm')
    repeat (first | refine Step.imp ?_ | refine Side.mk (by first | exact True.intro | omega | exact ⟨trivial, rfl⟩ | exact ⟨by omega, trivial, rfl⟩ | exact ⟨by omega, rfl⟩ | exact ⟨by omega, by omega, rfl⟩ | (simp only [List.length_cons, List.length_nil, List.length_append]; done) | (simp only [List.length_cons, List.length_nil, List.length_append]; omega) | decide +kernel) ?_ | refine GDraw_one (by decide +kernel) ?_ | refine New.mk fun _ => ?_ | refine NewS.mk fun _ _ => ?_)
    rename_i cb _ _ db
    refine G_nil encS 1 none ?_
    refine G_nil encDT 2 none ?_
    repeat (first | refine Step.imp ?_ | refine Side.mk (by first | exact True.intro | omega | exact ⟨trivial, rfl⟩ | exact ⟨by omega, trivial, rfl⟩ | exact ⟨by omega, rfl⟩ | exact ⟨by omega, by omega, rfl⟩ | (simp only [List.length_cons, List.length_nil, List.length_append]; done) | (simp only [List.length_cons, List.length_nil, List.length_append]; omega) | decide +kernel) ?_ | refine GDraw_one (by decide +kernel) ?_ | refine New.mk fun _ => ?_ | refine NewS.mk fun _ _ => ?_)
    refine G_loop (σ := Nat × PHeap × (Option Addr × Nat) × (Option Addr × Nat) × List DT) (fun s => s.1 ≤ ds.length ∧ Hle h1 s.2.1 ∧ (∀ j < s.1, ckFresh (C.dims[j]!).1 ((namesF C).take j) = 0 ∧ treeErr (C.dims[j]!).2 = none) ∧ s.2.2.2.2.length = s.1 ∧
        ∀ j < s.1, (s.2.2.2.2[j]!).name = (C.dims[j]!).1 ∧ (s.2.2.2.2[j]!).T = mkTree (C.dims[j]!).2 ∧ IsTree s.2.1 (s.2.2.2.2[j]!).tb (mkTree (C.dims[j]!).2)) (fun s => ds.length - s.1)
      (fun s => [(43, vI s.1), (42, vI ds.length), (41, dv), (1, .pointer (some ⟨cb, 0, none⟩)), (5, .pointer (some ⟨db, 0, none⟩)), (6, vI (cellsF C s.1)), (7, vI (leavesF C s.1)), (8, .slice s.2.2.1.1 ((namesF C).take s.1).length s.2.2.1.2)]) (fun s => s.2.1)
      (fun s => slo encS 1 (.slice s.2.2.1.1 ((namesF C).take s.1).length s.2.2.1.2) ((namesF C).take s.1) :: slo encDT 2 (.slice s.2.2.2.1.1 s.2.2.2.2.length s.2.2.2.1.2) s.2.2.2.2 :: blk db (.cells [dv', mv', vI le, vI sc, .slice s.2.2.2.1.1 s.2.2.2.2.length s.2.2.2.1.2].toArray 98 (0, 0)) :: blk cb (.cells [dv, mv, vI le, vI sc].toArray 25 (0, 0)) :: (L ++ R))
      (0, h1, (none, 0), (none, 0), []) ⟨by omega, Hle.refl h1, fun j hj => by omega, rfl, fun j hj => by omega⟩ ?_ rfl ?_ ?_
    · refine ⟨rfl, rfl, rfl, rfl, rfl, ?_, ?_, rfl, trivial⟩
      · simp only [cellsF, hCm]
      · simp only [leavesF, hCm]
    · simp only [List.take_zero, List.length_nil]
      infer_instance
    rintro ⟨i, h2, ⟨an, cn⟩, ⟨ad, cd⟩, dts⟩ ⟨hi, hl2, hok, hdl, hdt⟩
    simp only at hi hl2 hok hdl hdt ⊢
    haveI le2 : Le h1 h2 := ⟨hl2⟩
    repeat (first | refine Step.imp ?_ | refine Side.mk (by first | exact True.intro | omega | exact ⟨trivial, rfl⟩ | exact ⟨by omega, trivial, rfl⟩ | exact ⟨by omega, rfl⟩ | exact ⟨by omega, by omega, rfl⟩ | (simp only [List.length_cons, List.length_nil, List.length_append]; done) | (simp only [List.length_cons, List.length_nil, List.length_append]; omega) | decide +kernel) ?_ | refine GDraw_one (by decide +kernel) ?_ | refine New.mk fun _ => ?_ | refine NewS.mk fun _ _ => ?_)
    refine ⟨fun hlt => ?_, fun hge => ?_⟩
    · have hni := IsDims.mono (le1.le.trans hl2) hd
      have hndi := hni.nd i (by omega)
      have hbi := hn3 i (by omega)
      have hci := hCi i (by omega)
      have hc1 : (C.dims[i]!).1 = (ds[i]!).name := by rw [hci]
      have hc2 : (C.dims[i]!).2 = (ds[i]!).nodes := by rw [hci]
      have htl : ((namesF C).take i).length ≤ 4 := by rw [List.length_take]; omega
      have hno1 : ckFresh (ds[i]!).name ((namesF C).take i) ≠ 0 → ¬ OkCat C := fun hne hk => hne (by have := (hk.trees i (by omega)).1; rwa [hc1] at this)
      have hno2 : treeErr (ds[i]!).nodes ≠ none → ¬ OkCat C := fun hne hk => hne (by have := (hk.trees i (by omega)).2; rwa [hc2] at this)
      have hcells := cellsF_le C (by rw [hCm]; omega) i (fun j hj => (hok j hj).2)
      have hleaves := leavesF_le C (by rw [hCm]; omega) i (fun j hj => (hok j hj).2)
      repeat (first | refine Step.imp ?_ | refine Side.mk (by first | exact True.intro | omega | exact ⟨trivial, rfl⟩ | exact ⟨by omega, trivial, rfl⟩ | exact ⟨by omega, rfl⟩ | exact ⟨by omega, by omega, rfl⟩ | (simp only [List.length_cons, List.length_nil, List.length_append]; done) | (simp only [List.length_cons, List.length_nil, List.length_append]; omega) | decide +kernel) ?_ | refine GDraw_one (by decide +kernel) ?_ | refine New.mk fun _ => ?_ | refine NewS.mk fun _ _ => ?_)
      refine ⟨fun hbad => ?_, fun hgood => ?_⟩
      · have hfin := hT.1 i _ h2 ⟨le1.le.trans hl2⟩ hbad (hno1 hbad)
        repeat (first | refine Step.imp ?_ | refine Side.mk (by first | exact True.intro | omega | exact ⟨trivial, rfl⟩ | exact ⟨by omega, trivial, rfl⟩ | exact ⟨by omega, rfl⟩ | exact ⟨by omega, by omega, rfl⟩ | (simp only [List.length_cons, List.length_nil, List.length_append]; done) | (simp only [List.length_cons, List.length_nil, List.length_append]; omega) | decide +kernel) ?_ | refine GDraw_one (by decide +kernel) ?_ | refine New.mk fun _ => ?_ | refine NewS.mk fun _ _ => ?_)
        exact Fin.val hfin rfl (le1.le.trans hl2)
      have hgood := Decidable.not_not.1 hgood
      repeat (first | refine Step.imp ?_ | refine Side.mk (by first | exact True.intro | omega | exact ⟨trivial, rfl⟩ | exact ⟨by omega, trivial, rfl⟩ | exact ⟨by omega, rfl⟩ | exact ⟨by omega, by omega, rfl⟩ | (simp only [List.length_cons, List.length_nil, List.length_append]; done) | (simp only [List.length_cons, List.length_nil, List.length_append]; omega) | decide +kernel) ?_ | refine GDraw_one (by decide +kernel) ?_ | refine New.mk fun _ => ?_ | refine NewS.mk fun _ _ => ?_)
      refine ⟨fun j why h3 le3 herr => ?_, fun hnone h3 tb le3 htree => ?_⟩
      · have hw := treeErr_why herr
        have hle3 := (le1.le.trans hl2).trans le3.le
        have hfin := hT.1 i why h3 ⟨hle3⟩ hw (hno2 (by rw [herr]; simp))
        repeat (first | refine Step.imp ?_ | refine Side.mk (by first | exact True.intro | omega | exact ⟨trivial, rfl⟩ | exact ⟨by omega, trivial, rfl⟩ | exact ⟨by omega, rfl⟩ | exact ⟨by omega, by omega, rfl⟩ | (simp only [List.length_cons, List.length_nil, List.length_append]; done) | (simp only [List.length_cons, List.length_nil, List.length_append]; omega) | decide +kernel) ?_ | refine GDraw_one (by decide +kernel) ?_ | refine New.mk fun _ => ?_ | refine NewS.mk fun _ _ => ?_)
        refine ⟨fun _ => ?_, fun hz => absurd hw hz⟩
        repeat (first | refine Step.imp ?_ | refine Side.mk (by first | exact True.intro | omega | exact ⟨trivial, rfl⟩ | exact ⟨by omega, trivial, rfl⟩ | exact ⟨by omega, rfl⟩ | exact ⟨by omega, by omega, rfl⟩ | (simp only [List.length_cons, List.length_nil, List.length_append]; done) | (simp only [List.length_cons, List.length_nil, List.length_append]; omega) | decide +kernel) ?_ | refine GDraw_one (by decide +kernel) ?_ | refine New.mk fun _ => ?_ | refine NewS.mk fun _ _ => ?_)
        exact Fin.val hfin rfl hle3
      have hsm := tree_small hnone
      have hnd0 : (mkTree (ds[i]!).nodes).nodes.length = (ds[i]!).nodes.length := rfl
      have hp4 := pow4 (n := i) (by omega)
      have hm1 : 0 ≤ cellsF C i * ((mkTree (ds[i]!).nodes).nodes.length : Int) ∧ cellsF C i * ((mkTree (ds[i]!).nodes).nodes.length : Int) ≤ (4 * 32 ^ i) * 32 := ⟨Int.mul_nonneg hcells.1 (by omega), Int.mul_le_mul hcells.2 (by omega) (by omega) (by omega)⟩
      have hm2 : 0 ≤ leavesF C i * ((mkTree (ds[i]!).nodes).leaves.length : Int) ∧ leavesF C i * ((mkTree (ds[i]!).nodes).leaves.length : Int) ≤ (4 * 32 ^ i) * 32 := ⟨Int.mul_nonneg hleaves.1 (by omega), Int.mul_le_mul hleaves.2 (by omega) (by omega) (by omega)⟩
      repeat (first | refine Step.imp ?_ | refine Side.mk (by first | exact True.intro | omega | exact ⟨trivial, rfl⟩ | exact ⟨by omega, trivial, rfl⟩ | exact ⟨by omega, rfl⟩ | exact ⟨by omega, by omega, rfl⟩ | (simp only [List.length_cons, List.length_nil, List.length_append]; done) | (simp only [List.length_cons, List.length_nil, List.length_append]; omega) | decide +kernel) ?_ | refine GDraw_one (by decide +kernel) ?_ | refine New.mk fun _ => ?_ | refine NewS.mk fun _ _ => ?_)
      refine ⟨fun hz => absurd rfl hz, fun _ => ?_⟩
      haveI : Mk encDT [.pointer (some ⟨tb, 0, none⟩), .string (ds[i]!).name] ⟨tb, (ds[i]!).name, mkTree (ds[i]!).nodes⟩ := ⟨rfl⟩
      repeat (first | refine GDraw_O (.slice ad dts.length cd) (by decide +kernel) ?_ | refine Step.imp ?_ | refine Side.mk (by first | exact True.intro | omega | exact ⟨trivial, rfl⟩ | exact ⟨by omega, trivial, rfl⟩ | exact ⟨by omega, rfl⟩ | exact ⟨by omega, by omega, rfl⟩ | (simp only [List.length_cons, List.length_nil, List.length_append]; done) | (simp only [List.length_cons, List.length_nil, List.length_append]; omega) | decide +kernel) ?_ | refine GDraw_one (by decide +kernel) ?_ | refine New.mk fun _ => ?_ | refine NewS.mk fun _ _ => ?_)
      intro la lc
      repeat (first | refine Step.imp ?_ | refine Side.mk (by first | exact True.intro | omega | exact ⟨trivial, rfl⟩ | exact ⟨by omega, trivial, rfl⟩ | exact ⟨by omega, rfl⟩ | exact ⟨by omega, by omega, rfl⟩ | (simp only [List.length_cons, List.length_nil, List.length_append]; done) | (simp only [List.length_cons, List.length_nil, List.length_append]; omega) | decide +kernel) ?_ | refine GDraw_one (by decide +kernel) ?_ | refine New.mk fun _ => ?_ | refine NewS.mk fun _ _ => ?_)
      rename_i b1 an1 cn1 b2 ad1 cd1
      refine X_round (i + 1, h3, (an1, cn1), (ad1, cd1), dts ++ [⟨tb, (ds[i]!).name, mkTree (ds[i]!).nodes⟩]) ?_ ?_ ?_ ?_ ?_
      · refine ⟨by show i + 1 ≤ ds.length; omega, hl2.trans le3.le, fun j hj => ?_, by simp [hdl], fun j hj => ?_⟩
        · rcases Nat.lt_or_ge j i with hji | hji
          · exact hok j hji
          · have hj' : j < i + 1 := hj
            have : j = i := by omega
            subst this
            rw [hc1, hc2]; exact ⟨hgood, hnone⟩
        · show ((dts ++ [(⟨tb, (ds[i]!).name, mkTree (ds[i]!).nodes⟩ : DT)])[j]!).name = _ ∧ ((dts ++ [(⟨tb, (ds[i]!).name, mkTree (ds[i]!).nodes⟩ : DT)])[j]!).T = _ ∧ IsTree h3 ((dts ++ [(⟨tb, (ds[i]!).name, mkTree (ds[i]!).nodes⟩ : DT)])[j]!).tb _
          have hj : j < i + 1 := hj
          rw [getElem!_pos (dts ++ [_]) j (by simp; omega)]
          rcases Nat.lt_or_ge j i with hji | hji
          · rw [List.getElem_append_left (by omega)]
            have := hdt j hji
            rw [getElem!_pos dts j (by omega)] at this
            exact ⟨this.1, this.2.1, this.2.2.mono le3.le⟩
          · have : j = i := by omega
            subst this
            rw [List.getElem_append_right (by omega)]
            simp only [hdl, Nat.sub_self, List.getElem_cons_zero]
            rw [hc1, hc2]
            exact ⟨rfl, rfl, htree⟩
      · show ds.length - (i + 1) < ds.length - i
        omega
      · have hnl : (namesF C).length = ds.length := by unfold namesF; rw [List.length_map, hCd]
        have htk : ((namesF C).take (i + 1)).length = ((namesF C).take i).length + 1 := by simp only [List.length_take]; omega
        refine ⟨rfl, rfl, rfl, rfl, rfl, ?_, ?_, ?_, trivial⟩
        · show _ = some (vI (cellsF C i * ((C.dims[i]!).2.length : Int)))
          rw [hc2]; rfl
        · show _ = some (vI (leavesF C i * ((mkTree (C.dims[i]!).2).leaves.length : Int)))
          rw [hc2]
        · show _ = some (Value.slice an1 ((namesF C).take (i + 1)).length cn1)
          rw [htk]
      · rfl
      · have htk : (namesF C).take (i + 1) = (namesF C).take i ++ [(ds[i]!).name] := by
          have hl : i < (namesF C).length := by unfold namesF; rw [List.length_map, hCd]; omega
          rw [List.take_succ_eq_append_getElem hl]
          congr 2
          rw [← hc1]
          have : ∀ (l : List (ByteArray × List Nd)) (hl : i < (l.map (·.1)).length) (hl' : i < l.length), (l.map (·.1))[i]'hl = (l[i]'hl').1 := fun l hl hl' => by rw [List.getElem_map]
          rw [getElem!_pos C.dims i (by omega)]
          exact this C.dims hl (by omega)
        simp only [htk, List.length_append, List.length_cons, List.length_nil, Nat.zero_add]
        infer_instance
    · have hi2 : i = ds.length := by omega
      subst hi2
      have hall : ∀ j < C.dims.length, ckFresh (C.dims[j]!).1 ((namesF C).take j) = 0 ∧ treeErr (C.dims[j]!).2 = none := fun j hj => hok j (by omega)
      have hle2 := le1.le.trans hl2
      repeat (first | refine Step.imp ?_ | refine Side.mk (by first | exact True.intro | omega | exact ⟨trivial, rfl⟩ | exact ⟨by omega, trivial, rfl⟩ | exact ⟨by omega, rfl⟩ | exact ⟨by omega, by omega, rfl⟩ | (simp only [List.length_cons, List.length_nil, List.length_append]; done) | (simp only [List.length_cons, List.length_nil, List.length_append]; omega) | decide +kernel) ?_ | refine GDraw_one (by decide +kernel) ?_ | refine New.mk fun _ => ?_ | refine NewS.mk fun _ _ => ?_)
      refine G_loopE (σ := Nat) (fun j => j ≤ ms.length ∧ ∀ k < j, ckFresh (C.meas[k]!) (C.meas.take k) = 0) (fun j => ms.length - j) (fun j => [(98, vI j), (97, vI ms.length), (96, mv), (1, .pointer (some ⟨cb, 0, none⟩)), (5, .pointer (some ⟨db, 0, none⟩)), (6, vI (cellsF C ds.length)), (7, vI (leavesF C ds.length))]) 0 ⟨by omega, fun k hk => by omega⟩ ⟨rfl, rfl, rfl, rfl, rfl, rfl, rfl, trivial⟩ ?_
      rintro j ⟨hj, hpre⟩
      repeat (first | refine Step.imp ?_ | refine Side.mk (by first | exact True.intro | omega | exact ⟨trivial, rfl⟩ | exact ⟨by omega, trivial, rfl⟩ | exact ⟨by omega, rfl⟩ | exact ⟨by omega, by omega, rfl⟩ | (simp only [List.length_cons, List.length_nil, List.length_append]; done) | (simp only [List.length_cons, List.length_nil, List.length_append]; omega) | decide +kernel) ?_ | refine GDraw_one (by decide +kernel) ?_ | refine New.mk fun _ => ?_ | refine NewS.mk fun _ _ => ?_)
      refine ⟨fun hlt => ?_, fun hge => ?_⟩
      · have htl : (ms.take j).length ≤ 4 := by rw [List.length_take]; omega
        have hno1 : ckFresh (ms[j]!) (ms.take j) ≠ 0 → ¬ OkCat C := fun hne hk => hne (by have := hk.names j (by rw [hCm]; omega); rwa [hCm] at this)
        repeat (first | refine Step.imp ?_ | refine Side.mk (by first | exact True.intro | omega | exact ⟨trivial, rfl⟩ | exact ⟨by omega, trivial, rfl⟩ | exact ⟨by omega, rfl⟩ | exact ⟨by omega, by omega, rfl⟩ | (simp only [List.length_cons, List.length_nil, List.length_append]; done) | (simp only [List.length_cons, List.length_nil, List.length_append]; omega) | decide +kernel) ?_ | refine GDraw_one (by decide +kernel) ?_ | refine New.mk fun _ => ?_ | refine NewS.mk fun _ _ => ?_)
        refine ⟨fun hbad => ?_, fun hgood => ?_⟩
        · have hfin := hT.1 (-1) _ h2 ⟨hle2⟩ hbad (hno1 hbad)
          repeat (first | refine Step.imp ?_ | refine Side.mk (by first | exact True.intro | omega | exact ⟨trivial, rfl⟩ | exact ⟨by omega, trivial, rfl⟩ | exact ⟨by omega, rfl⟩ | exact ⟨by omega, by omega, rfl⟩ | (simp only [List.length_cons, List.length_nil, List.length_append]; done) | (simp only [List.length_cons, List.length_nil, List.length_append]; omega) | decide +kernel) ?_ | refine GDraw_one (by decide +kernel) ?_ | refine New.mk fun _ => ?_ | refine NewS.mk fun _ _ => ?_)
          exact Fin.val hfin rfl hle2
        · repeat (first | refine Step.imp ?_ | refine Side.mk (by first | exact True.intro | omega | exact ⟨trivial, rfl⟩ | exact ⟨by omega, trivial, rfl⟩ | exact ⟨by omega, rfl⟩ | exact ⟨by omega, by omega, rfl⟩ | (simp only [List.length_cons, List.length_nil, List.length_append]; done) | (simp only [List.length_cons, List.length_nil, List.length_append]; omega) | decide +kernel) ?_ | refine GDraw_one (by decide +kernel) ?_ | refine New.mk fun _ => ?_ | refine NewS.mk fun _ _ => ?_)
          refine X_roundE (j + 1) ?_ ?_ ?_ ?_
          · refine ⟨by omega, fun k hk => ?_⟩
            rcases Nat.lt_or_ge k j with h | h
            · exact hpre k h
            · have : k = j := by omega
              subst this; rw [hCm]; exact Decidable.not_not.1 hgood
          · show ms.length - (j + 1) < ms.length - j
            omega
          · exact ⟨rfl, rfl, rfl, rfl, rfl, rfl, rfl, trivial⟩
          · infer_instance
      · have hall2 : ∀ k < C.meas.length, ckFresh (C.meas[k]!) (C.meas.take k) = 0 := fun k hk => hpre k (by rw [hCm] at hk; omega)
        have hle' : C.leaves = le := by rw [hC]
        have hsc' : C.scens = sc := by rw [hC]
        by_cases hfine : (cellsF C ds.length ≤ 4096 ∧ leavesF C ds.length ≤ 1024) ∧ (1 ≤ le ∧ le ≤ 1024) ∧ (1 ≤ sc ∧ sc ≤ 8)
        · have hokC : OkCat C := ⟨by omega, by rw [hCm]; omega, hall, hall2, by rw [hCd]; omega, by rw [hCd]; omega, by rw [hle']; omega, by rw [hsc']; omega⟩
          refine G_freezeB db fun h3 le3 f3 => ?_
          refine G_freezeS (.slice ad dts.length cd) fun h4 le4 f4 => ?_
          have hle4 := hle2.trans (le3.le.trans le4.le)
          have hD : IsD h4 db C := ⟨dv', mv', _, ds', dts, _, _, by rw [hle', hsc']; exact Pt.mono le4.le f3, hd'.mono (hl2.trans (le3.le.trans le4.le)), by rw [hpu, hC], by rw [hCm]; exact FSl.mono (hl2.trans (le3.le.trans le4.le)) hm', f4, by omega, fun i hi => by
            have := hdt i (by omega)
            exact ⟨this.1, this.2.1, this.2.2.mono (le3.le.trans le4.le)⟩⟩
          have hfin := hT.2 hokC h4 db ⟨hle4⟩ hD
          repeat' (first | refine Step.imp ?_ | refine Side.mk (by first | exact True.intro | omega | exact ⟨trivial, rfl⟩ | exact ⟨by omega, trivial, rfl⟩ | exact ⟨by omega, rfl⟩ | exact ⟨by omega, by omega, rfl⟩ | (simp only [List.length_cons, List.length_nil, List.length_append]; done) | (simp only [List.length_cons, List.length_nil, List.length_append]; omega) | decide +kernel) ?_ | refine GDraw_one (by decide +kernel) ?_ | refine New.mk fun _ => ?_ | refine NewS.mk fun _ _ => ?_ | refine Ways.mk (fun _ => ?_) (fun _ => ?_))
          all_goals first | exact Fin.val hfin rfl hle4 | (exfalso; omega)
        · have hno : ¬ OkCat C := fun hk => hfine (by
            have h1 := hk.cells
            have h2 := hk.leaves
            have h3 := hk.most
            have h4 := hk.scens
            rw [hCd] at h1 h2; rw [hle'] at h3; rw [hsc'] at h4
            exact ⟨⟨h1, h2⟩, h3, h4⟩)
          have hf5 := hT.1 (-1) 5 h2 ⟨hle2⟩ (by decide) hno
          have hf17 := hT.1 (-1) 17 h2 ⟨hle2⟩ (by decide) hno
          repeat' (first | refine Step.imp ?_ | refine Side.mk (by first | exact True.intro | omega | exact ⟨trivial, rfl⟩ | exact ⟨by omega, trivial, rfl⟩ | exact ⟨by omega, rfl⟩ | exact ⟨by omega, by omega, rfl⟩ | (simp only [List.length_cons, List.length_nil, List.length_append]; done) | (simp only [List.length_cons, List.length_nil, List.length_append]; omega) | decide +kernel) ?_ | refine GDraw_one (by decide +kernel) ?_ | refine New.mk fun _ => ?_ | refine NewS.mk fun _ _ => ?_ | refine Ways.mk (fun _ => ?_) (fun _ => ?_))
          all_goals first | exact Fin.val hf5 rfl hle2 | exact Fin.val hf17 rfl hle2 | (exfalso; omega)
  · have hno : ¬ OkCat C := fun hok => hsz ⟨by have := hok.dims; omega, by have := hok.meas; rw [hCm] at this; omega⟩
    have hfin := hT.1 (-1) 5 h ⟨Hle.refl h⟩ (by decide) hno
    repeat' (first | refine Step.imp ?_ | refine Side.mk (by first | exact True.intro | omega | exact ⟨trivial, rfl⟩ | exact ⟨by omega, trivial, rfl⟩ | exact ⟨by omega, rfl⟩ | exact ⟨by omega, by omega, rfl⟩ | (simp only [List.length_cons, List.length_nil, List.length_append]; done) | (simp only [List.length_cons, List.length_nil, List.length_append]; omega) | decide +kernel) ?_ | refine GDraw_one (by decide +kernel) ?_ | refine New.mk fun _ => ?_ | refine NewS.mk fun _ _ => ?_ | refine Ways.mk (fun _ => ?_) (fun _ => ?_))
    all_goals first | exact Fin.val hfin rfl (Hle.refl _) | (exfalso; omega)⟩
end
end Go.Sl

/-
  Catalogues: what one says.
-/
namespace Go.Sl
open Go.Proofs
set_option linter.unusedVariables false
set_option linter.unusedSimpArgs false
set_option maxRecDepth 10000
set_option synthInstance.maxSize 2000
set_option synthInstance.maxHeartbeats 200000
set_option maxHeartbeats 1000000
section
variable {h : PHeap} {b : Nat} {C : Cat}
instance dims_many [hD : IsD h b C] : CallV Tryz.prog 47 [.pointer (some ⟨b, 0, none⟩)] h True (vI C.dims.length) := ⟨fun _ => by
  obtain ⟨dv, mv, tv, ds, dts, ty, fr, h1, h2, h3, h4, h5, h6, h7⟩ := hD.out
  refine spec_enter Tryz.func47 rfl Tryz.ntmps47 Tryz.results47 (by simp) fun K R hT => ?_
  repeat' (first | refine Step.imp ?_ | refine Side.mk (by first | exact True.intro | omega | exact ⟨trivial, rfl⟩ | exact ⟨by omega, trivial, rfl⟩ | exact ⟨by omega, rfl⟩ | exact ⟨by omega, by omega, rfl⟩ | (simp only [List.length_cons, List.length_nil, List.length_append]; done) | (simp only [List.length_cons, List.length_nil, List.length_append]; omega) | decide +kernel) ?_ | refine GDraw_one (by decide +kernel) ?_ | refine New.mk fun _ => ?_ | refine NewS.mk fun _ _ => ?_ | refine Ways.mk (fun _ => ?_) (fun _ => ?_))
  all_goals first | (exfalso; contradiction) | exact Fin.val hT (by rw [h6]) (Hle.refl _)⟩
instance dims_tree {L : List HP} {k : Int} {n : Nat} [hD : IsD h b C] [hn : ToN k n] : CallX Tryz.prog 48 [.pointer (some ⟨b, 0, none⟩), vI k] h L (0 ≤ k ∧ k < C.dims.length) (fun K => ∀ tb, IsTree h tb (mkTree (C.dims[n]!).2) → K (.pointer (some ⟨tb, 0, none⟩)) h []) := ⟨fun hk => by
  have hn := hn.eq
  subst hn
  obtain ⟨dv, mv, tv, ds, dts, ty, fr, h1, h2, h3, h4, h5, h6, h7⟩ := hD.out
  have h8 := h7 k.toNat (by omega)
  refine spec_enter Tryz.func48 rfl Tryz.ntmps48 Tryz.results48 (by simp) fun K R hT => ?_
  repeat' (first | refine Step.imp ?_ | refine Side.mk (by first | exact True.intro | omega | exact ⟨trivial, rfl⟩ | exact ⟨by omega, trivial, rfl⟩ | exact ⟨by omega, rfl⟩ | exact ⟨by omega, by omega, rfl⟩ | (simp only [List.length_cons, List.length_nil, List.length_append]; done) | (simp only [List.length_cons, List.length_nil, List.length_append]; omega) | decide +kernel) ?_ | refine GDraw_one (by decide +kernel) ?_ | refine New.mk fun _ => ?_ | refine NewS.mk fun _ _ => ?_ | refine Ways.mk (fun _ => ?_) (fun _ => ?_))
  all_goals first | (exfalso; omega) | exact Fin.val (hT _ h8.2.2) rfl (Hle.refl _)⟩
instance dims_cat {L : List HP} [hD : IsD h b C] [ok : OkCat C] : CallX Tryz.prog 46 [.pointer (some ⟨b, 0, none⟩)] h L True
    (fun K => ∀ h' dv' mv' ds', Le h h' → IsDims h' dv' ds' → ds'.map Dm.pure = C.dims → FSl h' mv' encS 1 C.meas → K (.agg [dv', mv', vI C.leaves, vI C.scens].toArray) h' []) := ⟨fun _ => by
  obtain ⟨dv, mv, tv, ds, dts, ty, fr, h1, h2, h3, h4, h5, h6, h7⟩ := hD.out
  have hl : ds.length = C.dims.length := by rw [← h3]; simp
  have hd := ok.dims
  have hm := ok.meas
  have hn : ∀ i < ds.length, (ds[i]!).nodes.length ≤ 4294967296 := fun i hi => by
    have := (treeErr_all (ok.trees i (by omega)).2).2.1
    rw [← h3, getElem!_pos _ i (by simpa using hi), List.getElem_map] at this
    rw [getElem!_pos ds i hi]
    have h0 : ((ds[i]).pure).2.length = (ds[i]).nodes.length := rfl
    omega
  refine spec_enter Tryz.func46 rfl Tryz.ntmps46 Tryz.results46 (by simp) fun K R hT => ?_
  repeat' (first | refine Step.imp ?_ | refine Side.mk (by first | exact True.intro | omega | exact ⟨trivial, rfl⟩ | exact ⟨by omega, trivial, rfl⟩ | exact ⟨by omega, rfl⟩ | exact ⟨by omega, by omega, rfl⟩ | (simp only [List.length_cons, List.length_nil, List.length_append]; done) | (simp only [List.length_cons, List.length_nil, List.length_append]; omega) | decide +kernel) ?_ | refine GDraw_one (by decide +kernel) ?_ | refine New.mk fun _ => ?_ | refine NewS.mk fun _ _ => ?_ | refine Ways.mk (fun _ => ?_) (fun _ => ?_))
  all_goals first | (exfalso; contradiction) | skip
  all_goals (refine Side.mk ⟨by omega, by omega, hn⟩ ?_)
  intro h' dv' mv' ds' le hd' hp hm'
  repeat (first | refine Step.imp ?_ | refine Side.mk (by first | exact True.intro | omega | exact ⟨trivial, rfl⟩ | exact ⟨by omega, trivial, rfl⟩ | exact ⟨by omega, rfl⟩ | exact ⟨by omega, by omega, rfl⟩ | (simp only [List.length_cons, List.length_nil, List.length_append]; done) | (simp only [List.length_cons, List.length_nil, List.length_append]; omega) | decide +kernel) ?_ | refine GDraw_one (by decide +kernel) ?_ | refine New.mk fun _ => ?_ | refine NewS.mk fun _ _ => ?_)
  exact Fin.val (hT h' dv' mv' ds' le hd' (by rw [hp, h3]) hm') rfl le.le⟩
/-- How many there are of a dimension. -/
def sizeF (C : Cat) (i : Nat) : Int := if i < C.dims.length then (C.dims[i]!).2.length else 1
def rightF (C : Cat) (m : Int) (a : Nat → Int) : Prop := (0 ≤ m ∧ m < C.meas.length) ∧ ∀ i < 4, 0 ≤ a i ∧ a i < sizeF C i
instance (C : Cat) (m : Int) (a : Nat → Int) : Decidable (rightF C m a) := by unfold rightF; infer_instance
instance dims_right {m a0 a1 a2 a3 : Int} [hD : IsD h b C] [ok : OkCat C] : CallV Tryz.prog 99 [.pointer (some ⟨b, 0, none⟩), .agg [vI m, vI a0, vI a1, vI a2, vI a3].toArray] h True (.bool (decide (rightF C m (get4 a0 a1 a2 a3)))) := ⟨fun _ => by
  obtain ⟨dv, mv, tv, ds, dts, ty, fr, h1, h2, h3, h4, h5, h6, h7⟩ := hD.out
  have hd := ok.dims
  have hm := ok.meas
  refine spec_enter Tryz.func99 rfl Tryz.ntmps99 Tryz.results99 (by simp) fun K R hT => ?_
  repeat' (first | refine Step.imp ?_ | refine Side.mk (by first | exact True.intro | omega | exact ⟨trivial, rfl⟩ | exact ⟨by omega, trivial, rfl⟩ | exact ⟨by omega, rfl⟩ | exact ⟨by omega, by omega, rfl⟩ | (simp only [List.length_cons, List.length_nil, List.length_append]; done) | (simp only [List.length_cons, List.length_nil, List.length_append]; omega) | decide +kernel) ?_ | refine GDraw_one (by decide +kernel) ?_ | refine New.mk fun _ => ?_ | refine NewS.mk fun _ _ => ?_ | refine Ways.mk (fun _ => ?_) (fun _ => ?_))
  all_goals first | (exfalso; contradiction) | skip
  · exact Fin.ff hT (fun hr => by have := hr.1; omega) (Hle.refl _)
  · refine G_loopE (σ := Nat) (fun k => k ≤ 4 ∧ ∀ j < k, 0 ≤ get4 a0 a1 a2 a3 j ∧ get4 a0 a1 a2 a3 j < sizeF C j) (fun k => 4 - k) (fun k => [(25, vI k), (24, .agg [vI a0, vI a1, vI a2, vI a3].toArray), (0, .pointer (some ⟨b, 0, none⟩))]) 0 ⟨by omega, fun j hj => by omega⟩ ⟨rfl, rfl, rfl, trivial⟩ ?_
    rintro k ⟨hk4, hall⟩
    have hno : ¬ (0 ≤ get4 a0 a1 a2 a3 k ∧ get4 a0 a1 a2 a3 k < sizeF C k) → k < 4 → ¬ rightF C m (get4 a0 a1 a2 a3) := fun hn h4 hr => hn (hr.2 k h4)
    have hnext : (0 ≤ get4 a0 a1 a2 a3 k ∧ get4 a0 a1 a2 a3 k < sizeF C k) → ∀ j < k + 1, 0 ≤ get4 a0 a1 a2 a3 j ∧ get4 a0 a1 a2 a3 j < sizeF C j := fun hn j hj => by
      rcases Nat.lt_or_ge j k with h | h
      · exact hall j h
      · have : j = k := by omega
        subst this; exact hn
    repeat (first | refine Step.imp ?_ | refine Side.mk (by first | exact True.intro | omega | exact ⟨trivial, rfl⟩ | exact ⟨by omega, trivial, rfl⟩ | exact ⟨by omega, rfl⟩ | exact ⟨by omega, by omega, rfl⟩ | (simp only [List.length_cons, List.length_nil, List.length_append]; done) | (simp only [List.length_cons, List.length_nil, List.length_append]; omega) | decide +kernel) ?_ | refine GDraw_one (by decide +kernel) ?_ | refine New.mk fun _ => ?_ | refine NewS.mk fun _ _ => ?_)
    refine ⟨fun hlt => ?_, fun hge => ?_⟩
    · repeat (first | refine Step.imp ?_ | refine Side.mk (by first | exact True.intro | omega | exact ⟨trivial, rfl⟩ | exact ⟨by omega, trivial, rfl⟩ | exact ⟨by omega, rfl⟩ | exact ⟨by omega, by omega, rfl⟩ | (simp only [List.length_cons, List.length_nil, List.length_append]; done) | (simp only [List.length_cons, List.length_nil, List.length_append]; omega) | decide +kernel) ?_ | refine GDraw_one (by decide +kernel) ?_ | refine New.mk fun _ => ?_ | refine NewS.mk fun _ _ => ?_)
      refine ⟨fun hin => ?_, fun hout => ?_⟩
      · have h8 := (h7 k (by omega)).2.2
        have hsz : sizeF C k = (mkTree (C.dims[k]!).2).nodes.length := by unfold sizeF; rw [if_pos (by omega)]; rfl
        have hsm := (treeErr_all (ok.trees k (by omega)).2).2.1
        have hsm2 : (mkTree (C.dims[k]!).2).nodes.length = (C.dims[k]!).2.length := rfl
        repeat (first | refine Step.imp ?_ | refine Side.mk (by first | exact True.intro | omega | exact ⟨trivial, rfl⟩ | exact ⟨by omega, trivial, rfl⟩ | exact ⟨by omega, rfl⟩ | exact ⟨by omega, by omega, rfl⟩ | (simp only [List.length_cons, List.length_nil, List.length_append]; done) | (simp only [List.length_cons, List.length_nil, List.length_append]; omega) | decide +kernel) ?_ | refine GDraw_one (by decide +kernel) ?_ | refine New.mk fun _ => ?_ | refine NewS.mk fun _ _ => ?_)
        refine ⟨fun hbad => ?_, fun hgood => ?_⟩
        · repeat (first | refine Step.imp ?_ | refine Side.mk (by first | exact True.intro | omega | exact ⟨trivial, rfl⟩ | exact ⟨by omega, trivial, rfl⟩ | exact ⟨by omega, rfl⟩ | exact ⟨by omega, by omega, rfl⟩ | (simp only [List.length_cons, List.length_nil, List.length_append]; done) | (simp only [List.length_cons, List.length_nil, List.length_append]; omega) | decide +kernel) ?_ | refine GDraw_one (by decide +kernel) ?_ | refine New.mk fun _ => ?_ | refine NewS.mk fun _ _ => ?_)
          exact Fin.ff hT (hno (by omega) (by omega)) (Hle.refl _)
        · repeat (first | refine Step.imp ?_ | refine Side.mk (by first | exact True.intro | omega | exact ⟨trivial, rfl⟩ | exact ⟨by omega, trivial, rfl⟩ | exact ⟨by omega, rfl⟩ | exact ⟨by omega, by omega, rfl⟩ | (simp only [List.length_cons, List.length_nil, List.length_append]; done) | (simp only [List.length_cons, List.length_nil, List.length_append]; omega) | decide +kernel) ?_ | refine GDraw_one (by decide +kernel) ?_ | refine New.mk fun _ => ?_ | refine NewS.mk fun _ _ => ?_)
          refine X_roundE (k + 1) ?_ ?_ ?_ ?_
          · exact ⟨by omega, hnext (by omega)⟩
          · show 4 - (k + 1) < 4 - k
            omega
          · exact ⟨rfl, rfl, rfl, trivial⟩
          · infer_instance
      · have hsz : sizeF C k = 1 := by unfold sizeF; rw [if_neg (by omega)]
        repeat (first | refine Step.imp ?_ | refine Side.mk (by first | exact True.intro | omega | exact ⟨trivial, rfl⟩ | exact ⟨by omega, trivial, rfl⟩ | exact ⟨by omega, rfl⟩ | exact ⟨by omega, by omega, rfl⟩ | (simp only [List.length_cons, List.length_nil, List.length_append]; done) | (simp only [List.length_cons, List.length_nil, List.length_append]; omega) | decide +kernel) ?_ | refine GDraw_one (by decide +kernel) ?_ | refine New.mk fun _ => ?_ | refine NewS.mk fun _ _ => ?_)
        refine ⟨fun hbad => ?_, fun hgood => ?_⟩
        · repeat (first | refine Step.imp ?_ | refine Side.mk (by first | exact True.intro | omega | exact ⟨trivial, rfl⟩ | exact ⟨by omega, trivial, rfl⟩ | exact ⟨by omega, rfl⟩ | exact ⟨by omega, by omega, rfl⟩ | (simp only [List.length_cons, List.length_nil, List.length_append]; done) | (simp only [List.length_cons, List.length_nil, List.length_append]; omega) | decide +kernel) ?_ | refine GDraw_one (by decide +kernel) ?_ | refine New.mk fun _ => ?_ | refine NewS.mk fun _ _ => ?_)
          exact Fin.ff hT (hno (by omega) (by omega)) (Hle.refl _)
        · repeat (first | refine Step.imp ?_ | refine Side.mk (by first | exact True.intro | omega | exact ⟨trivial, rfl⟩ | exact ⟨by omega, trivial, rfl⟩ | exact ⟨by omega, rfl⟩ | exact ⟨by omega, by omega, rfl⟩ | (simp only [List.length_cons, List.length_nil, List.length_append]; done) | (simp only [List.length_cons, List.length_nil, List.length_append]; omega) | decide +kernel) ?_ | refine GDraw_one (by decide +kernel) ?_ | refine New.mk fun _ => ?_ | refine NewS.mk fun _ _ => ?_)
          refine X_roundE (k + 1) ?_ ?_ ?_ ?_
          · exact ⟨by omega, hnext (by omega)⟩
          · show 4 - (k + 1) < 4 - k
            omega
          · exact ⟨rfl, rfl, rfl, trivial⟩
          · infer_instance
    · repeat (first | refine Step.imp ?_ | refine Side.mk (by first | exact True.intro | omega | exact ⟨trivial, rfl⟩ | exact ⟨by omega, trivial, rfl⟩ | exact ⟨by omega, rfl⟩ | exact ⟨by omega, by omega, rfl⟩ | (simp only [List.length_cons, List.length_nil, List.length_append]; done) | (simp only [List.length_cons, List.length_nil, List.length_append]; omega) | decide +kernel) ?_ | refine GDraw_one (by decide +kernel) ?_ | refine New.mk fun _ => ?_ | refine NewS.mk fun _ _ => ?_)
      exact Fin.tt hT ⟨by omega, fun j hj => hall j (by omega)⟩ (Hle.refl _)⟩
def leafF (C : Cat) (m : Int) (a : Nat → Int) : Prop := rightF C m a ∧ ∀ i < C.dims.length, (mkTree (C.dims[i]!).2).leafB (a i)
instance (C : Cat) (m : Int) (a : Nat → Int) : Decidable (leafF C m a) := by unfold leafF; infer_instance
end
end Go.Sl
