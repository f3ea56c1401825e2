/-
  Facts that the proof is made of (part 8 of 8).
-/
import Derived.Test.YtoinkcbioaipoaaMRCoordNil7
import Derived.Test.YtoinkcbioaipoaaMRCoordNil5
import Derived.Test.YtoinkcbioaipoaaMRCoordNil3
import Derived.WalkKit
import Derived.ProofKit
import Derived.OpenShut
import Derived.ShutString
import Derived.ChangeOld
import Derived.Below
import Derived.Deep.Slices
/-
  The document's catalogues: made.
-/
namespace Go.Sl
open Go.Proofs
set_option linter.unusedVariables false
set_option linter.unusedSimpArgs false
set_option maxRecDepth 10000
set_option synthInstance.maxSize 2000
set_option synthInstance.maxHeartbeats 200000
set_option maxHeartbeats 1000000
/-- A catalogue of the document's, at a block. -/
class IsRD (h : PHeap) (b : Nat) (C : outParam Cat) : Prop where
  out : ∃ dv mv tv ds tbs ty fr, Pt h b (.cells [dv, mv, vI C.leaves, vI C.scens, tv].toArray ty fr) ∧ IsDims h dv ds ∧ ds.map Dm.pure = C.dims ∧ FSl h mv encS 1 C.meas ∧ FSl h tv encP 1 tbs ∧ tbs.length = C.dims.length ∧
    ∀ i < tbs.length, IsRT h (tbs[i]!) (C.dims[i]!).2
theorem IsRD.mono {h h' : PHeap} {b : Nat} {C : Cat} (hl : Hle h h') (d : IsRD h b C) : IsRD h' b C := ⟨by
  obtain ⟨dv, mv, tv, ds, tbs, ty, fr, h1, h2, h3, h4, h5, h6, h7⟩ := d.out
  exact ⟨dv, mv, tv, ds, tbs, ty, fr, Pt.mono hl h1, h2.mono hl, h3, FSl.mono hl h4, FSl.mono hl h5, h6, fun i hi => (h7 i hi).mono hl⟩⟩
instance (priority := low) {h h' : PHeap} {b : Nat} {C : Cat} [l : Le h h'] [t : IsRD h b C] : IsRD h' b C := t.mono l.le
theorem mem_take {xs : List ByteArray} {n : Nat} {y : ByteArray} (hn : n ≤ xs.length) : y ∈ xs.take n ↔ ∃ j < n, xs[j]! = y := by
  rw [List.mem_take_iff_getElem]
  constructor
  · rintro ⟨j, hj, he⟩
    exact ⟨j, by omega, by rw [getElem!_pos xs j (by omega)]; exact he⟩
  · rintro ⟨j, hj, he⟩
    exact ⟨j, by omega, by rw [getElem!_pos xs j (by omega)] at he; exact he⟩
section
variable {h : PHeap}
instance rd_named {L : List HP} {v : Value} {xs : List ByteArray} {i : Nat} [hs : Rds L h v encS 1 xs] : CallX Try.prog 45 [v, vI i] h L (i < xs.length ∧ xs.length ≤ 4294967296) (fun K => K (vI (ckFresh (xs[i]!) (xs.take i))) h []) := ⟨fun ⟨hi, hn⟩ => by
  have hm := mem_take (xs := xs) (n := i) (y := xs[i]!) (by omega)
  refine spec_enter Try.func45 rfl Try.ntmps45 Try.results45 (by simp) fun K R hT => ?_
  unfold ckFresh at hT
  repeat (first | refine Step.imp ?_ | refine Side.mk (by first | exact True.intro | omega | exact ⟨trivial, rfl⟩ | exact ⟨by omega, trivial, rfl⟩ | exact ⟨by omega, rfl⟩ | exact ⟨by omega, by omega, rfl⟩ | (simp only [List.length_cons, List.length_nil, List.length_append]; done) | (simp only [List.length_cons, List.length_nil, List.length_append]; omega) | decide +kernel) ?_ | refine GDraw_one (by decide +kernel) ?_ | refine New.mk fun _ => ?_ | refine NewS.mk fun _ _ => ?_)
  refine ⟨fun hno => ?_, fun hok => ?_⟩
  · rw [if_neg hno] at hT
    repeat (first | refine Step.imp ?_ | refine Side.mk (by first | exact True.intro | omega | exact ⟨trivial, rfl⟩ | exact ⟨by omega, trivial, rfl⟩ | exact ⟨by omega, rfl⟩ | exact ⟨by omega, by omega, rfl⟩ | (simp only [List.length_cons, List.length_nil, List.length_append]; done) | (simp only [List.length_cons, List.length_nil, List.length_append]; omega) | decide +kernel) ?_ | refine GDraw_one (by decide +kernel) ?_ | refine New.mk fun _ => ?_ | refine NewS.mk fun _ _ => ?_)
    exact Fin.val hT rfl (Hle.refl _)
  · rw [if_pos (Decidable.not_not.1 hok)] at hT
    repeat (first | refine Step.imp ?_ | refine Side.mk (by first | exact True.intro | omega | exact ⟨trivial, rfl⟩ | exact ⟨by omega, trivial, rfl⟩ | exact ⟨by omega, rfl⟩ | exact ⟨by omega, by omega, rfl⟩ | (simp only [List.length_cons, List.length_nil, List.length_append]; done) | (simp only [List.length_cons, List.length_nil, List.length_append]; omega) | decide +kernel) ?_ | refine GDraw_one (by decide +kernel) ?_ | refine New.mk fun _ => ?_ | refine NewS.mk fun _ _ => ?_)
    refine G_loopE (σ := Nat) (fun k => k ≤ i ∧ ∀ j < k, xs[j]! ≠ xs[i]!) (fun k => i - k) (fun k => [(5, vI k), (0, v), (1, vI i)]) 0 ⟨by omega, by omega⟩ ⟨rfl, rfl, rfl, trivial⟩ fun k hk => ?_
    obtain ⟨hk, hno⟩ := hk
    repeat (first | refine Step.imp ?_ | refine Side.mk (by first | exact True.intro | omega | exact ⟨trivial, rfl⟩ | exact ⟨by omega, trivial, rfl⟩ | exact ⟨by omega, rfl⟩ | exact ⟨by omega, by omega, rfl⟩ | (simp only [List.length_cons, List.length_nil, List.length_append]; done) | (simp only [List.length_cons, List.length_nil, List.length_append]; omega) | decide +kernel) ?_ | refine GDraw_one (by decide +kernel) ?_ | refine New.mk fun _ => ?_ | refine NewS.mk fun _ _ => ?_)
    refine ⟨fun hlt => ?_, fun hge => ?_⟩
    · repeat (first | refine Step.imp ?_ | refine Side.mk (by first | exact True.intro | omega | exact ⟨trivial, rfl⟩ | exact ⟨by omega, trivial, rfl⟩ | exact ⟨by omega, rfl⟩ | exact ⟨by omega, by omega, rfl⟩ | (simp only [List.length_cons, List.length_nil, List.length_append]; done) | (simp only [List.length_cons, List.length_nil, List.length_append]; omega) | decide +kernel) ?_ | refine GDraw_one (by decide +kernel) ?_ | refine New.mk fun _ => ?_ | refine NewS.mk fun _ _ => ?_)
      refine ⟨fun he => ?_, fun hne => ?_⟩
      · rw [if_pos (hm.2 ⟨k, by omega, he⟩)] at hT
        repeat (first | refine Step.imp ?_ | refine Side.mk (by first | exact True.intro | omega | exact ⟨trivial, rfl⟩ | exact ⟨by omega, trivial, rfl⟩ | exact ⟨by omega, rfl⟩ | exact ⟨by omega, by omega, rfl⟩ | (simp only [List.length_cons, List.length_nil, List.length_append]; done) | (simp only [List.length_cons, List.length_nil, List.length_append]; omega) | decide +kernel) ?_ | refine GDraw_one (by decide +kernel) ?_ | refine New.mk fun _ => ?_ | refine NewS.mk fun _ _ => ?_)
        exact Fin.val hT rfl (Hle.refl _)
      · repeat (first | refine Step.imp ?_ | refine Side.mk (by first | exact True.intro | omega | exact ⟨trivial, rfl⟩ | exact ⟨by omega, trivial, rfl⟩ | exact ⟨by omega, rfl⟩ | exact ⟨by omega, by omega, rfl⟩ | (simp only [List.length_cons, List.length_nil, List.length_append]; done) | (simp only [List.length_cons, List.length_nil, List.length_append]; omega) | decide +kernel) ?_ | refine GDraw_one (by decide +kernel) ?_ | refine New.mk fun _ => ?_ | refine NewS.mk fun _ _ => ?_)
        refine X_roundE (k + 1) ⟨by omega, fun j hj => ?_⟩ (by omega) ⟨rfl, rfl, rfl, trivial⟩ inferInstance
        rcases Nat.lt_or_ge j k with h1 | h1
        · exact hno j h1
        · have : j = k := by omega
          subst this; exact hne
    · have hk2 : k = i := by omega
      subst hk2
      rw [if_neg (fun hin => by obtain ⟨j, hj, he⟩ := hm.1 hin; exact hno j hj he)] at hT
      repeat (first | refine Step.imp ?_ | refine Side.mk (by first | exact True.intro | omega | exact ⟨trivial, rfl⟩ | exact ⟨by omega, trivial, rfl⟩ | exact ⟨by omega, rfl⟩ | exact ⟨by omega, by omega, rfl⟩ | (simp only [List.length_cons, List.length_nil, List.length_append]; done) | (simp only [List.length_cons, List.length_nil, List.length_append]; omega) | decide +kernel) ?_ | refine GDraw_one (by decide +kernel) ?_ | refine New.mk fun _ => ?_ | refine NewS.mk fun _ _ => ?_)
      exact Fin.val hT rfl (Hle.refl _)⟩
theorem dmName_len (ds : List Dm) : (ds.map Dm.name).length = ds.length := by simp
instance rd_names {L : List HP} {v : Value} {ds : List Dm} [hd : IsDims h v ds] : CallX Try.prog 46 [v] h L (ds.length ≤ 4294967296)
    (fun K => ∀ a c, K (.slice a (ds.map Dm.name).length c) h [slo encS 1 (.slice a (ds.map Dm.name).length c) (ds.map Dm.name)]) := ⟨fun hn => by
  refine spec_enter Try.func46 rfl Try.ntmps46 Try.results46 (by simp) fun K R hT => ?_
  refine Step.imp ?_
  refine G_nil encS 1 none ?_
  repeat (first | refine Step.imp ?_ | refine Side.mk (by first | exact True.intro | omega | exact ⟨trivial, rfl⟩ | exact ⟨by omega, trivial, rfl⟩ | exact ⟨by omega, rfl⟩ | exact ⟨by omega, by omega, rfl⟩ | (simp only [List.length_cons, List.length_nil, List.length_append]; done) | (simp only [List.length_cons, List.length_nil, List.length_append]; omega) | decide +kernel) ?_ | refine GDraw_one (by decide +kernel) ?_ | refine New.mk fun _ => ?_ | refine NewS.mk fun _ _ => ?_)
  refine G_loop (σ := Nat × Option Addr × Nat) (fun s => s.1 ≤ ds.length) (fun s => ds.length - s.1) (fun s => [(4, vI s.1), (3, .slice s.2.1 ((ds.take s.1).map Dm.name).length s.2.2), (0, v)]) (fun _ => h)
    (fun s => slo encS 1 (.slice s.2.1 ((ds.take s.1).map Dm.name).length s.2.2) ((ds.take s.1).map Dm.name) :: (L ++ R)) (0, none, 0) (Nat.zero_le _) ⟨rfl, rfl, rfl, trivial⟩ rfl (by simp only [List.take_zero, List.map_nil, List.length_nil]; infer_instance) ?_
  rintro ⟨k, a, c⟩ hk
  simp only at hk ⊢
  have hkl : ((ds.take k).map Dm.name).length ≤ k := by rw [List.length_map, List.length_take]; omega
  repeat (first | refine Step.imp ?_ | refine Side.mk (by first | exact True.intro | omega | exact ⟨trivial, rfl⟩ | exact ⟨by omega, trivial, rfl⟩ | exact ⟨by omega, rfl⟩ | exact ⟨by omega, by omega, rfl⟩ | (simp only [List.length_cons, List.length_nil, List.length_append]; done) | (simp only [List.length_cons, List.length_nil, List.length_append]; omega) | decide +kernel) ?_ | refine GDraw_one (by decide +kernel) ?_ | refine New.mk fun _ => ?_ | refine NewS.mk fun _ _ => ?_)
  refine ⟨fun hlt => ?_, fun hge => ?_⟩
  · have hs : (ds.take (k + 1)).map Dm.name = (ds.take k).map Dm.name ++ [(ds[k]!).name] := by
      rw [List.take_succ_eq_append_getElem (by omega), List.map_append, getElem!_pos ds k (by omega)]; rfl
    repeat (first | refine Step.imp ?_ | refine Side.mk (by first | exact True.intro | omega | exact ⟨trivial, rfl⟩ | exact ⟨by omega, trivial, rfl⟩ | exact ⟨by omega, rfl⟩ | exact ⟨by omega, by omega, rfl⟩ | (simp only [List.length_cons, List.length_nil, List.length_append]; done) | (simp only [List.length_cons, List.length_nil, List.length_append]; omega) | decide +kernel) ?_ | refine GDraw_one (by decide +kernel) ?_ | refine New.mk fun _ => ?_ | refine NewS.mk fun _ _ => ?_)
    rename_i b1 a1 c1
    refine X_round (k + 1, a1, c1) ?_ ?_ ?_ ?_ ?_
    · show k + 1 ≤ ds.length
      omega
    · show ds.length - (k + 1) < ds.length - k
      omega
    · refine ⟨rfl, ?_, rfl, trivial⟩
      rw [hs, List.length_append]; rfl
    · rfl
    · simp only [hs, List.length_append, List.length_cons, List.length_nil, Nat.zero_add]
      infer_instance
  · have hk2 : k = ds.length := by omega
    subst hk2
    simp only [List.take_length] at *
    repeat (first | refine Step.imp ?_ | refine Side.mk (by first | exact True.intro | omega | exact ⟨trivial, rfl⟩ | exact ⟨by omega, trivial, rfl⟩ | exact ⟨by omega, rfl⟩ | exact ⟨by omega, by omega, rfl⟩ | (simp only [List.length_cons, List.length_nil, List.length_append]; done) | (simp only [List.length_cons, List.length_nil, List.length_append]; omega) | decide +kernel) ?_ | refine GDraw_one (by decide +kernel) ?_ | refine New.mk fun _ => ?_ | refine NewS.mk fun _ _ => ?_)
    exact Fin.val (hT a c) rfl (Hle.refl _)⟩
end
section
variable {h : PHeap} {dv mv : Value} {le sc : Int} {ds : List Dm} {ms : List ByteArray}
instance rd_new {L : List HP} [hd : IsDims h dv ds] [hm : FSl h mv encS 1 ms] : CallX Try.prog 22 [.agg [dv, mv, vI le, vI sc].toArray] h L (ds.length ≤ 4294967296 ∧ ms.length ≤ 4294967296 ∧ ∀ i < ds.length, (ds[i]!).nodes.length ≤ 4294967296)
    (fun K => (∀ (i why : Int) h', Le h h' → why ≠ 0 → ¬ OkCat ⟨ds.map Dm.pure, ms, le, sc⟩ → K (.tuple [.pointer none, vI i, vI why].toArray) h' []) ∧
      (OkCat ⟨ds.map Dm.pure, ms, le, sc⟩ → ∀ h' b, Le h h' → IsRD h' b ⟨ds.map Dm.pure, ms, le, sc⟩ → K (.tuple [.pointer (some ⟨b, 0, none⟩), vI 0, vI 0].toArray) h' [])) := ⟨fun ⟨hn1, hn2, hn3⟩ => by
  obtain ⟨C, hC⟩ : ∃ C : Cat, C = ⟨ds.map Dm.pure, ms, le, sc⟩ := ⟨_, rfl⟩
  have hCd : C.dims.length = ds.length := by rw [hC]; simp
  have hCm : C.meas = ms := by rw [hC]
  have hCn : namesF C = ds.map Dm.name := by rw [hC]; unfold namesF; rw [List.map_map]; rfl
  have hCi : ∀ i, i < ds.length → C.dims[i]! = ((ds[i]!).name, (ds[i]!).nodes) := fun i hi => by
    rw [hC]
    show (ds.map Dm.pure)[i]! = _
    rw [getElem!_pos _ i (by simpa using hi), List.getElem_map, getElem!_pos ds i hi]; rfl
  refine spec_enter Try.func22 rfl Try.ntmps22 Try.results22 (by simp) fun K R hT => ?_
  rw [← hC] at hT
  by_cases hsz : (1 ≤ ds.length ∧ ds.length ≤ 4) ∧ (1 ≤ ms.length ∧ ms.length ≤ 4)
  · repeat' (first | refine Step.imp ?_ | refine Side.mk (by first | exact True.intro | omega | exact ⟨trivial, rfl⟩ | exact ⟨by omega, trivial, rfl⟩ | exact ⟨by omega, rfl⟩ | exact ⟨by omega, by omega, rfl⟩ | (simp only [List.length_cons, List.length_nil, List.length_append]; done) | (simp only [List.length_cons, List.length_nil, List.length_append]; omega) | decide +kernel) ?_ | refine GDraw_one (by decide +kernel) ?_ | refine New.mk fun _ => ?_ | refine NewS.mk fun _ _ => ?_ | refine Ways.mk (fun _ => ?_) (fun _ => ?_))
    all_goals first | (exfalso; omega) | skip
    rename_i cb _ _ _ _ db
    refine G_nil encP 1 none ?_
    refine G_loop (σ := Nat × PHeap × (Option Addr × Nat) × List Nat) (fun s => s.1 ≤ ds.length ∧ Hle h s.2.1 ∧ (∀ j < s.1, ckFresh (C.dims[j]!).1 ((namesF C).take j) = 0 ∧ treeErr (C.dims[j]!).2 = none) ∧ s.2.2.2.length = s.1 ∧
        ∀ j < s.1, IsRT s.2.1 (s.2.2.2[j]!) (C.dims[j]!).2) (fun s => ds.length - s.1)
      (fun s => [(8, vI s.1), (1, .pointer (some ⟨cb, 0, none⟩)), (5, .pointer (some ⟨db, 0, none⟩)), (6, vI (cellsF C s.1)), (7, vI (leavesF C s.1))]) (fun s => s.2.1)
      (fun s => slo encP 1 (.slice s.2.2.1.1 s.2.2.2.length s.2.2.1.2) s.2.2.2 :: blk db (.cells [dv, mv, vI le, vI sc, .slice s.2.2.1.1 s.2.2.2.length s.2.2.1.2].toArray 103 (0, 0)) :: blk cb (.cells [dv, mv, vI le, vI sc].toArray 25 (0, 0)) :: (L ++ R))
      (0, h, (none, 0), []) ⟨by omega, Hle.refl h, fun j hj => by omega, rfl, fun j hj => by omega⟩ ?_ rfl inferInstance ?_
    · refine ⟨rfl, rfl, rfl, ?_, ?_, trivial⟩
      · simp only [cellsF, hCm]
      · simp only [leavesF, hCm]
    rintro ⟨i, h2, ⟨ta, tc⟩, tbs⟩ ⟨hi, hl2, hok, htl, htb⟩
    simp only at hi hl2 hok htl htb ⊢
    haveI le2 : Le h h2 := ⟨hl2⟩
    repeat (first | refine Step.imp ?_ | refine Side.mk (by first | exact True.intro | omega | exact ⟨trivial, rfl⟩ | exact ⟨by omega, trivial, rfl⟩ | exact ⟨by omega, rfl⟩ | exact ⟨by omega, by omega, rfl⟩ | (simp only [List.length_cons, List.length_nil, List.length_append]; done) | (simp only [List.length_cons, List.length_nil, List.length_append]; omega) | decide +kernel) ?_ | refine GDraw_one (by decide +kernel) ?_ | refine New.mk fun _ => ?_ | refine NewS.mk fun _ _ => ?_)
    refine ⟨fun hlt => ?_, fun hge => ?_⟩
    · have hndi := (hd.mono hl2).nd i (by omega)
      have hbi := hn3 i (by omega)
      have hci := hCi i (by omega)
      have hc1 : (C.dims[i]!).1 = (ds[i]!).name := by rw [hci]
      have hc2 : (C.dims[i]!).2 = (ds[i]!).nodes := by rw [hci]
      have hnl := dmName_len ds
      have hng : (ds.map Dm.name)[i]! = (C.dims[i]!).1 := by rw [hc1, getElem!_pos _ i (by omega), List.getElem_map, getElem!_pos ds i (by omega)]
      have hno1 : ckFresh ((ds.map Dm.name)[i]!) ((ds.map Dm.name).take i) ≠ 0 → ¬ OkCat C := fun hne hk => hne (by have := (hk.trees i (by omega)).1; rwa [hng, ← hCn])
      have hno2 : treeErr (ds[i]!).nodes ≠ none → ¬ OkCat C := fun hne hk => hne (by have := (hk.trees i (by omega)).2; rwa [hc2] at this)
      have hcells := cellsF_le C (by rw [hCm]; omega) i (fun j hj => (hok j hj).2)
      have hleaves := leavesF_le C (by rw [hCm]; omega) i (fun j hj => (hok j hj).2)
      repeat (first | refine Step.imp ?_ | refine Side.mk (by first | exact True.intro | omega | exact ⟨trivial, rfl⟩ | exact ⟨by omega, trivial, rfl⟩ | exact ⟨by omega, rfl⟩ | exact ⟨by omega, by omega, rfl⟩ | (simp only [List.length_cons, List.length_nil, List.length_append]; done) | (simp only [List.length_cons, List.length_nil, List.length_append]; omega) | decide +kernel) ?_ | refine GDraw_one (by decide +kernel) ?_ | refine New.mk fun _ => ?_ | refine NewS.mk fun _ _ => ?_)
      intro na nc
      repeat (first | refine Step.imp ?_ | refine Side.mk (by first | exact True.intro | omega | exact ⟨trivial, rfl⟩ | exact ⟨by omega, trivial, rfl⟩ | exact ⟨by omega, rfl⟩ | exact ⟨by omega, by omega, rfl⟩ | (simp only [List.length_cons, List.length_nil, List.length_append]; done) | (simp only [List.length_cons, List.length_nil, List.length_append]; omega) | decide +kernel) ?_ | refine GDraw_one (by decide +kernel) ?_ | refine New.mk fun _ => ?_ | refine NewS.mk fun _ _ => ?_)
      refine ⟨fun hbad => ?_, fun hgood => ?_⟩
      · have hfin := hT.1 i _ h2 le2 hbad (hno1 hbad)
        repeat (first | refine Step.imp ?_ | refine Side.mk (by first | exact True.intro | omega | exact ⟨trivial, rfl⟩ | exact ⟨by omega, trivial, rfl⟩ | exact ⟨by omega, rfl⟩ | exact ⟨by omega, by omega, rfl⟩ | (simp only [List.length_cons, List.length_nil, List.length_append]; done) | (simp only [List.length_cons, List.length_nil, List.length_append]; omega) | decide +kernel) ?_ | refine GDraw_one (by decide +kernel) ?_ | refine New.mk fun _ => ?_ | refine NewS.mk fun _ _ => ?_)
        exact Fin.val hfin rfl hl2
      have hgood := Decidable.not_not.1 hgood
      repeat (first | refine Step.imp ?_ | refine Side.mk (by first | exact True.intro | omega | exact ⟨trivial, rfl⟩ | exact ⟨by omega, trivial, rfl⟩ | exact ⟨by omega, rfl⟩ | exact ⟨by omega, by omega, rfl⟩ | (simp only [List.length_cons, List.length_nil, List.length_append]; done) | (simp only [List.length_cons, List.length_nil, List.length_append]; omega) | decide +kernel) ?_ | refine GDraw_one (by decide +kernel) ?_ | refine New.mk fun _ => ?_ | refine NewS.mk fun _ _ => ?_)
      refine ⟨fun j why h3 le3 hw herr => ?_, fun hnone h3 tb le3 htree => ?_⟩
      · have hle3 := hl2.trans le3.le
        have hfin := hT.1 i why h3 ⟨hle3⟩ hw (hno2 herr)
        repeat (first | refine Step.imp ?_ | refine Side.mk (by first | exact True.intro | omega | exact ⟨trivial, rfl⟩ | exact ⟨by omega, trivial, rfl⟩ | exact ⟨by omega, rfl⟩ | exact ⟨by omega, by omega, rfl⟩ | (simp only [List.length_cons, List.length_nil, List.length_append]; done) | (simp only [List.length_cons, List.length_nil, List.length_append]; omega) | decide +kernel) ?_ | refine GDraw_one (by decide +kernel) ?_ | refine New.mk fun _ => ?_ | refine NewS.mk fun _ _ => ?_)
        refine ⟨fun _ => ?_, fun hz => absurd hw hz⟩
        repeat (first | refine Step.imp ?_ | refine Side.mk (by first | exact True.intro | omega | exact ⟨trivial, rfl⟩ | exact ⟨by omega, trivial, rfl⟩ | exact ⟨by omega, rfl⟩ | exact ⟨by omega, by omega, rfl⟩ | (simp only [List.length_cons, List.length_nil, List.length_append]; done) | (simp only [List.length_cons, List.length_nil, List.length_append]; omega) | decide +kernel) ?_ | refine GDraw_one (by decide +kernel) ?_ | refine New.mk fun _ => ?_ | refine NewS.mk fun _ _ => ?_)
        exact Fin.val hfin rfl hle3
      haveI hokt : OkT (ds[i]!).nodes := ⟨hnone⟩
      have htree' := htree
      obtain ⟨tnv, tty, tfr, t1, t2⟩ := htree'.out
      have hsm := tree_small hnone
      have hp4 := pow4 (n := i) (by omega)
      have hm1 : 0 ≤ cellsF C i * ((ds[i]!).nodes.length : Int) ∧ cellsF C i * ((ds[i]!).nodes.length : Int) ≤ (4 * 32 ^ i) * 32 := ⟨Int.mul_nonneg hcells.1 (by omega), Int.mul_le_mul hcells.2 (by omega) (by omega) (by omega)⟩
      have hm2 : 0 ≤ leavesF C i * ((mkTree (ds[i]!).nodes).leaves.length : Int) ∧ leavesF C i * ((mkTree (ds[i]!).nodes).leaves.length : Int) ≤ (4 * 32 ^ i) * 32 := ⟨Int.mul_nonneg hleaves.1 (by omega), Int.mul_le_mul hleaves.2 (by omega) (by omega) (by omega)⟩
      repeat (first | refine Step.imp ?_ | refine Side.mk (by first | exact True.intro | omega | exact ⟨trivial, rfl⟩ | exact ⟨by omega, trivial, rfl⟩ | exact ⟨by omega, rfl⟩ | exact ⟨by omega, by omega, rfl⟩ | (simp only [List.length_cons, List.length_nil, List.length_append]; done) | (simp only [List.length_cons, List.length_nil, List.length_append]; omega) | decide +kernel) ?_ | refine GDraw_one (by decide +kernel) ?_ | refine New.mk fun _ => ?_ | refine NewS.mk fun _ _ => ?_)
      refine ⟨fun hz => absurd rfl hz, fun _ => ?_⟩
      repeat (first | refine Step.imp ?_ | refine Side.mk (by first | exact True.intro | omega | exact ⟨trivial, rfl⟩ | exact ⟨by omega, trivial, rfl⟩ | exact ⟨by omega, rfl⟩ | exact ⟨by omega, by omega, rfl⟩ | (simp only [List.length_cons, List.length_nil, List.length_append]; done) | (simp only [List.length_cons, List.length_nil, List.length_append]; omega) | decide +kernel) ?_ | refine GDraw_one (by decide +kernel) ?_ | refine New.mk fun _ => ?_ | refine NewS.mk fun _ _ => ?_)
      intro la lc
      repeat (first | refine Step.imp ?_ | refine Side.mk (by first | exact True.intro | omega | exact ⟨trivial, rfl⟩ | exact ⟨by omega, trivial, rfl⟩ | exact ⟨by omega, rfl⟩ | exact ⟨by omega, by omega, rfl⟩ | (simp only [List.length_cons, List.length_nil, List.length_append]; done) | (simp only [List.length_cons, List.length_nil, List.length_append]; omega) | decide +kernel) ?_ | refine GDraw_one (by decide +kernel) ?_ | refine New.mk fun _ => ?_ | refine NewS.mk fun _ _ => ?_)
      rename_i b1 ta1 tc1
      refine X_round (i + 1, h3, (ta1, tc1), tbs ++ [tb]) ?_ ?_ ?_ ?_ ?_
      · refine ⟨by show i + 1 ≤ ds.length; omega, hl2.trans le3.le, fun j hj => ?_, by simp [htl], fun j hj => ?_⟩
        · rcases Nat.lt_or_ge j i with hji | hji
          · exact hok j hji
          · have hj' : j < i + 1 := hj
            have : j = i := by omega
            subst this
            rw [hc2, ← hng, hCn]; exact ⟨hgood, hnone⟩
        · show IsRT h3 ((tbs ++ [tb])[j]!) _
          have hj : j < i + 1 := hj
          rw [getElem!_pos (tbs ++ [tb]) j (by simp; omega)]
          rcases Nat.lt_or_ge j i with hji | hji
          · rw [List.getElem_append_left (by omega)]
            have := htb j hji
            rw [getElem!_pos tbs j (by omega)] at this
            exact this.mono le3.le
          · have : j = i := by omega
            subst this
            rw [List.getElem_append_right (by omega)]
            simp only [htl, Nat.sub_self, List.getElem_cons_zero]
            rw [hc2]
            exact htree
      · show ds.length - (i + 1) < ds.length - i
        omega
      · refine ⟨rfl, rfl, rfl, ?_, ?_, trivial⟩
        · show _ = some (vI (cellsF C i * ((C.dims[i]!).2.length : Int)))
          rw [hc2]
        · show _ = some (vI (leavesF C i * ((mkTree (C.dims[i]!).2).leaves.length : Int)))
          rw [hc2]
      · rfl
      · simp only [List.length_append, List.length_cons, List.length_nil, Nat.zero_add]
        infer_instance
    · have hi2 : i = ds.length := by omega
      subst hi2
      have hall : ∀ j < C.dims.length, ckFresh (C.dims[j]!).1 ((namesF C).take j) = 0 ∧ treeErr (C.dims[j]!).2 = none := fun j hj => hok j (by omega)
      repeat (first | refine Step.imp ?_ | refine Side.mk (by first | exact True.intro | omega | exact ⟨trivial, rfl⟩ | exact ⟨by omega, trivial, rfl⟩ | exact ⟨by omega, rfl⟩ | exact ⟨by omega, by omega, rfl⟩ | (simp only [List.length_cons, List.length_nil, List.length_append]; done) | (simp only [List.length_cons, List.length_nil, List.length_append]; omega) | decide +kernel) ?_ | refine GDraw_one (by decide +kernel) ?_ | refine New.mk fun _ => ?_ | refine NewS.mk fun _ _ => ?_)
      refine G_loopE (σ := Nat) (fun j => j ≤ ms.length ∧ ∀ k < j, ckFresh (C.meas[k]!) (C.meas.take k) = 0) (fun j => ms.length - j) (fun j => [(13, vI j), (1, .pointer (some ⟨cb, 0, none⟩)), (5, .pointer (some ⟨db, 0, none⟩)), (6, vI (cellsF C ds.length)), (7, vI (leavesF C ds.length))]) 0 ⟨by omega, fun k hk => by omega⟩ ⟨rfl, rfl, rfl, rfl, rfl, trivial⟩ ?_
      rintro j ⟨hj, hpre⟩
      repeat (first | refine Step.imp ?_ | refine Side.mk (by first | exact True.intro | omega | exact ⟨trivial, rfl⟩ | exact ⟨by omega, trivial, rfl⟩ | exact ⟨by omega, rfl⟩ | exact ⟨by omega, by omega, rfl⟩ | (simp only [List.length_cons, List.length_nil, List.length_append]; done) | (simp only [List.length_cons, List.length_nil, List.length_append]; omega) | decide +kernel) ?_ | refine GDraw_one (by decide +kernel) ?_ | refine New.mk fun _ => ?_ | refine NewS.mk fun _ _ => ?_)
      refine ⟨fun hlt => ?_, fun hge => ?_⟩
      · have hno1 : ckFresh (ms[j]!) (ms.take j) ≠ 0 → ¬ OkCat C := fun hne hk => hne (by have := hk.names j (by rw [hCm]; omega); rwa [hCm] at this)
        repeat (first | refine Step.imp ?_ | refine Side.mk (by first | exact True.intro | omega | exact ⟨trivial, rfl⟩ | exact ⟨by omega, trivial, rfl⟩ | exact ⟨by omega, rfl⟩ | exact ⟨by omega, by omega, rfl⟩ | (simp only [List.length_cons, List.length_nil, List.length_append]; done) | (simp only [List.length_cons, List.length_nil, List.length_append]; omega) | decide +kernel) ?_ | refine GDraw_one (by decide +kernel) ?_ | refine New.mk fun _ => ?_ | refine NewS.mk fun _ _ => ?_)
        refine ⟨fun hbad => ?_, fun hgood => ?_⟩
        · have hfin := hT.1 (-1) _ h2 le2 hbad (hno1 hbad)
          repeat (first | refine Step.imp ?_ | refine Side.mk (by first | exact True.intro | omega | exact ⟨trivial, rfl⟩ | exact ⟨by omega, trivial, rfl⟩ | exact ⟨by omega, rfl⟩ | exact ⟨by omega, by omega, rfl⟩ | (simp only [List.length_cons, List.length_nil, List.length_append]; done) | (simp only [List.length_cons, List.length_nil, List.length_append]; omega) | decide +kernel) ?_ | refine GDraw_one (by decide +kernel) ?_ | refine New.mk fun _ => ?_ | refine NewS.mk fun _ _ => ?_)
          exact Fin.val hfin rfl hl2
        · repeat (first | refine Step.imp ?_ | refine Side.mk (by first | exact True.intro | omega | exact ⟨trivial, rfl⟩ | exact ⟨by omega, trivial, rfl⟩ | exact ⟨by omega, rfl⟩ | exact ⟨by omega, by omega, rfl⟩ | (simp only [List.length_cons, List.length_nil, List.length_append]; done) | (simp only [List.length_cons, List.length_nil, List.length_append]; omega) | decide +kernel) ?_ | refine GDraw_one (by decide +kernel) ?_ | refine New.mk fun _ => ?_ | refine NewS.mk fun _ _ => ?_)
          refine X_roundE (j + 1) ?_ ?_ ?_ ?_
          · refine ⟨by omega, fun k hk => ?_⟩
            rcases Nat.lt_or_ge k j with h | h
            · exact hpre k h
            · have : k = j := by omega
              subst this; rw [hCm]; exact Decidable.not_not.1 hgood
          · show ms.length - (j + 1) < ms.length - j
            omega
          · exact ⟨rfl, rfl, rfl, rfl, rfl, trivial⟩
          · infer_instance
      · have hall2 : ∀ k < C.meas.length, ckFresh (C.meas[k]!) (C.meas.take k) = 0 := fun k hk => hpre k (by rw [hCm] at hk; omega)
        have hle' : C.leaves = le := by rw [hC]
        have hsc' : C.scens = sc := by rw [hC]
        by_cases hfine : (cellsF C ds.length ≤ 4096 ∧ leavesF C ds.length ≤ 1024) ∧ (1 ≤ le ∧ le ≤ 1024) ∧ (1 ≤ sc ∧ sc ≤ 8)
        · have hokC : OkCat C := ⟨by omega, by rw [hCm]; omega, hall, hall2, by rw [hCd]; omega, by rw [hCd]; omega, by rw [hle']; omega, by rw [hsc']; omega⟩
          refine G_freezeB db fun h3 le3 f3 => ?_
          refine G_freezeS (.slice ta tbs.length tc) fun h4 le4 f4 => ?_
          have hle4 := hl2.trans (le3.le.trans le4.le)
          have hD : IsRD h4 db C := ⟨dv, mv, _, ds, tbs, _, _, by rw [hle', hsc']; exact Pt.mono le4.le f3, hd.mono hle4, by rw [hC], by rw [hCm]; exact FSl.mono hle4 hm, f4, by omega, fun i hi => (htb i (by omega)).mono (le3.le.trans le4.le)⟩
          have hfin := hT.2 hokC h4 db ⟨hle4⟩ hD
          repeat' (first | refine Step.imp ?_ | refine Side.mk (by first | exact True.intro | omega | exact ⟨trivial, rfl⟩ | exact ⟨by omega, trivial, rfl⟩ | exact ⟨by omega, rfl⟩ | exact ⟨by omega, by omega, rfl⟩ | (simp only [List.length_cons, List.length_nil, List.length_append]; done) | (simp only [List.length_cons, List.length_nil, List.length_append]; omega) | decide +kernel) ?_ | refine GDraw_one (by decide +kernel) ?_ | refine New.mk fun _ => ?_ | refine NewS.mk fun _ _ => ?_ | refine Ways.mk (fun _ => ?_) (fun _ => ?_))
          all_goals first | exact Fin.val hfin rfl hle4 | (exfalso; omega)
        · have hno : ¬ OkCat C := fun hk => hfine (by
            have h1 := hk.cells
            have h2 := hk.leaves
            have h3 := hk.most
            have h4 := hk.scens
            rw [hCd] at h1 h2; rw [hle'] at h3; rw [hsc'] at h4
            exact ⟨⟨h1, h2⟩, h3, h4⟩)
          have hf5 := hT.1 (-1) 5 h2 le2 (by decide) hno
          have hf17 := hT.1 (-1) 17 h2 le2 (by decide) hno
          repeat' (first | refine Step.imp ?_ | refine Side.mk (by first | exact True.intro | omega | exact ⟨trivial, rfl⟩ | exact ⟨by omega, trivial, rfl⟩ | exact ⟨by omega, rfl⟩ | exact ⟨by omega, by omega, rfl⟩ | (simp only [List.length_cons, List.length_nil, List.length_append]; done) | (simp only [List.length_cons, List.length_nil, List.length_append]; omega) | decide +kernel) ?_ | refine GDraw_one (by decide +kernel) ?_ | refine New.mk fun _ => ?_ | refine NewS.mk fun _ _ => ?_ | refine Ways.mk (fun _ => ?_) (fun _ => ?_))
          all_goals first | exact Fin.val hf5 rfl hl2 | exact Fin.val hf17 rfl hl2 | (exfalso; omega)
  · have hno : ¬ OkCat C := fun hok => hsz ⟨by have := hok.dims; omega, by have := hok.meas; rw [hCm] at this; omega⟩
    have hfin := hT.1 (-1) 5 h ⟨Hle.refl h⟩ (by decide) hno
    repeat' (first | refine Step.imp ?_ | refine Side.mk (by first | exact True.intro | omega | exact ⟨trivial, rfl⟩ | exact ⟨by omega, trivial, rfl⟩ | exact ⟨by omega, rfl⟩ | exact ⟨by omega, by omega, rfl⟩ | (simp only [List.length_cons, List.length_nil, List.length_append]; done) | (simp only [List.length_cons, List.length_nil, List.length_append]; omega) | decide +kernel) ?_ | refine GDraw_one (by decide +kernel) ?_ | refine New.mk fun _ => ?_ | refine NewS.mk fun _ _ => ?_ | refine Ways.mk (fun _ => ?_) (fun _ => ?_))
    all_goals first | exact Fin.val hfin rfl (Hle.refl _) | (exfalso; omega)⟩
end
end Go.Sl

/-
  The law's first functions: is a catalogue small, what it opens.
-/
namespace Go.Sl
open Go.Proofs
set_option linter.unusedVariables false
set_option linter.unusedSimpArgs false
set_option maxRecDepth 10000
set_option synthInstance.maxSize 2000
set_option synthInstance.maxHeartbeats 200000
set_option maxHeartbeats 1000000
def smallC (C : Cat) : Prop := C.dims.length ≤ 5 ∧ C.meas.length ≤ 5 ∧ ∀ i < C.dims.length, (C.dims[i]!).2.length ≤ 33
instance (C : Cat) : Decidable (smallC C) := by unfold smallC; infer_instance
theorem okCat_small {C : Cat} (ok : OkCat C) : smallC C := ⟨by have := ok.dims; omega, by have := ok.meas; omega, fun i hi => by have := (treeErr_all (ok.trees i hi).2).2.1; omega⟩
theorem pure_get {ds : List Dm} {i : Nat} (hi : i < ds.length) : ((ds.map Dm.pure)[i]!).2 = (ds[i]!).nodes := by
  rw [getElem!_pos _ i (by simpa using hi), List.getElem_map, getElem!_pos ds i hi]; rfl
section
variable {h : PHeap} {dv mv : Value} {le sc : Int} {ds : List Dm} {ms : List ByteArray}
instance law_small {L : List HP} [hd : IsDims h dv ds] [hm : FSl h mv encS 1 ms] : CallX Try.prog 20 [.agg [dv, mv, vI le, vI sc].toArray] h L True
    (fun K => K (.bool (decide (smallC ⟨ds.map Dm.pure, ms, le, sc⟩))) h []) := ⟨fun _ => by
  have hl : (ds.map Dm.pure).length = ds.length := List.length_map ..
  refine spec_enter Try.func20 rfl Try.ntmps20 Try.results20 (by simp) fun K R hT => ?_
  by_cases hs : ds.length ≤ 5 ∧ ms.length ≤ 5
  · repeat' (first | refine Step.imp ?_ | refine Side.mk (by first | exact True.intro | omega | exact ⟨trivial, rfl⟩ | exact ⟨by omega, trivial, rfl⟩ | exact ⟨by omega, rfl⟩ | exact ⟨by omega, by omega, rfl⟩ | (simp only [List.length_cons, List.length_nil, List.length_append]; done) | (simp only [List.length_cons, List.length_nil, List.length_append]; omega) | decide +kernel) ?_ | refine GDraw_one (by decide +kernel) ?_ | refine New.mk fun _ => ?_ | refine NewS.mk fun _ _ => ?_ | refine Ways.mk (fun _ => ?_) (fun _ => ?_))
    all_goals first | (exfalso; omega) | skip
    rename_i cb _ _
    refine G_loopE (σ := Nat) (fun k => k ≤ ds.length ∧ ∀ j < k, (ds[j]!).nodes.length ≤ 33) (fun k => ds.length - k) (fun k => [(3, vI k), (1, .pointer (some ⟨cb, 0, none⟩))]) 0 ⟨by omega, by omega⟩ ⟨rfl, rfl, trivial⟩ fun k hk => ?_
    obtain ⟨hk, hall⟩ := hk
    repeat (first | refine Step.imp ?_ | refine Side.mk (by first | exact True.intro | omega | exact ⟨trivial, rfl⟩ | exact ⟨by omega, trivial, rfl⟩ | exact ⟨by omega, rfl⟩ | exact ⟨by omega, by omega, rfl⟩ | (simp only [List.length_cons, List.length_nil, List.length_append]; done) | (simp only [List.length_cons, List.length_nil, List.length_append]; omega) | decide +kernel) ?_ | refine GDraw_one (by decide +kernel) ?_ | refine New.mk fun _ => ?_ | refine NewS.mk fun _ _ => ?_)
    refine ⟨fun hlt => ?_, fun hge => ?_⟩
    · have hnd := hd.nd k (by omega)
      repeat (first | refine Step.imp ?_ | refine Side.mk (by first | exact True.intro | omega | exact ⟨trivial, rfl⟩ | exact ⟨by omega, trivial, rfl⟩ | exact ⟨by omega, rfl⟩ | exact ⟨by omega, by omega, rfl⟩ | (simp only [List.length_cons, List.length_nil, List.length_append]; done) | (simp only [List.length_cons, List.length_nil, List.length_append]; omega) | decide +kernel) ?_ | refine GDraw_one (by decide +kernel) ?_ | refine New.mk fun _ => ?_ | refine NewS.mk fun _ _ => ?_)
      refine ⟨fun hbig => ?_, fun hok => ?_⟩
      · repeat (first | refine Step.imp ?_ | refine Side.mk (by first | exact True.intro | omega | exact ⟨trivial, rfl⟩ | exact ⟨by omega, trivial, rfl⟩ | exact ⟨by omega, rfl⟩ | exact ⟨by omega, by omega, rfl⟩ | (simp only [List.length_cons, List.length_nil, List.length_append]; done) | (simp only [List.length_cons, List.length_nil, List.length_append]; omega) | decide +kernel) ?_ | refine GDraw_one (by decide +kernel) ?_ | refine New.mk fun _ => ?_ | refine NewS.mk fun _ _ => ?_)
        exact Fin.ff hT (fun hsm => by have := hsm.2.2 k (by simp only; omega); rw [show (Cat.dims ⟨ds.map Dm.pure, ms, le, sc⟩) = ds.map Dm.pure from rfl, pure_get (by omega)] at this; omega) (Hle.refl _)
      · repeat (first | refine Step.imp ?_ | refine Side.mk (by first | exact True.intro | omega | exact ⟨trivial, rfl⟩ | exact ⟨by omega, trivial, rfl⟩ | exact ⟨by omega, rfl⟩ | exact ⟨by omega, by omega, rfl⟩ | (simp only [List.length_cons, List.length_nil, List.length_append]; done) | (simp only [List.length_cons, List.length_nil, List.length_append]; omega) | decide +kernel) ?_ | refine GDraw_one (by decide +kernel) ?_ | refine New.mk fun _ => ?_ | refine NewS.mk fun _ _ => ?_)
        refine X_roundE (k + 1) ⟨by omega, fun j hj => ?_⟩ (by omega) ⟨rfl, rfl, trivial⟩ inferInstance
        rcases Nat.lt_or_ge j k with h1 | h1
        · exact hall j h1
        · have : j = k := by omega
          subst this; omega
    · repeat (first | refine Step.imp ?_ | refine Side.mk (by first | exact True.intro | omega | exact ⟨trivial, rfl⟩ | exact ⟨by omega, trivial, rfl⟩ | exact ⟨by omega, rfl⟩ | exact ⟨by omega, by omega, rfl⟩ | (simp only [List.length_cons, List.length_nil, List.length_append]; done) | (simp only [List.length_cons, List.length_nil, List.length_append]; omega) | decide +kernel) ?_ | refine GDraw_one (by decide +kernel) ?_ | refine New.mk fun _ => ?_ | refine NewS.mk fun _ _ => ?_)
      exact Fin.tt hT ⟨by simp only; omega, hs.2, fun i hi => by
        rw [show (Cat.dims ⟨ds.map Dm.pure, ms, le, sc⟩) = ds.map Dm.pure from rfl] at hi ⊢
        rw [pure_get (by omega)]; exact hall i (by omega)⟩ (Hle.refl _)
  · have hno : ¬ smallC ⟨ds.map Dm.pure, ms, le, sc⟩ := fun hsm => hs ⟨by have := hsm.1; simp only at this; omega, hsm.2.1⟩
    repeat' (first | refine Step.imp ?_ | refine Side.mk (by first | exact True.intro | omega | exact ⟨trivial, rfl⟩ | exact ⟨by omega, trivial, rfl⟩ | exact ⟨by omega, rfl⟩ | exact ⟨by omega, by omega, rfl⟩ | (simp only [List.length_cons, List.length_nil, List.length_append]; done) | (simp only [List.length_cons, List.length_nil, List.length_append]; omega) | decide +kernel) ?_ | refine GDraw_one (by decide +kernel) ?_ | refine New.mk fun _ => ?_ | refine NewS.mk fun _ _ => ?_ | refine Ways.mk (fun _ => ?_) (fun _ => ?_))
    all_goals first | exact Fin.ff hT hno (Hle.refl _) | (exfalso; omega)⟩
instance law_open {L : List HP} [hd : IsDims h dv ds] [hm : FSl h mv encS 1 ms] : CallX Try.prog 5 [.agg [dv, mv, vI le, vI sc].toArray] h L True
    (fun K => (¬ OkCat ⟨ds.map Dm.pure, ms, le, sc⟩ → ∀ p q h', Le h h' → K (.tuple [.pointer p, .pointer q, .bool false].toArray) h' []) ∧
      (OkCat ⟨ds.map Dm.pure, ms, le, sc⟩ → ∀ h' sb rb db, Le h h' → IsSp h' sb ⟨ds.map Dm.pure, ms, le, sc⟩ → IsRD h' db ⟨ds.map Dm.pure, ms, le, sc⟩ →
        K (.tuple [.pointer (some ⟨sb, 0, none⟩), .pointer (some ⟨rb, 0, none⟩), .bool true].toArray) h' [blk rb (.cells [.pointer (some ⟨db, 0, none⟩), .slice none 0 0, .slice none 0 0, .slice none 0 0, .slice none 0 0, .slice none 0 0].toArray 61 (0, 0))])) := ⟨fun _ => by
  obtain ⟨C, hC⟩ : ∃ C : Cat, C = ⟨ds.map Dm.pure, ms, le, sc⟩ := ⟨_, rfl⟩
  refine spec_enter Try.func5 rfl Try.ntmps5 Try.results5 (by simp) fun K R hT => ?_
  rw [← hC] at hT
  repeat (first | refine Step.imp ?_ | refine Side.mk (by first | exact True.intro | omega | exact ⟨trivial, rfl⟩ | exact ⟨by omega, trivial, rfl⟩ | exact ⟨by omega, rfl⟩ | exact ⟨by omega, by omega, rfl⟩ | (simp only [List.length_cons, List.length_nil, List.length_append]; done) | (simp only [List.length_cons, List.length_nil, List.length_append]; omega) | decide +kernel) ?_ | refine GDraw_one (by decide +kernel) ?_ | refine New.mk fun _ => ?_ | refine NewS.mk fun _ _ => ?_)
  rw [← hC]
  refine ⟨fun hno => ?_, fun hsm => ?_⟩
  · have hfin := hT.1 (fun ok => hno (okCat_small ok)) none none h ⟨Hle.refl h⟩
    repeat (first | refine Step.imp ?_ | refine Side.mk (by first | exact True.intro | omega | exact ⟨trivial, rfl⟩ | exact ⟨by omega, trivial, rfl⟩ | exact ⟨by omega, rfl⟩ | exact ⟨by omega, by omega, rfl⟩ | (simp only [List.length_cons, List.length_nil, List.length_append]; done) | (simp only [List.length_cons, List.length_nil, List.length_append]; omega) | decide +kernel) ?_ | refine GDraw_one (by decide +kernel) ?_ | refine New.mk fun _ => ?_ | refine NewS.mk fun _ _ => ?_)
    exact Fin.val hfin rfl (Hle.refl _)
  have hsm := Decidable.not_not.1 hsm
  have hsz : ds.length ≤ 4294967296 ∧ ms.length ≤ 4294967296 ∧ ∀ i < ds.length, (ds[i]!).nodes.length ≤ 4294967296 := by
    rw [hC] at hsm
    obtain ⟨h1, h2, h3⟩ := hsm
    simp only [List.length_map] at h1 h2 h3
    refine ⟨by omega, by omega, fun i hi => ?_⟩
    have := h3 i hi
    rw [pure_get hi] at this; omega
  repeat (first | refine Step.imp ?_ | refine Side.mk (by first | exact True.intro | omega | exact ⟨trivial, rfl⟩ | exact ⟨by omega, trivial, rfl⟩ | exact ⟨by omega, rfl⟩ | exact ⟨by omega, by omega, rfl⟩ | (simp only [List.length_cons, List.length_nil, List.length_append]; done) | (simp only [List.length_cons, List.length_nil, List.length_append]; omega) | decide +kernel) ?_ | refine GDraw_one (by decide +kernel) ?_ | refine New.mk fun _ => ?_ | refine NewS.mk fun _ _ => ?_)
  rw [← hC]
  refine ⟨fun i why h1 le1 hw hno => ?_, fun ok h1 db le1 hD => ?_⟩
  · repeat (first | refine Step.imp ?_ | refine Side.mk (by first | exact True.intro | omega | exact ⟨trivial, rfl⟩ | exact ⟨by omega, trivial, rfl⟩ | exact ⟨by omega, rfl⟩ | exact ⟨by omega, by omega, rfl⟩ | (simp only [List.length_cons, List.length_nil, List.length_append]; done) | (simp only [List.length_cons, List.length_nil, List.length_append]; omega) | decide +kernel) ?_ | refine GDraw_one (by decide +kernel) ?_ | refine New.mk fun _ => ?_ | refine NewS.mk fun _ _ => ?_)
    rw [← hC]
    refine ⟨fun i2 why2 h2 le2 hw2 _ => ?_, fun ok => absurd ok hno⟩
    have hle2 := le1.le.trans le2.le
    repeat (first | refine Step.imp ?_ | refine Side.mk (by first | exact True.intro | omega | exact ⟨trivial, rfl⟩ | exact ⟨by omega, trivial, rfl⟩ | exact ⟨by omega, rfl⟩ | exact ⟨by omega, by omega, rfl⟩ | (simp only [List.length_cons, List.length_nil, List.length_append]; done) | (simp only [List.length_cons, List.length_nil, List.length_append]; omega) | decide +kernel) ?_ | refine GDraw_one (by decide +kernel) ?_ | refine New.mk fun _ => ?_ | refine NewS.mk fun _ _ => ?_)
    refine ⟨fun hz => absurd hz hw, fun _ => ?_⟩
    repeat (first | refine Step.imp ?_ | refine Side.mk (by first | exact True.intro | omega | exact ⟨trivial, rfl⟩ | exact ⟨by omega, trivial, rfl⟩ | exact ⟨by omega, rfl⟩ | exact ⟨by omega, by omega, rfl⟩ | (simp only [List.length_cons, List.length_nil, List.length_append]; done) | (simp only [List.length_cons, List.length_nil, List.length_append]; omega) | decide +kernel) ?_ | refine GDraw_one (by decide +kernel) ?_ | refine New.mk fun _ => ?_ | refine NewS.mk fun _ _ => ?_)
    rename_i xb _
    have hfin := hT.1 hno none (some ⟨xb, 0, none⟩) h2 ⟨hle2⟩
    exact Fin.val hfin rfl hle2
  · repeat (first | refine Step.imp ?_ | refine Side.mk (by first | exact True.intro | omega | exact ⟨trivial, rfl⟩ | exact ⟨by omega, trivial, rfl⟩ | exact ⟨by omega, rfl⟩ | exact ⟨by omega, by omega, rfl⟩ | (simp only [List.length_cons, List.length_nil, List.length_append]; done) | (simp only [List.length_cons, List.length_nil, List.length_append]; omega) | decide +kernel) ?_ | refine GDraw_one (by decide +kernel) ?_ | refine New.mk fun _ => ?_ | refine NewS.mk fun _ _ => ?_)
    rw [← hC]
    refine ⟨fun i2 why2 h2 le2 hw2 hno => absurd ok hno, fun _ h2 rdb le2 hRD => ?_⟩
    haveI := ok
    repeat (first | refine Step.imp ?_ | refine Side.mk (by first | exact True.intro | omega | exact ⟨trivial, rfl⟩ | exact ⟨by omega, trivial, rfl⟩ | exact ⟨by omega, rfl⟩ | exact ⟨by omega, by omega, rfl⟩ | (simp only [List.length_cons, List.length_nil, List.length_append]; done) | (simp only [List.length_cons, List.length_nil, List.length_append]; omega) | decide +kernel) ?_ | refine GDraw_one (by decide +kernel) ?_ | refine New.mk fun _ => ?_ | refine NewS.mk fun _ _ => ?_)
    intro h3 sb le3 hSp
    have hle3 := le1.le.trans (le2.le.trans le3.le)
    repeat (first | refine Step.imp ?_ | refine Side.mk (by first | exact True.intro | omega | exact ⟨trivial, rfl⟩ | exact ⟨by omega, trivial, rfl⟩ | exact ⟨by omega, rfl⟩ | exact ⟨by omega, by omega, rfl⟩ | (simp only [List.length_cons, List.length_nil, List.length_append]; done) | (simp only [List.length_cons, List.length_nil, List.length_append]; omega) | decide +kernel) ?_ | refine GDraw_one (by decide +kernel) ?_ | refine New.mk fun _ => ?_ | refine NewS.mk fun _ _ => ?_)
    rename_i xb
    have hfin := hT.2 ok h3 sb xb rdb ⟨hle3⟩ hSp (hRD.mono le3.le)
    repeat' (first | refine Step.imp ?_ | refine Side.mk (by first | exact True.intro | omega | exact ⟨trivial, rfl⟩ | exact ⟨by omega, trivial, rfl⟩ | exact ⟨by omega, rfl⟩ | exact ⟨by omega, by omega, rfl⟩ | (simp only [List.length_cons, List.length_nil, List.length_append]; done) | (simp only [List.length_cons, List.length_nil, List.length_append]; omega) | decide +kernel) ?_ | refine GDraw_one (by decide +kernel) ?_ | refine New.mk fun _ => ?_ | refine NewS.mk fun _ _ => ?_ | refine Ways.mk (fun _ => ?_) (fun _ => ?_))
    all_goals first | (exfalso; contradiction) | exact Fin.val hfin rfl hle3⟩
end
end Go.Sl

/-
  What must come of fixed calls.
-/
namespace Go.Sl
open Go.Proofs
set_option linter.unusedVariables false
set_option linter.unusedSimpArgs false
set_option maxRecDepth 10000
set_option synthInstance.maxSize 2000
set_option synthInstance.maxHeartbeats 200000
set_option maxHeartbeats 1000000
def kNodes : List Nd := [⟨⟨#[97, 108, 108]⟩, -1⟩, ⟨⟨#[97]⟩, 0⟩, ⟨⟨#[98]⟩, 0⟩]
def kCat : Cat := ⟨[(⟨#[120]⟩, kNodes)], [⟨#[109]⟩], 9, 1⟩
theorem kOk : OkCat kCat := ⟨by decide +kernel, by decide +kernel, by decide +kernel, by decide +kernel, by decide +kernel, by decide +kernel, by decide +kernel, by decide +kernel⟩
theorem kCode : codeF kCat 0 (get4 2 0 0 0) = 1 := by decide +kernel
theorem kIndex : indexF kCat 0 (get4 2 0 0 0) = 2 := by decide +kernel
theorem kUnder : underF kCat 0 (get4 0 0 0 0) = [0, 1] := by decide +kernel
theorem kOver : overF kCat 1 = [⟨0, 0, 0, 0, 0⟩, ⟨0, 2, 0, 0, 0⟩] := by decide +kernel
section
variable {h : PHeap}
instance law_known {L : List HP} : CallX Try.prog 7 [] h L True (fun K => ∀ h', Le h h' → K (.bool true) h' []) := ⟨fun _ => by
  refine spec_enter Try.func7 rfl Try.ntmps7 Try.results7 (by simp) fun K R hT => ?_
  repeat (first | refine Step.imp ?_ | refine Side.mk (by first | exact True.intro | omega | exact ⟨trivial, rfl⟩ | exact ⟨by omega, trivial, rfl⟩ | exact ⟨by omega, rfl⟩ | exact ⟨by omega, by omega, rfl⟩ | (simp only [List.length_cons, List.length_nil, List.length_append]; done) | (simp only [List.length_cons, List.length_nil, List.length_append]; omega) | decide +kernel) ?_ | refine GDraw_one (by decide +kernel) ?_ | refine New.mk fun _ => ?_ | refine NewS.mk fun _ _ => ?_)
  rename_i nb db mb
  refine GO1_own (kk := 2) nb encNd [⟨⟨#[97, 108, 108]⟩, -1⟩, ⟨⟨#[97]⟩, 0⟩, ⟨⟨#[98]⟩, 0⟩] ?_
  refine GO1_frS (.slice (some ⟨nb, 0, none⟩) 3 3) fun h1 le1 f1 => ?_
  haveI : Mk encDm [.string ⟨#[120]⟩, .slice (some ⟨nb, 0, none⟩) 3 3] ⟨⟨#[120]⟩, .slice (some ⟨nb, 0, none⟩) 3 3, rfl, kNodes⟩ := ⟨rfl⟩
  refine GO1_own (kk := 2) db encDm [⟨⟨#[120]⟩, .slice (some ⟨nb, 0, none⟩) 3 3, rfl, kNodes⟩] ?_
  refine GO1_frS (.slice (some ⟨db, 0, none⟩) 1 1) fun h2 le2 f2 => ?_
  refine GO1_own (kk := 1) mb encS [⟨#[109]⟩] ?_
  refine GO1_frS (.slice (some ⟨mb, 0, none⟩) 1 1) fun h3 le3 f3 => ?_
  haveI hd : IsDims h3 (.slice (some ⟨db, 0, none⟩) 1 1) [⟨⟨#[120]⟩, .slice (some ⟨nb, 0, none⟩) 3 3, rfl, kNodes⟩] := ⟨FSl.mono le3.le f2, fun i hi => by
    have : i = 0 := by simp at hi; omega
    subst this; exact FSl.mono (le2.le.trans le3.le) f1⟩
  have hle3 := le1.le.trans (le2.le.trans le3.le)
  repeat (first | refine Step.imp ?_ | refine Side.mk (by first | exact True.intro | omega | exact ⟨trivial, rfl⟩ | exact ⟨by omega, trivial, rfl⟩ | exact ⟨by omega, rfl⟩ | exact ⟨by omega, by omega, rfl⟩ | (simp only [List.length_cons, List.length_nil, List.length_append]; done) | (simp only [List.length_cons, List.length_nil, List.length_append]; omega) | decide +kernel) ?_ | refine GDraw_one (by decide +kernel) ?_ | refine New.mk fun _ => ?_ | refine NewS.mk fun _ _ => ?_)
  refine ⟨fun hno => absurd kOk hno, fun _ h4 sb rb rdb le4 hSp0 hRD => ?_⟩
  haveI hSp : IsSp h4 sb kCat := hSp0
  clear hSp0
  haveI := kOk
  have hle4 := hle3.trans le4.le
  repeat (first | refine Step.imp ?_ | refine Side.mk (by first | exact True.intro | omega | exact ⟨trivial, rfl⟩ | exact ⟨by omega, trivial, rfl⟩ | exact ⟨by omega, rfl⟩ | exact ⟨by omega, by omega, rfl⟩ | (simp only [List.length_cons, List.length_nil, List.length_append]; done) | (simp only [List.length_cons, List.length_nil, List.length_append]; omega) | decide +kernel) ?_ | refine GDraw_one (by decide +kernel) ?_ | refine New.mk fun _ => ?_ | refine NewS.mk fun _ _ => ?_)
  haveI : Known (codeF kCat 0 (get4 2 0 0 0) = 1) := ⟨kCode⟩
  haveI : Known (indexF kCat 0 (get4 2 0 0 0) = 2) := ⟨kIndex⟩
  haveI : Known (underF kCat 0 (get4 0 0 0 0) = [0, 1]) := ⟨kUnder⟩
  haveI : Known (overF kCat 1 = [⟨0, 0, 0, 0, 0⟩, ⟨0, 2, 0, 0, 0⟩]) := ⟨kOver⟩
  have hul : (underF kCat 0 (get4 0 0 0 0)).length = 2 := by rw [kUnder]; rfl
  have hol : (overF kCat 1).length = 2 := by rw [kOver]; rfl
  refine GDraw_sch (.s 0 (.s 1 (.h 2 (.s 3 (.s 4 (.s 5 (.s 6 (.h 7 (.s 8 (.s 9 (.s 10 (.s 11 (.s 12 (.h 13 (.h 14 (.h 15 (.s 16 (.s 17 (.s 18 (.s 20 (.s 21 (.h 19 (.h 22 (.h 23 (.s 24 (.s 25 (.s 26 (.h 27 (.h 28 (.s 29 (.s 30 (.s 31 .e))) .n) .n)))) .n) .n) (.h 22 (.h 19 (.h 23 (.s 24 (.s 25 (.s 26 (.h 27 (.h 28 (.s 29 (.s 30 (.s 31 .e))) .n) .n)))) .n) .n) .n))))))) .n) .n) (.h 14 (.h 13 (.h 15 (.s 16 (.s 17 (.s 18 (.s 20 (.s 21 (.h 19 (.h 22 (.h 23 (.s 24 (.s 25 (.s 26 (.h 27 (.h 28 (.s 29 (.s 30 (.s 31 .e))) .n) .n)))) .n) .n) (.h 22 (.h 19 (.h 23 (.s 24 (.s 25 (.s 26 (.h 27 (.h 28 (.s 29 (.s 30 (.s 31 .e))) .n) .n)))) .n) .n) .n))))))) .n) .n) .n))))))) .n))))) .n))) (by decide +kernel) ?_
  repeat' (first | refine Step.imp ?_ | refine Side.mk (by first | exact True.intro | omega | exact ⟨trivial, rfl⟩ | exact ⟨by omega, trivial, rfl⟩ | exact ⟨by omega, rfl⟩ | (simp only [List.length_cons, List.length_nil, List.length_append]; omega) | decide +kernel) ?_ | refine Both.mk ?_ ?_ | exact True.intro | refine GTo_do ?_ | (intros; refine GT_app inferInstance ?_) | refine hard_box fun _ => And.intro inferInstance ?_ | refine hard_alloc fun _ => And.intro inferInstance ?_ | refine hard_buildO (by omega) fun _ => And.intro inferInstance ?_ | refine hard_buildSlice (by omega) fun _ => And.intro inferInstance ?_ | refine hard_callP (by first | exact True.intro | omega | (simp only [List.length_cons, List.length_nil, List.length_append]; omega)) ?_ | refine hard_callV' (by first | exact True.intro | omega | (simp only [List.length_cons, List.length_nil, List.length_append]; omega)) ?_ | refine hard_callT' (by first | exact True.intro | omega) ?_ | refine hard_makeMap fun _ => And.intro inferInstance ?_ | refine hard_makeSlice (by omega) fun _ => And.intro inferInstance ?_)
  all_goals exact Fin.val (hT _ ⟨LeT.le⟩) rfl LeT.le⟩
end
end Go.Sl

/-
  Plain facts: numbers with digits of several sizes; tuples in order.
-/
namespace Go.Sl
open Go.Proofs
set_option linter.unusedVariables false
set_option linter.unusedSimpArgs false
set_option maxRecDepth 10000
set_option synthInstance.maxSize 2000
set_option synthInstance.maxHeartbeats 200000
set_option maxHeartbeats 1000000
section
variable {m : Int} {p o : Nat → Int} {d : Nat}
theorem quo_pack (hm : 0 ≤ m) (hp : ∀ k < d, 0 ≤ p k ∧ p k < o k) : ∀ j ≤ d, quoF o (packF m p o d) d j = packF m p o (d - j)
  | 0, _ => rfl
  | j + 1, h => by
    have hk := hp (d - 1 - j) (by omega)
    simp only [quoF]
    rw [quo_pack hm hp j (by omega), show d - j = (d - 1 - j) + 1 by omega]
    simp only [packF]
    rw [Int.add_comm, Int.add_mul_ediv_right _ _ (by omega), Int.ediv_eq_zero_of_lt hk.1 hk.2, show d - (j + 1) = d - 1 - j by omega]
    omega
theorem rem_pack (hm : 0 ≤ m) (hp : ∀ k < d, 0 ≤ p k ∧ p k < o k) {i : Nat} (hi : i < d) : remF o (packF m p o d) d i = p i := by
  have hk := hp i hi
  unfold remF
  rw [quo_pack hm hp _ (by omega), show d - (d - 1 - i) = i + 1 by omega]
  simp only [packF]
  rw [Int.add_comm, Int.add_mul_emod_self_right, Int.emod_eq_of_lt hk.1 hk.2]
theorem quo_pack_all (hm : 0 ≤ m) (hp : ∀ k < d, 0 ≤ p k ∧ p k < o k) : quoF o (packF m p o d) d d = m := by
  rw [quo_pack hm hp d (Nat.le_refl _), Nat.sub_self]; rfl
theorem pack_quo (n : Int) : ∀ k ≤ d, packF (quoF o n d d) (remF o n d) o k = quoF o n d (d - k)
  | 0, _ => rfl
  | k + 1, h => by
    simp only [packF]
    rw [pack_quo n k (by omega)]
    unfold remF
    rw [show d - k = (d - 1 - k) + 1 by omega]
    simp only [quoF]
    rw [show d - 1 - (d - 1 - k) = k by omega, show d - (k + 1) = d - 1 - k by omega]
    exact Int.ediv_mul_add_emod _ _
theorem pack_quo_all (n : Int) : packF (quoF o n d d) (remF o n d) o d = n := by
  rw [pack_quo n d (Nat.le_refl _), Nat.sub_self]; rfl
end
theorem quo_lt {C : Cat} {o : Nat → Int} {n : Int} {d : Nat} (ho : ∀ k < d, 0 < o k) (hn : n < allF C o d) : ∀ j ≤ d, quoF o n d j < allF C o (d - j)
  | 0, _ => hn
  | j + 1, h => by
    have ih := quo_lt ho hn j (by omega)
    simp only [quoF]
    rw [show d - j = (d - 1 - j) + 1 by omega] at ih
    simp only [allF] at ih
    rw [show d - (j + 1) = d - 1 - j by omega]
    exact Int.ediv_lt_of_lt_mul (ho _ (by omega)) ih
theorem rem_in {o : Nat → Int} {n : Int} {d i : Nat} (ho : ∀ k < d, 0 < o k) (hi : i < d) : 0 ≤ remF o n d i ∧ remF o n d i < o i :=
  ⟨Int.emod_nonneg _ (by have := ho i hi; omega), Int.emod_lt_of_pos _ (ho i hi)⟩
/-- One number's digits. -/
theorem digits {C : Cat} {o : Nat → Int} {n : Int} {d : Nat} (ho : ∀ k < d, 0 < o k) (h0 : 0 ≤ n) (hn : n < allF C o d) :
    (0 ≤ quoF o n d d ∧ quoF o n d d < C.meas.length) ∧ ∀ i < d, 0 ≤ remF o n d i ∧ remF o n d i < o i :=
  ⟨⟨(quoF_nonneg h0 ho d (Nat.le_refl _)).1, by have := quo_lt ho hn d (Nat.le_refl _); rwa [Nat.sub_self] at this⟩, fun i hi => rem_in ho hi⟩

/-! ### Tuples -/
theorem mem_comb {ls : List (List Int)} : ∀ (r a : Nat) (l t : Nat → Int), t ∈ combF ls r a l ↔ (∀ k, a ≤ k → k < a + r → t k ∈ ls[k]!) ∧ ∀ k, ¬ (a ≤ k ∧ k < a + r) → t k = l k
  | 0, a, l, t => by
    simp only [combF, List.mem_singleton]
    constructor
    · rintro rfl; exact ⟨fun k h1 h2 => by omega, fun k _ => rfl⟩
    · rintro ⟨_, h⟩; exact funext fun k => h k (by omega)
  | r + 1, a, l, t => by
    simp only [combF, List.mem_flatMap]
    constructor
    · rintro ⟨x, hx, ht⟩
      rw [mem_comb] at ht
      obtain ⟨h1, h2⟩ := ht
      refine ⟨fun k hk1 hk2 => ?_, fun k hk => ?_⟩
      · by_cases hak : a = k
        · subst hak
          rw [h2 a (by omega), if_pos rfl]; exact hx
        · exact h1 k (by omega) (by omega)
      · rw [h2 k (by omega), if_neg (by omega)]
    · rintro ⟨h1, h2⟩
      refine ⟨t a, h1 a (by omega) (by omega), ?_⟩
      rw [mem_comb]
      refine ⟨fun k hk1 hk2 => h1 k (by omega) (by omega), fun k hk => ?_⟩
      split
      · rename_i e; rw [e]
      · exact h2 k (by omega)
def widF (o : Nat → Int) : Nat → Nat → Int
  | 0, _ => 1
  | r + 1, a => o a * widF o r (a + 1)
theorem comb_sorted {ls : List (List Int)} {m : Int} {o : Nat → Int} : ∀ (r a : Nat) (l : Nat → Int), (∀ k, a ≤ k → k < a + r → (ls[k]!).Pairwise (· < ·) ∧ ∀ x ∈ ls[k]!, 0 ≤ x ∧ x < o k) →
    ((combF ls r a l).map (fun t => packF m t o (a + r))).Pairwise (· < ·) ∧ ∀ t ∈ combF ls r a l, packF m l o a * widF o r a ≤ packF m t o (a + r) ∧ packF m t o (a + r) < (packF m l o a + 1) * widF o r a ∧ 0 < widF o r a
  | 0, a, l, _ => by
    refine ⟨by simp [combF], fun t ht => ?_⟩
    have ht := ht
    simp only [combF, List.mem_singleton] at ht
    subst ht
    simp only [widF, Nat.add_zero]
    omega
  | r + 1, a, l, h => by
    have ha := h a (by omega) (by omega)
    have hl' : ∀ x, packF m (fun j => if a = j then x else l j) o (a + 1) = packF m l o a * o a + x := fun x => by
      simp only [packF, if_true]
      rw [packF_congr (p' := l) (o' := o) a fun k hk => ⟨if_neg (by omega), rfl⟩]
    have ih : ∀ x, ((combF ls r (a + 1) (fun j => if a = j then x else l j)).map (fun t => packF m t o (a + (r + 1)))).Pairwise (· < ·) ∧ ∀ t ∈ combF ls r (a + 1) (fun j => if a = j then x else l j),
        (packF m l o a * o a + x) * widF o r (a + 1) ≤ packF m t o (a + (r + 1)) ∧ packF m t o (a + (r + 1)) < (packF m l o a * o a + x + 1) * widF o r (a + 1) ∧ 0 < widF o r (a + 1) := fun x => by
      have := comb_sorted (ls := ls) (m := m) (o := o) r (a + 1) (fun j => if a = j then x else l j) (fun k h1 h2 => h k (by omega) (by omega))
      rw [hl', show a + 1 + r = a + (r + 1) by omega] at this
      exact this
    refine ⟨?_, fun t ht => ?_⟩
    · simp only [combF, List.map_flatMap]
      rw [List.pairwise_flatMap]
      refine ⟨fun x _ => (ih x).1, List.Pairwise.imp_of_mem (fun {x y} hx hy hxy => ?_) ha.1⟩
      intro u hu v hv
      obtain ⟨t, ht, rfl⟩ := List.mem_map.1 hu
      obtain ⟨s, hs, rfl⟩ := List.mem_map.1 hv
      have h1 := (ih x).2 t ht
      have h2 := (ih y).2 s hs
      have h3 : (packF m l o a * o a + x + 1) * widF o r (a + 1) ≤ (packF m l o a * o a + y) * widF o r (a + 1) := Int.mul_le_mul_of_nonneg_right (by omega) (by omega)
      omega
    · simp only [combF, List.mem_flatMap] at ht
      obtain ⟨x, hx, ht⟩ := ht
      have h1 := (ih x).2 t ht
      have hx' := ha.2 x hx
      simp only [widF]
      have h2 : packF m l o a * o a * widF o r (a + 1) ≤ (packF m l o a * o a + x) * widF o r (a + 1) := Int.mul_le_mul_of_nonneg_right (by omega) (by omega)
      have h3 : (packF m l o a * o a + x + 1) * widF o r (a + 1) ≤ (packF m l o a * o a + o a) * widF o r (a + 1) := Int.mul_le_mul_of_nonneg_right (by omega) (by omega)
      have h4 : 0 < o a * widF o r (a + 1) := Int.mul_pos (by omega) h1.2.2
      have e1 : packF m l o a * (o a * widF o r (a + 1)) = packF m l o a * o a * widF o r (a + 1) := (Int.mul_assoc _ _ _).symm
      have e2 : (packF m l o a + 1) * (o a * widF o r (a + 1)) = (packF m l o a * o a + o a) * widF o r (a + 1) := by
        rw [Int.add_mul, Int.add_mul, Int.one_mul, ← Int.mul_assoc]
      rw [e1, e2]
      omega
/-- The first n numbers for which something holds. -/
def pickTo (q : Int → Prop) [DecidablePred q] (n : Nat) : List Int := ((List.range n).map (fun (k : Nat) => (k : Int))).filter (fun k => decide (q k))
theorem pickTo_succ (q : Int → Prop) [DecidablePred q] (n : Nat) : pickTo q (n + 1) = if q n then pickTo q n ++ [(n : Int)] else pickTo q n := by
  unfold pickTo
  rw [List.range_succ, List.map_append, List.filter_append]
  split <;> rename_i hq <;> simp [hq]
theorem pickTo_sorted (q : Int → Prop) [DecidablePred q] (n : Nat) : (pickTo q n).Pairwise (· < ·) := by
  unfold pickTo
  refine List.Pairwise.filter _ ?_
  rw [List.pairwise_map]
  exact (List.pairwise_lt_range (n := n)).imp (fun h => by omega)
theorem mem_pickTo {q : Int → Prop} [DecidablePred q] {n : Nat} {k : Int} : k ∈ pickTo q n ↔ (0 ≤ k ∧ k < n) ∧ q k := by
  unfold pickTo
  rw [List.mem_filter, List.mem_map, decide_eq_true_eq]
  constructor
  · rintro ⟨⟨j, hj, rfl⟩, hq⟩; have := List.mem_range.1 hj; exact ⟨by omega, hq⟩
  · rintro ⟨h1, hq⟩; exact ⟨⟨k.toNat, List.mem_range.2 (by omega), by omega⟩, hq⟩
theorem pickTo_len (q : Int → Prop) [DecidablePred q] (n : Nat) : (pickTo q n).length ≤ n := by
  unfold pickTo
  have := List.length_filter_le (fun k => decide (q k)) ((List.range n).map (fun (k : Nat) => (k : Int)))
  simpa using this
theorem sorted_ext {A B : List Int} (ha : A.Pairwise (· < ·)) (hb : B.Pairwise (· < ·)) (h : ∀ k, k ∈ A ↔ k ∈ B) : A = B := by
  have nd : ∀ {l : List Int}, l.Pairwise (· < ·) → l.Nodup := fun hl => List.nodup_iff_pairwise_ne.2 (hl.imp (fun h => by omega))
  exact List.Perm.eq_of_pairwise (fun a b _ _ h1 h2 => by omega) ha hb ((List.perm_ext_iff_of_nodup (nd ha) (nd hb)).2 h)
end Go.Sl

/-
  Plain facts: the leaves within a cell.
-/
namespace Go.Sl
open Go.Proofs
set_option linter.unusedVariables false
set_option linter.unusedSimpArgs false
set_option maxRecDepth 10000
set_option synthInstance.maxSize 2000
set_option synthInstance.maxHeartbeats 200000
set_option maxHeartbeats 1000000
theorem all_leaves (C : Cat) : ∀ k, allF C (leavesN C) k = leavesF C k
  | 0 => rfl
  | k + 1 => by simp only [allF, leavesF]; rw [all_leaves C k]; rfl
theorem all_cells (C : Cat) : ∀ k, allF C (nodesN C) k = cellsF C k
  | 0 => rfl
  | k + 1 => by simp only [allF, cellsF]; rw [all_cells C k]; rfl
theorem leavesN_pos {C : Cat} {n : Int} (h : 0 ≤ n ∧ n < leavesF C C.dims.length) : ∀ k < C.dims.length, 0 < leavesN C k :=
  pos_of_all (C := C) (o := leavesN C) (fun k => by unfold leavesN; omega) C.dims.length (by rw [all_leaves]; omega)
theorem leafAtF_in {C : Cat} {n : Int} {i : Nat} (h : i < C.dims.length) : leafAtF C n i = leafAt C n i := by unfold leafAtF partF; rw [if_pos h]
theorem leafAtF_out {C : Cat} {n : Int} {i : Nat} (h : ¬ i < C.dims.length) : leafAtF C n i = 0 := by unfold leafAtF partF; rw [if_neg h]
section
variable {C : Cat} (ok : OkCat C)
include ok
/-- A leaf's number is that of a leaf. -/
theorem leaf_of {n : Int} (h : 0 ≤ n ∧ n < leavesF C C.dims.length) : leafF C (quoF (leavesN C) n C.dims.length C.dims.length) (leafAtF C n) ∧ ∀ k < C.dims.length, rankAt C (leafAtF C n) k = remF (leavesN C) n C.dims.length k := by
  have hd := ok.dims
  have hdg := digits (C := C) (o := leavesN C) (leavesN_pos h) h.1 (by rw [all_leaves]; exact h.2)
  have hlf : ∀ k < C.dims.length, (mkTree (C.dims[k]!).2).leafB (leafAt C n k) ∧ (mkTree (C.dims[k]!).2).rankF (leafAt C n k) = remF (leavesN C) n C.dims.length k := fun k hk => by
    have hr := hdg.2 k hk
    have := leaf_ok (ok.trees k hk).2 (k := (remF (leavesN C) n C.dims.length k).toNat) (by have : leavesN C k = (mkTree (C.dims[k]!).2).leaves.length := rfl
                                                                                            omega)
    unfold leafAt
    refine ⟨this.1, ?_⟩
    rw [this.2]; omega
  refine ⟨⟨⟨hdg.1, fun i hi => ?_⟩, fun k hk => ?_⟩, fun k hk => ?_⟩
  · by_cases hid : i < C.dims.length
    · have h1 := (leafB_iff (ok.trees i hid).2).1 (hlf i hid).1
      rw [leafAtF_in hid]
      unfold sizeF; rw [if_pos hid]; exact h1.1
    · rw [leafAtF_out hid]
      unfold sizeF; rw [if_neg hid]; omega
  · rw [leafAtF_in hk]; exact (hlf k hk).1
  · unfold rankAt; rw [leafAtF_in hk]; exact (hlf k hk).2
theorem code_leaf {n : Int} (h : 0 ≤ n ∧ n < leavesF C C.dims.length) : codeF C (quoF (leavesN C) n C.dims.length C.dims.length) (leafAtF C n) = n := by
  have hl := leaf_of ok h
  unfold codeF
  rw [if_pos hl.1, packF_congr (p' := remF (leavesN C) n C.dims.length) (o' := leavesN C) _ fun k hk => ⟨hl.2 k hk, rfl⟩, pack_quo_all]
end
theorem mem_rangeI {a b x : Int} : x ∈ rangeI a b ↔ a ≤ x ∧ x < b := by
  unfold rangeI
  rw [List.mem_map]
  constructor
  · rintro ⟨k, hk, rfl⟩; have := List.mem_range.1 hk; omega
  · rintro ⟨h1, h2⟩; exact ⟨(x - a).toNat, List.mem_range.2 (by omega), by omega⟩
theorem rangeI_sorted (a b : Int) : (rangeI a b).Pairwise (· < ·) := by
  unfold rangeI
  rw [List.pairwise_map]
  exact (List.pairwise_lt_range (n := (b - a).toNat)).imp (fun h => by omega)
theorem listsOf_get {C : Cat} {a : Nat → Int} {k : Nat} (hk : k < C.dims.length) : (listsOf C a)[k]! = ranksOf C a k := by
  unfold listsOf
  rw [getElem!_pos _ k (by simpa using hk)]; simp
section
variable {C : Cat} {m : Int} {a : Nat → Int} (ok : OkCat C)
include ok
theorem ranks_in (hr : rightF C m a) {k : Nat} (hk : k < C.dims.length) {x : Int} : x ∈ (listsOf C a)[k]! ↔ (0 ≤ x ∧ x < leavesN C k) ∧ withinF (C.dims[k]!).2 ((mkTree (C.dims[k]!).2).leaves[x.toNat]!) (a k) := by
  have hri := right_in hr ok.dims.2 k hk
  have hs := span_leaf (ok.trees k hk).2 (i := a k) hri.1 hri.2
  have hN : leavesN C k = (mkTree (C.dims[k]!).2).leaves.length := rfl
  rw [listsOf_get hk]
  unfold ranksOf
  rw [mem_rangeI]
  constructor
  · intro hx
    refine ⟨by omega, ?_⟩
    have := (hs.2.2.2 x.toNat (by omega)).1
    rw [show ((x.toNat : Nat) : Int) = x by omega] at this
    exact this hx
  · rintro ⟨h1, h2⟩
    have := (hs.2.2.2 x.toNat (by omega)).2 h2
    rwa [show ((x.toNat : Nat) : Int) = x by omega] at this
theorem under_mem (hr : rightF C m a) {n : Int} : n ∈ underF C m a ↔ insideF C m a n := by
  have hd := ok.dims
  unfold underF
  rw [if_pos hr, List.mem_map]
  constructor
  · rintro ⟨t, ht, rfl⟩
    rw [mem_comb] at ht
    have htk : ∀ k < C.dims.length, (0 ≤ t k ∧ t k < leavesN C k) ∧ withinF (C.dims[k]!).2 ((mkTree (C.dims[k]!).2).leaves[(t k).toNat]!) (a k) := fun k hk => (ranks_in ok hr hk).1 (ht.1 k (by omega) (by omega))
    have hlt := pack_lt (C := C) (o := leavesN C) (d := C.dims.length) hr.1 (fun k hk => (htk k hk).1) C.dims.length (Nat.le_refl _)
    rw [all_leaves] at hlt
    have hq := quo_pack_all (o := leavesN C) (p := t) (d := C.dims.length) hr.1.1 (fun k hk => (htk k hk).1)
    have hl := (leaf_of ok hlt).1.1
    refine ⟨hlt, hl, hr, hq, fun k hk => ?_⟩
    rw [leafAtF_in hk]
    unfold leafAt
    rw [rem_pack hr.1.1 (fun k hk => (htk k hk).1) hk]
    exact (htk k hk).2
  · rintro ⟨hn, h1, h2, h3, h4⟩
    have hdg := digits (C := C) (o := leavesN C) (leavesN_pos hn) hn.1 (by rw [all_leaves]; exact hn.2)
    refine ⟨fun k => if k < C.dims.length then remF (leavesN C) n C.dims.length k else 0, ?_, ?_⟩
    · rw [mem_comb]
      refine ⟨fun k _ hk => ?_, fun k hk => by rw [if_neg (by omega)]⟩
      rw [if_pos (by omega), ranks_in ok hr (by omega)]
      refine ⟨hdg.2 k (by omega), ?_⟩
      have := h4 k (by omega)
      rw [leafAtF_in (by omega)] at this
      exact this
    · rw [packF_congr (p' := remF (leavesN C) n C.dims.length) (o' := leavesN C) _ fun k hk => ⟨if_pos hk, rfl⟩, ← h3, pack_quo_all]
theorem under_sorted : (underF C m a).Pairwise (· < ·) := by
  unfold underF
  split
  · rename_i hr
    have := (comb_sorted (ls := listsOf C a) (m := m) (o := leavesN C) C.dims.length 0 (fun _ => 0) fun k _ hk => ⟨by
      rw [listsOf_get (by omega)]; exact rangeI_sorted _ _, fun x hx => ((ranks_in ok hr (by omega)).1 hx).1⟩).1
    rw [Nat.zero_add] at this
    exact this
  · exact List.Pairwise.nil
theorem under_eq (hr : rightF C m a) : underF C m a = pickTo (fun n => insideF C m a n) (leavesF C C.dims.length).toNat :=
  sorted_ext (under_sorted ok) (pickTo_sorted _ _) fun k => by
    rw [under_mem ok hr, mem_pickTo]
    constructor
    · intro h; exact ⟨⟨h.1.1, by have := h.1; omega⟩, h⟩
    · exact fun h => h.2
theorem under_pos (hr : rightF C m a) : 0 < (underF C m a).length := by
  have hd := ok.dims
  unfold underF
  rw [if_pos hr, List.length_map]
  have : ∀ (r b : Nat) (l : Nat → Int), b + r ≤ C.dims.length → 0 < (combF (listsOf C a) r b l).length := by
    intro r
    induction r with
    | zero => intro b l _; simp [combF]
    | succ r ih =>
      intro b l h
      have hri := right_in hr hd.2 b (by omega)
      have hs := span_leaf (ok.trees b (by omega)).2 (i := a b) hri.1 hri.2
      simp only [combF]
      have hne : 0 < ((listsOf C a)[b]!).length := by
        rw [listsOf_get (by omega)]; unfold ranksOf rangeI; rw [List.length_map, List.length_range]; omega
      obtain ⟨x, xs, hx⟩ : ∃ x xs, (listsOf C a)[b]! = x :: xs := by
        cases hl : (listsOf C a)[b]! with
        | nil => rw [hl] at hne; simp at hne
        | cons x xs => exact ⟨x, xs, rfl⟩
      rw [hx, List.flatMap_cons, List.length_append]
      have := ih (b + 1) (fun j => if b = j then x else l j) (by omega)
      omega
  exact this _ _ _ (by omega)
end
theorem within_tr {nodes : List Nd} [ha : Acyc nodes] {y z : Int} (hyz : withinF nodes y z) : ∀ x : Int, withinF nodes x y → withinF nodes x z := by
  refine above_ind (nodes := nodes) (fun x hx h => ?_) (fun x hx ih h => ?_)
  · unfold withinF at h; rw [above_no hx] at h; cases h
  · unfold withinF at h ⊢
    rw [above_step hx] at h ⊢
    rcases List.mem_cons.1 h with rfl | h
    · unfold withinF at hyz; rw [above_step hx] at hyz; exact hyz
    · exact List.mem_cons_of_mem _ (ih h)
theorem inside_tr {C : Cat} (ok : OkCat C) {m m' n : Int} {a a' : Nat → Int} (h1 : insideF C m a n) (h2 : spWithin C m a m' a') : insideF C m' a' n := by
  obtain ⟨hn, e1, e2, e3, e4⟩ := h1
  obtain ⟨_, f2, f3, f4⟩ := h2
  refine ⟨hn, e1, f2, e3.trans f3, fun i hi => ?_⟩
  haveI := treeErr_acyc (ok.trees i hi).2
  exact within_tr (f4 i hi) _ (e4 i hi)
end Go.Sl

/-
  The laws CoordNil and CoordParts, walked.
-/
namespace Go.Sl
open Go.Proofs
set_option linter.unusedVariables false
set_option linter.unusedSimpArgs false
set_option maxRecDepth 10000
set_option synthInstance.maxSize 2000
set_option synthInstance.maxHeartbeats 200000
set_option maxHeartbeats 1000000
section
variable {h : PHeap} {dv mv : Value} {le sc : Int} {ds : List Dm} {ms : List ByteArray}
theorem walk_CoordNil {L : List HP} {m a0 a1 a2 a3 n : Int} : Spec Try.prog 4 [.agg [vI m, vI a0, vI a1, vI a2, vI a3].toArray, vI n] h L (fun K => ∀ h', Hle h h' → K (.bool true) h' L) := by
  refine spec_enter Try.func4 rfl Try.ntmps4 Try.results4 (by simp) fun K R hT => ?_
  repeat (first | refine Step.imp ?_ | refine Side.mk (by first | exact True.intro | omega | exact ⟨trivial, rfl⟩ | exact ⟨by omega, trivial, rfl⟩ | exact ⟨by omega, rfl⟩ | exact ⟨by omega, by omega, rfl⟩ | (simp only [List.length_cons, List.length_nil, List.length_append]; done) | (simp only [List.length_cons, List.length_nil, List.length_append]; omega) | decide +kernel) ?_ | refine GDraw_one (by decide +kernel) ?_ | refine New.mk fun _ => ?_ | refine NewS.mk fun _ _ => ?_)
  intro h1 le1
  repeat (first | refine Step.imp ?_ | refine Side.mk (by first | exact True.intro | omega | exact ⟨trivial, rfl⟩ | exact ⟨by omega, trivial, rfl⟩ | exact ⟨by omega, rfl⟩ | exact ⟨by omega, by omega, rfl⟩ | (simp only [List.length_cons, List.length_nil, List.length_append]; done) | (simp only [List.length_cons, List.length_nil, List.length_append]; omega) | decide +kernel) ?_ | refine GDraw_one (by decide +kernel) ?_ | refine New.mk fun _ => ?_ | refine NewS.mk fun _ _ => ?_)
  exact Fin.val (hT h1 le1.le) rfl le1.le
theorem walk_CoordParts {L : List HP} [hd : IsDims h dv ds] [hm : FSl h mv encS 1 ms] {m a0 a1 a2 a3 m' b0 b1 b2 b3 : Int} :
    Spec Try.prog 3 [.agg [dv, mv, vI le, vI sc].toArray, .agg [vI m, vI a0, vI a1, vI a2, vI a3].toArray, .agg [vI m', vI b0, vI b1, vI b2, vI b3].toArray] h L (fun K => ∀ h', Hle h h' → K (.bool true) h' L) := by
  obtain ⟨C, hC⟩ : ∃ C : Cat, C = ⟨ds.map Dm.pure, ms, le, sc⟩ := ⟨_, rfl⟩
  refine spec_enter Try.func3 rfl Try.ntmps3 Try.results3 (by simp) fun K R hT => ?_
  repeat (first | refine Step.imp ?_ | refine Side.mk (by first | exact True.intro | omega | exact ⟨trivial, rfl⟩ | exact ⟨by omega, trivial, rfl⟩ | exact ⟨by omega, rfl⟩ | exact ⟨by omega, by omega, rfl⟩ | (simp only [List.length_cons, List.length_nil, List.length_append]; done) | (simp only [List.length_cons, List.length_nil, List.length_append]; omega) | decide +kernel) ?_ | refine GDraw_one (by decide +kernel) ?_ | refine New.mk fun _ => ?_ | refine NewS.mk fun _ _ => ?_)
  rw [← hC]
  refine ⟨fun hno p q h1 le1 => ?_, fun ok h1 sb rb db le1 hSp hRD => ?_⟩
  · repeat (first | refine Step.imp ?_ | refine Side.mk (by first | exact True.intro | omega | exact ⟨trivial, rfl⟩ | exact ⟨by omega, trivial, rfl⟩ | exact ⟨by omega, rfl⟩ | exact ⟨by omega, by omega, rfl⟩ | (simp only [List.length_cons, List.length_nil, List.length_append]; done) | (simp only [List.length_cons, List.length_nil, List.length_append]; omega) | decide +kernel) ?_ | refine GDraw_one (by decide +kernel) ?_ | refine New.mk fun _ => ?_ | refine NewS.mk fun _ _ => ?_)
    intro h2 le2
    repeat (first | refine Step.imp ?_ | refine Side.mk (by first | exact True.intro | omega | exact ⟨trivial, rfl⟩ | exact ⟨by omega, trivial, rfl⟩ | exact ⟨by omega, rfl⟩ | exact ⟨by omega, by omega, rfl⟩ | (simp only [List.length_cons, List.length_nil, List.length_append]; done) | (simp only [List.length_cons, List.length_nil, List.length_append]; omega) | decide +kernel) ?_ | refine GDraw_one (by decide +kernel) ?_ | refine New.mk fun _ => ?_ | refine NewS.mk fun _ _ => ?_)
    exact Fin.val (hT h2 (le1.le.trans le2.le)) rfl (le1.le.trans le2.le)
  haveI := ok
  repeat (first | refine Step.imp ?_ | refine Side.mk (by first | exact True.intro | omega | exact ⟨trivial, rfl⟩ | exact ⟨by omega, trivial, rfl⟩ | exact ⟨by omega, rfl⟩ | exact ⟨by omega, by omega, rfl⟩ | (simp only [List.length_cons, List.length_nil, List.length_append]; done) | (simp only [List.length_cons, List.length_nil, List.length_append]; omega) | decide +kernel) ?_ | refine GDraw_one (by decide +kernel) ?_ | refine New.mk fun _ => ?_ | refine NewS.mk fun _ _ => ?_)
  refine ⟨fun hno => ?_, fun hw => ?_⟩
  · repeat (first | refine Step.imp ?_ | refine Side.mk (by first | exact True.intro | omega | exact ⟨trivial, rfl⟩ | exact ⟨by omega, trivial, rfl⟩ | exact ⟨by omega, rfl⟩ | exact ⟨by omega, by omega, rfl⟩ | (simp only [List.length_cons, List.length_nil, List.length_append]; done) | (simp only [List.length_cons, List.length_nil, List.length_append]; omega) | decide +kernel) ?_ | refine GDraw_one (by decide +kernel) ?_ | refine New.mk fun _ => ?_ | refine NewS.mk fun _ _ => ?_)
    intro h2 le2
    repeat (first | refine Step.imp ?_ | refine Side.mk (by first | exact True.intro | omega | exact ⟨trivial, rfl⟩ | exact ⟨by omega, trivial, rfl⟩ | exact ⟨by omega, rfl⟩ | exact ⟨by omega, by omega, rfl⟩ | (simp only [List.length_cons, List.length_nil, List.length_append]; done) | (simp only [List.length_cons, List.length_nil, List.length_append]; omega) | decide +kernel) ?_ | refine GDraw_one (by decide +kernel) ?_ | refine New.mk fun _ => ?_ | refine NewS.mk fun _ _ => ?_)
    exact Fin.val (hT h2 (le1.le.trans le2.le)) rfl (le1.le.trans le2.le)
  have hw := Decidable.not_not.1 hw
  have hr := hw.1
  have hpos := under_pos ok hr
  have hue := under_eq ok hr
  have hlen : (underF C m (get4 a0 a1 a2 a3)).length ≤ 1024 := by
    rw [hue]
    have := pickTo_len (fun n => insideF C m (get4 a0 a1 a2 a3) n) (leavesF C C.dims.length).toNat
    have := ok.leaves
    omega
  repeat (first | refine Step.imp ?_ | refine Side.mk (by first | exact True.intro | omega | exact ⟨trivial, rfl⟩ | exact ⟨by omega, trivial, rfl⟩ | exact ⟨by omega, rfl⟩ | exact ⟨by omega, by omega, rfl⟩ | (simp only [List.length_cons, List.length_nil, List.length_append]; done) | (simp only [List.length_cons, List.length_nil, List.length_append]; omega) | decide +kernel) ?_ | refine GDraw_one (by decide +kernel) ?_ | refine New.mk fun _ => ?_ | refine NewS.mk fun _ _ => ?_)
  intro h2 ua uc le2
  have hle2 := le1.le.trans le2.le
  repeat (first | refine Step.imp ?_ | refine Side.mk (by first | exact True.intro | omega | exact ⟨trivial, rfl⟩ | exact ⟨by omega, trivial, rfl⟩ | exact ⟨by omega, rfl⟩ | exact ⟨by omega, by omega, rfl⟩ | (simp only [List.length_cons, List.length_nil, List.length_append]; done) | (simp only [List.length_cons, List.length_nil, List.length_append]; omega) | decide +kernel) ?_ | refine GDraw_one (by decide +kernel) ?_ | refine New.mk fun _ => ?_ | refine NewS.mk fun _ _ => ?_)
  rename_i cb c1b c2b _
  refine G_loopE (σ := Nat) (fun k => k ≤ (underF C m (get4 a0 a1 a2 a3)).length) (fun k => (underF C m (get4 a0 a1 a2 a3)).length - k)
    (fun k => [(11, vI k), (10, .slice ua (underF C m (get4 a0 a1 a2 a3)).length uc), (7, .pointer (some ⟨sb, 0, none⟩)), (5, .pointer (some ⟨c2b, 0, none⟩))]) 0 (Nat.zero_le _) ⟨rfl, rfl, rfl, rfl, trivial⟩ fun k hk => ?_
  repeat (first | refine Step.imp ?_ | refine Side.mk (by first | exact True.intro | omega | exact ⟨trivial, rfl⟩ | exact ⟨by omega, trivial, rfl⟩ | exact ⟨by omega, rfl⟩ | exact ⟨by omega, by omega, rfl⟩ | (simp only [List.length_cons, List.length_nil, List.length_append]; done) | (simp only [List.length_cons, List.length_nil, List.length_append]; omega) | decide +kernel) ?_ | refine GDraw_one (by decide +kernel) ?_ | refine New.mk fun _ => ?_ | refine NewS.mk fun _ _ => ?_)
  refine ⟨fun hlt => ?_, fun hge => ?_⟩
  · have hin := (under_mem ok hr).1 (mem_get (l := underF C m (get4 a0 a1 a2 a3)) (k := k) (by omega))
    have hin2 := inside_tr ok hin hw
    repeat (first | refine Step.imp ?_ | refine Side.mk (by first | exact True.intro | omega | exact ⟨trivial, rfl⟩ | exact ⟨by omega, trivial, rfl⟩ | exact ⟨by omega, rfl⟩ | exact ⟨by omega, by omega, rfl⟩ | (simp only [List.length_cons, List.length_nil, List.length_append]; done) | (simp only [List.length_cons, List.length_nil, List.length_append]; omega) | decide +kernel) ?_ | refine GDraw_one (by decide +kernel) ?_ | refine New.mk fun _ => ?_ | refine NewS.mk fun _ _ => ?_)
    refine ⟨fun hno => absurd hin2 hno, fun _ => ?_⟩
    repeat (first | refine Step.imp ?_ | refine Side.mk (by first | exact True.intro | omega | exact ⟨trivial, rfl⟩ | exact ⟨by omega, trivial, rfl⟩ | exact ⟨by omega, rfl⟩ | exact ⟨by omega, by omega, rfl⟩ | (simp only [List.length_cons, List.length_nil, List.length_append]; done) | (simp only [List.length_cons, List.length_nil, List.length_append]; omega) | decide +kernel) ?_ | refine GDraw_one (by decide +kernel) ?_ | refine New.mk fun _ => ?_ | refine NewS.mk fun _ _ => ?_)
    exact X_roundE (k + 1) (by omega) (by omega) ⟨rfl, rfl, rfl, rfl, trivial⟩ inferInstance
  · repeat (first | refine Step.imp ?_ | refine Side.mk (by first | exact True.intro | omega | exact ⟨trivial, rfl⟩ | exact ⟨by omega, trivial, rfl⟩ | exact ⟨by omega, rfl⟩ | exact ⟨by omega, by omega, rfl⟩ | (simp only [List.length_cons, List.length_nil, List.length_append]; done) | (simp only [List.length_cons, List.length_nil, List.length_append]; omega) | decide +kernel) ?_ | refine GDraw_one (by decide +kernel) ?_ | refine New.mk fun _ => ?_ | refine NewS.mk fun _ _ => ?_)
    refine ⟨fun hp => ?_, fun hno => absurd (by omega) hno⟩
    repeat (first | refine Step.imp ?_ | refine Side.mk (by first | exact True.intro | omega | exact ⟨trivial, rfl⟩ | exact ⟨by omega, trivial, rfl⟩ | exact ⟨by omega, rfl⟩ | exact ⟨by omega, by omega, rfl⟩ | (simp only [List.length_cons, List.length_nil, List.length_append]; done) | (simp only [List.length_cons, List.length_nil, List.length_append]; omega) | decide +kernel) ?_ | refine GDraw_one (by decide +kernel) ?_ | refine New.mk fun _ => ?_ | refine NewS.mk fun _ _ => ?_)
    intro h3 le3
    have hle3 := hle2.trans le3.le
    repeat (first | refine Step.imp ?_ | refine Side.mk (by first | exact True.intro | omega | exact ⟨trivial, rfl⟩ | exact ⟨by omega, trivial, rfl⟩ | exact ⟨by omega, rfl⟩ | exact ⟨by omega, by omega, rfl⟩ | (simp only [List.length_cons, List.length_nil, List.length_append]; done) | (simp only [List.length_cons, List.length_nil, List.length_append]; omega) | decide +kernel) ?_ | refine GDraw_one (by decide +kernel) ?_ | refine New.mk fun _ => ?_ | refine NewS.mk fun _ _ => ?_)
    exact Fin.val (hT h3 hle3) rfl hle3
end
end Go.Sl

/-
  From a reading of data to what is never changed; from a contract to a call.
-/
namespace Go.Sl
open Go.RowKit
set_option linter.unusedVariables false
set_option linter.unusedSimpArgs false
/-- All that there is, never changed from now on. -/
def full (w : World) : PHeap := ⟨fun b => w.heap[b]?, strm w⟩
theorem st_full (w : World) : St (full w) [] w := ⟨[], rfl, fun b o e => e, by simp, by simp, rfl⟩
theorem calls_of {P : Program} {f : FuncId} {args : List Value} {w : World} (s : Spec P f args (full w) [] (fun K => ∀ h', Hle (full w) h' → K (.bool true) h' [])) :
    Calls P f args.toArray w (fun e w' => e = .returned (.bool true) ∧ Below w.heap.size w w') := by
  refine (s (fun v h' L' => v = .bool true ∧ Hle (full w) h') [] w (fun h' hl => ⟨rfl, hl⟩) (by simpa using st_full w)).mono fun e w' hf => ?_
  obtain ⟨v, h', L', rfl, hle, ⟨rfl, _⟩, bs, hd, s0⟩ := hf
  have hs : strm w' = strm w := s0.sm.trans hle.sm
  have hb : ∀ k o, w.heap[k]? = some o → w'.heap[k]? = some o := fun k o e => s0.per k o (hle k o e)
  simp only [strm, Prod.mk.injEq] at hs
  refine ⟨rfl, ⟨hs.2.1, hs.1, hs.2.2, ?_, fun k hk => ?_⟩⟩
  · rcases Nat.eq_zero_or_pos w.heap.size with h0 | h0
    · omega
    · have := lt_of_heap (hb (w.heap.size - 1) _ (Array.getElem?_eq_getElem (by omega)))
      omega
  · have e := Array.getElem?_eq_getElem hk
    rw [hb k _ e, e]
/-- Cells that read as data of a type. -/
def Reads (P : Program) (w : World) (t : TypeId) (cs : List Value) : Prop :=
  ∃ (H : Type) (enc : TypeId × Value → H) (base : Nat) (held : Bool) (fuel : Nat) (x : DataW H × List MemPlace), DataW.trod enc P w base (fun _ => true) held fuel t cs = some x
section
variable {P : Program} {w : World}
theorem rd_int {t : TypeId} {k : IntKind} [h : IntT P t k] {cs : List Value} (r : Reads P w t cs) : ∃ n, cs = [.int k n] ∧ (Lit.int k n).wf = true := by
  obtain ⟨H, enc, base, held, fuel, x, hx⟩ := r
  obtain ⟨n, h1, _, h2⟩ := DataW.trod_int h.eq hx
  exact ⟨n, h1, h2⟩
theorem rd_bool {t : TypeId} [h : BoolT P t] {cs : List Value} (r : Reads P w t cs) : ∃ b, cs = [.bool b] := by
  obtain ⟨H, enc, base, held, fuel, x, hx⟩ := r
  obtain ⟨n, h1, _⟩ := DataW.trod_bool h.eq hx
  exact ⟨n, h1⟩
theorem rd_string {t : TypeId} [h : StrT P t] {cs : List Value} (r : Reads P w t cs) : ∃ s, cs = [.string s] ∧ s.size ≤ maxLen := by
  obtain ⟨H, enc, base, held, fuel, x, hx⟩ := r
  obtain ⟨n, h1, _, h2⟩ := DataW.trod_string h.eq hx
  exact ⟨n, h1, h2⟩
theorem rd_fields {t : TypeId} {l : List (TypeId × Nat × Nat)} {n : Nat} [h : FieldsL P t l n] {cs : List Value} (r : Reads P w t cs) : cs.length = n ∧ ∀ f ∈ l, Reads P w f.1 ((cs.drop f.2.1).take f.2.2) := by
  obtain ⟨H, enc, base, held, fuel, x, hx⟩ := r
  obtain ⟨fs, h1, h2, h3⟩ := h.eq
  obtain ⟨xs, m, _, _, h4, h5, h6⟩ := DataW.trod_struct h1 hx
  refine ⟨by rw [h4, h3], fun f hf => ?_⟩
  rw [← h2] at hf
  obtain ⟨g, hg, rfl⟩ := List.mem_map.1 hf
  obtain ⟨i, hi, hgi⟩ := Array.mem_iff_getElem.1 (by simpa using hg : g ∈ fs)
  have := h6 i g (by rw [Array.getElem?_eq_getElem hi, hgi])
  rw [List.getElem?_eq_getElem (by omega)] at this
  exact ⟨H, enc, base, held, m, _, this⟩
theorem rd_array {t e : TypeId} {n c : Nat} {agg : Bool} [h : ArrT P t n e] [hz : TySz P e agg c] {cs : List Value} (r : Reads P w t cs) : cs.length = P.cellsOf t ∧ ∀ i < n, Reads P w e ((cs.drop (i * c)).take c) := by
  obtain ⟨H, enc, base, held, fuel, x, hx⟩ := r
  obtain ⟨inf, dd, e1, e2, _, _⟩ := hz.eq
  have hc : P.cellsOf e = c := by simp [Program.cellsOf, e1, e2]
  obtain ⟨xs, m, _, _, h4, h5, h6⟩ := DataW.trod_array h.eq hx
  refine ⟨h4, fun i hi => ?_⟩
  have := h6 i hi
  rw [hc, List.getElem?_eq_getElem (by omega)] at this
  exact ⟨H, enc, base, held, m, _, this⟩
theorem list_of {α : Type} {p : Nat → α → Prop} : ∀ {n : Nat}, (∀ i < n, ∃ y, p i y) → ∃ xs : List α, xs.length = n ∧ ∀ i (h : i < xs.length), p i xs[i]
  | 0, _ => ⟨[], rfl, fun i h => by simp at h⟩
  | n + 1, h => by
    obtain ⟨xs, h1, h2⟩ := list_of (n := n) (fun i hi => h i (by omega))
    obtain ⟨y, hy⟩ := h n (by omega)
    refine ⟨xs ++ [y], by simp [h1], fun i hi => ?_⟩
    rcases Nat.lt_or_ge i xs.length with h3 | h3
    · rw [List.getElem_append_left h3]; exact h2 i h3
    · have : i = n := by simp at hi; omega
      subst this
      rw [List.getElem_append_right h3]; simp [h1]; exact hy
theorem flat_of {α : Type} {enc : α → List Value} {k : Nat} : ∀ (xs : List α) (l : List Value), (∀ i (h : i < xs.length), (l.drop (i * k)).take k = enc xs[i]) → l.take (xs.length * k) = xs.flatMap enc
  | [], l, _ => by simp
  | x :: xs, l, h => by
    have h0 := h 0 (by simp)
    simp only [Nat.zero_mul, List.drop_zero, List.getElem_cons_zero] at h0
    have ih := flat_of xs (l.drop k) fun i hi => by
      have := h (i + 1) (by simpa using hi)
      simp only [List.getElem_cons_succ] at this
      rw [List.drop_drop, show k + i * k = (i + 1) * k by rw [Nat.add_mul]; omega]
      exact this
    rw [List.length_cons, Nat.add_mul, Nat.one_mul, Nat.add_comm, List.take_add, h0, ih, List.flatMap_cons]
theorem rd_slice {α : Type} {enc : α → List Value} {k : Nat} {good : α → Prop} {t e : TypeId} {agg : Bool} [ht : SliT P t e] [hz : TySz P e agg k] (hk : 0 < k) (hel : ∀ cs, Reads P w e cs → ∃ y, enc y = cs ∧ good y) {cs : List Value} (r : Reads P w t cs) :
    ∃ a n c xs, cs = [.slice a n c] ∧ FSl (full w) (.slice a n c) enc k xs ∧ (∀ y ∈ xs, good y) ∧ xs.length ≤ maxLen := by
  obtain ⟨H, en, base, held, fuel, x, hx⟩ := r
  obtain ⟨inf, dd, e1, e2, _, _⟩ := hz.eq
  have hc : P.cellsOf e = k := by simp [Program.cellsOf, e1, e2]
  rcases Go.Deep.open_slice ht.eq hx with ⟨rfl, _⟩ | ⟨a, len, cap, m, n, D, Pl, rfl, hb, hl, hm, hmm, _, hel2⟩
  · exact ⟨none, 0, 0, [], rfl, ⟨[], ⟨by simp, .inl ⟨⟨none, rfl⟩, rfl, rfl⟩⟩, by simp⟩, by simp, by simp⟩
  simp only [if_true] at hmm
  subst hmm
  rw [hc] at hel2
  by_cases h0 : m = 0
  · subst h0
    have : len = 0 := by omega
    subst this
    exact ⟨some a, 0, 0, [], rfl, ⟨[], ⟨by simp, .inl ⟨⟨some a, rfl⟩, rfl, rfl⟩⟩, by simp⟩, by simp, by simp⟩
  obtain ⟨b, off, spot⟩ := a
  have hblk : ∃ c T fr, w.heap[b]? = some (.cells c T fr) ∧ spot = none := by
    obtain ⟨cs', h1, h2⟩ := hel2 0 (by omega)
    obtain ⟨_, h3, h4⟩ := World.cells?_some h1
    have h4 := h4 0 hk
    rw [List.getElem?_eq_getElem (by omega)] at h4
    simp only [Nat.zero_mul, Addr.add, if_true] at h4
    unfold World.cell? at h4
    simp only at h4
    split at h4
    · rename_i c T fr hh
      refine ⟨c, T, fr, hh, ?_⟩
      cases spot with
      | none => rfl
      | some s => simp at h4
    · cases h4
  obtain ⟨c, T, fr, hh, rfl⟩ := hblk
  have hcell : ∀ i < m, ∃ cs', cs'.length = k ∧ (∀ f < k, c[off + (i * k + f)]? = cs'[f]?) ∧ Reads P w e cs' := fun i hi => by
    obtain ⟨cs', h1, h2⟩ := hel2 i hi
    obtain ⟨_, h3, h4⟩ := World.cells?_some h1
    refine ⟨cs', h3, fun f hf => ?_, H, en, base, held, n, _, h2⟩
    have := h4 f hf
    rw [Addr.add_mid, Addr.add_mid] at this
    simp only [World.cell?, hh, Option.isSome_none, Bool.false_eq_true, if_false] at this
    rw [← this, Nat.add_assoc]
  have hc2 : ∀ i < m, ∃ y, (((c.toList.drop off).drop (i * k)).take k = enc y) ∧ (enc y).length = k ∧ good y := fun i hi => by
    obtain ⟨cs', h1, h2, h3⟩ := hcell i hi
    obtain ⟨y, hy, hg⟩ := hel cs' h3
    refine ⟨y, ?_, by rw [hy, h1], hg⟩
    rw [hy]
    apply List.ext_getElem?
    intro f
    rw [List.getElem?_take]
    split
    · rename_i hf
      have := h2 f hf
      rw [← this, List.getElem?_drop, List.getElem?_drop, Array.getElem?_toList]
    · rename_i hf
      rw [List.getElem?_eq_none (by omega)]
  obtain ⟨xs, hx1, hx2⟩ := list_of (n := len) (p := fun i y => ((c.toList.drop off).drop (i * k)).take k = enc y ∧ (enc y).length = k ∧ good y) fun i hi => hc2 i (by omega)
  have hfl := flat_of (k := k) (enc := enc) xs (c.toList.drop off) fun i hi => (hx2 i hi).1
  have hgood : ∀ y ∈ xs, good y := fun y hy => by
    obtain ⟨i, hi, rfl⟩ := List.mem_iff_getElem.1 hy
    exact (hx2 i hi).2.2
  have hoff : off ≤ c.toList.length := by
    obtain ⟨cs', h1, h2, _⟩ := hcell 0 (by omega)
    have h3 := h2 0 hk
    rw [List.getElem?_eq_getElem (by omega)] at h3
    have := (Array.getElem?_eq_some_iff.1 h3).1
    simp at this ⊢; omega
  refine ⟨some ⟨b, off, none⟩, len, m, xs, rfl, ⟨[(b, .cells c T fr)], ⟨fun y hy => ?_, .inr ⟨b, off, m, c.toList.take off, (c.toList.drop off).drop (xs.length * k), T, fr, by rw [hx1], by rw [List.length_take]; omega, by omega, ?_⟩⟩, fun d hd => ?_⟩, hgood, by omega⟩
  · obtain ⟨i, hi, rfl⟩ := List.mem_iff_getElem.1 hy
    exact (hx2 i hi).2.1
  · rw [← hfl, List.take_append_drop, List.take_append_drop]
  · have : d = (b, .cells c T fr) := by simpa using hd
    subst this; exact hh
end
end Go.Sl

/-
  Catalogues, cells, numbers: how they read.
-/
namespace Go.Sl
open Go.RowKit
open Go.Proofs
set_option linter.unusedVariables false
set_option linter.unusedSimpArgs false
set_option maxRecDepth 10000
set_option synthInstance.maxSize 2000
set_option synthInstance.maxHeartbeats 200000
set_option maxHeartbeats 1000000
section
variable {w : World}
theorem two_of {cs : List Value} (h : cs.length = 2) : ∃ a b, cs = [a, b] := by
  match cs, h with
  | [a, b], _ => exact ⟨a, b, rfl⟩
theorem rd_nd {cs : List Value} (r : Reads Try.prog w 70 cs) : ∃ y : Nd, encNd y = cs ∧ True := by
  obtain ⟨h1, h2⟩ := rd_fields r
  obtain ⟨c0, c1, rfl⟩ := two_of h1
  obtain ⟨s, e0, _⟩ := rd_string (h2 _ (List.mem_cons_self ..))
  obtain ⟨n, e1, _⟩ := rd_int (h2 _ (List.mem_cons_of_mem _ (List.mem_cons_self ..)))
  simp at e0 e1
  subst e0; subst e1
  exact ⟨⟨s, n⟩, rfl, trivial⟩
theorem rd_dm {cs : List Value} (r : Reads Try.prog w 73 cs) : ∃ y : Dm, encDm y = cs ∧ FSl (full w) y.nv encNd 2 y.nodes := by
  obtain ⟨h1, h2⟩ := rd_fields r
  obtain ⟨c0, c1, rfl⟩ := two_of h1
  obtain ⟨s, e0, _⟩ := rd_string (h2 _ (List.mem_cons_self ..))
  obtain ⟨a, n, c, xs, e1, hf, _, _⟩ := rd_slice (enc := encNd) (k := 2) (good := fun _ => True) (by omega) (fun _ h => rd_nd h) (h2 _ (List.mem_cons_of_mem _ (List.mem_cons_self ..)))
  simp at e0 e1
  subst e0; subst e1
  exact ⟨⟨s, .slice a n c, rfl, xs⟩, rfl, hf⟩
theorem rd_dims {cs : List Value} (r : Reads Try.prog w 22 cs) : ∃ v ds, cs = [v] ∧ IsDims (full w) v ds := by
  obtain ⟨a, n, c, xs, e, hf, hg, _⟩ := rd_slice (enc := encDm) (k := 2) (good := fun y : Dm => FSl (full w) y.nv encNd 2 y.nodes) (by omega) (fun _ h => rd_dm h) r
  exact ⟨_, xs, e, hf, fun i hi => hg _ (by rw [getElem!_pos xs i hi]; exact List.getElem_mem _)⟩
theorem rd_str1 {cs : List Value} (r : Reads Try.prog w 9 cs) : ∃ y : ByteArray, encS y = cs ∧ y.size ≤ maxLen := by
  obtain ⟨s, e, hs⟩ := rd_string r
  exact ⟨s, e.symm, hs⟩
theorem rd_strs {cs : List Value} (r : Reads Try.prog w 23 cs) : ∃ v xs, cs = [v] ∧ FSl (full w) v encS 1 xs := by
  obtain ⟨a, n, c, xs, e, hf, hg, _⟩ := rd_slice (enc := encS) (k := 1) (good := fun y : ByteArray => y.size ≤ maxLen) (by omega) (fun _ h => rd_str1 h) r
  exact ⟨_, xs, e, hf⟩
theorem rd_cat {cs : List Value} (r : Reads Try.prog w 25 cs) : ∃ dv mv le sc ds ms, cs = [dv, mv, vI le, vI sc] ∧ IsDims (full w) dv ds ∧ FSl (full w) mv encS 1 ms := by
  obtain ⟨h1, h2⟩ := rd_fields r
  match cs, h1 with
  | [c0, c1, c2, c3], _ =>
    obtain ⟨dv, ds, e0, hd⟩ := rd_dims (h2 _ (List.mem_cons_self ..))
    obtain ⟨mv, ms, e1, hm⟩ := rd_strs (h2 _ (List.mem_cons_of_mem _ (List.mem_cons_self ..)))
    obtain ⟨le, e2, _⟩ := rd_int (h2 _ (List.mem_cons_of_mem _ (List.mem_cons_of_mem _ (List.mem_cons_self ..))))
    obtain ⟨sc, e3, _⟩ := rd_int (h2 _ (List.mem_cons_of_mem _ (List.mem_cons_of_mem _ (List.mem_cons_of_mem _ (List.mem_cons_self ..)))))
    simp at e0 e1 e2 e3
    subst e0; subst e1; subst e2; subst e3
    exact ⟨_, _, _, _, ds, ms, rfl, hd, hm⟩
theorem rd_cell {cs : List Value} (r : Reads Try.prog w 28 cs) : ∃ m a0 a1 a2 a3, cs = [vI m, vI a0, vI a1, vI a2, vI a3] := by
  obtain ⟨h1, h2⟩ := rd_fields r
  match cs, h1 with
  | [c0, c1, c2, c3, c4], _ =>
    obtain ⟨m, e0, _⟩ := rd_int (h2 _ (List.mem_cons_self ..))
    obtain ⟨_, h3⟩ := rd_array (h2 _ (List.mem_cons_of_mem _ (List.mem_cons_self ..)))
    obtain ⟨a0, e1, _⟩ := rd_int (h3 0 (by omega))
    obtain ⟨a1, e2, _⟩ := rd_int (h3 1 (by omega))
    obtain ⟨a2, e3, _⟩ := rd_int (h3 2 (by omega))
    obtain ⟨a3, e4, _⟩ := rd_int (h3 3 (by omega))
    simp at e0 e1 e2 e3 e4
    subst e0; subst e1; subst e2; subst e3; subst e4
    exact ⟨_, _, _, _, _, rfl⟩
end
section
variable {w : World} {r : Reach} {b0 : Nat} {H : Type} {enc : TypeId × Value → H} {base : Nat} {held : Bool} {d : DataW H} {ps : List MemPlace} {v : Value}
theorem arg_cell (hv : Value.okWide Try.prog w r b0 28 v) (h : DataW.Trod enc Try.prog w base (fun _ => true) held 28 v d ps) : ∃ m a0 a1 a2 a3, v = .agg [vI m, vI a0, vI a1, vI a2, vI a3].toArray := by
  obtain ⟨cs, rfl, _⟩ := Go.WideShapes.okWide_struct (Go.Proofs.Try.underlying28) hv
  obtain ⟨fuel, hf⟩ := h
  obtain ⟨m, a0, a1, a2, a3, e⟩ := rd_cell (cs := cs.toList) ⟨H, enc, base, held, fuel, _, hf⟩
  exact ⟨m, a0, a1, a2, a3, by rw [← e]⟩
theorem arg_cat (hv : Value.okWide Try.prog w r b0 25 v) (h : DataW.Trod enc Try.prog w base (fun _ => true) held 25 v d ps) : ∃ dv mv le sc ds ms, v = .agg [dv, mv, vI le, vI sc].toArray ∧ IsDims (full w) dv ds ∧ FSl (full w) mv encS 1 ms := by
  obtain ⟨cs, rfl, _⟩ := Go.WideShapes.okWide_struct (Go.Proofs.Try.underlying25) hv
  obtain ⟨fuel, hf⟩ := h
  obtain ⟨dv, mv, le, sc, ds, ms, e, h1, h2⟩ := rd_cat (cs := cs.toList) ⟨H, enc, base, held, fuel, _, hf⟩
  exact ⟨dv, mv, le, sc, ds, ms, by rw [← e], h1, h2⟩
end
end Go.Sl
