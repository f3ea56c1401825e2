/-
  Facts that the proof is made of (A3).
-/
import Derived.Test.YtoekdnandjjeoaaGreatKA2
import Derived.Test.YtoekdnandjjeoaaGreatKC2
/-
  Pages: new ones; a node of theirs.
-/
namespace Go.Sl
open Go.Proofs
set_option linter.unusedVariables false
set_option linter.unusedSimpArgs false
set_option maxRecDepth 10000
set_option synthInstance.maxSize 2000
set_option synthInstance.maxHeartbeats 200000
set_option maxHeartbeats 1000000
/-- Pages of an arena: so many codes, m + 1 levels. -/
class IsPg (h : PHeap) (pb : Nat) (ab : outParam Nat) (codes : outParam Int) (m : outParam Nat) : Prop where
  pt : Pt h pb (.cells [.pointer (some ⟨ab, 0, none⟩), vI codes, vI ((m : Int) + 1), vI (8 ^ (m + 1))].toArray 121 (0, 0))
  m3 : m ≤ 3
  cd : 1 ≤ codes ∧ codes ≤ 1024 ∧ codes ≤ 8 ^ (m + 1)
theorem IsPg.mono {h h' : PHeap} {pb ab m : Nat} {codes : Int} (hl : Hle h h') (p : IsPg h pb ab codes m) : IsPg h' pb ab codes m := ⟨Pt.mono hl p.pt, p.m3, p.cd⟩
instance (priority := low) {h h' : PHeap} {pb ab m : Nat} {codes : Int} [l : Le h h'] [p : IsPg h pb ab codes m] : IsPg h' pb ab codes m := p.mono l.le
instance {h : PHeap} {pb ab m : Nat} {codes : Int} [p : IsPg h pb ab codes m] : Pt h pb (.cells [.pointer (some ⟨ab, 0, none⟩), vI codes, vI ((m : Int) + 1), vI (8 ^ (m + 1))].toArray 121 (0, 0)) := p.pt
theorem pow8_4 {m : Nat} (h : m ≤ 3) : (8 : Int) ^ m ≤ 512 ∧ (8 : Int) ^ (m + 1) ≤ 4096 ∧ 1 ≤ (8 : Int) ^ m ∧ 8 ≤ (8 : Int) ^ (m + 1) := by
  have : m = 0 ∨ m = 1 ∨ m = 2 ∨ m = 3 := by omega
  rcases this with rfl | rfl | rfl | rfl <;> decide
section
variable {h : PHeap} {pb ab m : Nat} {codes most : Int} {ss : List Slt}
instance pg_newN {n : Int} : CallV Tryz.prog 13 [.pointer none, vI n] h True (.tuple [.pointer none, vI 1].toArray) := ⟨fun _ => by
  refine spec_enter Tryz.func13 rfl Tryz.ntmps13 Tryz.results13 (by simp) fun K R hT => ?_
  repeat' (first | refine Step.imp ?_ | refine Side.mk (by first | exact True.intro | omega | exact ⟨trivial, rfl⟩ | exact ⟨by omega, trivial, rfl⟩ | exact ⟨by omega, rfl⟩ | exact ⟨by omega, by omega, rfl⟩ | (simp only [List.length_cons, List.length_nil, List.length_append]; done) | (simp only [List.length_cons, List.length_nil, List.length_append]; omega) | decide +kernel) ?_ | refine GDraw_one (by decide +kernel) ?_ | refine New.mk fun _ => ?_ | refine NewS.mk fun _ _ => ?_ | refine Ways.mk (fun _ => ?_) (fun _ => ?_))
  all_goals first | (exfalso; contradiction) | exact Fin.val hT rfl (Hle.refl _)⟩
instance pg_new {L : List HP} {n : Int} : CallX Tryz.prog 13 [.pointer (some ⟨ab, 0, none⟩), vI n] h L True
    (fun K => (¬ (1 ≤ n ∧ n ≤ 1024) → K (.tuple [.pointer none, vI 2].toArray) h []) ∧ ((1 ≤ n ∧ n ≤ 1024) → ∀ h' pb m, Le h h' → IsPg h' pb ab n m → K (.tuple [.pointer (some ⟨pb, 0, none⟩), vI 0].toArray) h' [])) := ⟨fun _ => by
  refine spec_enter Tryz.func13 rfl Tryz.ntmps13 Tryz.results13 (by simp) fun K R hT => ?_
  by_cases hok : 1 ≤ n ∧ n ≤ 1024
  · haveI hst := stopB Tryz.prog 1
    repeat' (first | refine Step.imp ?_ | refine Side.mk (by first | exact True.intro | omega | exact ⟨trivial, rfl⟩ | exact ⟨by omega, trivial, rfl⟩ | exact ⟨by omega, rfl⟩ | exact ⟨by omega, by omega, rfl⟩ | (simp only [List.length_cons, List.length_nil, List.length_append]; done) | (simp only [List.length_cons, List.length_nil, List.length_append]; omega) | decide +kernel) ?_ | refine GDraw_one (by decide +kernel) ?_ | refine New.mk fun _ => ?_ | refine NewS.mk fun _ _ => ?_ | refine Ways.mk (fun _ => ?_) (fun _ => ?_))
    all_goals first | (exfalso; contradiction) | (exfalso; omega) | skip
    refine StopB.go ?_
    clear hst
    rename_i pb
    repeat (first | refine Step.imp ?_ | refine Side.mk (by first | exact True.intro | omega | exact ⟨trivial, rfl⟩ | exact ⟨by omega, trivial, rfl⟩ | exact ⟨by omega, rfl⟩ | exact ⟨by omega, by omega, rfl⟩ | (simp only [List.length_cons, List.length_nil, List.length_append]; done) | (simp only [List.length_cons, List.length_nil, List.length_append]; omega) | decide +kernel) ?_ | refine GDraw_one (by decide +kernel) ?_ | refine New.mk fun _ => ?_ | refine NewS.mk fun _ _ => ?_)
    refine G_loop (σ := Nat) (fun m => m ≤ 3) (fun m => 3 - m) (fun _ => [(6, .pointer (some ⟨pb, 0, none⟩)), (0 + 1, vI n)]) (fun _ => h) (fun m => blk pb (.cells [.pointer (some ⟨ab, 0, none⟩), vI n, vI ((m : Int) + 1), vI (8 ^ (m + 1))].toArray 121 (0, 0)) :: (L ++ R)) 0 (by omega) ⟨rfl, rfl, trivial⟩ rfl (by rw [show ((8 : Int) ^ (0 + 1)) = 8 by decide, show (((0 : Nat) : Int) + 1) = 1 by decide]; infer_instance) ?_
    intro m hm
    have h9 : m = 3 → (8 : Int) ^ (m + 1) = 4096 := by rintro rfl; decide
    have h8 := pow8_4 hm
    repeat (first | refine Step.imp ?_ | refine Side.mk (by first | exact True.intro | omega | exact ⟨trivial, rfl⟩ | exact ⟨by omega, trivial, rfl⟩ | exact ⟨by omega, rfl⟩ | exact ⟨by omega, by omega, rfl⟩ | (simp only [List.length_cons, List.length_nil, List.length_append]; done) | (simp only [List.length_cons, List.length_nil, List.length_append]; omega) | decide +kernel) ?_ | refine GDraw_one (by decide +kernel) ?_ | refine New.mk fun _ => ?_ | refine NewS.mk fun _ _ => ?_)
    refine ⟨fun hlt => ?_, fun hge => ?_⟩
    · repeat (first | refine Step.imp ?_ | refine Side.mk (by first | exact True.intro | omega | exact ⟨trivial, rfl⟩ | exact ⟨by omega, trivial, rfl⟩ | exact ⟨by omega, rfl⟩ | exact ⟨by omega, by omega, rfl⟩ | (simp only [List.length_cons, List.length_nil, List.length_append]; done) | (simp only [List.length_cons, List.length_nil, List.length_append]; omega) | decide +kernel) ?_ | refine GDraw_one (by decide +kernel) ?_ | refine New.mk fun _ => ?_ | refine NewS.mk fun _ _ => ?_)
      exact X_round (m + 1) (by omega) (by omega) ⟨rfl, rfl, trivial⟩ rfl (by rw [Int.pow_succ 8 (m + 1), show (((m + 1 : Nat) : Int) + 1) = (m : Int) + 1 + 1 by omega]; infer_instance)
    · refine G_freezeB pb fun h1 le1 f1 => ?_
      repeat (first | refine Step.imp ?_ | refine Side.mk (by first | exact True.intro | omega | exact ⟨trivial, rfl⟩ | exact ⟨by omega, trivial, rfl⟩ | exact ⟨by omega, rfl⟩ | exact ⟨by omega, by omega, rfl⟩ | (simp only [List.length_cons, List.length_nil, List.length_append]; done) | (simp only [List.length_cons, List.length_nil, List.length_append]; omega) | decide +kernel) ?_ | refine GDraw_one (by decide +kernel) ?_ | refine New.mk fun _ => ?_ | refine NewS.mk fun _ _ => ?_)
      exact Fin.val (hT.2 hok h1 pb m le1 ⟨f1, hm, hok.1, hok.2, by omega⟩) rfl le1.le
  · repeat' (first | refine Step.imp ?_ | refine Side.mk (by first | exact True.intro | omega | exact ⟨trivial, rfl⟩ | exact ⟨by omega, trivial, rfl⟩ | exact ⟨by omega, rfl⟩ | exact ⟨by omega, by omega, rfl⟩ | (simp only [List.length_cons, List.length_nil, List.length_append]; done) | (simp only [List.length_cons, List.length_nil, List.length_append]; omega) | decide +kernel) ?_ | refine GDraw_one (by decide +kernel) ?_ | refine New.mk fun _ => ?_ | refine NewS.mk fun _ _ => ?_ | refine Ways.mk (fun _ => ?_) (fun _ => ?_))
    all_goals first | (exfalso; contradiction) | (exfalso; omega) | exact Fin.val (hT.1 hok) rfl (Hle.refl _)⟩
instance pg_may {c : Int} [p : IsPg h pb ab codes m] : CallV Tryz.prog 110 [.pointer (some ⟨pb, 0, none⟩), vI c] h True (vI (if 0 ≤ c ∧ c < codes then 0 else 17)) := ⟨fun _ => by
  refine spec_enter Tryz.func110 rfl Tryz.ntmps110 Tryz.results110 (by simp) fun K R hT => ?_
  by_cases hc : 0 ≤ c ∧ c < codes
  · rw [if_pos hc] at hT
    repeat' (first | refine Step.imp ?_ | refine Side.mk (by first | exact True.intro | omega | exact ⟨trivial, rfl⟩ | exact ⟨by omega, trivial, rfl⟩ | exact ⟨by omega, rfl⟩ | exact ⟨by omega, by omega, rfl⟩ | (simp only [List.length_cons, List.length_nil, List.length_append]; done) | (simp only [List.length_cons, List.length_nil, List.length_append]; omega) | decide +kernel) ?_ | refine GDraw_one (by decide +kernel) ?_ | refine New.mk fun _ => ?_ | refine NewS.mk fun _ _ => ?_ | refine Ways.mk (fun _ => ?_) (fun _ => ?_))
    all_goals first | (exfalso; contradiction) | (exfalso; omega) | exact Fin.val hT rfl (Hle.refl _)
  · rw [if_neg hc] at hT
    repeat' (first | refine Step.imp ?_ | refine Side.mk (by first | exact True.intro | omega | exact ⟨trivial, rfl⟩ | exact ⟨by omega, trivial, rfl⟩ | exact ⟨by omega, rfl⟩ | exact ⟨by omega, by omega, rfl⟩ | (simp only [List.length_cons, List.length_nil, List.length_append]; done) | (simp only [List.length_cons, List.length_nil, List.length_append]; omega) | decide +kernel) ?_ | refine GDraw_one (by decide +kernel) ?_ | refine New.mk fun _ => ?_ | refine NewS.mk fun _ _ => ?_ | refine Ways.mk (fun _ => ?_) (fun _ => ?_))
    all_goals first | (exfalso; contradiction) | (exfalso; omega) | exact Fin.val hT rfl (Hle.refl _)⟩
theorem pgnode_spec {id : Int} {leaf : Bool} [p : IsPg h pb ab codes m] (hsz : ss.length ≤ 4294967296) : Spec Tryz.prog 111 [.pointer (some ⟨pb, 0, none⟩), vI id, .bool leaf] h [arH ab most ss]
    (fun K => K (.agg [.bool (rdN ss id leaf).leaf, vI ((rdN ss id leaf).k 0), vI ((rdN ss id leaf).k 1), vI ((rdN ss id leaf).k 2), vI ((rdN ss id leaf).k 3), vI ((rdN ss id leaf).k 4), vI ((rdN ss id leaf).k 5), vI ((rdN ss id leaf).k 6), vI ((rdN ss id leaf).k 7), vI ((rdN ss id leaf).v 0), .bool ((rdN ss id leaf).h 0), vI ((rdN ss id leaf).v 1), .bool ((rdN ss id leaf).h 1), vI ((rdN ss id leaf).v 2), .bool ((rdN ss id leaf).h 2), vI ((rdN ss id leaf).v 3), .bool ((rdN ss id leaf).h 3), vI ((rdN ss id leaf).v 4), .bool ((rdN ss id leaf).h 4), vI ((rdN ss id leaf).v 5), .bool ((rdN ss id leaf).h 5), vI ((rdN ss id leaf).v 6), .bool ((rdN ss id leaf).h 6), vI ((rdN ss id leaf).v 7), .bool ((rdN ss id leaf).h 7)].toArray) h [arH ab most ss]) := by
  refine spec_enter Tryz.func111 rfl Tryz.ntmps111 Tryz.results111 (by simp) fun K R hT => ?_
  repeat (first | refine Step.imp ?_ | refine Side.mk (by first | exact True.intro | omega | exact ⟨trivial, rfl⟩ | exact ⟨by omega, trivial, rfl⟩ | exact ⟨by omega, rfl⟩ | exact ⟨by omega, by omega, rfl⟩ | (simp only [List.length_cons, List.length_nil, List.length_append]; done) | (simp only [List.length_cons, List.length_nil, List.length_append]; omega) | decide +kernel) ?_ | refine GDraw_one (by decide +kernel) ?_ | refine New.mk fun _ => ?_ | refine NewS.mk fun _ _ => ?_)
  refine ⟨fun hno => ?_, fun hl => ?_⟩
  · have e : rdN ss id leaf = Nd8.non leaf := if_neg fun q => hno q.1
    rw [e] at hT
    repeat' (first | refine Step.imp ?_ | refine Side.mk (by first | exact True.intro | omega | exact ⟨trivial, rfl⟩ | exact ⟨by omega, trivial, rfl⟩ | exact ⟨by omega, rfl⟩ | exact ⟨by omega, by omega, rfl⟩ | (simp only [List.length_cons, List.length_nil, List.length_append]; done) | (simp only [List.length_cons, List.length_nil, List.length_append]; omega) | decide +kernel) ?_ | refine GDraw_one (by decide +kernel) ?_ | refine New.mk fun _ => ?_ | refine NewS.mk fun _ _ => ?_ | refine Ways.mk (fun _ => ?_) (fun _ => ?_))
    all_goals first | (exfalso; contradiction) | (exfalso; omega) | exact Fin.val hT rfl (Hle.refl _)
  · by_cases hlf : (ss[(id - 1).toNat]!).n.leaf = leaf
    · have e : rdN ss id leaf = (ss[(id - 1).toNat]!).n := if_pos ⟨hl, hlf⟩
      rw [e] at hT
      repeat' (first | refine Step.imp ?_ | refine Side.mk (by first | exact True.intro | omega | exact ⟨trivial, rfl⟩ | exact ⟨by omega, trivial, rfl⟩ | exact ⟨by omega, rfl⟩ | exact ⟨by omega, by omega, rfl⟩ | (simp only [List.length_cons, List.length_nil, List.length_append]; done) | (simp only [List.length_cons, List.length_nil, List.length_append]; omega) | decide +kernel) ?_ | refine GDraw_one (by decide +kernel) ?_ | refine New.mk fun _ => ?_ | refine NewS.mk fun _ _ => ?_ | refine Ways.mk (fun _ => ?_) (fun _ => ?_))
      all_goals first | (exfalso; contradiction) | (exfalso; omega) | exact Fin.val hT rfl (Hle.refl _)
    · have e : rdN ss id leaf = Nd8.non leaf := if_neg fun q => hlf q.2
      rw [e] at hT
      repeat' (first | refine Step.imp ?_ | refine Side.mk (by first | exact True.intro | omega | exact ⟨trivial, rfl⟩ | exact ⟨by omega, trivial, rfl⟩ | exact ⟨by omega, rfl⟩ | exact ⟨by omega, by omega, rfl⟩ | (simp only [List.length_cons, List.length_nil, List.length_append]; done) | (simp only [List.length_cons, List.length_nil, List.length_append]; omega) | decide +kernel) ?_ | refine GDraw_one (by decide +kernel) ?_ | refine New.mk fun _ => ?_ | refine NewS.mk fun _ _ => ?_ | refine Ways.mk (fun _ => ?_) (fun _ => ?_))
      all_goals first | (exfalso; contradiction) | (exfalso; omega) | exact Fin.val hT rfl (Hle.refl _)
instance pg_node {L R : List HP} {id : Int} {leaf : Bool} [p : IsPg h pb ab codes m] [q : PickAr L ab most ss R] : CallT Tryz.prog 111 [.pointer (some ⟨pb, 0, none⟩), vI id, .bool leaf] h L (ss.length ≤ 4294967296) R
    (fun K => K (.agg [.bool (rdN ss id leaf).leaf, vI ((rdN ss id leaf).k 0), vI ((rdN ss id leaf).k 1), vI ((rdN ss id leaf).k 2), vI ((rdN ss id leaf).k 3), vI ((rdN ss id leaf).k 4), vI ((rdN ss id leaf).k 5), vI ((rdN ss id leaf).k 6), vI ((rdN ss id leaf).k 7), vI ((rdN ss id leaf).v 0), .bool ((rdN ss id leaf).h 0), vI ((rdN ss id leaf).v 1), .bool ((rdN ss id leaf).h 1), vI ((rdN ss id leaf).v 2), .bool ((rdN ss id leaf).h 2), vI ((rdN ss id leaf).v 3), .bool ((rdN ss id leaf).h 3), vI ((rdN ss id leaf).v 4), .bool ((rdN ss id leaf).h 4), vI ((rdN ss id leaf).v 5), .bool ((rdN ss id leaf).h 5), vI ((rdN ss id leaf).v 6), .bool ((rdN ss id leaf).h 6), vI ((rdN ss id leaf).v 7), .bool ((rdN ss id leaf).h 7)].toArray) h [arH ab most ss]) := ⟨fun hs => spec_ar (pgnode_spec hs)⟩
theorem pgget_spec {root c : Int} [p : IsPg h pb ab codes m] (hsz : ss.length ≤ 4294967296) (hc : 0 ≤ c ∧ c < codes) : Spec Tryz.prog 69 [.pointer (some ⟨pb, 0, none⟩), vI root, vI c] h [arH ab most ss]
    (fun K => K (.tuple [.agg [vI (getL ss m root c).val, .bool (getL ss m root c).held].toArray, vI 0].toArray) h [arH ab most ss]) := by
  have hcd := p.cd
  have h8 := pow8_4 p.m3
  refine spec_enter Tryz.func69 rfl Tryz.ntmps69 Tryz.results69 (by simp) fun K R hT => ?_
  haveI : Known (¬ ((if 0 ≤ c ∧ c < codes then 0 else 17 : Int) ≠ 0)) := ⟨by rw [if_pos hc]; decide⟩
  haveI hst := stopB Tryz.prog 0
  repeat (first | refine Step.imp ?_ | refine Side.mk (by first | exact True.intro | omega | exact ⟨trivial, rfl⟩ | exact ⟨by omega, trivial, rfl⟩ | exact ⟨by omega, rfl⟩ | exact ⟨by omega, by omega, rfl⟩ | (simp only [List.length_cons, List.length_nil, List.length_append]; done) | (simp only [List.length_cons, List.length_nil, List.length_append]; omega) | decide +kernel) ?_ | refine GDraw_one (by decide +kernel) ?_ | refine New.mk fun _ => ?_ | refine NewS.mk fun _ _ => ?_)
  refine StopB.go ?_
  clear hst
  rename_i rb
  repeat (first | refine Step.imp ?_ | refine Side.mk (by first | exact True.intro | omega | exact ⟨trivial, rfl⟩ | exact ⟨by omega, trivial, rfl⟩ | exact ⟨by omega, rfl⟩ | exact ⟨by omega, by omega, rfl⟩ | (simp only [List.length_cons, List.length_nil, List.length_append]; done) | (simp only [List.length_cons, List.length_nil, List.length_append]; omega) | decide +kernel) ?_ | refine GDraw_one (by decide +kernel) ?_ | refine New.mk fun _ => ?_ | refine NewS.mk fun _ _ => ?_)
  refine G_loopE (σ := Nat × Int) (fun s => s.1 ≤ m ∧ getL ss s.1 s.2 c = getL ss m root c) (fun s => s.1) (fun s => [(9, vI (8 ^ s.1)), (0, .pointer (some ⟨pb, 0, none⟩)), (0 + 1, vI s.2), (0 + 1 + 1, vI c), (6, .pointer (some ⟨rb, 0, none⟩))]) (m, root) ⟨Nat.le_refl _, rfl⟩ ⟨by show some (vI (8 ^ (m + 1) / 8)) = some (vI (8 ^ m)); rw [Int.pow_succ, Int.mul_ediv_cancel _ (by decide)], rfl, rfl, rfl, rfl, trivial⟩ ?_
  rintro ⟨j, r⟩ ⟨hj, hr⟩
  simp only at hj hr ⊢
  have hm3 := p.m3
  cases j with
  | zero =>
    haveI : Known (¬ ((8 : Int) ≤ 8 ^ 0)) := ⟨by decide⟩
    have hc8 : (c % 8).toNat < 8 := by omega
    rw [← hr] at hT
    repeat (first | refine Step.imp ?_ | refine Side.mk (by first | exact True.intro | omega | exact ⟨trivial, rfl⟩ | exact ⟨by omega, trivial, rfl⟩ | exact ⟨by omega, rfl⟩ | exact ⟨by omega, by omega, rfl⟩ | (simp only [List.length_cons, List.length_nil, List.length_append]; done) | (simp only [List.length_cons, List.length_nil, List.length_append]; omega) | decide +kernel) ?_ | refine GDraw_0 (by decide +kernel) ?_ | refine New.mk fun _ => ?_ | refine NewS.mk fun _ _ => ?_)
    exact Fin.val hT rfl (Hle.refl _)
  | succ i =>
    have h9 := pow8_4 (m := i) (by omega)
    haveI : Known ((8 : Int) ≤ 8 ^ (i + 1)) := ⟨by omega⟩
    have hq := Int.ediv_nonneg hc.1 (show (0 : Int) ≤ 8 ^ (i + 1) by omega)
    repeat (first | refine Step.imp ?_ | refine Side.mk (by first | exact True.intro | omega | exact ⟨trivial, rfl⟩ | exact ⟨by omega, trivial, rfl⟩ | exact ⟨by omega, rfl⟩ | exact ⟨by omega, by omega, rfl⟩ | (simp only [List.length_cons, List.length_nil, List.length_append]; done) | (simp only [List.length_cons, List.length_nil, List.length_append]; omega) | decide +kernel) ?_ | refine GDraw_0 (by decide +kernel) ?_ | refine New.mk fun _ => ?_ | refine NewS.mk fun _ _ => ?_)
    exact X_roundE (i, (rdN ss r false).k (kidAt i c)) ⟨by show i ≤ m; omega, hr⟩ (by show i < i + 1; omega) ⟨by show some (vI (8 ^ (i + 1) / 8)) = some (vI (8 ^ i)); rw [Int.pow_succ, Int.mul_ediv_cancel _ (by decide)], rfl, rfl, rfl, rfl, trivial⟩ inferInstance
instance pg_get {L R : List HP} {root c : Int} [p : IsPg h pb ab codes m] [q : PickAr L ab most ss R] : CallT Tryz.prog 69 [.pointer (some ⟨pb, 0, none⟩), vI root, vI c] h L (ss.length ≤ 4294967296 ∧ (0 ≤ c ∧ c < codes)) R
    (fun K => K (.tuple [.agg [vI (getL ss m root c).val, .bool (getL ss m root c).held].toArray, vI 0].toArray) h [arH ab most ss]) := ⟨fun hs => spec_ar (pgget_spec hs.1 hs.2)⟩
end
end Go.Sl

/-
  Pages: an entry is put.
-/
namespace Go.Sl
open Go.Proofs
set_option linter.unusedVariables false
set_option linter.unusedSimpArgs false
set_option maxRecDepth 10000
set_option synthInstance.maxSize 2000
set_option synthInstance.maxHeartbeats 200000
set_option maxHeartbeats 1000000
section
variable {h : PHeap} {pb ab m : Nat} {codes most : Int} {ss : List Slt} {B : Int} {l : Bool} {f g : Nat → Int} {hh : Nat → Bool}
theorem pgmade_spec [p : IsPg h pb ab codes m] (hi : ArInv ss B) (hB : 0 ≤ B ∧ B ≤ 1152921504606846976) (hlt : ss.length < most ∧ most ≤ 20000) (hk : ∀ j < 8, 0 ≤ f j ∧ f j ≤ ss.length) : Spec Tryz.prog 119 [.pointer (some ⟨pb, 0, none⟩), .agg [.bool l, vI (f 0), vI (f 1), vI (f 2), vI (f 3), vI (f 4), vI (f 5), vI (f 6), vI (f 7), vI (g 0), .bool (hh 0), vI (g 1), .bool (hh 1), vI (g 2), .bool (hh 2), vI (g 3), .bool (hh 3), vI (g 4), .bool (hh 4), vI (g 5), .bool (hh 5), vI (g 6), .bool (hh 6), vI (g 7), .bool (hh 7)].toArray] h [arH ab most ss]
    (fun K => (isNon ⟨l, f, g, hh⟩ → K (.tuple [vI 0, vI 0].toArray) h [arH ab most ss]) ∧ (¬ isNon ⟨l, f, g, hh⟩ → ∀ ss', MadeR ss ⟨l, f, g, hh⟩ ss' → K (.tuple [vI ss'.length, vI 0].toArray) h [arH ab most ss'])) := by
  refine spec_enter Tryz.func119 rfl Tryz.ntmps119 Tryz.results119 (by simp) fun K R hT => ?_
  repeat (first | refine Step.imp ?_ | refine Side.mk (by first | exact True.intro | omega | exact ⟨trivial, rfl⟩ | exact ⟨by omega, trivial, rfl⟩ | exact ⟨by omega, rfl⟩ | exact ⟨by omega, by omega, rfl⟩ | (simp only [List.length_cons, List.length_nil, List.length_append]; done) | (simp only [List.length_cons, List.length_nil, List.length_append]; omega) | decide +kernel) ?_ | refine GDraw_one (by decide +kernel) ?_ | refine New.mk fun _ => ?_ | refine NewS.mk fun _ _ => ?_)
  refine Ways.mk (fun hp => ?_) (fun hn => ?_)
  · repeat (first | refine Step.imp ?_ | refine Side.mk (by first | exact True.intro | omega | exact ⟨trivial, rfl⟩ | exact ⟨by omega, trivial, rfl⟩ | exact ⟨by omega, rfl⟩ | exact ⟨by omega, by omega, rfl⟩ | (simp only [List.length_cons, List.length_nil, List.length_append]; done) | (simp only [List.length_cons, List.length_nil, List.length_append]; omega) | decide +kernel) ?_ | refine GDraw_one (by decide +kernel) ?_ | refine New.mk fun _ => ?_ | refine NewS.mk fun _ _ => ?_)
    exact Fin.val (hT.1 (isNon_iff.1 hp)) rfl (Hle.refl _)
  · have hnn : ¬ isNon ⟨l, f, g, hh⟩ := fun q => hn (isNon_iff.2 q)
    rename_i nb
    repeat (first | refine Step.imp ?_ | refine Side.mk (by first | exact True.intro | omega | exact ⟨trivial, rfl⟩ | exact ⟨by omega, trivial, rfl⟩ | exact ⟨by omega, rfl⟩ | exact ⟨by omega, by omega, rfl⟩ | (simp only [List.length_cons, List.length_nil, List.length_append]; done) | (simp only [List.length_cons, List.length_nil, List.length_append]; omega) | decide +kernel) ?_ | refine GDraw_C (nb) (by decide +kernel) ?_ | refine New.mk fun _ => ?_ | refine NewS.mk fun _ _ => ?_)
    refine Side.mk ⟨B, hi, hB, hlt, hk⟩ ?_
    intro ss' hmd
    repeat (first | refine Step.imp ?_ | refine Side.mk (by first | exact True.intro | omega | exact ⟨trivial, rfl⟩ | exact ⟨by omega, trivial, rfl⟩ | exact ⟨by omega, rfl⟩ | exact ⟨by omega, by omega, rfl⟩ | (simp only [List.length_cons, List.length_nil, List.length_append]; done) | (simp only [List.length_cons, List.length_nil, List.length_append]; omega) | decide +kernel) ?_ | refine GDraw_one (by decide +kernel) ?_ | refine New.mk fun _ => ?_ | refine NewS.mk fun _ _ => ?_)
    exact Fin.val (hT.2 hnn ss' hmd) rfl (Hle.refl _)
instance pg_made {L R : List HP} [p : IsPg h pb ab codes m] [q : PickAr L ab most ss R] : CallT Tryz.prog 119 [.pointer (some ⟨pb, 0, none⟩), .agg [.bool l, vI (f 0), vI (f 1), vI (f 2), vI (f 3), vI (f 4), vI (f 5), vI (f 6), vI (f 7), vI (g 0), .bool (hh 0), vI (g 1), .bool (hh 1), vI (g 2), .bool (hh 2), vI (g 3), .bool (hh 3), vI (g 4), .bool (hh 4), vI (g 5), .bool (hh 5), vI (g 6), .bool (hh 6), vI (g 7), .bool (hh 7)].toArray] h L (∃ B, ArInv ss B ∧ (0 ≤ B ∧ B ≤ 1152921504606846976) ∧ (ss.length < most ∧ most ≤ 20000) ∧ ∀ j < 8, 0 ≤ f j ∧ f j ≤ ss.length) R
    (fun K => (isNon ⟨l, f, g, hh⟩ → K (.tuple [vI 0, vI 0].toArray) h [arH ab most ss]) ∧ (¬ isNon ⟨l, f, g, hh⟩ → ∀ ss', MadeR ss ⟨l, f, g, hh⟩ ss' → K (.tuple [vI ss'.length, vI 0].toArray) h [arH ab most ss'])) := ⟨fun ⟨B, h1, h2, h3, h4⟩ => spec_ar (pgmade_spec h1 h2 h3 h4)⟩
theorem pgrelease_spec {id : Int} [p : IsPg h pb ab codes m] (hid : id ≠ 0 → RefOk ss ∧ liveP ss id ∧ 2 ≤ (ss[(id - 1).toNat]!).refs) : Spec Tryz.prog 120 [.pointer (some ⟨pb, 0, none⟩), vI id] h [arH ab most ss]
    (fun K => K (.tuple [].toArray) h [arH ab most (if id = 0 then ss else decR ss (id - 1).toNat)]) := by
  refine spec_enter Tryz.func120 rfl Tryz.ntmps120 Tryz.results120 (by simp) fun K R hT => ?_
  by_cases hz : id = 0
  · rw [if_pos hz] at hT
    haveI : Known (¬ (id ≠ 0)) := ⟨by simpa using hz⟩
    repeat (first | refine Step.imp ?_ | refine Side.mk (by first | exact True.intro | omega | exact ⟨trivial, rfl⟩ | exact ⟨by omega, trivial, rfl⟩ | exact ⟨by omega, rfl⟩ | exact ⟨by omega, by omega, rfl⟩ | (simp only [List.length_cons, List.length_nil, List.length_append]; done) | (simp only [List.length_cons, List.length_nil, List.length_append]; omega) | decide +kernel) ?_ | refine GDraw_one (by decide +kernel) ?_ | refine New.mk fun _ => ?_ | refine NewS.mk fun _ _ => ?_)
    exact Fin.val hT rfl (Hle.refl _)
  · rw [if_neg hz] at hT
    haveI : Known (id ≠ 0) := ⟨hz⟩
    repeat (first | refine Step.imp ?_ | refine Side.mk (by first | exact True.intro | omega | exact ⟨trivial, rfl⟩ | exact ⟨by omega, trivial, rfl⟩ | exact ⟨by omega, rfl⟩ | exact ⟨by omega, by omega, rfl⟩ | (simp only [List.length_cons, List.length_nil, List.length_append]; done) | (simp only [List.length_cons, List.length_nil, List.length_append]; omega) | decide +kernel) ?_ | refine GDraw_one (by decide +kernel) ?_ | refine New.mk fun _ => ?_ | refine NewS.mk fun _ _ => ?_)
    refine Side.mk (hid hz) ?_
    repeat (first | refine Step.imp ?_ | refine Side.mk (by first | exact True.intro | omega | exact ⟨trivial, rfl⟩ | exact ⟨by omega, trivial, rfl⟩ | exact ⟨by omega, rfl⟩ | exact ⟨by omega, by omega, rfl⟩ | (simp only [List.length_cons, List.length_nil, List.length_append]; done) | (simp only [List.length_cons, List.length_nil, List.length_append]; omega) | decide +kernel) ?_ | refine GDraw_one (by decide +kernel) ?_ | refine New.mk fun _ => ?_ | refine NewS.mk fun _ _ => ?_)
    exact Fin.val hT rfl (Hle.refl _)
instance pg_release {L R : List HP} {id : Int} [p : IsPg h pb ab codes m] [q : PickAr L ab most ss R] : CallT Tryz.prog 120 [.pointer (some ⟨pb, 0, none⟩), vI id] h L (id ≠ 0 → RefOk ss ∧ liveP ss id ∧ 2 ≤ (ss[(id - 1).toNat]!).refs) R
    (fun K => K (.tuple [].toArray) h [arH ab most (if id = 0 then ss else decR ss (id - 1).toNat)]) := ⟨fun hs => spec_ar (pgrelease_spec hs)⟩
end
end Go.Sl

/-
  Pages: a tree with another entry.
-/
namespace Go.Sl
open Go.Proofs
set_option linter.unusedVariables false
set_option linter.unusedSimpArgs false
set_option maxRecDepth 10000
set_option synthInstance.maxSize 2000
set_option synthInstance.maxHeartbeats 200000
set_option maxHeartbeats 1000000
/-- A region that draws its order, of which the free operations read two blocks alone. -/
theorem GDraw_CC {P : Program} {N : NN} {Q : Post} {e : Env} {h : PHeap} {L M R : List HP} {k : List It} {l : List Oper} {id T T' : Nat} {cs cs' : List Value} (b b' : Nat) [hm : Mixed P] [p : PickC L b cs T M] [q : PickC M b' cs' T' R] (hok : drawOK l.toArray = true) (g : GD P N l [blk b (.cells cs.toArray T (0, 0)), blk b' (.cells cs'.toArray T' (0, 0))] h 0 l k Q e h L) : GDraw P N id l k Q e h L := G_draw (Z := R) [blk b (.cells cs.toArray T (0, 0)), blk b' (.cells cs'.toArray T' (0, 0))] hm.eq hok (p.eq.trans (List.Perm.cons _ q.eq)) g
theorem ArInv.ref {ss : List Slt} {B : Int} (h : ArInv ss B) (hB : B ≤ 1152921504606846976) (hl : ss.length ≤ 20000) : RefOk ss := ⟨by omega, fun i hi => by have := h i hi; omega⟩
section
variable {h : PHeap} {pb ab M : Nat} {codes most : Int} {ss : List Slt} {B : Int} {ev : Int} {eh : Bool}
theorem pgput_spec [p : IsPg h pb ab codes M] (hi : ArInv ss B) (hB : 0 ≤ B ∧ B ≤ 576460752303423488) : ∀ m : Nat, m ≤ 3 → ((ss.length : Int) + (m + 1) ≤ most ∧ most ≤ 20000) → ∀ root code : Int, root ≤ ss.length → (0 ≤ code ∧ code < 8 ^ (m + 1)) →
    Spec Tryz.prog 83 [.pointer (some ⟨pb, 0, none⟩), vI root, vI code, vI (8 ^ (m + 1)), .agg [vI ev, .bool eh].toArray] h [arH ab most ss]
      (fun K => ∀ ss' r, PutR m ss B root code ⟨ev, eh⟩ ss' r → K (.tuple [vI r, vI 0].toArray) h [arH ab most ss'])
  | 0, _, hlt, root, code, hr, hc => by
    have hc8 : code < 8 := hc.2
    have hct : code.toNat < 8 := by omega
    haveI : Known ((8 : Int) ^ (0 + 1) = 8) := ⟨by decide⟩
    have hsz : ss.length ≤ 20000 := by omega
    have pl := put_leaf hi hB.1 (e := ⟨ev, eh⟩) hr ⟨hc.1, hc8⟩ _ rfl
    refine spec_enter Tryz.func83 rfl Tryz.ntmps83 Tryz.results83 (by simp) fun K R hT => ?_
    repeat (first | refine Step.imp ?_ | refine Side.mk (by first | exact True.intro | omega | exact ⟨trivial, rfl⟩ | exact ⟨by omega, trivial, rfl⟩ | exact ⟨by omega, rfl⟩ | exact ⟨by omega, by omega, rfl⟩ | (simp only [List.length_cons, List.length_nil, List.length_append]; done) | (simp only [List.length_cons, List.length_nil, List.length_append]; omega) | decide +kernel) ?_ | refine GDraw_one (by decide +kernel) ?_ | refine New.mk fun _ => ?_ | refine NewS.mk fun _ _ => ?_)
    refine Side.mk ⟨B, hi, ⟨hB.1, by omega⟩, by omega, fun j hj => kid_le hi root true hj⟩ ?_
    rw [rdN_leaf]
    refine ⟨fun hz => ?_, fun hn ss' hmd => ?_⟩
    · repeat (first | refine Step.imp ?_ | refine Side.mk (by first | exact True.intro | omega | exact ⟨trivial, rfl⟩ | exact ⟨by omega, trivial, rfl⟩ | exact ⟨by omega, rfl⟩ | exact ⟨by omega, by omega, rfl⟩ | (simp only [List.length_cons, List.length_nil, List.length_append]; done) | (simp only [List.length_cons, List.length_nil, List.length_append]; omega) | decide +kernel) ?_ | refine GDraw_one (by decide +kernel) ?_ | refine New.mk fun _ => ?_ | refine NewS.mk fun _ _ => ?_)
      exact Fin.val (hT _ _ (pl.1 hz)) rfl (Hle.refl _)
    · repeat (first | refine Step.imp ?_ | refine Side.mk (by first | exact True.intro | omega | exact ⟨trivial, rfl⟩ | exact ⟨by omega, trivial, rfl⟩ | exact ⟨by omega, rfl⟩ | exact ⟨by omega, by omega, rfl⟩ | (simp only [List.length_cons, List.length_nil, List.length_append]; done) | (simp only [List.length_cons, List.length_nil, List.length_append]; omega) | decide +kernel) ?_ | refine GDraw_one (by decide +kernel) ?_ | refine New.mk fun _ => ?_ | refine NewS.mk fun _ _ => ?_)
      exact Fin.val (hT _ _ (pl.2 ss' hmd)) rfl (Hle.refl _)
  | m + 1, hm, hlt, root, code, hr, hc => by
    have h8 := pow8_4 (m := m + 1) (by omega)
    have h9 := pow8_4 (m := m) (by omega)
    have e1 : (8 : Int) ^ (m + 1 + 1) / 8 = 8 ^ (m + 1) := by rw [Int.pow_succ 8 (m + 1), Int.mul_ediv_cancel _ (by decide)]
    haveI : Known (¬ ((8 : Int) ^ (m + 1 + 1) = 8)) := ⟨by rw [pow8_succ (m + 1)]; omega⟩
    have hsz : ss.length ≤ 20000 := by omega
    have hk := kid_eq hc.1 hc.2
    have hkl := kidAt_lt m code
    refine spec_enter Tryz.func83 rfl Tryz.ntmps83 Tryz.results83 (by simp) fun K R hT => ?_
    have hmod : 0 ≤ code % 8 ^ (m + 1) ∧ code % 8 ^ (m + 1) < 8 ^ (m + 1) := ⟨Int.emod_nonneg _ (by omega), Int.emod_lt_of_pos _ (by omega)⟩
    have hkd := kid_le hi root false hkl
    haveI ih : ∀ {L R : List HP} [q : PickAr L ab most ss R], CallT Tryz.prog 83 [.pointer (some ⟨pb, 0, none⟩), vI ((rdN ss root false).k (kidAt m code)), vI (code % 8 ^ (m + 1)), vI (8 ^ (m + 1)), .agg [vI ev, .bool eh].toArray] h L True R
        (fun K => ∀ ss' r, PutR m ss B ((rdN ss root false).k (kidAt m code)) (code % 8 ^ (m + 1)) ⟨ev, eh⟩ ss' r → K (.tuple [vI r, vI 0].toArray) h [arH ab most ss']) := fun {_ _} [_] => ⟨fun _ => spec_ar (pgput_spec hi hB m (by omega) ⟨by omega, hlt.2⟩ _ _ hkd.2 hmod)⟩
    repeat (first | refine Step.imp ?_ | refine Side.mk (by first | exact True.intro | omega | exact ⟨trivial, rfl⟩ | exact ⟨by omega, trivial, rfl⟩ | exact ⟨by omega, rfl⟩ | exact ⟨by omega, by omega, rfl⟩ | (simp only [List.length_cons, List.length_nil, List.length_append]; done) | (simp only [List.length_cons, List.length_nil, List.length_append]; omega) | decide +kernel) ?_ | refine New.mk fun _ => ?_ | refine NewS.mk fun _ _ => ?_)
    rename_i eb nb
    rw [e1, ← hk.1]
    repeat (first | refine Step.imp ?_ | refine Side.mk (by first | exact True.intro | omega | exact ⟨trivial, rfl⟩ | exact ⟨by omega, trivial, rfl⟩ | exact ⟨by omega, rfl⟩ | exact ⟨by omega, by omega, rfl⟩ | (simp only [List.length_cons, List.length_nil, List.length_append]; done) | (simp only [List.length_cons, List.length_nil, List.length_append]; omega) | decide +kernel) ?_ | refine GDraw_CC nb eb (by decide +kernel) ?_ | refine New.mk fun _ => ?_ | refine NewS.mk fun _ _ => ?_)
    intro ss1 r1 hp
    have pn := put_node hi hB.1 (e := ⟨ev, eh⟩) hr hc _ rfl hp
    have hp2 := hp
    obtain ⟨p1, p2, p3, p4, p5, _⟩ := hp2
    haveI : Known (¬ ((0 : Int) ≠ 0)) := ⟨by decide⟩
    repeat (first | refine Step.imp ?_ | refine Side.mk (by first | exact True.intro | omega | exact ⟨trivial, rfl⟩ | exact ⟨by omega, trivial, rfl⟩ | exact ⟨by omega, rfl⟩ | exact ⟨by omega, by omega, rfl⟩ | (simp only [List.length_cons, List.length_nil, List.length_append]; done) | (simp only [List.length_cons, List.length_nil, List.length_append]; omega) | decide +kernel) ?_ | refine GDraw_one (by decide +kernel) ?_ | refine New.mk fun _ => ?_ | refine NewS.mk fun _ _ => ?_)
    refine Side.mk ⟨B + 16 * ((m : Int) + 1), p1, ⟨by omega, by omega⟩, ⟨by omega, hlt.2⟩, fun j hj => ?_⟩ ?_
    · simp only [updI]
      split
      · exact ⟨p4, p5⟩
      · have := kid_le hi root false hj; have := p2.1; omega
    rw [rdN_leaf]
    refine ⟨fun hz => ?_, fun hn ss2 hmd => ?_⟩
    · have hz2 := pn.1 hz
      obtain ⟨rfl, hz3⟩ := hz2
      repeat (first | refine Step.imp ?_ | refine Side.mk (by first | exact True.intro | omega | exact ⟨trivial, rfl⟩ | exact ⟨by omega, trivial, rfl⟩ | exact ⟨by omega, rfl⟩ | exact ⟨by omega, by omega, rfl⟩ | (simp only [List.length_cons, List.length_nil, List.length_append]; done) | (simp only [List.length_cons, List.length_nil, List.length_append]; omega) | decide +kernel) ?_ | refine GDraw_one (by decide +kernel) ?_ | refine New.mk fun _ => ?_ | refine NewS.mk fun _ _ => ?_)
      rw [if_pos rfl]
      exact Fin.val (hT _ _ hz3) rfl (Hle.refl _)
    · have hq := pn.2 ss2 hmd
      by_cases hr1 : r1 = 0
      · repeat (first | refine Step.imp ?_ | refine Side.mk (by first | exact True.intro | omega | exact ⟨trivial, rfl⟩ | exact ⟨by omega, trivial, rfl⟩ | exact ⟨by omega, rfl⟩ | exact ⟨by omega, by omega, rfl⟩ | (simp only [List.length_cons, List.length_nil, List.length_append]; done) | (simp only [List.length_cons, List.length_nil, List.length_append]; omega) | decide +kernel) ?_ | refine GDraw_one (by decide +kernel) ?_ | refine New.mk fun _ => ?_ | refine NewS.mk fun _ _ => ?_)
        rw [if_pos hr1]
        exact Fin.val (hT _ _ (hq.1 hr1)) rfl (Hle.refl _)
      · obtain ⟨q1, q2, q3⟩ := hq.2 hr1
        have i2 := hmd.inv p1 (by omega) (fun j hj => by
          simp only [updI]
          split
          · exact ⟨p4, p5⟩
          · have := kid_le hi root false hj; have := p2.1; omega)
        repeat (first | refine Step.imp ?_ | refine Side.mk (by first | exact True.intro | omega | exact ⟨trivial, rfl⟩ | exact ⟨by omega, trivial, rfl⟩ | exact ⟨by omega, rfl⟩ | exact ⟨by omega, by omega, rfl⟩ | (simp only [List.length_cons, List.length_nil, List.length_append]; done) | (simp only [List.length_cons, List.length_nil, List.length_append]; omega) | decide +kernel) ?_ | refine GDraw_one (by decide +kernel) ?_ | refine New.mk fun _ => ?_ | refine NewS.mk fun _ _ => ?_)
        refine Side.mk (fun _ => ⟨i2.ref (by omega) (by have := hmd.1; omega), q1, q2⟩) ?_
        rw [if_neg hr1]
        repeat (first | refine Step.imp ?_ | refine Side.mk (by first | exact True.intro | omega | exact ⟨trivial, rfl⟩ | exact ⟨by omega, trivial, rfl⟩ | exact ⟨by omega, rfl⟩ | exact ⟨by omega, by omega, rfl⟩ | (simp only [List.length_cons, List.length_nil, List.length_append]; done) | (simp only [List.length_cons, List.length_nil, List.length_append]; omega) | decide +kernel) ?_ | refine GDraw_one (by decide +kernel) ?_ | refine New.mk fun _ => ?_ | refine NewS.mk fun _ _ => ?_)
        exact Fin.val (hT _ _ q3) rfl (Hle.refl _)
end
end Go.Sl

/-
  Pages: an entry is set.
-/
namespace Go.Sl
open Go.Proofs
set_option linter.unusedVariables false
set_option linter.unusedSimpArgs false
set_option maxRecDepth 10000
set_option synthInstance.maxSize 2000
set_option synthInstance.maxHeartbeats 200000
set_option maxHeartbeats 1000000
/-- An arena of which it is known how often its nodes are asked for. -/
class Bnd (ss : List Slt) (B : outParam Int) : Prop where
  inv : ArInv ss B
  lo : 0 ≤ B
  hi : B ≤ 576460752303423488
theorem incR_inv {ss : List Slt} {B : Int} {i : Nat} (h : ArInv ss B) : ArInv (incR ss i) (B + 1) := fun j hj => by
  rw [incR_len] at hj
  have a := incR_get (i := i) hj
  have b := h j hj
  refine ⟨?_, ?_, fun t ht => ?_⟩
  · rw [a.2]; split <;> omega
  · rw [a.2]; split <;> omega
  · rw [a.1, incR_len]; exact b.2.2 t ht
theorem incR_ext {ss : List Slt} {B : Int} {i : Nat} (h : ArInv ss B) : ArExt ss (incR ss i) := ⟨by rw [incR_len]; exact Nat.le_refl _, fun j hj => ⟨(incR_get hj).1, (incR_inv h j (by rw [incR_len]; exact hj)).1⟩⟩
section
variable {h : PHeap} {pb ab m : Nat} {codes most : Int} {ss : List Slt} {B : Int} {ev : Int} {eh : Bool}
theorem pgkeep_spec {id : Int} [p : IsPg h pb ab codes m] (hs : RefOk ss) (hid : id ≠ 0 → liveP ss id) : Spec Tryz.prog 82 [.pointer (some ⟨pb, 0, none⟩), vI id] h [arH ab most ss]
    (fun K => K (vI 0) h [arH ab most (if id = 0 then ss else incR ss (id - 1).toNat)]) := by
  refine spec_enter Tryz.func82 rfl Tryz.ntmps82 Tryz.results82 (by simp) fun K R hT => ?_
  by_cases hz : id = 0
  · rw [if_pos hz] at hT
    haveI : Known (id = 0) := ⟨hz⟩
    repeat (first | refine Step.imp ?_ | refine Side.mk (by first | exact True.intro | omega | exact ⟨trivial, rfl⟩ | exact ⟨by omega, trivial, rfl⟩ | exact ⟨by omega, rfl⟩ | exact ⟨by omega, by omega, rfl⟩ | (simp only [List.length_cons, List.length_nil, List.length_append]; done) | (simp only [List.length_cons, List.length_nil, List.length_append]; omega) | decide +kernel) ?_ | refine GDraw_one (by decide +kernel) ?_ | refine New.mk fun _ => ?_ | refine NewS.mk fun _ _ => ?_)
    exact Fin.val hT rfl (Hle.refl _)
  · rw [if_neg hz] at hT
    haveI : Known (¬ (id = 0)) := ⟨hz⟩
    repeat (first | refine Step.imp ?_ | refine Side.mk (by first | exact True.intro | omega | exact ⟨trivial, rfl⟩ | exact ⟨by omega, trivial, rfl⟩ | exact ⟨by omega, rfl⟩ | exact ⟨by omega, by omega, rfl⟩ | (simp only [List.length_cons, List.length_nil, List.length_append]; done) | (simp only [List.length_cons, List.length_nil, List.length_append]; omega) | decide +kernel) ?_ | refine GDraw_one (by decide +kernel) ?_ | refine New.mk fun _ => ?_ | refine NewS.mk fun _ _ => ?_)
    refine ⟨fun hno => absurd (hid hz) hno, fun _ => ?_⟩
    repeat (first | refine Step.imp ?_ | refine Side.mk (by first | exact True.intro | omega | exact ⟨trivial, rfl⟩ | exact ⟨by omega, trivial, rfl⟩ | exact ⟨by omega, rfl⟩ | exact ⟨by omega, by omega, rfl⟩ | (simp only [List.length_cons, List.length_nil, List.length_append]; done) | (simp only [List.length_cons, List.length_nil, List.length_append]; omega) | decide +kernel) ?_ | refine GDraw_one (by decide +kernel) ?_ | refine New.mk fun _ => ?_ | refine NewS.mk fun _ _ => ?_)
    exact Fin.val hT rfl (Hle.refl _)
instance pg_keep {L R : List HP} {id : Int} [p : IsPg h pb ab codes m] [q : PickAr L ab most ss R] : CallT Tryz.prog 82 [.pointer (some ⟨pb, 0, none⟩), vI id] h L (RefOk ss ∧ (id ≠ 0 → liveP ss id)) R
    (fun K => K (vI 0) h [arH ab most (if id = 0 then ss else incR ss (id - 1).toNat)]) := ⟨fun hs => spec_ar (pgkeep_spec hs.1 hs.2)⟩
theorem keep_put {root code : Int} {e : En} (hi : ArInv ss B) (hB : 0 ≤ B) (hr : 0 ≤ root ∧ root ≤ ss.length) (hc : 0 ≤ code ∧ code < 8 ^ (m + 1)) (he : getL ss m root code = e) : PutR m ss B root code e (if root = 0 then ss else incR ss (root - 1).toNat) root := by
  have hx : ArInv (if root = 0 then ss else incR ss (root - 1).toNat) (B + 1) ∧ ArExt ss (if root = 0 then ss else incR ss (root - 1).toNat) ∧ (if root = 0 then ss else incR ss (root - 1).toNat).length = ss.length := by
    split
    · exact ⟨fun i hi2 => ⟨(hi i hi2).1, by have := (hi i hi2).2.1; omega, (hi i hi2).2.2⟩, .refl hi, rfl⟩
    · exact ⟨incR_inv hi, incR_ext hi, incR_len ss _⟩
  obtain ⟨h1, h2, h3⟩ := hx
  refine ⟨fun i hi2 => ⟨(h1 i hi2).1, by have := (h1 i hi2).2.1; omega, (h1 i hi2).2.2⟩, h2, by omega, hr.1, by omega, fun c h0 hlt => ?_⟩
  rw [getL_ext hi h2 m root c hr.2]
  split
  · rename_i q; rw [q]; exact he
  · rfl
theorem pgset_spec {root code : Int} [p : IsPg h pb ab codes m] (hi : ArInv ss B) (hB : 0 ≤ B ∧ B ≤ 576460752303423488) (hlt : (ss.length : Int) + (m + 1) ≤ most ∧ most ≤ 20000) (hr : 0 ≤ root ∧ root ≤ ss.length) (hc : 0 ≤ code ∧ code < codes) :
    Spec Tryz.prog 37 [.pointer (some ⟨pb, 0, none⟩), vI root, vI code, .agg [vI ev, .bool eh].toArray] h [arH ab most ss]
      (fun K => ∀ ss' r, PutR m ss B root code ⟨ev, eh⟩ ss' r → K (.tuple [vI r, vI 0].toArray) h [arH ab most ss']) := by
  have hcd := p.cd
  have hm3 := p.m3
  have hsz : ss.length ≤ 20000 := by omega
  haveI : Known (¬ ((0 : Int) ≠ 0)) := ⟨by decide⟩
  haveI hput : ∀ {L R : List HP} [q : PickAr L ab most ss R], CallT Tryz.prog 83 [.pointer (some ⟨pb, 0, none⟩), vI root, vI code, vI (8 ^ (m + 1)), .agg [vI ev, .bool eh].toArray] h L True R
      (fun K => ∀ ss' r, PutR m ss B root code ⟨ev, eh⟩ ss' r → K (.tuple [vI r, vI 0].toArray) h [arH ab most ss']) := fun {_ _} [_] => ⟨fun _ => spec_ar (pgput_spec hi hB m hm3 hlt _ _ hr.2 ⟨hc.1, by omega⟩)⟩
  refine spec_enter Tryz.func37 rfl Tryz.ntmps37 Tryz.results37 (by simp) fun K R hT => ?_
  by_cases hw : (getL ss m root code).val = ev ∧ (getL ss m root code).held = eh ∧ True
  · haveI : Known ((getL ss m root code).val = ev ∧ (getL ss m root code).held = eh ∧ True) := ⟨hw⟩
    have he : getL ss m root code = ⟨ev, eh⟩ := by rw [← hw.1, ← hw.2.1]
    repeat (first | refine Step.imp ?_ | refine Side.mk (by first | exact True.intro | omega | exact ⟨trivial, rfl⟩ | exact ⟨by omega, trivial, rfl⟩ | exact ⟨by omega, rfl⟩ | exact ⟨by omega, by omega, rfl⟩ | (simp only [List.length_cons, List.length_nil, List.length_append]; done) | (simp only [List.length_cons, List.length_nil, List.length_append]; omega) | decide +kernel) ?_ | refine GDraw_one (by decide +kernel) ?_ | refine New.mk fun _ => ?_ | refine NewS.mk fun _ _ => ?_)
    refine Side.mk ⟨hi.ref (by omega) hsz, fun hz => live_of hi (by omega) hr.2⟩ ?_
    repeat (first | refine Step.imp ?_ | refine Side.mk (by first | exact True.intro | omega | exact ⟨trivial, rfl⟩ | exact ⟨by omega, trivial, rfl⟩ | exact ⟨by omega, rfl⟩ | exact ⟨by omega, by omega, rfl⟩ | (simp only [List.length_cons, List.length_nil, List.length_append]; done) | (simp only [List.length_cons, List.length_nil, List.length_append]; omega) | decide +kernel) ?_ | refine GDraw_one (by decide +kernel) ?_ | refine New.mk fun _ => ?_ | refine NewS.mk fun _ _ => ?_)
    exact Fin.val (hT _ _ (keep_put hi hB.1 hr ⟨hc.1, by omega⟩ he)) rfl (Hle.refl _)
  · haveI : Known (¬ ((getL ss m root code).val = ev ∧ (getL ss m root code).held = eh ∧ True)) := ⟨hw⟩
    repeat (first | refine Step.imp ?_ | refine Side.mk (by first | exact True.intro | omega | exact ⟨trivial, rfl⟩ | exact ⟨by omega, trivial, rfl⟩ | exact ⟨by omega, rfl⟩ | exact ⟨by omega, by omega, rfl⟩ | (simp only [List.length_cons, List.length_nil, List.length_append]; done) | (simp only [List.length_cons, List.length_nil, List.length_append]; omega) | decide +kernel) ?_ | refine New.mk fun _ => ?_ | refine NewS.mk fun _ _ => ?_)
    rename_i eb rb
    repeat (first | refine Step.imp ?_ | refine Side.mk (by first | exact True.intro | omega | exact ⟨trivial, rfl⟩ | exact ⟨by omega, trivial, rfl⟩ | exact ⟨by omega, rfl⟩ | exact ⟨by omega, by omega, rfl⟩ | (simp only [List.length_cons, List.length_nil, List.length_append]; done) | (simp only [List.length_cons, List.length_nil, List.length_append]; omega) | decide +kernel) ?_ | refine GDraw_C (eb) (by decide +kernel) ?_ | refine New.mk fun _ => ?_ | refine NewS.mk fun _ _ => ?_)
    intro ss' r hp
    repeat (first | refine Step.imp ?_ | refine Side.mk (by first | exact True.intro | omega | exact ⟨trivial, rfl⟩ | exact ⟨by omega, trivial, rfl⟩ | exact ⟨by omega, rfl⟩ | exact ⟨by omega, by omega, rfl⟩ | (simp only [List.length_cons, List.length_nil, List.length_append]; done) | (simp only [List.length_cons, List.length_nil, List.length_append]; omega) | decide +kernel) ?_ | refine GDraw_one (by decide +kernel) ?_ | refine New.mk fun _ => ?_ | refine NewS.mk fun _ _ => ?_)
    exact Fin.val (hT ss' r hp) rfl (Hle.refl _)
instance pg_set {L R : List HP} {root code : Int} [p : IsPg h pb ab codes m] [q : PickAr L ab most ss R] [bd : Bnd ss B] : CallT Tryz.prog 37 [.pointer (some ⟨pb, 0, none⟩), vI root, vI code, .agg [vI ev, .bool eh].toArray] h L (((ss.length : Int) + (m + 1) ≤ most ∧ most ≤ 20000) ∧ (0 ≤ root ∧ root ≤ ss.length) ∧ (0 ≤ code ∧ code < codes)) R
    (fun K => ∀ ss' r, PutR m ss B root code ⟨ev, eh⟩ ss' r → K (.tuple [vI r, vI 0].toArray) h [arH ab most ss']) := ⟨fun hs => spec_ar (pgset_spec bd.inv ⟨bd.lo, bd.hi⟩ hs.1 hs.2.1 hs.2.2)⟩
end
end Go.Sl
