/-
  Facts that the proof is made of (W4).
-/
import Derived.Test.YtegnndnlogpihaaGreatKO4
import Derived.Test.YtegnndnlogpihaaGreatKP2
/-
  The law's first functions (layer 12): what a catalogue opens.
-/
namespace Go.Sl
open Go.Proofs
set_option linter.unusedVariables false
set_option linter.unusedSimpArgs false
set_option maxRecDepth 10000
set_option synthInstance.maxSize 2000
set_option synthInstance.maxHeartbeats 200000
set_option maxHeartbeats 1000000
section
variable {P : Program} {N : NN} {V : List HP} {e : Env} {h : PHeap}
/-- A product that may wrap. -/
theorem soft_mulW (P : Program) (N : NN) : ∀ (V : List HP) (h : PHeap) (e : Env) (a b : Operand) (t ty' : TypeId) (x y : Int) [ha : Is (lkO e a) (some (vI x))] [hb : Is (lkO e b) (some (vI y))], Soft P N V h e (.binOp .mul t a b ty') True (vI (IntKind.i64.wrap (x * y))) :=
  fun V h e a b t ty' x y ha hb => ⟨fun hs _ d ty pos af g ac w se _ => run_int .mul (se.eval ha.eq) (se.eval hb.eq) (fun w => by simp [binOp, Op.intArith]) w⟩
end
section
variable {P : Program} {N : NN} {Q : Post} {e : Env} {h h0 : PHeap} {L R : List HP} {k : List It} {b : Nat} {C : Cat}
theorem rsp_newB {db : Nat} (hRD : IsRD h db C) (ok : OkCat C) : RspOk h C false db (.slice none 0 0) (.slice none 0 0) (.slice none 0 0) [] [] := ⟨hRD, ok, .inl ⟨rfl, rfl, rfl⟩, .inl ⟨rfl, rfl, rfl⟩⟩
theorem GO1_newR {ops l : List Oper} {o : Oper} {db T : Nat} (b : Nat) [p : PickC L b [.pointer (some ⟨db, 0, none⟩), .slice none 0 0, .slice none 0 0, .slice none 0 0, .slice none 0 0, .slice none 0 0] T R] [hT : Is T 80] (hRD : IsRD h db C) (ok : OkCat C)
    (g : GO1 P N ops o l k Q e h (rsp h b C false :: R)) : GO1 P N ops o l k Q e h L := fun a w s => by
  have := hT.eq
  subst this
  have hp := ((p.eq.cons (slo encB 1 (.slice none 0 0) [])).cons (slo encSV 1 (.slice none 0 0) [])).trans (List.perm_middle (l₁ := [slo encSV 1 (.slice none 0 0) [], slo encB 1 (.slice none 0 0) []]))
  exact g a w (s.ae.as (St.rspIn (rsp_newB hRD ok) (((s.st.nil encB 1 none).nil encSV 1 none).perm hp)))
end
theorem foldRoUp {h h0 : PHeap} {b sb : Nat} {C : Cat} {vals : List Int} (le : Hle h0 h) : ∀ L R, [PickRo L b h0 sb C vals R] → Fold h L (rollH h b sb C vals :: R) :=
  fun _ _ p => ⟨fun _ s => (s.perm p.eq).conv (rollH_mono le)⟩
theorem pure_at {ds : List Dm} {i : Nat} (hi : i < ds.length) : ((ds.map Dm.pure)[i]!).2 = (ds[i]!).nodes := by
  rw [getElem!_pos _ i (by simpa using hi), List.getElem_map, getElem!_pos ds i hi]; rfl
def prodN (ds : List (ByteArray × List Nd)) : Nat → Int
  | 0 => 1
  | k + 1 => prodN ds k * (ds[k]!).2.length
/-- What the laws open: a catalogue that is right, and not too big. -/
def OpenP (C : Cat) : Prop := OkCat C ∧ (∀ i < C.dims.length, (C.dims[i]!).2.length ≤ 12) ∧ C.dims.length ≤ 4 ∧ C.meas.length ≤ 4 ∧ prodN C.dims C.dims.length ≤ 150
theorem mul_le4 {k a b : Nat} (ha : a ≤ 12 ^ k) (hb : b ≤ 12) : a * b ≤ 12 ^ (k + 1) := by
  rw [Nat.pow_succ]; exact Nat.mul_le_mul ha hb
theorem prod_le {ds : List (ByteArray × List Nd)} : ∀ k, (∀ i < k, (ds[i]!).2.length ≤ 12) → 0 ≤ prodN ds k ∧ prodN ds k ≤ (12 : Int) ^ k
  | 0, _ => by simp [prodN]
  | k + 1, hs => by
    have ih := prod_le k (fun i hi => hs i (by omega))
    have h1 := hs k (by omega)
    simp only [prodN]
    refine ⟨Int.mul_nonneg ih.1 (by omega), ?_⟩
    rw [Int.pow_succ]
    exact Int.mul_le_mul ih.2 (by omega) (by omega) (Int.le_trans ih.1 ih.2)
section
variable {h : PHeap} {dv mv : Value} {le sc : Int} {ds : List Dm} {ms : List ByteArray}
instance law12_open {L : List HP} [hd : IsDims h dv ds] [hm : FSl h mv encS 1 ms] : CallX Tryz.prog 8 [.agg [dv, mv, vI le, vI sc].toArray] h L (ds.length ≤ 9223372036854775807)
    (fun K => (¬ OpenP ⟨ds.map Dm.pure, ms, le, sc⟩ → ∀ h', Le h h' → K (.tuple [.pointer none, .pointer none, .bool false].toArray) h' []) ∧
      (OpenP ⟨ds.map Dm.pure, ms, le, sc⟩ → ∀ h' sb b rb qb, Le h h' →
        K (.tuple [.pointer (some ⟨b, 0, none⟩), .pointer (some ⟨qb, 0, none⟩), .bool true].toArray) h' [rollH h' b sb ⟨ds.map Dm.pure, ms, le, sc⟩ (List.replicate (leavesF ⟨ds.map Dm.pure, ms, le, sc⟩ ds.length).toNat 0), rrH qb rb (List.replicate (leavesF ⟨ds.map Dm.pure, ms, le, sc⟩ ds.length).toNat 0), rsp h' rb ⟨ds.map Dm.pure, ms, le, sc⟩ false])) := ⟨fun hdl => by
  obtain ⟨C, hC⟩ : ∃ C : Cat, C = ⟨ds.map Dm.pure, ms, le, sc⟩ := ⟨_, rfl⟩
  have hCd : C.dims.length = ds.length := by rw [hC]; exact List.length_map ..
  have hCn : ∀ i < ds.length, (C.dims[i]!).2 = (ds[i]!).nodes := fun i hi => by rw [hC]; exact pure_at hi
  have hCm : C.meas = ms := by rw [hC]
  refine spec_enter Tryz.func8 rfl Tryz.ntmps8 Tryz.results8 (by simp) fun K R hT => ?_
  rw [← hC, ← hCd] at hT
  haveI hmw := soft_mulW Tryz.prog
  repeat (first | refine Step.imp ?_ | refine Side.mk (by first | exact True.intro | omega | exact ⟨trivial, rfl⟩ | exact ⟨by omega, trivial, rfl⟩ | exact ⟨by omega, rfl⟩ | exact ⟨by omega, by omega, rfl⟩ | (simp only [List.length_cons, List.length_nil, List.length_append]; done) | (simp only [List.length_cons, List.length_nil, List.length_append]; omega) | decide +kernel) ?_ | refine GDraw_one (by decide +kernel) ?_ | refine New.mk fun _ => ?_ | refine NewS.mk fun _ _ => ?_)
  rename_i cb
  refine G_loopE (σ := Nat × Int) (fun s => s.1 ≤ ds.length ∧ (∀ j < s.1, (C.dims[j]!).2.length ≤ 12) ∧ (s.1 ≤ 4 → s.2 = prodN C.dims s.1)) (fun s => ds.length - s.1) (fun s => [(6, vI s.1), (5, vI s.2), (1, .pointer (some ⟨cb, 0, none⟩))]) (0, 1) ⟨by omega, by omega, fun _ => rfl⟩ ⟨rfl, rfl, rfl, trivial⟩ ?_
  rintro ⟨k, n⟩ ⟨hk, hall, hprod⟩
  simp only at hk hall hprod ⊢
  repeat (first | refine Step.imp ?_ | refine Side.mk (by first | exact True.intro | omega | exact ⟨trivial, rfl⟩ | exact ⟨by omega, trivial, rfl⟩ | exact ⟨by omega, rfl⟩ | exact ⟨by omega, by omega, rfl⟩ | (simp only [List.length_cons, List.length_nil, List.length_append]; done) | (simp only [List.length_cons, List.length_nil, List.length_append]; omega) | decide +kernel) ?_ | refine GDraw_one (by decide +kernel) ?_ | refine New.mk fun _ => ?_ | refine NewS.mk fun _ _ => ?_)
  refine ⟨fun hlt => ?_, fun hge => ?_⟩
  · have hnd := hd.nd k (by omega)
    repeat (first | refine Step.imp ?_ | refine Side.mk (by first | exact True.intro | omega | exact ⟨trivial, rfl⟩ | exact ⟨by omega, trivial, rfl⟩ | exact ⟨by omega, rfl⟩ | exact ⟨by omega, by omega, rfl⟩ | (simp only [List.length_cons, List.length_nil, List.length_append]; done) | (simp only [List.length_cons, List.length_nil, List.length_append]; omega) | decide +kernel) ?_ | refine GDraw_one (by decide +kernel) ?_ | refine New.mk fun _ => ?_ | refine NewS.mk fun _ _ => ?_)
    refine ⟨fun hbig => ?_, fun hok => ?_⟩
    · repeat (first | refine Step.imp ?_ | refine Side.mk (by first | exact True.intro | omega | exact ⟨trivial, rfl⟩ | exact ⟨by omega, trivial, rfl⟩ | exact ⟨by omega, rfl⟩ | exact ⟨by omega, by omega, rfl⟩ | (simp only [List.length_cons, List.length_nil, List.length_append]; done) | (simp only [List.length_cons, List.length_nil, List.length_append]; omega) | decide +kernel) ?_ | refine GDraw_one (by decide +kernel) ?_ | refine New.mk fun _ => ?_ | refine NewS.mk fun _ _ => ?_)
      exact Fin.val (hT.1 (fun ho => by have := ho.2.1 k (by omega); rw [hCn k (by omega)] at this; omega) h ⟨Hle.refl h⟩) rfl (Hle.refl _)
    · have hall2 : ∀ j < k + 1, (C.dims[j]!).2.length ≤ 12 := fun j hj => by
        rcases Nat.lt_or_ge j k with h1 | h1
        · exact hall j h1
        · have : j = k := by omega
          subst this; rw [hCn j (by omega)]; omega
      have hst : k + 1 ≤ 4 → IntKind.i64.wrap (n * ((ds[k]!).nodes.length : Int)) = prodN C.dims (k + 1) := fun h4 => by
        have e : n * ((ds[k]!).nodes.length : Int) = prodN C.dims (k + 1) := by rw [hprod (by omega), ← hCn k (by omega)]; rfl
        have hb := prod_le (k + 1) hall2
        have h5 : (12 : Int) ^ (k + 1) ≤ 20736 := by
          have : k = 0 ∨ k = 1 ∨ k = 2 ∨ k = 3 := by omega
          rcases this with rfl | rfl | rfl | rfl <;> decide
        rw [e]
        exact wrap_i64 ⟨by omega, by omega⟩
      repeat (first | refine Step.imp ?_ | refine Side.mk (by first | exact True.intro | omega | exact ⟨trivial, rfl⟩ | exact ⟨by omega, trivial, rfl⟩ | exact ⟨by omega, rfl⟩ | exact ⟨by omega, by omega, rfl⟩ | (simp only [List.length_cons, List.length_nil, List.length_append]; done) | (simp only [List.length_cons, List.length_nil, List.length_append]; omega) | decide +kernel) ?_ | refine GDraw_one (by decide +kernel) ?_ | refine New.mk fun _ => ?_ | refine NewS.mk fun _ _ => ?_)
      exact X_roundE (k + 1, _) ⟨by show k + 1 ≤ ds.length; omega, hall2, hst⟩ (by show ds.length - (k + 1) < ds.length - k; omega) ⟨rfl, rfl, rfl, trivial⟩ inferInstance
  have hk2 : k = ds.length := by omega
  subst hk2
  clear hmw
  have hmsl := hm
  by_cases hsm : ds.length ≤ 4 ∧ ms.length ≤ 4 ∧ n ≤ 150
  rotate_left
  · repeat' (first | refine Step.imp ?_ | refine Side.mk (by first | exact True.intro | omega | exact ⟨trivial, rfl⟩ | exact ⟨by omega, trivial, rfl⟩ | exact ⟨by omega, rfl⟩ | exact ⟨by omega, by omega, rfl⟩ | (simp only [List.length_cons, List.length_nil, List.length_append]; done) | (simp only [List.length_cons, List.length_nil, List.length_append]; omega) | decide +kernel) ?_ | refine GDraw_one (by decide +kernel) ?_ | refine New.mk fun _ => ?_ | refine NewS.mk fun _ _ => ?_ | refine Ways.mk (fun _ => ?_) (fun _ => ?_))
    all_goals first | exact Fin.val (hT.1 (fun ho => hsm (by
      obtain ⟨_, _, o1, o2, o3⟩ := ho
      rw [hCd] at o1 o3
      rw [hCm] at o2
      exact ⟨o1, o2, by rw [hprod o1]; exact o3⟩)) h ⟨Hle.refl h⟩) rfl (Hle.refl _) | (exfalso; omega)
  have hsz : ds.length ≤ 4294967296 ∧ ms.length ≤ 4294967296 ∧ ∀ i < ds.length, (ds[i]!).nodes.length ≤ 4294967296 := ⟨by omega, by omega, fun i hi => by have := hall i hi; rw [hCn i hi] at this; omega⟩
  have hsq : (∀ i < C.dims.length, (C.dims[i]!).2.length ≤ 12) ∧ C.dims.length ≤ 4 ∧ C.meas.length ≤ 4 ∧ prodN C.dims C.dims.length ≤ 150 := ⟨fun i hi => hall i (by omega), by omega, by rw [hCm]; omega, by rw [hCd, ← hprod hsm.1]; exact hsm.2.2⟩
  repeat' (first | refine Step.imp ?_ | refine Side.mk (by first | exact True.intro | omega | exact ⟨trivial, rfl⟩ | exact ⟨by omega, trivial, rfl⟩ | exact ⟨by omega, rfl⟩ | exact ⟨by omega, by omega, rfl⟩ | (simp only [List.length_cons, List.length_nil, List.length_append]; done) | (simp only [List.length_cons, List.length_nil, List.length_append]; omega) | decide +kernel) ?_ | refine GDraw_one (by decide +kernel) ?_ | refine New.mk fun _ => ?_ | refine NewS.mk fun _ _ => ?_ | refine Ways.mk (fun _ => ?_) (fun _ => ?_))
  all_goals first | (exfalso; omega) | skip
  rw [← hC]
  refine ⟨fun i why h1 le1 hw hno => ?_, fun ok h1 db le1 hD => ?_⟩
  · repeat (first | refine Step.imp ?_ | refine Side.mk (by first | exact True.intro | omega | exact ⟨trivial, rfl⟩ | exact ⟨by omega, trivial, rfl⟩ | exact ⟨by omega, rfl⟩ | exact ⟨by omega, by omega, rfl⟩ | (simp only [List.length_cons, List.length_nil, List.length_append]; done) | (simp only [List.length_cons, List.length_nil, List.length_append]; omega) | decide +kernel) ?_ | refine GDraw_one (by decide +kernel) ?_ | refine New.mk fun _ => ?_ | refine NewS.mk fun _ _ => ?_)
    rw [← hC]
    refine ⟨fun i2 why2 h2 le2 hw2 _ => ?_, fun ok => absurd ok hno⟩
    have hle2 := le1.le.trans le2.le
    haveI : Known (why ≠ 0) := ⟨hw⟩
    repeat (first | refine Step.imp ?_ | refine Side.mk (by first | exact True.intro | omega | exact ⟨trivial, rfl⟩ | exact ⟨by omega, trivial, rfl⟩ | exact ⟨by omega, rfl⟩ | exact ⟨by omega, by omega, rfl⟩ | (simp only [List.length_cons, List.length_nil, List.length_append]; done) | (simp only [List.length_cons, List.length_nil, List.length_append]; omega) | decide +kernel) ?_ | refine GDraw_one (by decide +kernel) ?_ | refine New.mk fun _ => ?_ | refine NewS.mk fun _ _ => ?_)
    exact Fin.val (hT.1 (fun ho => hno ho.1) h2 ⟨hle2⟩) rfl hle2
  · repeat (first | refine Step.imp ?_ | refine Side.mk (by first | exact True.intro | omega | exact ⟨trivial, rfl⟩ | exact ⟨by omega, trivial, rfl⟩ | exact ⟨by omega, rfl⟩ | exact ⟨by omega, by omega, rfl⟩ | (simp only [List.length_cons, List.length_nil, List.length_append]; done) | (simp only [List.length_cons, List.length_nil, List.length_append]; omega) | decide +kernel) ?_ | refine GDraw_one (by decide +kernel) ?_ | refine New.mk fun _ => ?_ | refine NewS.mk fun _ _ => ?_)
    rw [← hC]
    refine ⟨fun i2 why2 h2 le2 hw2 hno => absurd ok hno, fun _ h2 rdb le2 hRD => ?_⟩
    haveI := ok
    repeat (first | refine Step.imp ?_ | refine Side.mk (by first | exact True.intro | omega | exact ⟨trivial, rfl⟩ | exact ⟨by omega, trivial, rfl⟩ | exact ⟨by omega, rfl⟩ | exact ⟨by omega, by omega, rfl⟩ | (simp only [List.length_cons, List.length_nil, List.length_append]; done) | (simp only [List.length_cons, List.length_nil, List.length_append]; omega) | decide +kernel) ?_ | refine GDraw_one (by decide +kernel) ?_ | refine New.mk fun _ => ?_ | refine NewS.mk fun _ _ => ?_)
    intro h3 sb le3 hSp
    have hle3 := le1.le.trans (le2.le.trans le3.le)
    have hRD3 := hRD.mono le3.le
    haveI : LeT h3 h3 := ⟨Hle.refl h3⟩
    repeat (first | refine Step.imp ?_ | refine Side.mk (by first | exact True.intro | omega | exact ⟨trivial, rfl⟩ | exact ⟨by omega, trivial, rfl⟩ | exact ⟨by omega, rfl⟩ | exact ⟨by omega, by omega, rfl⟩ | (simp only [List.length_cons, List.length_nil, List.length_append]; done) | (simp only [List.length_cons, List.length_nil, List.length_append]; omega) | decide +kernel) ?_ | refine GDraw_one (by decide +kernel) ?_ | refine New.mk fun _ => ?_ | refine NewS.mk fun _ _ => ?_)
    intro b
    repeat (first | refine Step.imp ?_ | refine Side.mk (by first | exact True.intro | omega | exact ⟨trivial, rfl⟩ | exact ⟨by omega, trivial, rfl⟩ | exact ⟨by omega, rfl⟩ | exact ⟨by omega, by omega, rfl⟩ | (simp only [List.length_cons, List.length_nil, List.length_append]; done) | (simp only [List.length_cons, List.length_nil, List.length_append]; omega) | decide +kernel) ?_ | refine GDraw_one (by decide +kernel) ?_ | refine New.mk fun _ => ?_ | refine NewS.mk fun _ _ => ?_)
    rename_i rb
    refine GO1_newR rb hRD3 ok ?_
    repeat (first | refine Step.imp ?_ | refine Side.mk (by first | exact True.intro | omega | exact ⟨trivial, rfl⟩ | exact ⟨by omega, trivial, rfl⟩ | exact ⟨by omega, rfl⟩ | exact ⟨by omega, by omega, rfl⟩ | (simp only [List.length_cons, List.length_nil, List.length_append]; done) | (simp only [List.length_cons, List.length_nil, List.length_append]; omega) | decide +kernel) ?_ | refine GDraw_one (by decide +kernel) ?_ | refine New.mk fun _ => ?_ | refine NewS.mk fun _ _ => ?_)
    intro h4 qb le4
    have hle4 := hle3.trans le4.le
    haveI := foldRoUp (b := b) (sb := sb) (C := C) (vals := List.replicate (leavesF C C.dims.length).toNat 0) le4.le
    repeat (first | refine Step.imp ?_ | refine Side.mk (by first | exact True.intro | omega | exact ⟨trivial, rfl⟩ | exact ⟨by omega, trivial, rfl⟩ | exact ⟨by omega, rfl⟩ | exact ⟨by omega, by omega, rfl⟩ | (simp only [List.length_cons, List.length_nil, List.length_append]; done) | (simp only [List.length_cons, List.length_nil, List.length_append]; omega) | decide +kernel) ?_ | refine GDraw_one (by decide +kernel) ?_ | refine New.mk fun _ => ?_ | refine NewS.mk fun _ _ => ?_)
    exact Fin.val (hT.2 ⟨ok, hsq⟩ h4 sb b rb qb ⟨hle4⟩) rfl hle4⟩
end
end Go.Sl

/-
  What must come of fixed calls (layer 12).
-/
namespace Go.Sl
open Go.Proofs
set_option linter.unusedVariables false
set_option linter.unusedSimpArgs false
set_option maxRecDepth 10000
set_option synthInstance.maxSize 2000
set_option synthInstance.maxHeartbeats 200000
set_option maxHeartbeats 1000000
theorem kLeaves : leavesF kCat 1 = 2 := by decide +kernel
def kVals : List Int := [7, 0]
theorem kOpen : OpenP kCat := ⟨kOk, by decide +kernel, by decide +kernel, by decide +kernel, by decide +kernel⟩
theorem kRight : rightF kCat 0 (get4 0 0 0 0) := by decide +kernel
theorem kSum : cellSum kCat kVals (indexF kCat 0 (get4 0 0 0 0)).toNat = 7 := by decide +kernel
section
variable {h : PHeap}
instance law12_known {L : List HP} : CallX Tryz.prog 9 [] h L True (fun K => ∀ h', Le h h' → K (.bool true) h' []) := ⟨fun _ => by
  refine spec_enter Tryz.func9 rfl Tryz.ntmps9 Tryz.results9 (by simp) fun K R hT => ?_
  repeat (first | refine Step.imp ?_ | refine Side.mk (by first | exact True.intro | omega | exact ⟨trivial, rfl⟩ | exact ⟨by omega, trivial, rfl⟩ | exact ⟨by omega, rfl⟩ | exact ⟨by omega, by omega, rfl⟩ | (simp only [List.length_cons, List.length_nil, List.length_append]; done) | (simp only [List.length_cons, List.length_nil, List.length_append]; omega) | decide +kernel) ?_ | refine GDraw_one (by decide +kernel) ?_ | refine New.mk fun _ => ?_ | refine NewS.mk fun _ _ => ?_)
  rename_i nb db mb
  refine GO1_own (kk := 2) nb encNd [⟨⟨#[97, 108, 108]⟩, -1⟩, ⟨⟨#[97]⟩, 0⟩, ⟨⟨#[98]⟩, 0⟩] ?_
  refine GO1_frS (.slice (some ⟨nb, 0, none⟩) 3 3) fun h1 le1 f1 => ?_
  haveI : Mk encDm [.string ⟨#[120]⟩, .slice (some ⟨nb, 0, none⟩) 3 3] ⟨⟨#[120]⟩, .slice (some ⟨nb, 0, none⟩) 3 3, rfl, kNodes⟩ := ⟨rfl⟩
  refine GO1_own (kk := 2) db encDm [⟨⟨#[120]⟩, .slice (some ⟨nb, 0, none⟩) 3 3, rfl, kNodes⟩] ?_
  refine GO1_frS (.slice (some ⟨db, 0, none⟩) 1 1) fun h2 le2 f2 => ?_
  refine GO1_own (kk := 1) mb encS [⟨#[109]⟩] ?_
  refine GO1_frS (.slice (some ⟨mb, 0, none⟩) 1 1) fun h3 le3 f3 => ?_
  haveI hd : IsDims h3 (.slice (some ⟨db, 0, none⟩) 1 1) [⟨⟨#[120]⟩, .slice (some ⟨nb, 0, none⟩) 3 3, rfl, kNodes⟩] := ⟨FSl.mono le3.le f2, fun i hi => by
    have : i = 0 := by simp at hi; omega
    subst this; exact FSl.mono (le2.le.trans le3.le) f1⟩
  have hle3 := le1.le.trans (le2.le.trans le3.le)
  repeat (first | refine Step.imp ?_ | refine Side.mk (by first | exact True.intro | omega | exact ⟨trivial, rfl⟩ | exact ⟨by omega, trivial, rfl⟩ | exact ⟨by omega, rfl⟩ | exact ⟨by omega, by omega, rfl⟩ | (simp only [List.length_cons, List.length_nil, List.length_append]; done) | (simp only [List.length_cons, List.length_nil, List.length_append]; omega) | decide +kernel) ?_ | refine GDraw_one (by decide +kernel) ?_ | refine New.mk fun _ => ?_ | refine NewS.mk fun _ _ => ?_)
  refine ⟨fun hno => absurd kOpen hno, fun _ h4 sb b rb qb le4 => ?_⟩
  have hle4 := hle3.trans le4.le
  rw [show (⟨[(⟨⟨#[120]⟩, .slice (some ⟨nb, 0, none⟩) 3 3, rfl, kNodes⟩ : Dm)].map Dm.pure, [⟨#[109]⟩], 9, 1⟩ : Cat) = kCat from rfl, show [(⟨⟨#[120]⟩, .slice (some ⟨nb, 0, none⟩) 3 3, rfl, kNodes⟩ : Dm)].length = 1 from rfl, show List.replicate (leavesF kCat 1).toNat (0 : Int) = [0, 0] by rw [kLeaves]; rfl]
  haveI : LeT h4 h4 := ⟨Hle.refl h4⟩
  repeat (first | refine Step.imp ?_ | refine Side.mk (by first | exact True.intro | omega | exact ⟨trivial, rfl⟩ | exact ⟨by omega, trivial, rfl⟩ | exact ⟨by omega, rfl⟩ | exact ⟨by omega, by omega, rfl⟩ | (simp only [List.length_cons, List.length_nil, List.length_append]; done) | (simp only [List.length_cons, List.length_nil, List.length_append]; omega) | decide +kernel) ?_ | refine GDraw_one (by decide +kernel) ?_ | refine New.mk fun _ => ?_ | refine NewS.mk fun _ _ => ?_)
  intro h5 le5
  refine ⟨fun hno => absurd (by decide) hno, fun _ => ?_⟩
  rw [show ([0, 0] : List Int).set (0 : Int).toNat 5 = [5, 0] from rfl]
  repeat (first | refine Step.imp ?_ | refine Side.mk (by first | exact True.intro | omega | exact ⟨trivial, rfl⟩ | exact ⟨by omega, trivial, rfl⟩ | exact ⟨by omega, rfl⟩ | exact ⟨by omega, by omega, rfl⟩ | (simp only [List.length_cons, List.length_nil, List.length_append]; done) | (simp only [List.length_cons, List.length_nil, List.length_append]; omega) | decide +kernel) ?_ | refine GDraw_one (by decide +kernel) ?_ | refine New.mk fun _ => ?_ | refine NewS.mk fun _ _ => ?_)
  intro h6 le6
  refine ⟨fun hno => absurd (by decide) hno, fun _ => ?_⟩
  rw [show ([5, 0] : List Int).set (0 : Int).toNat 7 = kVals from rfl]
  have hle6 := hle4.trans (le5.le.trans le6.le)
  repeat (first | refine Step.imp ?_ | refine Side.mk (by first | exact True.intro | omega | exact ⟨trivial, rfl⟩ | exact ⟨by omega, trivial, rfl⟩ | exact ⟨by omega, rfl⟩ | exact ⟨by omega, by omega, rfl⟩ | (simp only [List.length_cons, List.length_nil, List.length_append]; done) | (simp only [List.length_cons, List.length_nil, List.length_append]; omega) | decide +kernel) ?_ | refine GDraw_one (by decide +kernel) ?_ | refine New.mk fun _ => ?_ | refine NewS.mk fun _ _ => ?_)
  refine ⟨fun hno => absurd kRight hno, fun _ => ?_⟩
  rw [kSum, show fitN 7 = 7 from by decide +kernel, show fitE 7 = 0 from by decide +kernel]
  haveI : Known (cnt0 kVals = 1) := ⟨by decide +kernel⟩
  repeat (first | refine Step.imp ?_ | refine Side.mk (by first | exact True.intro | omega | exact ⟨trivial, rfl⟩ | exact ⟨by omega, trivial, rfl⟩ | exact ⟨by omega, rfl⟩ | exact ⟨by omega, by omega, rfl⟩ | (simp only [List.length_cons, List.length_nil, List.length_append]; done) | (simp only [List.length_cons, List.length_nil, List.length_append]; omega) | decide +kernel) ?_ | refine GDraw_one (by decide +kernel) ?_ | refine New.mk fun _ => ?_ | refine NewS.mk fun _ _ => ?_)
  exact Fin.val (hT h6 ⟨hle6⟩) rfl hle6⟩
end
end Go.Sl
