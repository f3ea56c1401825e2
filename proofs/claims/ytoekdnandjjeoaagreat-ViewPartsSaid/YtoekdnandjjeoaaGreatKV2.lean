/-
  Facts that the proof is made of (V2).
-/
import Derived.Test.YtoekdnandjjeoaaGreatKOP
import Derived.Test.YtoekdnandjjeoaaGreatKV1
import Derived.Test.YtoekdnandjjeoaaGreatKP2
/-
  A view of a catalogue whose leaves have values one after another (layer 11).
-/
namespace Go.Sl
open Go.Proofs
set_option linter.unusedVariables false
set_option linter.unusedSimpArgs false
set_option maxRecDepth 10000
set_option synthInstance.maxSize 2000
set_option synthInstance.maxHeartbeats 200000
set_option maxHeartbeats 1000000
section
variable {P : Program} {N : NN} {V : List HP} {e : Env} {h : PHeap}
/-- What is left of a division that may be of a number below 0. -/
theorem soft_remN (P : Program) (N : NN) : ∀ (V : List HP) (h : PHeap) (e : Env) (a b : Operand) (t ty' : TypeId) (x y : Int) [ha : Is (lkO e a) (some (vI x))] [hb : Is (lkO e b) (some (vI y))], Soft P N V h e (.binOp .rem t a b ty') (0 < y) (vI (x.tmod y)) :=
  fun V h e a b t ty' x y ha hb => ⟨fun hs _ d ty pos af g ac w se _ => run_int .rem (se.eval ha.eq) (se.eval hb.eq) (fun w => by
    simp only [binOp, ne_eq, not_true_eq_false, if_false, Op.intDiv]
    rw [if_neg (by omega)]
    simp only [Sem.run_pure]) w⟩
end
/-- The entry of a leaf. -/
def heldF (x : Int) : Bool := decide (x.tmod 3 = 0) && decide (x ≠ 0)
def eAt (xs : List Int) (j : Nat) : En := if j < xs.length then ⟨xs[j]!, heldF (xs[j]!)⟩ else ⟨0, false⟩
def esB (C : Cat) (xs : List Int) : List En := (List.range (leavesF C C.dims.length).toNat).map (eAt xs)
theorem esB_len (C : Cat) (xs : List Int) : (esB C xs).length = (leavesF C C.dims.length).toNat := by unfold esB; simp
theorem esB_get {C : Cat} {xs : List Int} {j : Nat} (hj : j < (leavesF C C.dims.length).toNat) : (esB C xs)[j]! = eAt xs j := by
  unfold esB
  rw [getElem!_pos _ j (by simpa using hj)]; simp
theorem esB_take {C : Cat} {xs : List Int} {j : Nat} (hj : j < (leavesF C C.dims.length).toNat) : (esB C xs).take (j + 1) = (esB C xs).take j ++ [eAt xs j] := by
  rw [List.take_succ_eq_append_getElem (by rw [esB_len]; exact hj)]
  have := esB_get (xs := xs) hj
  rw [getElem!_pos _ j (by rw [esB_len]; exact hj)] at this
  rw [this]
def valsB (C : Cat) (xs : List Int) : List Int := (esB C xs).map En.val
theorem valsB_len (C : Cat) (xs : List Int) : (valsB C xs).length = (leavesF C C.dims.length).toNat := by unfold valsB; rw [List.length_map, esB_len]
theorem valsB_get {C : Cat} {xs : List Int} {j : Nat} (hj : j < (leavesF C C.dims.length).toNat) : (valsB C xs)[j]! = (eAt xs j).val := by
  have h1 : j < (esB C xs).length := by rw [esB_len]; exact hj
  unfold valsB
  rw [getElem!_pos ((esB C xs).map En.val) j (by simpa using h1), List.getElem_map]
  have := esB_get (xs := xs) hj
  rw [getElem!_pos _ j h1] at this
  rw [this]
theorem valsB_64 {C : Cat} {xs : List Int} (hx : Ok64 xs) : Ok64 (valsB C xs) := fun k hk => by
  rw [valsB_len] at hk
  rw [valsB_get hk]
  unfold eAt
  split
  · rename_i h1; exact hx k h1
  · show -9223372036854775808 ≤ (0 : Int) ∧ (0 : Int) ≤ 9223372036854775807; omega
/-- What a view is opened of. -/
def OpenV (C : Cat) : Prop := OpenP C ∧ 1 ≤ leavesF C C.dims.length
/-- What has begun. -/
structure Beg (h : PHeap) (C : Cat) (xs : List Int) (vb sb pb ab m : Nat) (ss : List Slt) (root : Int) : Prop where
  vw : IsVw h vb sb pb
  sp : IsSp h sb C
  ok : OkCat C
  pg : IsPg h pb ab (leavesF C C.dims.length) m
  tv : TreeV ss m root (valsB C xs)
  tr : TreeOk ss C (leavesF C C.dims.length) (valsB C xs)
section
variable {h : PHeap} {dv mv : Value} {le sc : Int} {ds : List Dm} {ms : List ByteArray}
instance law11_begin {L : List HP} {xa : Option Addr} {n xc : Nat} {xs : List Int} [hd : IsDims h dv ds] [hm : FSl h mv encS 1 ms] [hx : FSl h (.slice xa n xc) encI 1 xs] [hn : Is xs.length n] : CallX Tryz.prog 17 [.agg [dv, mv, vI le, vI sc].toArray, .slice xa n xc] h L (ds.length ≤ 9223372036854775807 ∧ xs.length ≤ 9223372036854775807 ∧ Ok64 xs)
    (fun K => (¬ OpenV ⟨ds.map Dm.pure, ms, le, sc⟩ → ∀ h', Le h h' → K (.pointer none) h' []) ∧
      (OpenV ⟨ds.map Dm.pure, ms, le, sc⟩ → ∀ h' xb vb sb pb ab rb m ss root la lc, Le h h' → Beg h' ⟨ds.map Dm.pure, ms, le, sc⟩ xs vb sb pb ab m ss root →
        K (.pointer (some ⟨xb, 0, none⟩)) h' [blk xb (.cells [.pointer (some ⟨vb, 0, none⟩), vI root, .pointer (some ⟨rb, 0, none⟩), .slice la (esB ⟨ds.map Dm.pure, ms, le, sc⟩ xs).length lc].toArray 56 (0, 0)),
          slo encEn 2 (.slice la (esB ⟨ds.map Dm.pure, ms, le, sc⟩ xs).length lc) (esB ⟨ds.map Dm.pure, ms, le, sc⟩ xs), rsp h' rb ⟨ds.map Dm.pure, ms, le, sc⟩ false, arH ab 5000 ss])) := ⟨fun hs => by
  obtain ⟨hdl, hxl, h64⟩ := hs
  have hnn := hn.eq
  subst hnn
  obtain ⟨C, hC⟩ : ∃ C : Cat, C = ⟨ds.map Dm.pure, ms, le, sc⟩ := ⟨_, rfl⟩
  have hCd : C.dims.length = ds.length := by rw [hC]; exact List.length_map ..
  have hCn : ∀ i < ds.length, (C.dims[i]!).2 = (ds[i]!).nodes := fun i hi => by rw [hC]; exact pure_at hi
  have hCm : C.meas = ms := by rw [hC]
  refine spec_enter Tryz.func17 rfl Tryz.ntmps17 Tryz.results17 (by simp) fun K R hT => ?_
  rw [← hC] at hT
  haveI hmw := soft_mulW Tryz.prog
  repeat (first | refine Step.imp ?_ | refine Side.mk (by first | exact True.intro | omega | exact ⟨trivial, rfl⟩ | exact ⟨by omega, trivial, rfl⟩ | exact ⟨by omega, rfl⟩ | exact ⟨by omega, by omega, rfl⟩ | (simp only [List.length_cons, List.length_nil, List.length_append]; done) | (simp only [List.length_cons, List.length_nil, List.length_append]; omega) | decide +kernel) ?_ | refine GDraw_one (by decide +kernel) ?_ | refine New.mk fun _ => ?_ | refine NewS.mk fun _ _ => ?_)
  rename_i cb
  refine G_loopE (σ := Nat × Int) (fun s => s.1 ≤ ds.length ∧ (∀ j < s.1, (C.dims[j]!).2.length ≤ 12) ∧ (s.1 ≤ 4 → s.2 = prodN C.dims s.1)) (fun s => ds.length - s.1) (fun s => [(6, vI s.1), (5, vI s.2), (2, .pointer (some ⟨cb, 0, none⟩)), (0 + 1, .slice xa xs.length xc)]) (0, 1) ⟨by omega, by omega, fun _ => rfl⟩ ⟨rfl, rfl, rfl, rfl, trivial⟩ ?_
  rintro ⟨k, n⟩ ⟨hk, hall, hprod⟩
  simp only at hk hall hprod ⊢
  repeat (first | refine Step.imp ?_ | refine Side.mk (by first | exact True.intro | omega | exact ⟨trivial, rfl⟩ | exact ⟨by omega, trivial, rfl⟩ | exact ⟨by omega, rfl⟩ | exact ⟨by omega, by omega, rfl⟩ | (simp only [List.length_cons, List.length_nil, List.length_append]; done) | (simp only [List.length_cons, List.length_nil, List.length_append]; omega) | decide +kernel) ?_ | refine GDraw_one (by decide +kernel) ?_ | refine New.mk fun _ => ?_ | refine NewS.mk fun _ _ => ?_)
  refine ⟨fun hlt => ?_, fun hge => ?_⟩
  · have hnd := hd.nd k (by omega)
    repeat (first | refine Step.imp ?_ | refine Side.mk (by first | exact True.intro | omega | exact ⟨trivial, rfl⟩ | exact ⟨by omega, trivial, rfl⟩ | exact ⟨by omega, rfl⟩ | exact ⟨by omega, by omega, rfl⟩ | (simp only [List.length_cons, List.length_nil, List.length_append]; done) | (simp only [List.length_cons, List.length_nil, List.length_append]; omega) | decide +kernel) ?_ | refine GDraw_one (by decide +kernel) ?_ | refine New.mk fun _ => ?_ | refine NewS.mk fun _ _ => ?_)
    refine ⟨fun hbig => ?_, fun hok => ?_⟩
    · repeat (first | refine Step.imp ?_ | refine Side.mk (by first | exact True.intro | omega | exact ⟨trivial, rfl⟩ | exact ⟨by omega, trivial, rfl⟩ | exact ⟨by omega, rfl⟩ | exact ⟨by omega, by omega, rfl⟩ | (simp only [List.length_cons, List.length_nil, List.length_append]; done) | (simp only [List.length_cons, List.length_nil, List.length_append]; omega) | decide +kernel) ?_ | refine GDraw_one (by decide +kernel) ?_ | refine New.mk fun _ => ?_ | refine NewS.mk fun _ _ => ?_)
      exact Fin.val (hT.1 (fun ho => by have := ho.1.2.1 k (by omega); rw [hCn k (by omega)] at this; omega) h ⟨Hle.refl h⟩) rfl (Hle.refl _)
    · have hall2 : ∀ j < k + 1, (C.dims[j]!).2.length ≤ 12 := fun j hj => by
        rcases Nat.lt_or_ge j k with h1 | h1
        · exact hall j h1
        · have : j = k := by omega
          subst this; rw [hCn j (by omega)]; omega
      have hst : k + 1 ≤ 4 → IntKind.i64.wrap (n * ((ds[k]!).nodes.length : Int)) = prodN C.dims (k + 1) := fun h4 => by
        have e : n * ((ds[k]!).nodes.length : Int) = prodN C.dims (k + 1) := by rw [hprod (by omega), ← hCn k (by omega)]; rfl
        have hb := prod_le (k + 1) hall2
        have h5 : (12 : Int) ^ (k + 1) ≤ 20736 := by
          have : k = 0 ∨ k = 1 ∨ k = 2 ∨ k = 3 := by omega
          rcases this with rfl | rfl | rfl | rfl <;> decide
        rw [e]
        exact wrap_i64 ⟨by omega, by omega⟩
      repeat (first | refine Step.imp ?_ | refine Side.mk (by first | exact True.intro | omega | exact ⟨trivial, rfl⟩ | exact ⟨by omega, trivial, rfl⟩ | exact ⟨by omega, rfl⟩ | exact ⟨by omega, by omega, rfl⟩ | (simp only [List.length_cons, List.length_nil, List.length_append]; done) | (simp only [List.length_cons, List.length_nil, List.length_append]; omega) | decide +kernel) ?_ | refine GDraw_one (by decide +kernel) ?_ | refine New.mk fun _ => ?_ | refine NewS.mk fun _ _ => ?_)
      exact X_roundE (k + 1, _) ⟨by show k + 1 ≤ ds.length; omega, hall2, hst⟩ (by show ds.length - (k + 1) < ds.length - k; omega) ⟨rfl, rfl, rfl, rfl, trivial⟩ inferInstance
  have hk2 : k = ds.length := by omega
  subst hk2
  clear hmw
  have hmsl := hm
  by_cases hsm : ds.length ≤ 4 ∧ ms.length ≤ 4 ∧ n ≤ 150
  rotate_left
  · repeat' (first | refine Step.imp ?_ | refine Side.mk (by first | exact True.intro | omega | exact ⟨trivial, rfl⟩ | exact ⟨by omega, trivial, rfl⟩ | exact ⟨by omega, rfl⟩ | exact ⟨by omega, by omega, rfl⟩ | (simp only [List.length_cons, List.length_nil, List.length_append]; done) | (simp only [List.length_cons, List.length_nil, List.length_append]; omega) | decide +kernel) ?_ | refine GDraw_one (by decide +kernel) ?_ | refine New.mk fun _ => ?_ | refine NewS.mk fun _ _ => ?_ | refine Ways.mk (fun _ => ?_) (fun _ => ?_))
    all_goals first | exact Fin.val (hT.1 (fun ho => hsm (by
      obtain ⟨_, _, o1, o2, o3⟩ := ho.1
      rw [hCd] at o1 o3
      rw [hCm] at o2
      exact ⟨o1, o2, by rw [hprod o1]; exact o3⟩)) h ⟨Hle.refl h⟩) rfl (Hle.refl _) | (exfalso; omega)
  have hsz : ds.length ≤ 4294967296 ∧ ms.length ≤ 4294967296 ∧ ∀ i < ds.length, (ds[i]!).nodes.length ≤ 4294967296 := ⟨by omega, by omega, fun i hi => by have := hall i hi; rw [hCn i hi] at this; omega⟩
  have hsq : (∀ i < C.dims.length, (C.dims[i]!).2.length ≤ 12) ∧ C.dims.length ≤ 4 ∧ C.meas.length ≤ 4 ∧ prodN C.dims C.dims.length ≤ 150 := ⟨fun i hi => hall i (by omega), by omega, by rw [hCm]; omega, by rw [hCd, ← hprod hsm.1]; exact hsm.2.2⟩
  repeat' (first | refine Step.imp ?_ | refine Side.mk (by first | exact True.intro | omega | exact ⟨trivial, rfl⟩ | exact ⟨by omega, trivial, rfl⟩ | exact ⟨by omega, rfl⟩ | exact ⟨by omega, by omega, rfl⟩ | (simp only [List.length_cons, List.length_nil, List.length_append]; done) | (simp only [List.length_cons, List.length_nil, List.length_append]; omega) | decide +kernel) ?_ | refine GDraw_one (by decide +kernel) ?_ | refine New.mk fun _ => ?_ | refine NewS.mk fun _ _ => ?_ | refine Ways.mk (fun _ => ?_) (fun _ => ?_))
  all_goals first | (exfalso; omega) | skip
  rw [← hC]
  refine ⟨fun i why h1 le1 hw hno => ?_, fun ok h1 db le1 hD => ?_⟩
  · repeat (first | refine Step.imp ?_ | refine Side.mk (by first | exact True.intro | omega | exact ⟨trivial, rfl⟩ | exact ⟨by omega, trivial, rfl⟩ | exact ⟨by omega, rfl⟩ | exact ⟨by omega, by omega, rfl⟩ | (simp only [List.length_cons, List.length_nil, List.length_append]; done) | (simp only [List.length_cons, List.length_nil, List.length_append]; omega) | decide +kernel) ?_ | refine GDraw_one (by decide +kernel) ?_ | refine New.mk fun _ => ?_ | refine NewS.mk fun _ _ => ?_)
    rw [← hC]
    refine ⟨fun i2 why2 h2 le2 hw2 _ => ?_, fun ok => absurd ok hno⟩
    have hle2 := le1.le.trans le2.le
    haveI : Known (why ≠ 0) := ⟨hw⟩
    repeat (first | refine Step.imp ?_ | refine Side.mk (by first | exact True.intro | omega | exact ⟨trivial, rfl⟩ | exact ⟨by omega, trivial, rfl⟩ | exact ⟨by omega, rfl⟩ | exact ⟨by omega, by omega, rfl⟩ | (simp only [List.length_cons, List.length_nil, List.length_append]; done) | (simp only [List.length_cons, List.length_nil, List.length_append]; omega) | decide +kernel) ?_ | refine GDraw_one (by decide +kernel) ?_ | refine New.mk fun _ => ?_ | refine NewS.mk fun _ _ => ?_)
    refine ⟨fun q => absurd (by decide) q, fun _ ab => ?_⟩
    repeat (first | refine Step.imp ?_ | refine Side.mk (by first | exact True.intro | omega | exact ⟨trivial, rfl⟩ | exact ⟨by omega, trivial, rfl⟩ | exact ⟨by omega, rfl⟩ | exact ⟨by omega, by omega, rfl⟩ | (simp only [List.length_cons, List.length_nil, List.length_append]; done) | (simp only [List.length_cons, List.length_nil, List.length_append]; omega) | decide +kernel) ?_ | refine GDraw_one (by decide +kernel) ?_ | refine New.mk fun _ => ?_ | refine NewS.mk fun _ _ => ?_)
    exact Fin.val (hT.1 (fun ho => hno ho.1.1) h2 ⟨hle2⟩) rfl hle2
  · repeat (first | refine Step.imp ?_ | refine Side.mk (by first | exact True.intro | omega | exact ⟨trivial, rfl⟩ | exact ⟨by omega, trivial, rfl⟩ | exact ⟨by omega, rfl⟩ | exact ⟨by omega, by omega, rfl⟩ | (simp only [List.length_cons, List.length_nil, List.length_append]; done) | (simp only [List.length_cons, List.length_nil, List.length_append]; omega) | decide +kernel) ?_ | refine GDraw_one (by decide +kernel) ?_ | refine New.mk fun _ => ?_ | refine NewS.mk fun _ _ => ?_)
    rw [← hC]
    refine ⟨fun i2 why2 h2 le2 hw2 hno => absurd ok hno, fun _ h2 rdb le2 hRD => ?_⟩
    haveI := ok
    repeat (first | refine Step.imp ?_ | refine Side.mk (by first | exact True.intro | omega | exact ⟨trivial, rfl⟩ | exact ⟨by omega, trivial, rfl⟩ | exact ⟨by omega, rfl⟩ | exact ⟨by omega, by omega, rfl⟩ | (simp only [List.length_cons, List.length_nil, List.length_append]; done) | (simp only [List.length_cons, List.length_nil, List.length_append]; omega) | decide +kernel) ?_ | refine GDraw_one (by decide +kernel) ?_ | refine New.mk fun _ => ?_ | refine NewS.mk fun _ _ => ?_)
    intro h3 sb le3 hSp
    have hle3 := le1.le.trans (le2.le.trans le3.le)
    have hRD3 := hRD.mono le3.le
    haveI : LeT h3 h3 := ⟨Hle.refl h3⟩
    repeat (first | refine Step.imp ?_ | refine Side.mk (by first | exact True.intro | omega | exact ⟨trivial, rfl⟩ | exact ⟨by omega, trivial, rfl⟩ | exact ⟨by omega, rfl⟩ | exact ⟨by omega, by omega, rfl⟩ | (simp only [List.length_cons, List.length_nil, List.length_append]; done) | (simp only [List.length_cons, List.length_nil, List.length_append]; omega) | decide +kernel) ?_ | refine GDraw_one (by decide +kernel) ?_ | refine New.mk fun _ => ?_ | refine NewS.mk fun _ _ => ?_)
    refine ⟨fun q => absurd (by decide) q, fun _ ab => ?_⟩
    repeat (first | refine Step.imp ?_ | refine Side.mk (by first | exact True.intro | omega | exact ⟨trivial, rfl⟩ | exact ⟨by omega, trivial, rfl⟩ | exact ⟨by omega, rfl⟩ | exact ⟨by omega, by omega, rfl⟩ | (simp only [List.length_cons, List.length_nil, List.length_append]; done) | (simp only [List.length_cons, List.length_nil, List.length_append]; omega) | decide +kernel) ?_ | refine GDraw_one (by decide +kernel) ?_ | refine New.mk fun _ => ?_ | refine NewS.mk fun _ _ => ?_)
    have hlv := ok.leaves
    refine ⟨fun hno => ?_, fun hl1 h4 pb m le4 hPg => ?_⟩
    · have hlz : ¬ 1 ≤ leavesF C C.dims.length := fun q => hno ⟨q, hlv⟩
      haveI : Known ((2 : Int) ≠ 0) := ⟨by decide⟩
      repeat (first | refine Step.imp ?_ | refine Side.mk (by first | exact True.intro | omega | exact ⟨trivial, rfl⟩ | exact ⟨by omega, trivial, rfl⟩ | exact ⟨by omega, rfl⟩ | exact ⟨by omega, by omega, rfl⟩ | (simp only [List.length_cons, List.length_nil, List.length_append]; done) | (simp only [List.length_cons, List.length_nil, List.length_append]; omega) | decide +kernel) ?_ | refine GDraw_one (by decide +kernel) ?_ | refine New.mk fun _ => ?_ | refine NewS.mk fun _ _ => ?_)
      exact Fin.val (hT.1 (fun ho => hlz ho.2) h3 ⟨hle3⟩) rfl hle3
    have hle4 := hle3.trans le4.le
    repeat (first | refine Step.imp ?_ | refine Side.mk (by first | exact True.intro | omega | exact ⟨trivial, rfl⟩ | exact ⟨by omega, trivial, rfl⟩ | exact ⟨by omega, rfl⟩ | exact ⟨by omega, by omega, rfl⟩ | (simp only [List.length_cons, List.length_nil, List.length_append]; done) | (simp only [List.length_cons, List.length_nil, List.length_append]; omega) | decide +kernel) ?_ | refine GDraw_one (by decide +kernel) ?_ | refine New.mk fun _ => ?_ | refine NewS.mk fun _ _ => ?_)
    refine ⟨fun q => absurd rfl q, fun _ vb => ?_⟩
    repeat (first | refine Step.imp ?_ | refine Side.mk (by first | exact True.intro | omega | exact ⟨trivial, rfl⟩ | exact ⟨by omega, trivial, rfl⟩ | exact ⟨by omega, rfl⟩ | exact ⟨by omega, by omega, rfl⟩ | (simp only [List.length_cons, List.length_nil, List.length_append]; done) | (simp only [List.length_cons, List.length_nil, List.length_append]; omega) | decide +kernel) ?_ | refine GDraw_one (by decide +kernel) ?_ | refine New.mk fun _ => ?_ | refine NewS.mk fun _ _ => ?_)
    rename_i rb xb
    refine GO1_freezeB vb fun h5 le5 fvb => ?_
    have hle5 := hle4.trans le5.le
    have hl35 := le4.le.trans le5.le
    have hRD5 := hRD3.mono hl35
    haveI : LeT h5 h5 := ⟨Hle.refl h5⟩
    haveI hVw : IsVw h5 vb sb pb := ⟨fvb⟩
    haveI hPg5 := hPg.mono le5.le
    have hm3 := hPg.m3
    have hcd := hPg.cd
    have hh8 := pow8_4 hm3
    have hx5 : FSl h5 (.slice xa xs.length xc) encI 1 xs := FSl.mono hle5 hx
    obtain ⟨ln, hln⟩ : ∃ ln : Nat, leavesF C C.dims.length = (ln : Int) := ⟨_, (Int.toNat_of_nonneg (by omega)).symm⟩
    have hlt : (leavesF C C.dims.length).toNat = ln := by omega
    have hel : (esB C xs).length = ln := by rw [esB_len, hlt]
    refine GO1_newR rb hRD5 ok ?_
    repeat (first | refine Step.imp ?_ | refine Side.mk (by first | exact True.intro | omega | exact ⟨trivial, rfl⟩ | exact ⟨by omega, trivial, rfl⟩ | exact ⟨by omega, rfl⟩ | exact ⟨by omega, by omega, rfl⟩ | (simp only [List.length_cons, List.length_nil, List.length_append]; done) | (simp only [List.length_cons, List.length_nil, List.length_append]; omega) | decide +kernel) ?_ | refine GDraw_one (by decide +kernel) ?_ | refine New.mk fun _ => ?_ | refine NewS.mk fun _ _ => ?_)
    intro h6 le6
    have hle6 := hle5.trans le6.le
    have hl36 := hl35.trans le6.le
    haveI : LeT h6 h6 := ⟨Hle.refl h6⟩
    haveI hVw6 := hVw.mono le6.le
    haveI hPg6 := hPg5.mono le6.le
    have hx6 : FSl h6 (.slice xa xs.length xc) encI 1 xs := FSl.mono hle6 hx
    haveI hst := stopB Tryz.prog 2
    repeat (first | refine Step.imp ?_ | refine Side.mk (by first | exact True.intro | omega | exact ⟨trivial, rfl⟩ | exact ⟨by omega, trivial, rfl⟩ | exact ⟨by omega, rfl⟩ | exact ⟨by omega, by omega, rfl⟩ | (simp only [List.length_cons, List.length_nil, List.length_append]; done) | (simp only [List.length_cons, List.length_nil, List.length_append]; omega) | decide +kernel) ?_ | refine GDraw_one (by decide +kernel) ?_ | refine New.mk fun _ => ?_ | refine NewS.mk fun _ _ => ?_)
    refine StopB.go ?_
    clear hst
    refine G_conv (x := rspP h6 rb C false) (y := rsp h6 rb C false) (rspP_rsp (Hle.refl _)) ?_
    rw [hln]
    refine G_nil encEn 2 none ?_
    repeat (first | refine Step.imp ?_ | refine Side.mk (by first | exact True.intro | omega | exact ⟨trivial, rfl⟩ | exact ⟨by omega, trivial, rfl⟩ | exact ⟨by omega, rfl⟩ | exact ⟨by omega, by omega, rfl⟩ | (simp only [List.length_cons, List.length_nil, List.length_append]; done) | (simp only [List.length_cons, List.length_nil, List.length_append]; omega) | decide +kernel) ?_ | refine GDraw_one (by decide +kernel) ?_ | refine New.mk fun _ => ?_ | refine NewS.mk fun _ _ => ?_)
    haveI hrm := soft_remN Tryz.prog
    refine G_loop (σ := Nat × List Slt × Int × Option Addr × Nat) (fun s => s.1 ≤ ln ∧ ArInv s.2.1 (64 * (s.1 : Int)) ∧ s.2.1.length ≤ 4 * s.1 ∧ (0 ≤ s.2.2.1 ∧ s.2.2.1 ≤ s.2.1.length) ∧ ∀ c : Int, 0 ≤ c → c < 8 ^ (m + 1) → getL s.2.1 m s.2.2.1 c = if c < s.1 then eAt xs c.toNat else ⟨0, false⟩) (fun s => ln - s.1)
      (fun s => [(23, vI s.1), (22, vI ln), (21, .pointer (some ⟨xb, 0, none⟩)), (17, .pointer (some ⟨pb, 0, none⟩)), (0 + 1, .slice xa xs.length xc)]) (fun _ => h6)
      (fun s => blk xb (.cells [.pointer (some ⟨vb, 0, none⟩), vI s.2.2.1, .pointer (some ⟨rb, 0, none⟩), .slice s.2.2.2.1 s.1 s.2.2.2.2].toArray 56 (0, 0)) :: slo encEn 2 (.slice s.2.2.2.1 s.1 s.2.2.2.2) ((esB C xs).take s.1) :: rsp h6 rb C false :: arH ab 5000 s.2.1 :: (L ++ R)) (0, [], 0, none, 0) ?_ ⟨rfl, rfl, rfl, rfl, rfl, trivial⟩ rfl ?_ ?_
    · refine ⟨Nat.zero_le _, fun i hi => by simp at hi, by simp, by simp, fun c h0 h1 => ?_⟩
      simp only
      rw [getL_zero, if_neg (by omega)]
    · simp only [List.take_zero]
      infer_instance
    rintro ⟨j, ss, root, la, lc⟩ ⟨hj, hinv, hsl, hroot, hget⟩
    simp only at hj hinv hsl hroot hget ⊢
    haveI : Bnd ss (64 * (j : Int)) := ⟨hinv, by omega, by omega⟩
    have htl : ((esB C xs).take j).length = j := by rw [List.length_take]; omega
    haveI : Is ((esB C xs).take j).length j := ⟨htl⟩
    by_cases hjl : j < ln
    · haveI : Known ((j : Int) < ln) := ⟨by omega⟩
      have htk := esB_take (C := C) (xs := xs) (j := j) (by omega)
      haveI : Known (¬ ((0 : Int) ≠ 0)) := ⟨by decide⟩
      by_cases hjx : j < xs.length
      · have hea : eAt xs j = ⟨xs[j]!, heldF (xs[j]!)⟩ := if_pos hjx
        haveI : Known ((j : Int) < xs.length) := ⟨by omega⟩
        by_cases h30 : (xs[j]!).tmod 3 = 0
        · haveI : Known ((xs[j]!).tmod 3 = 0) := ⟨h30⟩
          have hh : heldF (xs[j]!) = decide (xs[j]! ≠ 0) := by unfold heldF; rw [decide_eq_true h30]; rfl
          rw [hh] at hea
          repeat (first | refine Step.imp ?_ | refine Side.mk (by first | exact True.intro | omega | exact ⟨trivial, rfl⟩ | exact ⟨by omega, trivial, rfl⟩ | exact ⟨by omega, rfl⟩ | exact ⟨by omega, by omega, rfl⟩ | (simp only [List.length_cons, List.length_nil, List.length_append]; done) | (simp only [List.length_cons, List.length_nil, List.length_append]; omega) | decide +kernel) ?_ | refine New.mk fun _ => ?_ | refine NewS.mk fun _ _ => ?_)
          rename_i nb
          repeat (first | refine Step.imp ?_ | refine Side.mk (by first | exact True.intro | omega | exact ⟨trivial, rfl⟩ | exact ⟨by omega, trivial, rfl⟩ | exact ⟨by omega, rfl⟩ | exact ⟨by omega, by omega, rfl⟩ | (simp only [List.length_cons, List.length_nil, List.length_append]; done) | (simp only [List.length_cons, List.length_nil, List.length_append]; omega) | decide +kernel) ?_ | refine GDraw_CC xb nb (by decide +kernel) ?_ | refine New.mk fun _ => ?_ | refine NewS.mk fun _ _ => ?_)
          intro ss' r hp
          repeat (first | refine Step.imp ?_ | refine Side.mk (by first | exact True.intro | omega | exact ⟨trivial, rfl⟩ | exact ⟨by omega, trivial, rfl⟩ | exact ⟨by omega, rfl⟩ | exact ⟨by omega, by omega, rfl⟩ | (simp only [List.length_cons, List.length_nil, List.length_append]; done) | (simp only [List.length_cons, List.length_nil, List.length_append]; omega) | decide +kernel) ?_ | refine GDraw_CC xb nb (by decide +kernel) ?_ | refine New.mk fun _ => ?_ | refine NewS.mk fun _ _ => ?_)
          rw [htl]
          rename_i la' lc'
          rw [hea] at htk
          obtain ⟨q1, q2, q3, q4, q5, q6⟩ := hp
          have q1' : ArInv ss' (64 * (((j + 1 : Nat)) : Int)) := fun i hi => ⟨(q1 i hi).1, by have := (q1 i hi).2.1; omega, (q1 i hi).2.2⟩
          refine X_round (j + 1, ss', r, la', lc') ⟨by show j + 1 ≤ ln; omega, q1', by show ss'.length ≤ 4 * (j + 1); omega, ⟨q4, q5⟩, fun c h0 h1 => ?_⟩ (by show ln - (j + 1) < ln - j; omega) ⟨rfl, rfl, rfl, rfl, rfl, trivial⟩ rfl ?_
          · show getL ss' m r c = if c < ((j + 1 : Nat) : Int) then eAt xs c.toNat else ⟨0, false⟩
            rw [q6 c h0 h1]
            by_cases hcj : c = (j : Int)
            · rw [if_pos hcj, if_pos (by omega), hcj, Int.toNat_natCast, hea]
            · rw [if_neg hcj, hget c h0 h1]
              by_cases hlt2 : c < (j : Int)
              · rw [if_pos hlt2, if_pos (by omega)]
              · rw [if_neg hlt2, if_neg (by omega)]
          · show Sub _ (_ :: slo encEn 2 (.slice la' (j + 1) lc') ((esB C xs).take (j + 1)) :: _)
            rw [htk]
            infer_instance
        · haveI : Known (¬ ((xs[j]!).tmod 3 = 0)) := ⟨h30⟩
          have hh : heldF (xs[j]!) = false := by unfold heldF; rw [decide_eq_false h30]; rfl
          rw [hh] at hea
          repeat (first | refine Step.imp ?_ | refine Side.mk (by first | exact True.intro | omega | exact ⟨trivial, rfl⟩ | exact ⟨by omega, trivial, rfl⟩ | exact ⟨by omega, rfl⟩ | exact ⟨by omega, by omega, rfl⟩ | (simp only [List.length_cons, List.length_nil, List.length_append]; done) | (simp only [List.length_cons, List.length_nil, List.length_append]; omega) | decide +kernel) ?_ | refine New.mk fun _ => ?_ | refine NewS.mk fun _ _ => ?_)
          rename_i nb
          repeat (first | refine Step.imp ?_ | refine Side.mk (by first | exact True.intro | omega | exact ⟨trivial, rfl⟩ | exact ⟨by omega, trivial, rfl⟩ | exact ⟨by omega, rfl⟩ | exact ⟨by omega, by omega, rfl⟩ | (simp only [List.length_cons, List.length_nil, List.length_append]; done) | (simp only [List.length_cons, List.length_nil, List.length_append]; omega) | decide +kernel) ?_ | refine GDraw_CC xb nb (by decide +kernel) ?_ | refine New.mk fun _ => ?_ | refine NewS.mk fun _ _ => ?_)
          intro ss' r hp
          repeat (first | refine Step.imp ?_ | refine Side.mk (by first | exact True.intro | omega | exact ⟨trivial, rfl⟩ | exact ⟨by omega, trivial, rfl⟩ | exact ⟨by omega, rfl⟩ | exact ⟨by omega, by omega, rfl⟩ | (simp only [List.length_cons, List.length_nil, List.length_append]; done) | (simp only [List.length_cons, List.length_nil, List.length_append]; omega) | decide +kernel) ?_ | refine GDraw_CC xb nb (by decide +kernel) ?_ | refine New.mk fun _ => ?_ | refine NewS.mk fun _ _ => ?_)
          rw [htl]
          rename_i la' lc'
          rw [hea] at htk
          obtain ⟨q1, q2, q3, q4, q5, q6⟩ := hp
          have q1' : ArInv ss' (64 * (((j + 1 : Nat)) : Int)) := fun i hi => ⟨(q1 i hi).1, by have := (q1 i hi).2.1; omega, (q1 i hi).2.2⟩
          refine X_round (j + 1, ss', r, la', lc') ⟨by show j + 1 ≤ ln; omega, q1', by show ss'.length ≤ 4 * (j + 1); omega, ⟨q4, q5⟩, fun c h0 h1 => ?_⟩ (by show ln - (j + 1) < ln - j; omega) ⟨rfl, rfl, rfl, rfl, rfl, trivial⟩ rfl ?_
          · show getL ss' m r c = if c < ((j + 1 : Nat) : Int) then eAt xs c.toNat else ⟨0, false⟩
            rw [q6 c h0 h1]
            by_cases hcj : c = (j : Int)
            · rw [if_pos hcj, if_pos (by omega), hcj, Int.toNat_natCast, hea]
            · rw [if_neg hcj, hget c h0 h1]
              by_cases hlt2 : c < (j : Int)
              · rw [if_pos hlt2, if_pos (by omega)]
              · rw [if_neg hlt2, if_neg (by omega)]
          · show Sub _ (_ :: slo encEn 2 (.slice la' (j + 1) lc') ((esB C xs).take (j + 1)) :: _)
            rw [htk]
            infer_instance
      · have hea : eAt xs j = ⟨0, false⟩ := if_neg hjx
        haveI : Known (¬ ((j : Int) < xs.length)) := ⟨by omega⟩
        repeat (first | refine Step.imp ?_ | refine Side.mk (by first | exact True.intro | omega | exact ⟨trivial, rfl⟩ | exact ⟨by omega, trivial, rfl⟩ | exact ⟨by omega, rfl⟩ | exact ⟨by omega, by omega, rfl⟩ | (simp only [List.length_cons, List.length_nil, List.length_append]; done) | (simp only [List.length_cons, List.length_nil, List.length_append]; omega) | decide +kernel) ?_ | refine New.mk fun _ => ?_ | refine NewS.mk fun _ _ => ?_)
        rename_i nb
        repeat (first | refine Step.imp ?_ | refine Side.mk (by first | exact True.intro | omega | exact ⟨trivial, rfl⟩ | exact ⟨by omega, trivial, rfl⟩ | exact ⟨by omega, rfl⟩ | exact ⟨by omega, by omega, rfl⟩ | (simp only [List.length_cons, List.length_nil, List.length_append]; done) | (simp only [List.length_cons, List.length_nil, List.length_append]; omega) | decide +kernel) ?_ | refine GDraw_CC xb nb (by decide +kernel) ?_ | refine New.mk fun _ => ?_ | refine NewS.mk fun _ _ => ?_)
        intro ss' r hp
        repeat (first | refine Step.imp ?_ | refine Side.mk (by first | exact True.intro | omega | exact ⟨trivial, rfl⟩ | exact ⟨by omega, trivial, rfl⟩ | exact ⟨by omega, rfl⟩ | exact ⟨by omega, by omega, rfl⟩ | (simp only [List.length_cons, List.length_nil, List.length_append]; done) | (simp only [List.length_cons, List.length_nil, List.length_append]; omega) | decide +kernel) ?_ | refine GDraw_CC xb nb (by decide +kernel) ?_ | refine New.mk fun _ => ?_ | refine NewS.mk fun _ _ => ?_)
        rw [htl]
        rename_i la' lc'
        rw [hea] at htk
        obtain ⟨q1, q2, q3, q4, q5, q6⟩ := hp
        have q1' : ArInv ss' (64 * (((j + 1 : Nat)) : Int)) := fun i hi => ⟨(q1 i hi).1, by have := (q1 i hi).2.1; omega, (q1 i hi).2.2⟩
        refine X_round (j + 1, ss', r, la', lc') ⟨by show j + 1 ≤ ln; omega, q1', by show ss'.length ≤ 4 * (j + 1); omega, ⟨q4, q5⟩, fun c h0 h1 => ?_⟩ (by show ln - (j + 1) < ln - j; omega) ⟨rfl, rfl, rfl, rfl, rfl, trivial⟩ rfl ?_
        · show getL ss' m r c = if c < ((j + 1 : Nat) : Int) then eAt xs c.toNat else ⟨0, false⟩
          rw [q6 c h0 h1]
          by_cases hcj : c = (j : Int)
          · rw [if_pos hcj, if_pos (by omega), hcj, Int.toNat_natCast, hea]
          · rw [if_neg hcj, hget c h0 h1]
            by_cases hlt2 : c < (j : Int)
            · rw [if_pos hlt2, if_pos (by omega)]
            · rw [if_neg hlt2, if_neg (by omega)]
        · show Sub _ (_ :: slo encEn 2 (.slice la' (j + 1) lc') ((esB C xs).take (j + 1)) :: _)
          rw [htk]
          infer_instance
    · haveI : Known (¬ ((j : Int) < ln)) := ⟨by omega⟩
      have hjj : j = ln := by omega
      subst hjj
      subst hel
      rw [List.take_length]
      have hcl := hcd.2.2
      have hBeg : Beg h6 C xs vb sb pb ab m ss root := ⟨hVw6, hSp.mono hl36, ok, hPg6, ⟨fun t ht2 => by
        rw [valsB_len] at ht2
        rw [hget t (by omega) (by omega), if_pos (by omega), Int.toNat_natCast, valsB_get ht2]⟩, by omega, valsB_len C xs, rfl, valsB_64 h64⟩
      repeat (first | refine Step.imp ?_ | refine Side.mk (by first | exact True.intro | omega | exact ⟨trivial, rfl⟩ | exact ⟨by omega, trivial, rfl⟩ | exact ⟨by omega, rfl⟩ | exact ⟨by omega, by omega, rfl⟩ | (simp only [List.length_cons, List.length_nil, List.length_append]; done) | (simp only [List.length_cons, List.length_nil, List.length_append]; omega) | decide +kernel) ?_ | refine GDraw_one (by decide +kernel) ?_ | refine New.mk fun _ => ?_ | refine NewS.mk fun _ _ => ?_)
      exact Fin.val (hT.2 ⟨⟨ok, hsq⟩, hcd.1⟩ h6 xb vb sb pb ab rb m ss root la lc ⟨hle6⟩ hBeg) rfl hle6⟩
end
end Go.Sl

/-
  What must come of fixed calls (layer 11).
-/
namespace Go.Sl
open Go.Proofs
set_option linter.unusedVariables false
set_option linter.unusedSimpArgs false
set_option maxRecDepth 10000
set_option synthInstance.maxSize 2000
set_option synthInstance.maxHeartbeats 200000
set_option maxHeartbeats 1000000
theorem vOpen : OpenV kCat := ⟨⟨kOk, by decide +kernel, by decide +kernel, by decide +kernel, by decide +kernel⟩, by decide +kernel⟩
theorem vRight : rightF kCat 0 (get4 0 0 0 0) := by decide +kernel
theorem vVals : valsB kCat [3, -1] = [3, -1] := by decide +kernel
theorem vSum : cellSum kCat [3, -1] (indexF kCat 0 (get4 0 0 0 0)).toNat = 2 := by decide +kernel
theorem vKids : kidsF kCat 0 0 = [1, 2] := by decide +kernel
theorem vV1 : valF kCat [3, -1] (setAt ⟨0, 0, 0, 0, 0⟩ 0 1) = 3 := by decide +kernel
theorem vV2 : valF kCat [3, -1] (setAt ⟨0, 0, 0, 0, 0⟩ 0 2) = -1 := by decide +kernel
theorem vRows : (kidsF kCat 0 0).map (rowOf kCat [3, -1] ⟨0, 0, 0, 0, 0⟩ 0) = [⟨⟨0, 1, 0, 0, 0⟩, 3⟩, ⟨⟨0, 2, 0, 0, 0⟩, -1⟩] := by
  rw [vKids]
  simp only [List.map_cons, List.map_nil, rowOf, vV1, vV2]
  rfl
theorem vFit : ∀ k ∈ kidsF kCat 0 0, FitP (valF kCat [3, -1] (setAt ⟨0, 0, 0, 0, 0⟩ 0 k)) := by
  rw [vKids]
  intro k hk
  simp only [List.mem_cons, List.not_mem_nil, or_false] at hk
  rcases hk with rfl | rfl
  · rw [vV1]; decide
  · rw [vV2]; decide
section
variable {h : PHeap}
instance law11_known {L : List HP} : CallX Tryz.prog 16 [] h L True (fun K => ∀ h', Le h h' → K (.bool true) h' []) := ⟨fun _ => by
  refine spec_enter Tryz.func16 rfl Tryz.ntmps16 Tryz.results16 (by simp) fun K R hT => ?_
  repeat (first | refine Step.imp ?_ | refine Side.mk (by first | exact True.intro | omega | exact ⟨trivial, rfl⟩ | exact ⟨by omega, trivial, rfl⟩ | exact ⟨by omega, rfl⟩ | exact ⟨by omega, by omega, rfl⟩ | (simp only [List.length_cons, List.length_nil, List.length_append]; done) | (simp only [List.length_cons, List.length_nil, List.length_append]; omega) | decide +kernel) ?_ | refine GDraw_one (by decide +kernel) ?_ | refine New.mk fun _ => ?_ | refine NewS.mk fun _ _ => ?_)
  rename_i nb db mb qb
  refine GO1_own (kk := 2) nb encNd [⟨⟨#[97, 108, 108]⟩, -1⟩, ⟨⟨#[97]⟩, 0⟩, ⟨⟨#[98]⟩, 0⟩] ?_
  refine GO1_frS (.slice (some ⟨nb, 0, none⟩) 3 3) fun h1 le1 f1 => ?_
  haveI : Mk encDm [.string ⟨#[120]⟩, .slice (some ⟨nb, 0, none⟩) 3 3] ⟨⟨#[120]⟩, .slice (some ⟨nb, 0, none⟩) 3 3, rfl, kNodes⟩ := ⟨rfl⟩
  refine GO1_own (kk := 2) db encDm [⟨⟨#[120]⟩, .slice (some ⟨nb, 0, none⟩) 3 3, rfl, kNodes⟩] ?_
  refine GO1_frS (.slice (some ⟨db, 0, none⟩) 1 1) fun h2 le2 f2 => ?_
  refine GO1_own (kk := 1) mb encS [⟨#[109]⟩] ?_
  refine GO1_frS (.slice (some ⟨mb, 0, none⟩) 1 1) fun h3 le3 f3 => ?_
  refine GO1_own (kk := 1) qb encI [3, -1] ?_
  refine GO1_frS (.slice (some ⟨qb, 0, none⟩) 2 2) fun h4 le4 f4 => ?_
  haveI hd : IsDims h4 (.slice (some ⟨db, 0, none⟩) 1 1) [⟨⟨#[120]⟩, .slice (some ⟨nb, 0, none⟩) 3 3, rfl, kNodes⟩] := ⟨FSl.mono (le3.le.trans le4.le) f2, fun i hi => by
    have : i = 0 := by simp at hi; omega
    subst this; exact FSl.mono (le2.le.trans (le3.le.trans le4.le)) f1⟩
  have hle4 := le1.le.trans (le2.le.trans (le3.le.trans le4.le))
  haveI : Is ([3, -1] : List Int).length 2 := ⟨rfl⟩
  repeat (first | refine Step.imp ?_ | refine Side.mk (by first | exact True.intro | omega | exact ⟨trivial, rfl⟩ | exact ⟨by omega, trivial, rfl⟩ | exact ⟨by omega, rfl⟩ | exact ⟨by omega, by omega, rfl⟩ | (simp only [List.length_cons, List.length_nil, List.length_append]; done) | (simp only [List.length_cons, List.length_nil, List.length_append]; omega) | decide +kernel) ?_ | refine GDraw_one (by decide +kernel) ?_ | refine New.mk fun _ => ?_ | refine NewS.mk fun _ _ => ?_)
  refine Side.mk ⟨by simp, by simp, fun k hk => ?_⟩ ?_
  · have : k = 0 ∨ k = 1 := by simp at hk; omega
    rcases this with rfl | rfl <;> decide
  rw [show (⟨[(⟨⟨#[120]⟩, .slice (some ⟨nb, 0, none⟩) 3 3, rfl, kNodes⟩ : Dm)].map Dm.pure, [⟨#[109]⟩], 9, 1⟩ : Cat) = kCat from rfl]
  refine ⟨fun hno => absurd vOpen hno, fun _ h5 xb vb sb pb ab rb m ss root la lc le5 bg => ?_⟩
  obtain ⟨b1, b2, b3, b4, b5, b6⟩ := bg
  rw [vVals] at b5 b6
  have hle5 := hle4.trans le5.le
  repeat (first | refine Step.imp ?_ | refine Side.mk (by first | exact True.intro | omega | exact ⟨trivial, rfl⟩ | exact ⟨by omega, trivial, rfl⟩ | exact ⟨by omega, rfl⟩ | exact ⟨by omega, by omega, rfl⟩ | (simp only [List.length_cons, List.length_nil, List.length_append]; done) | (simp only [List.length_cons, List.length_nil, List.length_append]; omega) | decide +kernel) ?_ | refine GDraw_C (xb) (by decide +kernel) ?_ | refine New.mk fun _ => ?_ | refine NewS.mk fun _ _ => ?_)
  intro h6 le6
  refine ⟨fun q => absurd vRight q, fun _ => ?_⟩
  rw [vSum, show fitN 2 = 2 from by decide +kernel, show fitE 2 = 0 from by decide +kernel]
  repeat (first | refine Step.imp ?_ | refine Side.mk (by first | exact True.intro | omega | exact ⟨trivial, rfl⟩ | exact ⟨by omega, trivial, rfl⟩ | exact ⟨by omega, rfl⟩ | exact ⟨by omega, by omega, rfl⟩ | (simp only [List.length_cons, List.length_nil, List.length_append]; done) | (simp only [List.length_cons, List.length_nil, List.length_append]; omega) | decide +kernel) ?_ | refine GDraw_C (xb) (by decide +kernel) ?_ | refine New.mk fun _ => ?_ | refine NewS.mk fun _ _ => ?_)
  intro h7 le7
  refine ⟨fun q => absurd ⟨vRight, by decide, by decide⟩ q, fun _ _ => ?_⟩
  rw [show kidsF kCat (0 : Int).toNat (get4 0 0 0 0 (0 : Int).toNat) = kidsF kCat 0 0 from rfl, show (0 : Int).toNat = 0 from rfl]
  refine ⟨fun _ a ec => ?_, fun q => absurd vFit q⟩
  rw [vRows, show (kidsF kCat 0 0).length = 2 by rw [vKids]; rfl]
  have hle7 := hle5.trans (le6.le.trans le7.le)
  haveI : ElAt 5 6 0 5 := ⟨rfl⟩
  haveI : ElAt 11 6 1 5 := ⟨rfl⟩
  haveI : Known (((([⟨⟨0, 1, 0, 0, 0⟩, 3⟩, ⟨⟨0, 2, 0, 0, 0⟩, -1⟩] : List Rw).length : Nat) : Int) = 2) := ⟨rfl⟩
  haveI : Known ((([⟨⟨0, 1, 0, 0, 0⟩, 3⟩, ⟨⟨0, 2, 0, 0, 0⟩, -1⟩] : List Rw)[0]!).n = 3) := ⟨rfl⟩
  haveI : Known ((([⟨⟨0, 1, 0, 0, 0⟩, 3⟩, ⟨⟨0, 2, 0, 0, 0⟩, -1⟩] : List Rw)[1]!).n = -1) := ⟨rfl⟩
  repeat (first | refine Step.imp ?_ | refine Side.mk (by first | exact True.intro | omega | exact ⟨trivial, rfl⟩ | exact ⟨by omega, trivial, rfl⟩ | exact ⟨by omega, rfl⟩ | exact ⟨by omega, by omega, rfl⟩ | (simp only [List.length_cons, List.length_nil, List.length_append]; done) | (simp only [List.length_cons, List.length_nil, List.length_append]; omega) | decide +kernel) ?_ | refine GDraw_C (xb) (by decide +kernel) ?_ | refine New.mk fun _ => ?_ | refine NewS.mk fun _ _ => ?_)
  exact Fin.val (hT h7 ⟨hle7⟩) rfl hle7⟩
end
end Go.Sl
