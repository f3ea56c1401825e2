/-
  Facts that the proof is made of (O3).
-/
import Derived.Test.YtegnndnlogpihaaGreatKO2
/-
  The document's rolls, in memory.
-/
namespace Go.Sl
open Go.Proofs
set_option linter.unusedVariables false
set_option linter.unusedSimpArgs false
set_option maxRecDepth 10000
set_option synthInstance.maxSize 2000
set_option synthInstance.maxHeartbeats 200000
set_option maxHeartbeats 1000000
@[reducible] def encE (v : Int) : List Value := [vI v, .bool false]
instance : EncOne encE := ⟨fun y u hu => by simp at hu; rcases hu with rfl | rfl <;> rfl⟩
instance {v : Int} : Mk encE [vI v, .bool false] v := ⟨rfl⟩
abbrev rrB (b rb : Nat) (v : Value) : HP := blk b (.cells [.pointer (some ⟨rb, 0, none⟩), v].toArray 41 (0, 0))
/-- A roll of the document's at block b. -/
def rrH (b rb : Nat) (vals : List Int) : HP := fun bs => ∃ a c b1 b2, bs = b1 ++ b2 ∧ rrB b rb (.slice a vals.length c) b1 ∧ slo encE 2 (.slice a vals.length c) vals b2
theorem St.rrOut {h : PHeap} {b rb : Nat} {vals : List Int} {L : List HP} {w : World} (s : St h (rrH b rb vals :: L) w) : ∃ a c, St h (rrB b rb (.slice a vals.length c) :: slo encE 2 (.slice a vals.length c) vals :: L) w := by
  obtain ⟨bs, ⟨b1, b2, rfl, ⟨a, c, c1, c2, rfl, h1, h2⟩, hd⟩, s0⟩ := s
  exact ⟨a, c, c1 ++ (c2 ++ b2), ⟨c1, _, rfl, h1, c2, b2, rfl, h2, hd⟩, by simpa using s0⟩
theorem St.rrIn {h : PHeap} {b rb : Nat} {vals : List Int} {L : List HP} {w : World} {a : Option Addr} {c : Nat} (s : St h (rrB b rb (.slice a vals.length c) :: slo encE 2 (.slice a vals.length c) vals :: L) w) : St h (rrH b rb vals :: L) w := by
  obtain ⟨bs, ⟨c1, _, rfl, h1, c2, b2, rfl, h2, hd⟩, s0⟩ := s
  exact ⟨(c1 ++ c2) ++ b2, ⟨c1 ++ c2, b2, rfl, ⟨a, c, c1, c2, rfl, h1, h2⟩, hd⟩, by simpa using s0⟩
class PickRr (L : List HP) (b : Nat) (rb : outParam Nat) (vals : outParam (List Int)) (R : outParam (List HP)) : Prop where
  eq : L.Perm (rrH b rb vals :: R)
instance {b rb : Nat} {vals : List Int} {L : List HP} : PickRr (rrH b rb vals :: L) b rb vals L := ⟨.refl _⟩
instance (priority := low) {b rb : Nat} {vals : List Int} {L R : List HP} {x : HP} [p : PickRr L b rb vals R] : PickRr (x :: L) b rb vals (x :: R) := ⟨(List.Perm.cons x p.eq).trans (.swap _ _ _)⟩
section
variable {P : Program} {N : NN} {k : List It} {Q : Post} {e : Env} {h : PHeap} {L V R : List HP} {ops l : List Oper} {i b rb : Nat} {vals : List Int}
theorem G_rr {c : Code} (b : Nat) [p : PickRr L b rb vals R] (g : ∀ a ec, G P N c k Q e h (rrB b rb (.slice a vals.length ec) :: slo encE 2 (.slice a vals.length ec) vals :: R)) : G P N c k Q e h L := fun a w s => by
  obtain ⟨ea, ec, st⟩ := (s.st.perm p.eq).rrOut
  exact g ea ec a w (s.ae.as st)
class PickR2 (L : List HP) (b : Nat) (rb : outParam Nat) (a : outParam (Option Addr)) (c : outParam Nat) (vals : outParam (List Int)) (R : outParam (List HP)) : Prop where
  eq : L.Perm (rrB b rb (.slice a vals.length c) :: slo encE 2 (.slice a vals.length c) vals :: R)
instance {n : Nat} {a : Option Addr} {c : Nat} {R1 R2 : List HP} {T : Nat} [p1 : PickC L b [.pointer (some ⟨rb, 0, none⟩), .slice a n c] T R1] [hT : Is T 41] [p2 : PickO R1 (.slice a n c) Int encE 2 vals R2] [e1 : Is vals.length n] : PickR2 L b rb a c vals R2 := ⟨by
  have := e1.eq
  have := hT.eq
  subst_vars
  exact p1.eq.trans (List.Perm.cons _ p2.eq)⟩
theorem foldRr {a : Option Addr} {c : Nat} : ∀ L R, [PickR2 L b rb a c vals R] → Fold h L (rrH b rb vals :: R) := fun _ _ p => ⟨fun _ s => St.rrIn (s.perm p.eq)⟩
theorem spec_rr {f : FuncId} {vs : List Value} {T : Kont → Prop} [p : PickRr L b rb vals R] (s : Spec P f vs h [rrH b rb vals] T) : ∃ Lp, L.Perm (Lp ++ R) ∧ Spec P f vs h Lp T := ⟨[rrH b rb vals], p.eq, s⟩
end
section
variable {h : PHeap} {b rb : Nat} {vals : List Int}
theorem rturn_spec {c x : Int} : Spec Tryz.prog 11 [.pointer (some ⟨b, 0, none⟩), vI c, vI x] h [rrH b rb vals]
    (fun K => (¬ (0 ≤ c ∧ c < vals.length) → K (vI 17) h [rrH b rb vals]) ∧ ((0 ≤ c ∧ c < vals.length) → K (vI 0) h [rrH b rb (vals.set c.toNat x)])) := by
  refine spec_enter Tryz.func11 rfl Tryz.ntmps11 Tryz.results11 (by simp) fun K R hT => ?_
  refine G_rr b fun ea ec => ?_
  haveI : Is (vals.set c.toNat x).length vals.length := ⟨List.length_set⟩
  haveI := foldRr (h := h) (b := b) (rb := rb) (vals := vals) (a := ea) (c := ec)
  haveI := foldRr (h := h) (b := b) (rb := rb) (vals := vals.set c.toNat x) (a := ea) (c := ec)
  repeat' (first | refine Step.imp ?_ | refine Side.mk (by first | exact True.intro | omega | exact ⟨trivial, rfl⟩ | exact ⟨by omega, trivial, rfl⟩ | exact ⟨by omega, rfl⟩ | exact ⟨by omega, by omega, rfl⟩ | (simp only [List.length_cons, List.length_nil, List.length_append]; done) | (simp only [List.length_cons, List.length_nil, List.length_append]; omega) | decide +kernel) ?_ | refine GDraw_one (by decide +kernel) ?_ | refine New.mk fun _ => ?_ | refine NewS.mk fun _ _ => ?_ | refine Ways.mk (fun _ => ?_) (fun _ => ?_))
  all_goals first | (exfalso; omega) | exact Fin.val (hT.1 (by omega)) rfl (Hle.refl _) | exact Fin.val (hT.2 (by omega)) rfl (Hle.refl _)
instance ref_turn {L R : List HP} {c x : Int} [p : PickRr L b rb vals R] : CallT Tryz.prog 11 [.pointer (some ⟨b, 0, none⟩), vI c, vI x] h L True R
    (fun K => (¬ (0 ≤ c ∧ c < vals.length) → K (vI 17) h [rrH b rb vals]) ∧ ((0 ≤ c ∧ c < vals.length) → K (vI 0) h [rrH b rb (vals.set c.toNat x)])) := ⟨fun _ => spec_rr rturn_spec⟩
end
end Go.Sl

/-
  The document's rolls: how many leaves are not 0.
-/
namespace Go.Sl
open Go.Proofs
set_option linter.unusedVariables false
set_option linter.unusedSimpArgs false
set_option maxRecDepth 10000
set_option synthInstance.maxSize 2000
set_option synthInstance.maxHeartbeats 200000
set_option maxHeartbeats 1000000
theorem cnt0_take {vals : List Int} {k : Nat} (hk : k < vals.length) : cnt0 (vals.take (k + 1)) = cnt0 (vals.take k) + if vals[k]! = 0 then 0 else 1 := by
  rw [List.take_succ_eq_append_getElem hk, getElem!_pos vals k hk]
  unfold cnt0
  rw [List.filter_append, List.length_append]
  by_cases h : vals[k] = 0
  · simp [h]
  · simp [h]
section
variable {h : PHeap} {b rb : Nat} {vals : List Int}
theorem rfull_spec (hl : vals.length ≤ 4294967296) : Spec Tryz.prog 13 [.pointer (some ⟨b, 0, none⟩)] h [rrH b rb vals] (fun K => K (vI (cnt0 vals)) h [rrH b rb vals]) := by
  refine spec_enter Tryz.func13 rfl Tryz.ntmps13 Tryz.results13 (by simp) fun K R hT => ?_
  refine G_rr b fun ea ec => ?_
  haveI := foldRr (h := h) (b := b) (rb := rb) (vals := vals) (a := ea) (c := ec)
  repeat (first | refine Step.imp ?_ | refine Side.mk (by first | exact True.intro | omega | exact ⟨trivial, rfl⟩ | exact ⟨by omega, trivial, rfl⟩ | exact ⟨by omega, rfl⟩ | exact ⟨by omega, by omega, rfl⟩ | (simp only [List.length_cons, List.length_nil, List.length_append]; done) | (simp only [List.length_cons, List.length_nil, List.length_append]; omega) | decide +kernel) ?_ | refine GDraw_one (by decide +kernel) ?_ | refine New.mk fun _ => ?_ | refine NewS.mk fun _ _ => ?_)
  refine G_loopE (σ := Nat) (fun k => k ≤ vals.length) (fun k => vals.length - k) (fun k => [(4, vI k), (3, vI (cnt0 (vals.take k))), (0, .pointer (some ⟨b, 0, none⟩))]) 0 (by omega) ⟨rfl, rfl, rfl, trivial⟩ fun k hk => ?_
  have hcl := cnt0_le (vals.take k)
  have htl : (vals.take k).length = k := by rw [List.length_take]; omega
  repeat (first | refine Step.imp ?_ | refine Side.mk (by first | exact True.intro | omega | exact ⟨trivial, rfl⟩ | exact ⟨by omega, trivial, rfl⟩ | exact ⟨by omega, rfl⟩ | exact ⟨by omega, by omega, rfl⟩ | (simp only [List.length_cons, List.length_nil, List.length_append]; done) | (simp only [List.length_cons, List.length_nil, List.length_append]; omega) | decide +kernel) ?_ | refine GDraw_one (by decide +kernel) ?_ | refine New.mk fun _ => ?_ | refine NewS.mk fun _ _ => ?_)
  refine ⟨fun hlt => ?_, fun hge => ?_⟩
  · have hct := cnt0_take (vals := vals) (k := k) (by omega)
    repeat (first | refine Step.imp ?_ | refine Side.mk (by first | exact True.intro | omega | exact ⟨trivial, rfl⟩ | exact ⟨by omega, trivial, rfl⟩ | exact ⟨by omega, rfl⟩ | exact ⟨by omega, by omega, rfl⟩ | (simp only [List.length_cons, List.length_nil, List.length_append]; done) | (simp only [List.length_cons, List.length_nil, List.length_append]; omega) | decide +kernel) ?_ | refine GDraw_one (by decide +kernel) ?_ | refine New.mk fun _ => ?_ | refine NewS.mk fun _ _ => ?_)
    refine ⟨fun hne => ?_, fun he => ?_⟩
    · rw [if_neg hne] at hct
      repeat (first | refine Step.imp ?_ | refine Side.mk (by first | exact True.intro | omega | exact ⟨trivial, rfl⟩ | exact ⟨by omega, trivial, rfl⟩ | exact ⟨by omega, rfl⟩ | exact ⟨by omega, by omega, rfl⟩ | (simp only [List.length_cons, List.length_nil, List.length_append]; done) | (simp only [List.length_cons, List.length_nil, List.length_append]; omega) | decide +kernel) ?_ | refine GDraw_one (by decide +kernel) ?_ | refine New.mk fun _ => ?_ | refine NewS.mk fun _ _ => ?_)
      rw [← hct]
      exact X_roundE (k + 1) (by omega) (by omega) ⟨rfl, rfl, rfl, trivial⟩ inferInstance
    · have he := Decidable.not_not.1 he
      rw [if_pos he, Int.add_zero] at hct
      repeat (first | refine Step.imp ?_ | refine Side.mk (by first | exact True.intro | omega | exact ⟨trivial, rfl⟩ | exact ⟨by omega, trivial, rfl⟩ | exact ⟨by omega, rfl⟩ | exact ⟨by omega, by omega, rfl⟩ | (simp only [List.length_cons, List.length_nil, List.length_append]; done) | (simp only [List.length_cons, List.length_nil, List.length_append]; omega) | decide +kernel) ?_ | refine GDraw_one (by decide +kernel) ?_ | refine New.mk fun _ => ?_ | refine NewS.mk fun _ _ => ?_)
      exact X_roundE (k + 1) (by omega) (by omega) ⟨rfl, by rw [hct], rfl, trivial⟩ inferInstance
  · have hk2 : k = vals.length := by omega
    subst hk2
    rw [List.take_length]
    repeat (first | refine Step.imp ?_ | refine Side.mk (by first | exact True.intro | omega | exact ⟨trivial, rfl⟩ | exact ⟨by omega, trivial, rfl⟩ | exact ⟨by omega, rfl⟩ | exact ⟨by omega, by omega, rfl⟩ | (simp only [List.length_cons, List.length_nil, List.length_append]; done) | (simp only [List.length_cons, List.length_nil, List.length_append]; omega) | decide +kernel) ?_ | refine GDraw_one (by decide +kernel) ?_ | refine New.mk fun _ => ?_ | refine NewS.mk fun _ _ => ?_)
    exact Fin.val hT rfl (Hle.refl _)
instance ref_full {L R : List HP} [p : PickRr L b rb vals R] : CallT Tryz.prog 13 [.pointer (some ⟨b, 0, none⟩)] h L (vals.length ≤ 4294967296) R (fun K => K (vI (cnt0 vals)) h [rrH b rb vals]) := ⟨fun hs => spec_rr (rfull_spec hs)⟩
end
end Go.Sl

/-
  The document's rolls: a new one.
-/
namespace Go.Sl
open Go.Proofs
set_option linter.unusedVariables false
set_option linter.unusedSimpArgs false
set_option maxRecDepth 10000
set_option synthInstance.maxSize 2000
set_option synthInstance.maxHeartbeats 200000
set_option maxHeartbeats 1000000
section
variable {h h0 : PHeap} {rb : Nat} {C : Cat} {kn : Bool}
theorem rnew_spec : Spec Tryz.prog 28 [.pointer (some ⟨rb, 0, none⟩)] h [rsp h rb C kn]
    (fun K => ∀ h' b, Le h h' → K (.pointer (some ⟨b, 0, none⟩)) h' [rrH b rb (List.replicate (leavesF C C.dims.length).toNat 0), rsp h' rb C kn]) := by
  refine spec_enter Tryz.func28 rfl Tryz.ntmps28 Tryz.results28 (by simp) fun K R hT => ?_
  haveI : LeT h h := ⟨Hle.refl h⟩
  refine G_rsp rb fun db lv rv iv ua uc ka kc us ks hok => ?_
  have ok := hok.ok
  have hbl := leaves_bound ok C.dims.length (Nat.le_refl _)
  refine G_rspIn rb hok ?_
  obtain ⟨ln, hln⟩ : ∃ ln : Nat, leavesF C C.dims.length = (ln : Int) := ⟨_, (Int.toNat_of_nonneg hbl.1).symm⟩
  rw [hln, Int.toNat_natCast] at hT
  repeat (first | refine Step.imp ?_ | refine Side.mk (by first | exact True.intro | omega | exact ⟨trivial, rfl⟩ | exact ⟨by omega, trivial, rfl⟩ | exact ⟨by omega, rfl⟩ | exact ⟨by omega, by omega, rfl⟩ | (simp only [List.length_cons, List.length_nil, List.length_append]; done) | (simp only [List.length_cons, List.length_nil, List.length_append]; omega) | decide +kernel) ?_ | refine GDraw_one (by decide +kernel) ?_ | refine New.mk fun _ => ?_ | refine NewS.mk fun _ _ => ?_)
  rename_i b
  intro h1 le1
  repeat (first | refine Step.imp ?_ | refine Side.mk (by first | exact True.intro | omega | exact ⟨trivial, rfl⟩ | exact ⟨by omega, trivial, rfl⟩ | exact ⟨by omega, rfl⟩ | exact ⟨by omega, by omega, rfl⟩ | (simp only [List.length_cons, List.length_nil, List.length_append]; done) | (simp only [List.length_cons, List.length_nil, List.length_append]; omega) | decide +kernel) ?_ | refine GDraw_one (by decide +kernel) ?_ | refine New.mk fun _ => ?_ | refine NewS.mk fun _ _ => ?_)
  rw [hln]
  refine G_conv (x := rspP h1 rb C kn) (y := rsp h1 rb C kn) (rspP_rsp (Hle.refl _)) ?_
  refine G_nil encE 2 none ?_
  refine G_loop (σ := Nat × Option Addr × Nat) (fun s => s.1 ≤ ln) (fun s => ln - s.1) (fun s => [(5, vI s.1), (4, vI ln), (3, .pointer (some ⟨b, 0, none⟩))]) (fun _ => h1)
    (fun s => rrB b rb (.slice s.2.1 (List.replicate s.1 (0 : Int)).length s.2.2) :: slo encE 2 (.slice s.2.1 (List.replicate s.1 (0 : Int)).length s.2.2) (List.replicate s.1 0) :: rsp h1 rb C kn :: R) (0, none, 0) (by omega) ⟨rfl, rfl, rfl, trivial⟩ rfl ?_ ?_
  · simp only [List.replicate_zero, List.length_nil]
    infer_instance
  rintro ⟨k, ea, ec⟩ hk
  simp only at hk ⊢
  have hrl : (List.replicate k (0 : Int)).length = k := List.length_replicate
  have hrs : List.replicate (k + 1) (0 : Int) = List.replicate k 0 ++ [0] := List.replicate_succ'
  repeat (first | refine Step.imp ?_ | refine Side.mk (by first | exact True.intro | omega | exact ⟨trivial, rfl⟩ | exact ⟨by omega, trivial, rfl⟩ | exact ⟨by omega, rfl⟩ | exact ⟨by omega, by omega, rfl⟩ | (simp only [List.length_cons, List.length_nil, List.length_append]; done) | (simp only [List.length_cons, List.length_nil, List.length_append]; omega) | decide +kernel) ?_ | refine GDraw_one (by decide +kernel) ?_ | refine New.mk fun _ => ?_ | refine NewS.mk fun _ _ => ?_)
  refine ⟨fun hlt => ?_, fun hge => ?_⟩
  · repeat (first | refine Step.imp ?_ | refine Side.mk (by first | exact True.intro | omega | exact ⟨trivial, rfl⟩ | exact ⟨by omega, trivial, rfl⟩ | exact ⟨by omega, rfl⟩ | exact ⟨by omega, by omega, rfl⟩ | (simp only [List.length_cons, List.length_nil, List.length_append]; done) | (simp only [List.length_cons, List.length_nil, List.length_append]; omega) | decide +kernel) ?_ | refine GDraw_one (by decide +kernel) ?_ | refine New.mk fun _ => ?_ | refine NewS.mk fun _ _ => ?_)
    rename_i b1 ea1 ec1
    refine X_round (k + 1, ea1, ec1) ?_ ?_ ⟨rfl, rfl, rfl, trivial⟩ rfl ?_
    · show k + 1 ≤ ln
      omega
    · show ln - (k + 1) < ln - k
      omega
    · simp only [hrs, List.length_append, List.length_cons, List.length_nil, Nat.zero_add]
      infer_instance
  · have hk2 : k = ln := by omega
    subst hk2
    haveI := foldRr (h := h1) (b := b) (rb := rb) (vals := List.replicate k (0 : Int)) (a := ea) (c := ec)
    repeat (first | refine Step.imp ?_ | refine Side.mk (by first | exact True.intro | omega | exact ⟨trivial, rfl⟩ | exact ⟨by omega, trivial, rfl⟩ | exact ⟨by omega, rfl⟩ | exact ⟨by omega, by omega, rfl⟩ | (simp only [List.length_cons, List.length_nil, List.length_append]; done) | (simp only [List.length_cons, List.length_nil, List.length_append]; omega) | decide +kernel) ?_ | refine GDraw_one (by decide +kernel) ?_ | refine New.mk fun _ => ?_ | refine NewS.mk fun _ _ => ?_)
    exact Fin.val (hT h1 b le1) rfl le1.le
instance ref_new {L R : List HP} [p : PickR L rb h0 C kn R] [hl : LeT h0 h] : CallT Tryz.prog 28 [.pointer (some ⟨rb, 0, none⟩)] h L True R
    (fun K => ∀ h' b, Le h h' → K (.pointer (some ⟨b, 0, none⟩)) h' [rrH b rb (List.replicate (leavesF C C.dims.length).toNat 0), rsp h' rb C kn]) := ⟨fun _ => spec_rsp rnew_spec⟩
end
end Go.Sl

/-
  The document's value of a cell, of a list of entries.
-/
namespace Go.Sl
open Go.Proofs
set_option linter.unusedVariables false
set_option linter.unusedSimpArgs false
set_option maxRecDepth 10000
set_option synthInstance.maxSize 2000
set_option synthInstance.maxHeartbeats 200000
set_option maxHeartbeats 1000000
def pickV (us vals : List Int) (k : Nat) : List Int := (us.take k).map (fun u => vals[u.toNat]!)
theorem pickV_succ {us vals : List Int} {k : Nat} (hk : k < us.length) : pickV us vals (k + 1) = pickV us vals k ++ [vals[(us[k]!).toNat]!] := by
  unfold pickV
  rw [List.take_succ_eq_append_getElem hk, List.map_append, getElem!_pos us k hk]; rfl
theorem pickV_len {us vals : List Int} {k : Nat} (hk : k ≤ us.length) : (pickV us vals k).length = k := by
  unfold pickV
  rw [List.length_map, List.length_take]; omega
section
variable {h h0 : PHeap} {rb : Nat} {C : Cat} {kn : Bool} {vals : List Int}
theorem vvalue_spec {a : Option Addr} {ec : Nat} {m a0 a1 a2 a3 : Int} (hv : vals.length = (leavesF C C.dims.length).toNat) (h64 : Ok64 vals) : Spec Tryz.prog 36 [.pointer (some ⟨rb, 0, none⟩), .slice a vals.length ec, .agg [vI m, vI a0, vI a1, vI a2, vI a3].toArray] h [rsp h rb C kn, slo encE 2 (.slice a vals.length ec) vals]
    (fun K => ∀ h', Le h h' → (¬ rightF C m (get4 a0 a1 a2 a3) → K (.tuple [vI 0, vI 17].toArray) h' [rsp h' rb C false, slo encE 2 (.slice a vals.length ec) vals]) ∧
      (rightF C m (get4 a0 a1 a2 a3) → K (.tuple [vI (fitN (cellSum C vals (indexF C m (get4 a0 a1 a2 a3)).toNat)), vI (fitE (cellSum C vals (indexF C m (get4 a0 a1 a2 a3)).toNat))].toArray) h' [rsp h' rb C false, slo encE 2 (.slice a vals.length ec) vals])) := by
  refine spec_enter Tryz.func36 rfl Tryz.ntmps36 Tryz.results36 (by simp) fun K R hT => ?_
  haveI : LeT h h := ⟨Hle.refl h⟩
  refine G_conv (x := rsp h rb C kn) (y := rsp h rb C false) (fun bs hb => rsp_any hb) ?_
  refine G_rsp rb fun db lv rv iv ua uc ka kc us ks hok => ?_
  have hRD := hok.rd
  have ok := hok.ok
  have hbl := leaves_bound ok C.dims.length (Nat.le_refl _)
  repeat (first | refine Step.imp ?_ | refine Side.mk (by first | exact True.intro | omega | exact ⟨trivial, rfl⟩ | exact ⟨by omega, trivial, rfl⟩ | exact ⟨by omega, rfl⟩ | exact ⟨by omega, by omega, rfl⟩ | (simp only [List.length_cons, List.length_nil, List.length_append]; done) | (simp only [List.length_cons, List.length_nil, List.length_append]; omega) | decide +kernel) ?_ | refine GDraw_one (by decide +kernel) ?_ | refine New.mk fun _ => ?_ | refine NewS.mk fun _ _ => ?_)
  rename_i cb
  refine ⟨fun hno => ?_, fun hr => ?_⟩
  · refine G_rspIn rb hok ?_
    repeat (first | refine Step.imp ?_ | refine Side.mk (by first | exact True.intro | omega | exact ⟨trivial, rfl⟩ | exact ⟨by omega, trivial, rfl⟩ | exact ⟨by omega, rfl⟩ | exact ⟨by omega, by omega, rfl⟩ | (simp only [List.length_cons, List.length_nil, List.length_append]; done) | (simp only [List.length_cons, List.length_nil, List.length_append]; omega) | decide +kernel) ?_ | refine GDraw_one (by decide +kernel) ?_ | refine New.mk fun _ => ?_ | refine NewS.mk fun _ _ => ?_)
    exact Fin.val ((hT h ⟨Hle.refl h⟩).1 hno) rfl (Hle.refl _)
  have hr := Decidable.not_not.1 hr
  have hve := value_eq ok hr hv
  have hmem := fun n => (under_mem ok hr (n := n)).1
  have hle := under_eq ok hr
  refine G_rspIn rb hok ?_
  repeat (first | refine Step.imp ?_ | refine Side.mk (by first | exact True.intro | omega | exact ⟨trivial, rfl⟩ | exact ⟨by omega, trivial, rfl⟩ | exact ⟨by omega, rfl⟩ | exact ⟨by omega, by omega, rfl⟩ | (simp only [List.length_cons, List.length_nil, List.length_append]; done) | (simp only [List.length_cons, List.length_nil, List.length_append]; omega) | decide +kernel) ?_ | refine GDraw_one (by decide +kernel) ?_ | refine New.mk fun _ => ?_ | refine NewS.mk fun _ _ => ?_)
  intro h1 va vc le1 f1
  obtain ⟨us, hus⟩ : ∃ us, us = underF C m (get4 a0 a1 a2 a3) := ⟨_, rfl⟩
  rw [← hus] at f1 hve hle hmem ⊢
  have hul : us.length ≤ vals.length := by
    rw [hle, hv]; exact pickTo_len _ _
  have hall : ∀ k < us.length, 0 ≤ us[k]! ∧ us[k]! < vals.length := fun k hk => by
    have := (hmem _ (mem_get hk)).1
    omega
  repeat (first | refine Step.imp ?_ | refine Side.mk (by first | exact True.intro | omega | exact ⟨trivial, rfl⟩ | exact ⟨by omega, trivial, rfl⟩ | exact ⟨by omega, rfl⟩ | exact ⟨by omega, by omega, rfl⟩ | (simp only [List.length_cons, List.length_nil, List.length_append]; done) | (simp only [List.length_cons, List.length_nil, List.length_append]; omega) | decide +kernel) ?_ | refine GDraw_one (by decide +kernel) ?_ | refine New.mk fun _ => ?_ | refine NewS.mk fun _ _ => ?_)
  refine G_nil encI 1 none ?_
  refine G_loop (σ := Nat × Option Addr × Nat) (fun s => s.1 ≤ us.length) (fun s => us.length - s.1) (fun s => [(10, vI s.1), (9, .slice va us.length vc), (8, .slice s.2.1 (pickV us vals s.1).length s.2.2), (0 + 1, .slice a vals.length ec)]) (fun _ => h1)
    (fun s => slo encI 1 (.slice s.2.1 (pickV us vals s.1).length s.2.2) (pickV us vals s.1) :: rsp h1 rb C false :: slo encE 2 (.slice a vals.length ec) vals :: R) (0, none, 0) (Nat.zero_le _) ⟨rfl, rfl, rfl, rfl, trivial⟩ rfl ?_ ?_
  · simp only [pickV, List.take_zero, List.map_nil, List.length_nil]
    infer_instance
  rintro ⟨k, pa, pc⟩ hk
  simp only at hk ⊢
  have hpl := pickV_len (us := us) (vals := vals) hk
  repeat (first | refine Step.imp ?_ | refine Side.mk (by first | exact True.intro | omega | exact ⟨trivial, rfl⟩ | exact ⟨by omega, trivial, rfl⟩ | exact ⟨by omega, rfl⟩ | exact ⟨by omega, by omega, rfl⟩ | (simp only [List.length_cons, List.length_nil, List.length_append]; done) | (simp only [List.length_cons, List.length_nil, List.length_append]; omega) | decide +kernel) ?_ | refine GDraw_one (by decide +kernel) ?_ | refine New.mk fun _ => ?_ | refine NewS.mk fun _ _ => ?_)
  refine ⟨fun hlt => ?_, fun hge => ?_⟩
  · have hps := pickV_succ (us := us) (vals := vals) (k := k) (by omega)
    have hak := hall k (by omega)
    repeat (first | refine Step.imp ?_ | refine Side.mk (by first | exact True.intro | omega | exact ⟨trivial, rfl⟩ | exact ⟨by omega, trivial, rfl⟩ | exact ⟨by omega, rfl⟩ | exact ⟨by omega, by omega, rfl⟩ | (simp only [List.length_cons, List.length_nil, List.length_append]; done) | (simp only [List.length_cons, List.length_nil, List.length_append]; omega) | decide +kernel) ?_ | refine GDraw_one (by decide +kernel) ?_ | refine New.mk fun _ => ?_ | refine NewS.mk fun _ _ => ?_)
    refine ⟨fun hin => ?_, fun hout => absurd hak.2 hout⟩
    repeat (first | refine Step.imp ?_ | refine Side.mk (by first | exact True.intro | omega | exact ⟨trivial, rfl⟩ | exact ⟨by omega, trivial, rfl⟩ | exact ⟨by omega, rfl⟩ | exact ⟨by omega, by omega, rfl⟩ | (simp only [List.length_cons, List.length_nil, List.length_append]; done) | (simp only [List.length_cons, List.length_nil, List.length_append]; omega) | decide +kernel) ?_ | refine GDraw_one (by decide +kernel) ?_ | refine New.mk fun _ => ?_ | refine NewS.mk fun _ _ => ?_)
    rename_i b1 pa1 pc1
    refine X_round (k + 1, pa1, pc1) ?_ ?_ ?_ rfl ?_
    · show k + 1 ≤ us.length
      omega
    · show us.length - (k + 1) < us.length - k
      omega
    · refine ⟨rfl, rfl, ?_, rfl, trivial⟩
      rw [hps, List.length_append]; rfl
    · simp only [hps, List.length_append, List.length_cons, List.length_nil, Nat.zero_add]
      infer_instance
  · have hk2 : k = us.length := by omega
    subst hk2
    have hfw : FitW 0 (pickV us vals us.length) := ⟨by omega, by omega, fun j hj => by
      have hj2 : j < us.length := by omega
      have : (pickV us vals us.length)[j]! = vals[(us[j]!).toNat]! := by
        unfold pickV
        rw [List.take_length, getElem!_pos _ j (by simpa using hj2), List.getElem_map, getElem!_pos us j hj2]
      rw [this]
      exact h64 _ (by have := hall j hj2; omega)⟩
    have hsum : sumI (pickV us vals us.length) = cellSum C vals (indexF C m (get4 a0 a1 a2 a3)).toNat := by
      unfold pickV
      rw [List.take_length]; exact hve
    repeat (first | refine Step.imp ?_ | refine Side.mk (by first | exact True.intro | omega | exact ⟨trivial, rfl⟩ | exact ⟨by omega, trivial, rfl⟩ | exact ⟨by omega, rfl⟩ | exact ⟨by omega, by omega, rfl⟩ | (simp only [List.length_cons, List.length_nil, List.length_append]; done) | (simp only [List.length_cons, List.length_nil, List.length_append]; omega) | decide +kernel) ?_ | refine GDraw_one (by decide +kernel) ?_ | refine New.mk fun _ => ?_ | refine NewS.mk fun _ _ => ?_)
    exact Fin.val ((hT h1 le1).2 hr) (by rw [hsum]) le1.le
end
end Go.Sl

/-
  The document's rolls: the value of a cell.
-/
namespace Go.Sl
open Go.Proofs
set_option linter.unusedVariables false
set_option linter.unusedSimpArgs false
set_option maxRecDepth 10000
set_option synthInstance.maxSize 2000
set_option synthInstance.maxHeartbeats 200000
set_option maxHeartbeats 1000000
section
variable {h h0 : PHeap} {b rb : Nat} {C : Cat} {kn : Bool} {vals : List Int}
instance v11_value {L M R : List HP} {a : Option Addr} {n ec : Nat} {m a0 a1 a2 a3 : Int} [p : PickR L rb h0 C kn M] [q : PickO M (.slice a n ec) Int encE 2 vals R] [hI : Is vals.length n] [hl : LeT h0 h] : CallT Tryz.prog 36 [.pointer (some ⟨rb, 0, none⟩), .slice a n ec, .agg [vI m, vI a0, vI a1, vI a2, vI a3].toArray] h L (vals.length = (leavesF C C.dims.length).toNat ∧ Ok64 vals) R
    (fun K => ∀ h', Le h h' → (¬ rightF C m (get4 a0 a1 a2 a3) → K (.tuple [vI 0, vI 17].toArray) h' [rsp h' rb C false, slo encE 2 (.slice a n ec) vals]) ∧
      (rightF C m (get4 a0 a1 a2 a3) → K (.tuple [vI (fitN (cellSum C vals (indexF C m (get4 a0 a1 a2 a3)).toNat)), vI (fitE (cellSum C vals (indexF C m (get4 a0 a1 a2 a3)).toNat))].toArray) h' [rsp h' rb C false, slo encE 2 (.slice a n ec) vals])) := ⟨fun hs => by
  have := hI.eq
  subst this
  obtain ⟨x, h1, h2⟩ := p.eq
  exact ⟨[x, slo encE 2 (.slice a vals.length ec) vals], h1.trans (List.Perm.cons _ q.eq), fun K R' w hT st => vvalue_spec hs.1 hs.2 K R' w hT (St.conv (h2 h hl.le) st)⟩⟩
theorem r12value_spec {m a0 a1 a2 a3 : Int} (hv : vals.length = (leavesF C C.dims.length).toNat) (h64 : Ok64 vals) : Spec Tryz.prog 16 [.pointer (some ⟨b, 0, none⟩), .agg [vI m, vI a0, vI a1, vI a2, vI a3].toArray] h [rrH b rb vals, rsp h rb C kn]
    (fun K => ∀ h', Le h h' → (¬ rightF C m (get4 a0 a1 a2 a3) → K (.tuple [vI 0, vI 17].toArray) h' [rrH b rb vals, rsp h' rb C false]) ∧
      (rightF C m (get4 a0 a1 a2 a3) → K (.tuple [vI (fitN (cellSum C vals (indexF C m (get4 a0 a1 a2 a3)).toNat)), vI (fitE (cellSum C vals (indexF C m (get4 a0 a1 a2 a3)).toNat))].toArray) h' [rrH b rb vals, rsp h' rb C false])) := by
  refine spec_enter Tryz.func16 rfl Tryz.ntmps16 Tryz.results16 (by simp) fun K R hT => ?_
  haveI : LeT h h := ⟨Hle.refl h⟩
  refine G_rr b fun ea ec => ?_
  haveI := fun h' => foldRr (h := h') (b := b) (rb := rb) (vals := vals) (a := ea) (c := ec)
  repeat (first | refine Step.imp ?_ | refine Side.mk (by first | exact True.intro | omega | exact ⟨trivial, rfl⟩ | exact ⟨by omega, trivial, rfl⟩ | exact ⟨by omega, rfl⟩ | exact ⟨by omega, by omega, rfl⟩ | (simp only [List.length_cons, List.length_nil, List.length_append]; done) | (simp only [List.length_cons, List.length_nil, List.length_append]; omega) | decide +kernel) ?_ | refine GDraw_one (by decide +kernel) ?_ | refine New.mk fun _ => ?_ | refine NewS.mk fun _ _ => ?_)
  refine Side.mk ⟨hv, h64⟩ ?_
  intro h1 le1
  refine ⟨fun hno => ?_, fun hr => ?_⟩
  · repeat (first | refine Step.imp ?_ | refine Side.mk (by first | exact True.intro | omega | exact ⟨trivial, rfl⟩ | exact ⟨by omega, trivial, rfl⟩ | exact ⟨by omega, rfl⟩ | exact ⟨by omega, by omega, rfl⟩ | (simp only [List.length_cons, List.length_nil, List.length_append]; done) | (simp only [List.length_cons, List.length_nil, List.length_append]; omega) | decide +kernel) ?_ | refine GDraw_one (by decide +kernel) ?_ | refine New.mk fun _ => ?_ | refine NewS.mk fun _ _ => ?_)
    exact Fin.val ((hT h1 le1).1 hno) rfl le1.le
  · repeat (first | refine Step.imp ?_ | refine Side.mk (by first | exact True.intro | omega | exact ⟨trivial, rfl⟩ | exact ⟨by omega, trivial, rfl⟩ | exact ⟨by omega, rfl⟩ | exact ⟨by omega, by omega, rfl⟩ | (simp only [List.length_cons, List.length_nil, List.length_append]; done) | (simp only [List.length_cons, List.length_nil, List.length_append]; omega) | decide +kernel) ?_ | refine GDraw_one (by decide +kernel) ?_ | refine New.mk fun _ => ?_ | refine NewS.mk fun _ _ => ?_)
    exact Fin.val ((hT h1 le1).2 hr) rfl le1.le
instance r12_value {L M R : List HP} {m a0 a1 a2 a3 : Int} [p : PickRr L b rb vals M] [q : PickR M rb h0 C kn R] [hl : LeT h0 h] : CallT Tryz.prog 16 [.pointer (some ⟨b, 0, none⟩), .agg [vI m, vI a0, vI a1, vI a2, vI a3].toArray] h L (vals.length = (leavesF C C.dims.length).toNat ∧ Ok64 vals) R
    (fun K => ∀ h', Le h h' → (¬ rightF C m (get4 a0 a1 a2 a3) → K (.tuple [vI 0, vI 17].toArray) h' [rrH b rb vals, rsp h' rb C false]) ∧
      (rightF C m (get4 a0 a1 a2 a3) → K (.tuple [vI (fitN (cellSum C vals (indexF C m (get4 a0 a1 a2 a3)).toNat)), vI (fitE (cellSum C vals (indexF C m (get4 a0 a1 a2 a3)).toNat))].toArray) h' [rrH b rb vals, rsp h' rb C false])) := ⟨fun hs => by
  obtain ⟨x, h1, h2⟩ := q.eq
  exact ⟨[rrH b rb vals, x], p.eq.trans (List.Perm.cons _ h1), fun K R' w hT st => r12value_spec hs.1 hs.2 K R' w hT (St.perm (List.Perm.swap _ _ _) (St.conv (h2 h hl.le) (St.perm (List.Perm.swap _ _ _) st)))⟩⟩
end
end Go.Sl

/-
  The document's first cell that is beyond 64 bits.
-/
namespace Go.Sl
open Go.Proofs
set_option linter.unusedVariables false
set_option linter.unusedSimpArgs false
set_option maxRecDepth 10000
set_option synthInstance.maxSize 2000
set_option synthInstance.maxHeartbeats 200000
set_option maxHeartbeats 1000000
section
variable {h h0 : PHeap} {rb : Nat} {C : Cat} {kn : Bool} {vals : List Int}
theorem v11over_spec {a : Option Addr} {ec : Nat} (hv : vals.length = (leavesF C C.dims.length).toNat) (h64 : Ok64 vals) : Spec Tryz.prog 19 [.pointer (some ⟨rb, 0, none⟩), .slice a vals.length ec] h [rsp h rb C kn, slo encE 2 (.slice a vals.length ec) vals]
    (fun K => ∀ h', Le h h' → (∀ j, FirstB (sumsF C vals) j → K (.tuple [.agg [vI (quoF (nodesN C) j C.dims.length C.dims.length), vI (plF (nodesN C) j C.dims.length C.dims.length 0), vI (plF (nodesN C) j C.dims.length C.dims.length 1), vI (plF (nodesN C) j C.dims.length C.dims.length 2), vI (plF (nodesN C) j C.dims.length C.dims.length 3)].toArray, .bool true].toArray) h' [rsp h' rb C false, slo encE 2 (.slice a vals.length ec) vals]) ∧
      ((∀ i < (sumsF C vals).length, FitP ((sumsF C vals)[i]!)) → K (.tuple [.agg [vI 0, vI 0, vI 0, vI 0, vI 0].toArray, .bool false].toArray) h' [rsp h' rb C false, slo encE 2 (.slice a vals.length ec) vals])) := by
  refine spec_enter Tryz.func19 rfl Tryz.ntmps19 Tryz.results19 (by simp) fun K R hT => ?_
  haveI : LeT h h := ⟨Hle.refl h⟩
  refine G_conv (x := rsp h rb C kn) (y := rsp h rb C false) (fun bs hb => rsp_any hb) ?_
  refine G_rsp rb fun db lv rv iv ua uc ka kc us ks hok => ?_
  have ok := hok.ok
  have hbc := cells_bound ok C.dims.length (Nat.le_refl _)
  have hsl := sumsF_len C vals
  refine G_rspIn rb hok ?_
  obtain ⟨cn, hcn⟩ : ∃ cn : Nat, cellsF C C.dims.length = (cn : Int) := ⟨_, (Int.toNat_of_nonneg hbc.1).symm⟩
  repeat (first | refine Step.imp ?_ | refine Side.mk (by first | exact True.intro | omega | exact ⟨trivial, rfl⟩ | exact ⟨by omega, trivial, rfl⟩ | exact ⟨by omega, rfl⟩ | exact ⟨by omega, by omega, rfl⟩ | (simp only [List.length_cons, List.length_nil, List.length_append]; done) | (simp only [List.length_cons, List.length_nil, List.length_append]; omega) | decide +kernel) ?_ | refine GDraw_one (by decide +kernel) ?_ | refine New.mk fun _ => ?_ | refine NewS.mk fun _ _ => ?_)
  rename_i ob
  rw [hcn]
  refine G_loop (σ := Nat × PHeap) (fun s => s.1 ≤ cn ∧ Hle h s.2 ∧ ∀ j < s.1, FitP ((sumsF C vals)[j]!)) (fun s => cn - s.1) (fun s => [(7, vI s.1), (6, vI cn), (4, .pointer (some ⟨ob, 0, none⟩)), (0, .pointer (some ⟨rb, 0, none⟩)), (0 + 1, .slice a vals.length ec)]) (fun s => s.2)
    (fun s => rsp s.2 rb C false :: blk ob (.cells [vI 0, vI 0, vI 0, vI 0, vI 0].toArray 49 (0, 0)) :: slo encE 2 (.slice a vals.length ec) vals :: R) (0, h) ⟨by omega, Hle.refl h, fun j hj => by omega⟩ ⟨rfl, rfl, rfl, rfl, rfl, trivial⟩ rfl inferInstance ?_
  rintro ⟨i, h1⟩ ⟨hi, hl1, hall⟩
  simp only at hi hl1 hall ⊢
  haveI : LeT h1 h1 := ⟨Hle.refl h1⟩
  repeat (first | refine Step.imp ?_ | refine Side.mk (by first | exact True.intro | omega | exact ⟨trivial, rfl⟩ | exact ⟨by omega, trivial, rfl⟩ | exact ⟨by omega, rfl⟩ | exact ⟨by omega, by omega, rfl⟩ | (simp only [List.length_cons, List.length_nil, List.length_append]; done) | (simp only [List.length_cons, List.length_nil, List.length_append]; omega) | decide +kernel) ?_ | refine GDraw_one (by decide +kernel) ?_ | refine New.mk fun _ => ?_ | refine NewS.mk fun _ _ => ?_)
  refine ⟨fun hlt => ?_, fun hge => ?_⟩
  · have hci : (0 ≤ (i : Int) ∧ (i : Int) < cellsF C C.dims.length) := by omega
    have hcr := (right_congr (C := C) (m := quoF (nodesN C) i C.dims.length C.dims.length) (fun k hk => get4_fun (plF (nodesN C) i C.dims.length C.dims.length) hk)).2 (cell_right hci)
    have hix : indexF C (quoF (nodesN C) i C.dims.length C.dims.length) (get4 (plF (nodesN C) i C.dims.length C.dims.length 0) (plF (nodesN C) i C.dims.length C.dims.length 1) (plF (nodesN C) i C.dims.length C.dims.length 2) (plF (nodesN C) i C.dims.length C.dims.length 3)) = i := by
      rw [index_congr ok.dims.2 (fun k hk => get4_fun _ hk)]; exact index_cell hci
    have hsg := sumsF_get (C := C) (vals := vals) (i := i) (by omega)
    repeat (first | refine Step.imp ?_ | refine Side.mk (by first | exact True.intro | omega | exact ⟨trivial, rfl⟩ | exact ⟨by omega, trivial, rfl⟩ | exact ⟨by omega, rfl⟩ | exact ⟨by omega, by omega, rfl⟩ | (simp only [List.length_cons, List.length_nil, List.length_append]; done) | (simp only [List.length_cons, List.length_nil, List.length_append]; omega) | decide +kernel) ?_ | refine GDraw_one (by decide +kernel) ?_ | refine New.mk fun _ => ?_ | refine NewS.mk fun _ _ => ?_)
    refine ⟨fun hn => absurd hci hn, fun _ => ?_⟩
    repeat (first | refine Step.imp ?_ | refine Side.mk (by first | exact True.intro | omega | exact ⟨trivial, rfl⟩ | exact ⟨by omega, trivial, rfl⟩ | exact ⟨by omega, rfl⟩ | exact ⟨by omega, by omega, rfl⟩ | (simp only [List.length_cons, List.length_nil, List.length_append]; done) | (simp only [List.length_cons, List.length_nil, List.length_append]; omega) | decide +kernel) ?_ | refine GDraw_one (by decide +kernel) ?_ | refine New.mk fun _ => ?_ | refine NewS.mk fun _ _ => ?_)
    refine Side.mk ⟨hv, h64⟩ ?_
    intro h2 le2
    refine ⟨fun hn => absurd hcr hn, fun _ => ?_⟩
    rw [hix, Int.toNat_natCast, ← hsg]
    have hl2 := hl1.trans le2.le
    by_cases hf : FitP ((sumsF C vals)[i]!)
    · have e2 : fitE ((sumsF C vals)[i]!) = 0 := if_pos hf
      rw [e2]
      repeat' (first | refine Step.imp ?_ | refine Side.mk (by first | exact True.intro | omega | exact ⟨trivial, rfl⟩ | exact ⟨by omega, trivial, rfl⟩ | exact ⟨by omega, rfl⟩ | exact ⟨by omega, by omega, rfl⟩ | (simp only [List.length_cons, List.length_nil, List.length_append]; done) | (simp only [List.length_cons, List.length_nil, List.length_append]; omega) | decide +kernel) ?_ | refine GDraw_one (by decide +kernel) ?_ | refine New.mk fun _ => ?_ | refine NewS.mk fun _ _ => ?_ | refine Ways.mk (fun _ => ?_) (fun _ => ?_))
      all_goals first | (exfalso; omega) | skip
      refine X_round (i + 1, h2) ⟨by show i + 1 ≤ cn; omega, hl2, fun j hj => ?_⟩ (by show cn - (i + 1) < cn - i; omega) ⟨rfl, rfl, rfl, rfl, rfl, trivial⟩ rfl inferInstance
      rcases Nat.lt_or_ge j i with h3 | h3
      · exact hall j h3
      · have hj : j < i + 1 := hj
        have : j = i := by omega
        subst this; exact hf
    · have e2 : fitE ((sumsF C vals)[i]!) = 8 := if_neg hf
      rw [e2]
      repeat' (first | refine Step.imp ?_ | refine Side.mk (by first | exact True.intro | omega | exact ⟨trivial, rfl⟩ | exact ⟨by omega, trivial, rfl⟩ | exact ⟨by omega, rfl⟩ | exact ⟨by omega, by omega, rfl⟩ | (simp only [List.length_cons, List.length_nil, List.length_append]; done) | (simp only [List.length_cons, List.length_nil, List.length_append]; omega) | decide +kernel) ?_ | refine GDraw_one (by decide +kernel) ?_ | refine New.mk fun _ => ?_ | refine NewS.mk fun _ _ => ?_ | refine Ways.mk (fun _ => ?_) (fun _ => ?_))
      all_goals first | (exfalso; omega) | skip
      exact Fin.val ((hT h2 ⟨hl2⟩).1 i ⟨by omega, hf, hall⟩) rfl hl2
  · repeat (first | refine Step.imp ?_ | refine Side.mk (by first | exact True.intro | omega | exact ⟨trivial, rfl⟩ | exact ⟨by omega, trivial, rfl⟩ | exact ⟨by omega, rfl⟩ | exact ⟨by omega, by omega, rfl⟩ | (simp only [List.length_cons, List.length_nil, List.length_append]; done) | (simp only [List.length_cons, List.length_nil, List.length_append]; omega) | decide +kernel) ?_ | refine GDraw_one (by decide +kernel) ?_ | refine New.mk fun _ => ?_ | refine NewS.mk fun _ _ => ?_)
    exact Fin.val ((hT h1 ⟨hl1⟩).2 fun j hj => hall j (by omega)) rfl hl1
instance v11_over {L M R : List HP} {a : Option Addr} {n ec : Nat} [p : PickR L rb h0 C kn M] [q : PickO M (.slice a n ec) Int encE 2 vals R] [hI : Is vals.length n] [hl : LeT h0 h] : CallT Tryz.prog 19 [.pointer (some ⟨rb, 0, none⟩), .slice a n ec] h L (vals.length = (leavesF C C.dims.length).toNat ∧ Ok64 vals) R
    (fun K => ∀ h', Le h h' → (∀ j, FirstB (sumsF C vals) j → K (.tuple [.agg [vI (quoF (nodesN C) j C.dims.length C.dims.length), vI (plF (nodesN C) j C.dims.length C.dims.length 0), vI (plF (nodesN C) j C.dims.length C.dims.length 1), vI (plF (nodesN C) j C.dims.length C.dims.length 2), vI (plF (nodesN C) j C.dims.length C.dims.length 3)].toArray, .bool true].toArray) h' [rsp h' rb C false, slo encE 2 (.slice a n ec) vals]) ∧
      ((∀ i < (sumsF C vals).length, FitP ((sumsF C vals)[i]!)) → K (.tuple [.agg [vI 0, vI 0, vI 0, vI 0, vI 0].toArray, .bool false].toArray) h' [rsp h' rb C false, slo encE 2 (.slice a n ec) vals])) := ⟨fun hs => by
  have := hI.eq
  subst this
  obtain ⟨x, h1, h2⟩ := p.eq
  exact ⟨[x, slo encE 2 (.slice a vals.length ec) vals], h1.trans (List.Perm.cons _ q.eq), fun K R' w hT st => v11over_spec hs.1 hs.2 K R' w hT (St.conv (h2 h hl.le) st)⟩⟩
end
end Go.Sl
