/-
  Facts that the proof is made of (T2).
-/
import Derived.Test.YtoekdnandjjeoaaGreatKT1
/-
  The walk of a tree: its order, its leaves, its spans.
-/
namespace Go.Sl
open Go.Proofs
set_option linter.unusedVariables false
set_option linter.unusedSimpArgs false
set_option maxRecDepth 10000
set_option synthInstance.maxSize 2000
set_option synthInstance.maxHeartbeats 200000
set_option maxHeartbeats 1000000

structure WS where
  order : List Int
  leaves : List Int
  spans : List Sp
def openW (kids : List (List Int)) (s : WS) (i : Int) : WS := ⟨s.order ++ [i], if (kids[i.toNat]!).length = 0 then s.leaves ++ [i] else s.leaves, s.spans.set i.toNat ⟨s.leaves.length, (s.spans[i.toNat]!).to⟩⟩
def closeW (i : Int) (s : WS) : WS := { s with spans := s.spans.set i.toNat ⟨(s.spans[i.toNat]!).fr, s.leaves.length⟩ }
def downW (kids : List (List Int)) : Nat → WS → Int → WS
  | 0, s, _ => s
  | f + 1, s, i => closeW i ((kids[i.toNat]!).foldl (downW kids f) (openW kids s i))
/-- One and all below it. -/
def pre (kids : List (List Int)) : Nat → Int → List Int
  | 0, _ => []
  | f + 1, i => i :: (kids[i.toNat]!).flatMap (pre kids f)
def leafK (kids : List (List Int)) (i : Int) : Bool := decide ((kids[i.toNat]!).length = 0)
mutual
theorem downW_order (kids : List (List Int)) : ∀ (f : Nat) (s : WS) (i : Int), (downW kids f s i).order = s.order ++ pre kids f i
  | 0, s, i => by simp [downW, pre]
  | f + 1, s, i => by
    simp only [downW, closeW, pre]
    rw [foldW_order kids f]
    simp [openW]
theorem foldW_order (kids : List (List Int)) (f : Nat) : ∀ (l : List Int) (s : WS), (l.foldl (downW kids f) s).order = s.order ++ l.flatMap (pre kids f)
  | [], s => by simp
  | k :: l, s => by
    rw [List.foldl_cons, foldW_order kids f l, downW_order kids f, List.flatMap_cons, List.append_assoc]
end
mutual
theorem downW_leaves (kids : List (List Int)) : ∀ (f : Nat) (s : WS) (i : Int), (downW kids f s i).leaves = s.leaves ++ (pre kids f i).filter (leafK kids)
  | 0, s, i => by simp [downW, pre]
  | f + 1, s, i => by
    simp only [downW, closeW, pre]
    rw [foldW_leaves kids f]
    simp only [openW, List.filter_cons, leafK]
    by_cases hz : (kids[i.toNat]!).length = 0
    · simp only [hz, if_true, decide_true]; simp [leafK]
    · simp only [hz, if_false, decide_false, Bool.false_eq_true]
theorem foldW_leaves (kids : List (List Int)) (f : Nat) : ∀ (l : List Int) (s : WS), (l.foldl (downW kids f) s).leaves = s.leaves ++ (l.flatMap (pre kids f)).filter (leafK kids)
  | [], s => by simp
  | k :: l, s => by
    rw [List.foldl_cons, foldW_leaves kids f l, downW_leaves kids f, List.flatMap_cons, List.filter_append, List.append_assoc]
end
mutual
theorem downW_spans (kids : List (List Int)) : ∀ (f : Nat) (s : WS) (i : Int), (downW kids f s i).spans.length = s.spans.length
  | 0, s, i => rfl
  | f + 1, s, i => by
    simp only [downW, closeW, List.length_set]
    rw [foldW_spans kids f]
    simp [openW]
theorem foldW_spans (kids : List (List Int)) (f : Nat) : ∀ (l : List Int) (s : WS), (l.foldl (downW kids f) s).spans.length = s.spans.length
  | [], s => rfl
  | k :: l, s => by
    rw [List.foldl_cons, foldW_spans kids f l, downW_spans kids f]
end

section
variable {h : PHeap} {b tb db : Nat} {nv mv kv sv : Value} {kids : List (List Int)} {ty : TypeId}
/-- What a walk changes. -/
@[reducible] def WL (b : Nat) (nv mv kv sv : Value) (ty : TypeId) (ao : Option Addr) (no co : Nat) (al : Option Addr) (nl cl : Nat) (order leaves : List Int) (spans : List Sp) (R : List HP) : List HP :=
  blk b (.cells [nv, mv, kv, .slice ao no co, .slice al nl cl, sv].toArray ty (0, 0)) :: slo encI 1 (.slice ao no co) order :: slo encI 1 (.slice al nl cl) leaves :: slo encSp 2 sv spans :: R
class WalkF (h : PHeap) (b : outParam Nat) (tb db : Nat) (nv mv kv sv : outParam Value) (kids : outParam (List (List Int))) (ty : outParam TypeId) (f : outParam Nat) (ok : outParam (Int → Prop)) : Prop where
  spec : ∀ (i : Int) (order leaves : List Int) (spans : List Sp) ao co al cl, ok i → spans.length = kids.length → order.length + (pre kids f i).length ≤ 4294967296 → leaves.length + (pre kids f i).length ≤ 4294967296 →
    Spec Tryz.prog 128 [vI i, .pointer (some ⟨tb, 0, none⟩), .pointer (some ⟨db, 0, none⟩)] h (WL b nv mv kv sv ty ao order.length co al leaves.length cl order leaves spans [])
      (fun K => ∀ ao co al cl, K (.tuple ([] : List Value).toArray) h (WL b nv mv kv sv ty ao (downW kids f ⟨order, leaves, spans⟩ i).order.length co al (downW kids f ⟨order, leaves, spans⟩ i).leaves.length cl (downW kids f ⟨order, leaves, spans⟩ i).order (downW kids f ⟨order, leaves, spans⟩ i).leaves (downW kids f ⟨order, leaves, spans⟩ i).spans []))
instance walkd_call {L R1 R2 R3 M : List HP} {f : Nat} {ok : Int → Prop} {i : Int} {order leaves : List Int} {spans : List Sp} {ao al : Option Addr} {no co nl cl : Nat} [hw : WalkF h b tb db nv mv kv sv kids ty f ok] [p0 : PickB L b (.cells [nv, mv, kv, .slice ao no co, .slice al nl cl, sv].toArray ty (0, 0)) R1] [p1 : PickO R1 (.slice ao no co) Int encI 1 order R2] [p2 : PickO R2 (.slice al nl cl) Int encI 1 leaves R3] [p3 : PickO R3 sv Sp encSp 2 spans M]
    [e1 : Is order.length no] [e2 : Is leaves.length nl] :
    CallT Tryz.prog 128 [vI i, .pointer (some ⟨tb, 0, none⟩), .pointer (some ⟨db, 0, none⟩)] h L
      (ok i ∧ spans.length = kids.length ∧ order.length + (pre kids f i).length ≤ 4294967296 ∧ leaves.length + (pre kids f i).length ≤ 4294967296) M
      (fun K => ∀ ao co al cl, K (.tuple ([] : List Value).toArray) h (WL b nv mv kv sv ty ao (downW kids f ⟨order, leaves, spans⟩ i).order.length co al (downW kids f ⟨order, leaves, spans⟩ i).leaves.length cl (downW kids f ⟨order, leaves, spans⟩ i).order (downW kids f ⟨order, leaves, spans⟩ i).leaves (downW kids f ⟨order, leaves, spans⟩ i).spans [])) :=
  ⟨fun ⟨h1, h2, h3, h4⟩ => ⟨WL b nv mv kv sv ty ao order.length co al leaves.length cl order leaves spans [], by
    have := e1.eq
    have := e2.eq
    subst_vars
    exact p0.eq.trans (List.Perm.cons _ (p1.eq.trans (List.Perm.cons _ (p2.eq.trans (List.Perm.cons _ p3.eq))))), hw.spec i order leaves spans ao co al cl h1 h2 h3 h4⟩⟩

theorem flat_take {α β : Type} [Inhabited α] (g : α → List β) (l : List α) (n : Nat) (hn : n < l.length) : ((l.take n).flatMap g).length + (g (l[n]!)).length ≤ (l.flatMap g).length := by
  conv => rhs; rw [← List.take_append_drop n l]
  rw [List.flatMap_append, List.length_append, List.drop_eq_getElem_cons hn, List.flatMap_cons, List.length_append, getElem!_pos l n hn]
  omega
theorem take_fold {α σ : Type} [Inhabited α] (g : σ → α → σ) (s : σ) (l : List α) (n : Nat) (hn : n < l.length) : (l.take (n + 1)).foldl g s = g ((l.take n).foldl g s) (l[n]!) := by
  rw [List.take_succ_eq_append_getElem hn, List.foldl_append, getElem!_pos l n hn]; rfl
theorem leaves_le {kids : List (List Int)} {f : Nat} {l : List Int} {s : WS} : (l.foldl (downW kids f) s).leaves.length ≤ s.leaves.length + (l.flatMap (pre kids f)).length := by
  rw [foldW_leaves, List.length_append]
  have := List.length_filter_le (leafK kids) (l.flatMap (pre kids f))
  omega

theorem walk_down {kvs : List Value} {tt td : TypeId} {ft fd : Nat × Nat} [ht : Pt h tb (.cells [.pointer (some ⟨b, 0, none⟩)].toArray tt ft)] [hd : Pt h db (.cells [.func (.func 128) #[] [.pointer (some ⟨tb, 0, none⟩), .pointer (some ⟨db, 0, none⟩)].toArray].toArray td fd)]
    [hk : FSl h kv encV 1 kvs] (hl : kvs.length = kids.length) (hks : ∀ i < kids.length, FSl h (kvs[i]!) encI 1 (kids[i]!)) {r : Int → Nat} (hr : ∀ i : Int, 0 ≤ i → i < kids.length → ∀ k ∈ kids[i.toNat]!, 0 ≤ k ∧ k < kids.length ∧ r k < r i) (hn : kids.length ≤ 4294967296) (hkn : ∀ i < kids.length, (kids[i]!).length ≤ 4294967296) :
    ∀ f, WalkF h b tb db nv mv kv sv kids ty f (fun i => 0 ≤ i ∧ i < kids.length ∧ r i < f) := by
  intro f
  induction f with
  | zero => exact ⟨fun i order leaves spans ao co al cl hi => by omega⟩
  | succ f ih =>
    refine ⟨fun i order leaves spans ao co al cl hi hsp hb1 hb2 => ?_⟩
    obtain ⟨hi0, hi1, hif⟩ := hi
    have hki := hks i.toNat (by omega)
    have hri := hr i hi0 hi1
    have hkni := hkn i.toNat (by omega)
    have hpl : (pre kids (f + 1) i).length = 1 + ((kids[i.toNat]!).flatMap (pre kids f)).length := by simp [pre]; omega
    refine spec_enter Tryz.func128 rfl Tryz.ntmps128 Tryz.results128 (by simp) fun K R hT => ?_
    repeat (first | refine GDraw_O (.slice ao order.length co) (by decide +kernel) ?_ | refine Step.imp ?_ | refine Side.mk (by first | exact True.intro | omega | exact ⟨trivial, rfl⟩ | exact ⟨by omega, trivial, rfl⟩ | exact ⟨by omega, rfl⟩ | exact ⟨by omega, by omega, rfl⟩ | (simp only [List.length_cons, List.length_nil, List.length_append]; done) | (simp only [List.length_cons, List.length_nil, List.length_append]; omega) | decide +kernel) ?_ | refine GDraw_one (by decide +kernel) ?_ | refine New.mk fun _ => ?_ | refine NewS.mk fun _ _ => ?_)
    rename_i b0 ao1 co1
    have hor : ∀ n (s1 : WS), (((kids[i.toNat]!).take n).foldl (downW kids f) s1).order.length = s1.order.length + (((kids[i.toNat]!).take n).flatMap (pre kids f)).length := fun n s1 => by rw [foldW_order, List.length_append]
    refine ⟨fun hz => ?_, fun hz => ?_⟩
    · repeat (first | refine GDraw_O (.slice al leaves.length cl) (by decide +kernel) ?_ | refine Step.imp ?_ | refine Side.mk (by first | exact True.intro | omega | exact ⟨trivial, rfl⟩ | exact ⟨by omega, trivial, rfl⟩ | exact ⟨by omega, rfl⟩ | exact ⟨by omega, by omega, rfl⟩ | (simp only [List.length_cons, List.length_nil, List.length_append]; done) | (simp only [List.length_cons, List.length_nil, List.length_append]; omega) | decide +kernel) ?_ | refine GDraw_one (by decide +kernel) ?_ | refine New.mk fun _ => ?_ | refine NewS.mk fun _ _ => ?_)
      rename_i bx al1 cl1
      obtain ⟨s1, hs1⟩ : ∃ s1, s1 = openW kids ⟨order, leaves, spans⟩ i := ⟨_, rfl⟩
      have hs1' : s1 = ⟨order ++ [i], leaves ++ [i], spans.set i.toNat ⟨leaves.length, (spans[i.toNat]!).to⟩⟩ := by rw [hs1, openW, if_pos (by omega)]
      have hs1o : s1.order.length = order.length + 1 := by rw [hs1']; simp
      have hs1l : s1.leaves.length ≤ leaves.length + 1 := by rw [hs1']; simp
      have hs1s : s1.spans.length = kids.length := by rw [hs1']; simp [hsp]
      refine G_loop (σ := Nat × (Option Addr × Nat) × (Option Addr × Nat)) (fun s => s.1 ≤ (kids[i.toNat]!).length) (fun s => (kids[i.toNat]!).length - s.1)
        (fun s => [(55, vI s.1), (54, vI (kids[i.toNat]!).length), (53, kvs[i.toNat]!), (0, vI i), (1, .pointer (some ⟨tb, 0, none⟩)), (2, .pointer (some ⟨db, 0, none⟩))]) (fun _ => h)
        (fun s => WL b nv mv kv sv ty s.2.1.1 (((kids[i.toNat]!).take s.1).foldl (downW kids f) s1).order.length s.2.1.2 s.2.2.1 (((kids[i.toNat]!).take s.1).foldl (downW kids f) s1).leaves.length s.2.2.2 (((kids[i.toNat]!).take s.1).foldl (downW kids f) s1).order (((kids[i.toNat]!).take s.1).foldl (downW kids f) s1).leaves (((kids[i.toNat]!).take s.1).foldl (downW kids f) s1).spans R)
        (0, (ao1, co1), (al1, cl1)) (Nat.zero_le _) ⟨rfl, rfl, rfl, rfl, rfl, rfl, trivial⟩ rfl ?_ ?_
      · simp only [List.take_zero, List.foldl_nil, hs1', List.length_append, List.length_cons, List.length_nil, Nat.zero_add]
        infer_instance
      rintro ⟨n, ⟨ao, co⟩, ⟨al, cl⟩⟩ hn1
      simp only at hn1 ⊢
      have hF := hor n s1
      have hFl := leaves_le (kids := kids) (f := f) (l := (kids[i.toNat]!).take n) (s := s1)
      have hFs := foldW_spans kids f ((kids[i.toNat]!).take n) s1
      repeat (first | refine Step.imp ?_ | refine Side.mk (by first | exact True.intro | omega | exact ⟨trivial, rfl⟩ | exact ⟨by omega, trivial, rfl⟩ | exact ⟨by omega, rfl⟩ | exact ⟨by omega, by omega, rfl⟩ | (simp only [List.length_cons, List.length_nil, List.length_append]; done) | (simp only [List.length_cons, List.length_nil, List.length_append]; omega) | decide +kernel) ?_ | refine GDraw_one (by decide +kernel) ?_ | refine New.mk fun _ => ?_ | refine NewS.mk fun _ _ => ?_)
      refine ⟨fun hlt => ?_, fun hge => ?_⟩
      · have hft := flat_take (pre kids f) (kids[i.toNat]!) n (by omega)
        have hfd := take_fold (downW kids f) s1 (kids[i.toNat]!) n (by omega)
        have hrk := hri ((kids[i.toNat]!)[n]!) (by rw [getElem!_pos _ n (by omega)]; exact List.getElem_mem _)
        repeat (first | refine Step.imp ?_ | refine Side.mk (by first | exact True.intro | omega | exact ⟨trivial, rfl⟩ | exact ⟨by omega, trivial, rfl⟩ | exact ⟨by omega, rfl⟩ | exact ⟨by omega, by omega, rfl⟩ | (simp only [List.length_cons, List.length_nil, List.length_append]; done) | (simp only [List.length_cons, List.length_nil, List.length_append]; omega) | decide +kernel) ?_ | refine GDraw_one (by decide +kernel) ?_ | refine New.mk fun _ => ?_ | refine NewS.mk fun _ _ => ?_)
        intro ao' co' al' cl'
        repeat (first | refine Step.imp ?_ | refine Side.mk (by first | exact True.intro | omega | exact ⟨trivial, rfl⟩ | exact ⟨by omega, trivial, rfl⟩ | exact ⟨by omega, rfl⟩ | exact ⟨by omega, by omega, rfl⟩ | (simp only [List.length_cons, List.length_nil, List.length_append]; done) | (simp only [List.length_cons, List.length_nil, List.length_append]; omega) | decide +kernel) ?_ | refine GDraw_one (by decide +kernel) ?_ | refine New.mk fun _ => ?_ | refine NewS.mk fun _ _ => ?_)
        refine X_round (n + 1, (ao', co'), (al', cl')) ?_ ?_ ?_ ?_ ?_
        · show n + 1 ≤ (kids[i.toNat]!).length
          omega
        · show (kids[i.toNat]!).length - (n + 1) < (kids[i.toNat]!).length - n
          omega
        · exact ⟨rfl, rfl, rfl, rfl, rfl, rfl, trivial⟩
        · rfl
        · simp only [hfd]
          infer_instance
      · have hn2 : n = (kids[i.toNat]!).length := by omega
        subst hn2
        simp only [List.take_length] at hF hFl hFs ⊢
        simp only [downW, closeW] at hT
        rw [← hs1] at hT
        repeat (first | refine Step.imp ?_ | refine Side.mk (by first | exact True.intro | omega | exact ⟨trivial, rfl⟩ | exact ⟨by omega, trivial, rfl⟩ | exact ⟨by omega, rfl⟩ | exact ⟨by omega, by omega, rfl⟩ | (simp only [List.length_cons, List.length_nil, List.length_append]; done) | (simp only [List.length_cons, List.length_nil, List.length_append]; omega) | decide +kernel) ?_ | refine GDraw_one (by decide +kernel) ?_ | refine New.mk fun _ => ?_ | refine NewS.mk fun _ _ => ?_)
        exact Fin.val (hT ao co al cl) rfl (Hle.refl _)
    · repeat (first | refine Step.imp ?_ | refine Side.mk (by first | exact True.intro | omega | exact ⟨trivial, rfl⟩ | exact ⟨by omega, trivial, rfl⟩ | exact ⟨by omega, rfl⟩ | exact ⟨by omega, by omega, rfl⟩ | (simp only [List.length_cons, List.length_nil, List.length_append]; done) | (simp only [List.length_cons, List.length_nil, List.length_append]; omega) | decide +kernel) ?_ | refine GDraw_one (by decide +kernel) ?_ | refine New.mk fun _ => ?_ | refine NewS.mk fun _ _ => ?_)
      obtain ⟨s1, hs1⟩ : ∃ s1, s1 = openW kids ⟨order, leaves, spans⟩ i := ⟨_, rfl⟩
      have hs1' : s1 = ⟨order ++ [i], leaves, spans.set i.toNat ⟨leaves.length, (spans[i.toNat]!).to⟩⟩ := by rw [hs1, openW, if_neg (by omega)]
      have hs1o : s1.order.length = order.length + 1 := by rw [hs1']; simp
      have hs1l : s1.leaves.length ≤ leaves.length + 1 := by rw [hs1']; simp
      have hs1s : s1.spans.length = kids.length := by rw [hs1']; simp [hsp]
      refine G_loop (σ := Nat × (Option Addr × Nat) × (Option Addr × Nat)) (fun s => s.1 ≤ (kids[i.toNat]!).length) (fun s => (kids[i.toNat]!).length - s.1)
        (fun s => [(55, vI s.1), (54, vI (kids[i.toNat]!).length), (53, kvs[i.toNat]!), (0, vI i), (1, .pointer (some ⟨tb, 0, none⟩)), (2, .pointer (some ⟨db, 0, none⟩))]) (fun _ => h)
        (fun s => WL b nv mv kv sv ty s.2.1.1 (((kids[i.toNat]!).take s.1).foldl (downW kids f) s1).order.length s.2.1.2 s.2.2.1 (((kids[i.toNat]!).take s.1).foldl (downW kids f) s1).leaves.length s.2.2.2 (((kids[i.toNat]!).take s.1).foldl (downW kids f) s1).order (((kids[i.toNat]!).take s.1).foldl (downW kids f) s1).leaves (((kids[i.toNat]!).take s.1).foldl (downW kids f) s1).spans R)
        (0, (ao1, co1), (al, cl)) (Nat.zero_le _) ⟨rfl, rfl, rfl, rfl, rfl, rfl, trivial⟩ rfl ?_ ?_
      · simp only [List.take_zero, List.foldl_nil, hs1', List.length_append, List.length_cons, List.length_nil, Nat.zero_add]
        infer_instance
      rintro ⟨n, ⟨ao, co⟩, ⟨al, cl⟩⟩ hn1
      simp only at hn1 ⊢
      have hF := hor n s1
      have hFl := leaves_le (kids := kids) (f := f) (l := (kids[i.toNat]!).take n) (s := s1)
      have hFs := foldW_spans kids f ((kids[i.toNat]!).take n) s1
      repeat (first | refine Step.imp ?_ | refine Side.mk (by first | exact True.intro | omega | exact ⟨trivial, rfl⟩ | exact ⟨by omega, trivial, rfl⟩ | exact ⟨by omega, rfl⟩ | exact ⟨by omega, by omega, rfl⟩ | (simp only [List.length_cons, List.length_nil, List.length_append]; done) | (simp only [List.length_cons, List.length_nil, List.length_append]; omega) | decide +kernel) ?_ | refine GDraw_one (by decide +kernel) ?_ | refine New.mk fun _ => ?_ | refine NewS.mk fun _ _ => ?_)
      refine ⟨fun hlt => ?_, fun hge => ?_⟩
      · have hft := flat_take (pre kids f) (kids[i.toNat]!) n (by omega)
        have hfd := take_fold (downW kids f) s1 (kids[i.toNat]!) n (by omega)
        have hrk := hri ((kids[i.toNat]!)[n]!) (by rw [getElem!_pos _ n (by omega)]; exact List.getElem_mem _)
        repeat (first | refine Step.imp ?_ | refine Side.mk (by first | exact True.intro | omega | exact ⟨trivial, rfl⟩ | exact ⟨by omega, trivial, rfl⟩ | exact ⟨by omega, rfl⟩ | exact ⟨by omega, by omega, rfl⟩ | (simp only [List.length_cons, List.length_nil, List.length_append]; done) | (simp only [List.length_cons, List.length_nil, List.length_append]; omega) | decide +kernel) ?_ | refine GDraw_one (by decide +kernel) ?_ | refine New.mk fun _ => ?_ | refine NewS.mk fun _ _ => ?_)
        intro ao' co' al' cl'
        repeat (first | refine Step.imp ?_ | refine Side.mk (by first | exact True.intro | omega | exact ⟨trivial, rfl⟩ | exact ⟨by omega, trivial, rfl⟩ | exact ⟨by omega, rfl⟩ | exact ⟨by omega, by omega, rfl⟩ | (simp only [List.length_cons, List.length_nil, List.length_append]; done) | (simp only [List.length_cons, List.length_nil, List.length_append]; omega) | decide +kernel) ?_ | refine GDraw_one (by decide +kernel) ?_ | refine New.mk fun _ => ?_ | refine NewS.mk fun _ _ => ?_)
        refine X_round (n + 1, (ao', co'), (al', cl')) ?_ ?_ ?_ ?_ ?_
        · show n + 1 ≤ (kids[i.toNat]!).length
          omega
        · show (kids[i.toNat]!).length - (n + 1) < (kids[i.toNat]!).length - n
          omega
        · exact ⟨rfl, rfl, rfl, rfl, rfl, rfl, trivial⟩
        · rfl
        · simp only [hfd]
          infer_instance
      · have hn2 : n = (kids[i.toNat]!).length := by omega
        subst hn2
        simp only [List.take_length] at hF hFl hFs ⊢
        simp only [downW, closeW] at hT
        rw [← hs1] at hT
        repeat (first | refine Step.imp ?_ | refine Side.mk (by first | exact True.intro | omega | exact ⟨trivial, rfl⟩ | exact ⟨by omega, trivial, rfl⟩ | exact ⟨by omega, rfl⟩ | exact ⟨by omega, by omega, rfl⟩ | (simp only [List.length_cons, List.length_nil, List.length_append]; done) | (simp only [List.length_cons, List.length_nil, List.length_append]; omega) | decide +kernel) ?_ | refine GDraw_one (by decide +kernel) ?_ | refine New.mk fun _ => ?_ | refine NewS.mk fun _ _ => ?_)
        exact Fin.val (hT ao co al cl) rfl (Hle.refl _)

def rootsTo (nodes : List Nd) (n : Nat) : List Int := ((List.range n).filter (fun j => decide ((nodes[j]!).up < 0))).map (fun (j : Nat) => (j : Int))
theorem rootsTo_succ (nodes : List Nd) (n : Nat) : rootsTo nodes (n + 1) = if (nodes[n]!).up < 0 then rootsTo nodes n ++ [(n : Int)] else rootsTo nodes n := by
  unfold rootsTo
  rw [List.range_succ, List.filter_append]
  by_cases hn : (nodes[n]!).up < 0 <;> simp only [List.filter_cons, hn, decide_true, decide_false, if_true, if_false, List.filter_nil, List.map_append, List.map_cons, List.map_nil, List.append_nil, Bool.false_eq_true]
theorem roots_len (kids : List (List Int)) (nodes : List Nd) (f : Nat) {n m : Nat} (h : n ≤ m) : ((rootsTo nodes n).flatMap (pre kids f)).length ≤ ((rootsTo nodes m).flatMap (pre kids f)).length := by
  induction m with
  | zero => have : n = 0 := by omega
            subst this; exact Nat.le_refl _
  | succ m ih =>
    rcases Nat.lt_or_ge n (m + 1) with h1 | h1
    · have := ih (by omega)
      rw [rootsTo_succ]
      split
      · rw [List.flatMap_append, List.length_append]; omega
      · exact this
    · have : n = m + 1 := by omega
      subst this; exact Nat.le_refl _
def finalW (kids : List (List Int)) (nodes : List Nd) (f : Nat) (spans : List Sp) (n : Nat) : WS := (rootsTo nodes n).foldl (downW kids f) ⟨[], [], spans⟩
theorem walk_own {kvs : List Value} {nodes : List Nd} {spans : List Sp} {L : List HP} [hnn : FSl h nv encNd 2 nodes] [hk : FSl h kv encV 1 kvs] (hl : kvs.length = kids.length) (hks : ∀ i < kids.length, FSl h (kvs[i]!) encI 1 (kids[i]!)) {r : Int → Nat} (hr : ∀ i : Int, 0 ≤ i → i < kids.length → ∀ k ∈ kids[i.toNat]!, 0 ≤ k ∧ k < kids.length ∧ r k < r i)
    (hn : kids.length ≤ 4294967296) (hkn : ∀ i < kids.length, (kids[i]!).length ≤ 4294967296) (hnk : nodes.length = kids.length) (hsp : spans.length = kids.length) {f : Nat} (hf : ∀ i : Int, 0 ≤ i → i < kids.length → r i < f) (htot : ((rootsTo nodes nodes.length).flatMap (pre kids f)).length ≤ 4294967296) :
    Spec Tryz.prog 92 [.pointer (some ⟨b, 0, none⟩)] h (blk b (.cells [nv, mv, kv, .slice none 0 0, .slice none 0 0, sv].toArray ty (0, 0)) :: slo encSp 2 sv spans :: L)
      (fun K => ∀ h' ov lv, Hle h h' → Pt h' b (.cells [nv, mv, kv, ov, lv, sv].toArray ty (0, 0)) → FSl h' ov encI 1 (finalW kids nodes f spans nodes.length).order → FSl h' lv encI 1 (finalW kids nodes f spans nodes.length).leaves → FSl h' sv encSp 2 (finalW kids nodes f spans nodes.length).spans → K (.tuple ([] : List Value).toArray) h' L) := by
  refine spec_enter Tryz.func92 rfl Tryz.ntmps92 Tryz.results92 (by simp) fun K R hT => ?_
  refine Step.imp ?_
  refine G_nil encI 1 none ?_
  refine G_nil encI 1 none ?_
  repeat (first | refine Step.imp ?_ | refine Side.mk (by first | exact True.intro | omega | exact ⟨trivial, rfl⟩ | exact ⟨by omega, trivial, rfl⟩ | exact ⟨by omega, rfl⟩ | exact ⟨by omega, by omega, rfl⟩ | (simp only [List.length_cons, List.length_nil, List.length_append]; done) | (simp only [List.length_cons, List.length_nil, List.length_append]; omega) | decide +kernel) ?_ | refine GDraw_one (by decide +kernel) ?_ | refine New.mk fun _ => ?_ | refine NewS.mk fun _ _ => ?_)
  rename_i tb db
  refine G_freezeB db fun h1 le1 fz1 => ?_
  refine G_freezeB tb fun h2 le2 fz2 => ?_
  have hl1 := le1.le
  have hl2 := le2.le
  haveI hw := walk_down (h := h2) (b := b) (tb := tb) (db := db) (nv := nv) (mv := mv) (kv := kv) (sv := sv) (ty := ty) hl (fun i hi => FSl.mono (hl1.trans hl2) (hks i hi)) hr hn hkn f
  have hor : ∀ n, (finalW kids nodes f spans n).order.length = ((rootsTo nodes n).flatMap (pre kids f)).length := fun n => by unfold finalW; rw [foldW_order, List.length_append]; simp
  have hle : ∀ n, (finalW kids nodes f spans n).leaves.length ≤ ((rootsTo nodes n).flatMap (pre kids f)).length := fun n => by unfold finalW; have := leaves_le (kids := kids) (f := f) (l := rootsTo nodes n) (s := ⟨[], [], spans⟩); simpa using this
  have hsl : ∀ n, (finalW kids nodes f spans n).spans.length = kids.length := fun n => by unfold finalW; rw [foldW_spans]; exact hsp
  refine G_loop (σ := Nat × (Option Addr × Nat) × (Option Addr × Nat)) (fun s => s.1 ≤ nodes.length) (fun s => nodes.length - s.1)
    (fun s => [(11, vI s.1), (10, vI nodes.length), (9, nv), (1, .pointer (some ⟨tb, 0, none⟩)), (2, .pointer (some ⟨db, 0, none⟩))]) (fun _ => h2)
    (fun s => WL b nv mv kv sv ty s.2.1.1 (finalW kids nodes f spans s.1).order.length s.2.1.2 s.2.2.1 (finalW kids nodes f spans s.1).leaves.length s.2.2.2 (finalW kids nodes f spans s.1).order (finalW kids nodes f spans s.1).leaves (finalW kids nodes f spans s.1).spans (L ++ R))
    (0, (none, 0), (none, 0)) (Nat.zero_le _) ⟨rfl, rfl, rfl, rfl, rfl, trivial⟩ rfl ?_ ?_
  · show Sub _ (WL b nv mv kv sv ty none 0 0 none 0 0 [] [] spans (L ++ R))
    infer_instance
  rintro ⟨n, ⟨ao, co⟩, ⟨al, cl⟩⟩ hn1
  simp only at hn1 ⊢
  have h3 := hor n
  have h4 := hle n
  have h5 := hsl n
  repeat (first | refine Step.imp ?_ | refine Side.mk (by first | exact True.intro | omega | exact ⟨trivial, rfl⟩ | exact ⟨by omega, trivial, rfl⟩ | exact ⟨by omega, rfl⟩ | exact ⟨by omega, by omega, rfl⟩ | (simp only [List.length_cons, List.length_nil, List.length_append]; done) | (simp only [List.length_cons, List.length_nil, List.length_append]; omega) | decide +kernel) ?_ | refine GDraw_one (by decide +kernel) ?_ | refine New.mk fun _ => ?_ | refine NewS.mk fun _ _ => ?_)
  refine ⟨fun hlt => ?_, fun hge => ?_⟩
  · have hfs : (nodes[n]!).up < 0 → finalW kids nodes f spans (n + 1) = downW kids f (finalW kids nodes f spans n) n := fun hx => by unfold finalW; rw [rootsTo_succ, if_pos hx, List.foldl_append]; rfl
    have hfn : ¬ (nodes[n]!).up < 0 → finalW kids nodes f spans (n + 1) = finalW kids nodes f spans n := fun hx => by unfold finalW; rw [rootsTo_succ, if_neg hx]
    have hrl := roots_len kids nodes f (n := n + 1) (m := nodes.length) (by omega)
    have hrs : (nodes[n]!).up < 0 → ((rootsTo nodes (n + 1)).flatMap (pre kids f)).length = ((rootsTo nodes n).flatMap (pre kids f)).length + (pre kids f n).length := fun hx => by rw [rootsTo_succ, if_pos hx, List.flatMap_append, List.length_append]; simp
    have hfr := hf n (by omega) (by omega)
    repeat (first | refine Step.imp ?_ | refine Side.mk (by first | exact True.intro | omega | exact ⟨trivial, rfl⟩ | exact ⟨by omega, trivial, rfl⟩ | exact ⟨by omega, rfl⟩ | exact ⟨by omega, by omega, rfl⟩ | (simp only [List.length_cons, List.length_nil, List.length_append]; done) | (simp only [List.length_cons, List.length_nil, List.length_append]; omega) | decide +kernel) ?_ | refine GDraw_one (by decide +kernel) ?_ | refine New.mk fun _ => ?_ | refine NewS.mk fun _ _ => ?_)
    refine ⟨fun hx => ?_, fun hx => ?_⟩
    · have hrs := hrs hx
      repeat (first | refine Step.imp ?_ | refine Side.mk (by first | exact True.intro | omega | exact ⟨trivial, rfl⟩ | exact ⟨by omega, trivial, rfl⟩ | exact ⟨by omega, rfl⟩ | exact ⟨by omega, by omega, rfl⟩ | (simp only [List.length_cons, List.length_nil, List.length_append]; done) | (simp only [List.length_cons, List.length_nil, List.length_append]; omega) | decide +kernel) ?_ | refine GDraw_one (by decide +kernel) ?_ | refine New.mk fun _ => ?_ | refine NewS.mk fun _ _ => ?_)
      intro ao' co' al' cl'
      repeat (first | refine Step.imp ?_ | refine Side.mk (by first | exact True.intro | omega | exact ⟨trivial, rfl⟩ | exact ⟨by omega, trivial, rfl⟩ | exact ⟨by omega, rfl⟩ | exact ⟨by omega, by omega, rfl⟩ | (simp only [List.length_cons, List.length_nil, List.length_append]; done) | (simp only [List.length_cons, List.length_nil, List.length_append]; omega) | decide +kernel) ?_ | refine GDraw_one (by decide +kernel) ?_ | refine New.mk fun _ => ?_ | refine NewS.mk fun _ _ => ?_)
      refine X_round (n + 1, (ao', co'), (al', cl')) ?_ ?_ ?_ ?_ ?_
      · show n + 1 ≤ nodes.length
        omega
      · show nodes.length - (n + 1) < nodes.length - n
        omega
      · exact ⟨rfl, rfl, rfl, rfl, rfl, trivial⟩
      · rfl
      · simp only [hfs hx]
        infer_instance
    · repeat (first | refine Step.imp ?_ | refine Side.mk (by first | exact True.intro | omega | exact ⟨trivial, rfl⟩ | exact ⟨by omega, trivial, rfl⟩ | exact ⟨by omega, rfl⟩ | exact ⟨by omega, by omega, rfl⟩ | (simp only [List.length_cons, List.length_nil, List.length_append]; done) | (simp only [List.length_cons, List.length_nil, List.length_append]; omega) | decide +kernel) ?_ | refine GDraw_one (by decide +kernel) ?_ | refine New.mk fun _ => ?_ | refine NewS.mk fun _ _ => ?_)
      refine X_round (n + 1, (ao, co), (al, cl)) ?_ ?_ ?_ ?_ ?_
      · show n + 1 ≤ nodes.length
        omega
      · show nodes.length - (n + 1) < nodes.length - n
        omega
      · exact ⟨rfl, rfl, rfl, rfl, rfl, trivial⟩
      · rfl
      · simp only [hfn hx]
        infer_instance
  · have hn2 : n = nodes.length := by omega
    subst hn2
    refine G_freezeB b fun h6 le6 f6 => ?_
    refine G_freezeS (.slice ao (finalW kids nodes f spans nodes.length).order.length co) fun h7 le7 f7 => ?_
    refine G_freezeS (.slice al (finalW kids nodes f spans nodes.length).leaves.length cl) fun h8 le8 f8 => ?_
    refine G_freezeS sv fun h9 le9 f9 => ?_
    have hle9 := (((hl1.trans hl2).trans le6.le).trans le7.le).trans (le8.le.trans le9.le)
    have hfin := hT h9 _ _ hle9 (Pt.mono le9.le (Pt.mono le8.le (Pt.mono le7.le f6))) (FSl.mono le9.le (FSl.mono le8.le f7)) (FSl.mono le9.le f8) f9
    repeat (first | refine Step.imp ?_ | refine Side.mk (by first | exact True.intro | omega | exact ⟨trivial, rfl⟩ | exact ⟨by omega, trivial, rfl⟩ | exact ⟨by omega, rfl⟩ | exact ⟨by omega, by omega, rfl⟩ | (simp only [List.length_cons, List.length_nil, List.length_append]; done) | (simp only [List.length_cons, List.length_nil, List.length_append]; omega) | decide +kernel) ?_ | refine GDraw_one (by decide +kernel) ?_ | refine New.mk fun _ => ?_ | refine NewS.mk fun _ _ => ?_)
    exact Fin.val hfin rfl hle9
end
end Go.Sl

/-
  A tree that is made: what is asked of its members, one after another.
-/
namespace Go.Sl
open Go.Proofs
set_option linter.unusedVariables false
set_option linter.unusedSimpArgs false
set_option maxRecDepth 10000
set_option synthInstance.maxSize 2000
set_option synthInstance.maxHeartbeats 200000
set_option maxHeartbeats 1000000
def ckStep (nodes : List Nd) (s i : Nat) : Int := if s = 0 then ckName nodes i else if s = 1 then ckTwice nodes i else if s = 2 then ckRange nodes i else if s = 3 then ckLoop nodes i else ckDeep nodes i
section
variable {h : PHeap} {b : Nat} {nodes : List Nd} {nv : Value} {rest : List Value} {ty : TypeId} {fr : Nat × Nat}
instance once_call {L R : List HP} {i mb : Nat} {m : List (ByteArray × Value)} [hp0 : Rdb L h b (.cells (nv :: .map (some mb) :: rest).toArray ty fr)] [p : PickMp L mb m R] [hp : Rdb R h b (.cells (nv :: .map (some mb) :: rest).toArray ty fr)] [hn : FSl h nv encNd 2 nodes] :
    CallT Tryz.prog 124 [.pointer (some ⟨b, 0, none⟩), vI i] h L (i < nodes.length ∧ m = namesTo nodes i) [] (fun K => K (vI (ckTwice nodes i)) h (mapO mb (if ckTwice nodes i = 0 then namesTo nodes (i + 1) else namesTo nodes i) :: R)) :=
  ⟨fun ⟨hi, hm⟩ => ⟨mapO mb m :: R, by rw [List.append_nil]; exact p.eq, by subst hm; exact once_own hi⟩⟩
/-- The names that a check leaves. -/
def mapAft (nodes : List Nd) (s i : Nat) (m : List (ByteArray × Value)) : List (ByteArray × Value) := if s = 1 ∧ ckTwice nodes i = 0 then namesTo nodes (i + 1) else m
theorem wrong_own {L : List HP} {s i mb : Nat} {m : List (ByteArray × Value)} [hp : Rdb L h b (.cells (nv :: .map (some mb) :: rest).toArray ty fr)] [hn : FSl h nv encNd 2 nodes] (hi : i < nodes.length) (h32 : nodes.length ≤ 32) (hs : s < 5) (h3 : 3 ≤ s → UpsIn nodes) (h4 : 4 ≤ s → Acyc nodes) (hm : s = 1 → m = namesTo nodes i) :
    Spec Tryz.prog 91 [.pointer (some ⟨b, 0, none⟩), vI s, vI i] h (mapO mb m :: L) (fun K => K (vI (ckStep nodes s i)) h (mapO mb (mapAft nodes s i m) :: L)) := by
  have hcase : s = 0 ∨ s = 1 ∨ s = 2 ∨ s = 3 ∨ s = 4 := by omega
  have hma : s ≠ 1 → mapAft nodes s i m = m := fun h => by unfold mapAft; simp [h]
  rcases hcase with rfl | rfl | rfl | rfl | rfl
  · rw [hma (by omega)]
    refine spec_enter Tryz.func91 rfl Tryz.ntmps91 Tryz.results91 (by simp) fun K R hT => ?_
    repeat' (first | refine Step.imp ?_ | refine Side.mk (by first | exact True.intro | omega | exact ⟨trivial, rfl⟩ | exact ⟨by omega, trivial, rfl⟩ | exact ⟨by omega, rfl⟩ | exact ⟨by omega, by omega, rfl⟩ | (simp only [List.length_cons, List.length_nil, List.length_append]; done) | (simp only [List.length_cons, List.length_nil, List.length_append]; omega) | decide +kernel) ?_ | refine GDraw_one (by decide +kernel) ?_ | refine New.mk fun _ => ?_ | refine NewS.mk fun _ _ => ?_ | refine Ways.mk (fun _ => ?_) (fun _ => ?_))
    all_goals first | exact Fin.val hT rfl (Hle.refl _) | (exfalso; omega)
  · have hm := hm rfl
    subst hm
    have hma : mapAft nodes 1 i (namesTo nodes i) = (if ckTwice nodes i = 0 then namesTo nodes (i + 1) else namesTo nodes i) := by unfold mapAft; simp
    rw [hma]
    refine spec_enter Tryz.func91 rfl Tryz.ntmps91 Tryz.results91 (by simp) fun K R hT => ?_
    repeat' (first | refine Step.imp ?_ | refine Side.mk (by first | exact True.intro | omega | exact ⟨trivial, rfl⟩ | exact ⟨by omega, trivial, rfl⟩ | exact ⟨by omega, rfl⟩ | exact ⟨by omega, by omega, rfl⟩ | (simp only [List.length_cons, List.length_nil, List.length_append]; done) | (simp only [List.length_cons, List.length_nil, List.length_append]; omega) | decide +kernel) ?_ | refine GDraw_one (by decide +kernel) ?_ | refine New.mk fun _ => ?_ | refine NewS.mk fun _ _ => ?_ | refine Ways.mk (fun _ => ?_) (fun _ => ?_))
    all_goals first | exact Fin.val hT rfl (Hle.refl _) | (exfalso; omega)
  · rw [hma (by omega)]
    refine spec_enter Tryz.func91 rfl Tryz.ntmps91 Tryz.results91 (by simp) fun K R hT => ?_
    repeat' (first | refine Step.imp ?_ | refine Side.mk (by first | exact True.intro | omega | exact ⟨trivial, rfl⟩ | exact ⟨by omega, trivial, rfl⟩ | exact ⟨by omega, rfl⟩ | exact ⟨by omega, by omega, rfl⟩ | (simp only [List.length_cons, List.length_nil, List.length_append]; done) | (simp only [List.length_cons, List.length_nil, List.length_append]; omega) | decide +kernel) ?_ | refine GDraw_one (by decide +kernel) ?_ | refine New.mk fun _ => ?_ | refine NewS.mk fun _ _ => ?_ | refine Ways.mk (fun _ => ?_) (fun _ => ?_))
    all_goals first | exact Fin.val hT rfl (Hle.refl _) | (exfalso; omega)
  · rw [hma (by omega)]
    haveI := h3 (by omega)
    refine spec_enter Tryz.func91 rfl Tryz.ntmps91 Tryz.results91 (by simp) fun K R hT => ?_
    repeat' (first | refine Step.imp ?_ | refine Side.mk (by first | exact True.intro | omega | exact ⟨trivial, rfl⟩ | exact ⟨by omega, trivial, rfl⟩ | exact ⟨by omega, rfl⟩ | exact ⟨by omega, by omega, rfl⟩ | (simp only [List.length_cons, List.length_nil, List.length_append]; done) | (simp only [List.length_cons, List.length_nil, List.length_append]; omega) | decide +kernel) ?_ | refine GDraw_one (by decide +kernel) ?_ | refine New.mk fun _ => ?_ | refine NewS.mk fun _ _ => ?_ | refine Ways.mk (fun _ => ?_) (fun _ => ?_))
    all_goals first | exact Fin.val hT rfl (Hle.refl _) | (exfalso; omega)
  · rw [hma (by omega)]
    haveI := h4 (by omega)
    refine spec_enter Tryz.func91 rfl Tryz.ntmps91 Tryz.results91 (by simp) fun K R hT => ?_
    repeat' (first | refine Step.imp ?_ | refine Side.mk (by first | exact True.intro | omega | exact ⟨trivial, rfl⟩ | exact ⟨by omega, trivial, rfl⟩ | exact ⟨by omega, rfl⟩ | exact ⟨by omega, by omega, rfl⟩ | (simp only [List.length_cons, List.length_nil, List.length_append]; done) | (simp only [List.length_cons, List.length_nil, List.length_append]; omega) | decide +kernel) ?_ | refine GDraw_one (by decide +kernel) ?_ | refine New.mk fun _ => ?_ | refine NewS.mk fun _ _ => ?_ | refine Ways.mk (fun _ => ?_) (fun _ => ?_))
    all_goals first | exact Fin.val hT rfl (Hle.refl _) | (exfalso; omega)
instance wrong_call {L R : List HP} {s i mb : Nat} {m : List (ByteArray × Value)} [hp0 : Rdb L h b (.cells (nv :: .map (some mb) :: rest).toArray ty fr)] [p : PickMp L mb m R] [hp : Rdb R h b (.cells (nv :: .map (some mb) :: rest).toArray ty fr)] [hn : FSl h nv encNd 2 nodes] :
    CallT Tryz.prog 91 [.pointer (some ⟨b, 0, none⟩), vI s, vI i] h L (i < nodes.length ∧ nodes.length ≤ 32 ∧ s < 5 ∧ (3 ≤ s → UpsIn nodes) ∧ (4 ≤ s → Acyc nodes) ∧ (s = 1 → m = namesTo nodes i)) [] (fun K => K (vI (ckStep nodes s i)) h (mapO mb (mapAft nodes s i m) :: R)) :=
  ⟨fun ⟨h1, h2, h3, h4, h5, h6⟩ => ⟨mapO mb m :: R, by rw [List.append_nil]; exact p.eq, wrong_own h1 h2 h3 h4 h5 h6⟩⟩
end
end Go.Sl

/-
  Plain facts on members above each other: no loops, depths, what is below, counts.
-/
namespace Go.Sl
open Go.Proofs
set_option linter.unusedVariables false
set_option linter.unusedSimpArgs false
set_option maxRecDepth 10000
set_option synthInstance.maxSize 2000
set_option synthInstance.maxHeartbeats 200000
set_option maxHeartbeats 1000000
def upF (nodes : List Nd) (k : Int) : Int := (nodes[k.toNat]!).up
def iterF (nodes : List Nd) : Nat → Int → Int
  | 0, k => k
  | t + 1, k => iterF nodes t (upF nodes k)
theorem iterF_add (nodes : List Nd) : ∀ (a b : Nat) (k : Int), iterF nodes (a + b) k = iterF nodes b (iterF nodes a k)
  | 0, b, k => by rw [Nat.zero_add]; rfl
  | a + 1, b, k => by rw [Nat.add_right_comm]; exact iterF_add nodes a b _
theorem chase_of (nodes : List Nd) (i : Int) : ∀ (f m : Nat) (k : Int), m < f → iterF nodes m k = i → (∀ t ≤ m, 0 ≤ iterF nodes t k) → chase nodes i f k = true
  | 0, _, _, h, _, _ => by omega
  | f + 1, m, k, h, he, hp => by
    have h0 := hp 0 (by omega)
    simp only [iterF] at h0
    unfold chase
    rw [if_neg (by omega)]
    split
    · rfl
    · rename_i hne
      cases m with
      | zero => exact absurd he hne
      | succ m => exact chase_of nodes i f m _ (by omega) he (fun t ht => hp (t + 1) (by omega))
theorem nodup_len : ∀ (n : Nat) (l : List Int), l.Nodup → (∀ x ∈ l, 0 ≤ x ∧ x < n) → l.length ≤ n
  | 0, l, _, h => by
    cases l with
    | nil => simp
    | cons x l => have := h x (by simp); omega
  | n + 1, l, hd, h => by
    by_cases hm : (n : Int) ∈ l
    · have h1 := nodup_len n (l.erase n) (hd.erase _) (fun x hx => by
        have h2 := h x (List.mem_of_mem_erase hx)
        have h3 : x ≠ n := fun e => by subst e; exact (hd.not_mem_erase) hx
        omega)
      rw [List.length_erase_of_mem hm] at h1; omega
    · have h1 := nodup_len n l hd (fun x hx => by
        have h2 := h x hx
        have h3 : x ≠ n := fun e => by subst e; exact hm hx
        omega)
      omega
theorem dup_of_long (n : Nat) (g : Nat → Int) (h : ∀ t ≤ n, 0 ≤ g t ∧ g t < n) : ∃ a b, a < b ∧ b ≤ n ∧ g a = g b := by
  refine Classical.byContradiction fun hno => ?_
  have hinj : ∀ a b, a < b → b ≤ n → g a ≠ g b := fun a b h1 h2 h3 => hno ⟨a, b, h1, h2, h3⟩
  have hnd : ((List.range (n + 1)).map g).Nodup := by
    rw [List.nodup_iff_pairwise_ne, List.pairwise_map]
    refine List.Pairwise.imp_of_mem ?_ (List.pairwise_lt_range (n := n + 1))
    intro a b ha hb hab
    exact hinj a b hab (by have := List.mem_range.1 hb; omega)
  have := nodup_len n _ hnd (fun x hx => by
    obtain ⟨t, ht, rfl⟩ := List.mem_map.1 hx
    exact h t (by have := List.mem_range.1 ht; omega))
  simp at this
  omega
theorem climbs {nodes : List Nd} (hu : UpsIn nodes) (hl : ∀ i < nodes.length, ckLoop nodes i = 0) {i : Int} (hi : 0 ≤ i ∧ i < nodes.length) : ∃ t ≤ nodes.length, iterF nodes t i < 0 := by
  refine Classical.byContradiction fun hno => ?_
  have hpos : ∀ t ≤ nodes.length, 0 ≤ iterF nodes t i := fun t ht => by
    have : ¬ iterF nodes t i < 0 := fun h => hno ⟨t, ht, h⟩
    omega
  have hrange : ∀ t ≤ nodes.length, 0 ≤ iterF nodes t i ∧ iterF nodes t i < nodes.length := by
    intro t
    induction t with
    | zero => intro _; exact hi
    | succ t ih =>
      intro ht
      have h1 := ih (by omega)
      refine ⟨hpos _ ht, ?_⟩
      rw [iterF_add]
      exact (hu.eq _ (by omega)).2
  obtain ⟨a, b, h1, h2, h3⟩ := dup_of_long nodes.length (fun t => iterF nodes t i) hrange
  obtain ⟨m, rfl⟩ : ∃ m, b = a + (m + 1) := ⟨b - a - 1, by omega⟩
  rw [iterF_add] at h3
  have ha := hrange a (by omega)
  have hc := chase_of nodes (iterF nodes a i) nodes.length m (upF nodes (iterF nodes a i)) (by omega) h3.symm (fun t ht => by
    have := hpos (a + (t + 1)) (by omega)
    rw [iterF_add] at this; exact this)
  have hk := hl (iterF nodes a i).toNat (by omega)
  unfold ckLoop at hk
  rw [show (((iterF nodes a i).toNat : Nat) : Int) = iterF nodes a i by omega] at hk
  unfold upF at hc
  rw [if_pos hc] at hk
  cases hk
def dep (nodes : List Nd) : Nat → Int → Nat
  | 0, _ => 0
  | f + 1, k => if k < 0 then 0 else dep nodes f (upF nodes k) + 1
theorem dep_iter (nodes : List Nd) : ∀ (t f : Nat) (k : Int), iterF nodes t k < 0 → t ≤ f → dep nodes f k ≤ t ∧ ∀ g, t ≤ g → dep nodes g k = dep nodes f k
  | 0, f, k, h, hf => by
    simp only [iterF] at h
    have h0 : ∀ g, dep nodes g k = 0 := fun g => by cases g <;> simp [dep, h]
    exact ⟨by rw [h0]; omega, fun g _ => by rw [h0, h0]⟩
  | t + 1, f, k, h, hf => by
    obtain ⟨f, rfl⟩ : ∃ f', f = f' + 1 := ⟨f - 1, by omega⟩
    obtain ⟨h1, h2⟩ := dep_iter nodes t f (upF nodes k) h (by omega)
    refine ⟨by unfold dep; split <;> omega, fun g hg => ?_⟩
    obtain ⟨g, rfl⟩ : ∃ g', g = g' + 1 := ⟨g - 1, by omega⟩
    unfold dep
    split
    · rfl
    · rw [h2 g (by omega)]
theorem acyc_of {nodes : List Nd} (hn : nodes.length ≤ 32) (hu : UpsIn nodes) (hl : ∀ i < nodes.length, ckLoop nodes i = 0) : Acyc nodes := ⟨dep nodes 33, fun i h0 h1 => by
  obtain ⟨t, ht, hneg⟩ := climbs hu hl ⟨h0, h1⟩
  obtain ⟨h2, h3⟩ := dep_iter nodes t 33 i hneg (by omega)
  refine ⟨?_, by omega⟩
  cases t with
  | zero => simp only [iterF] at hneg; omega
  | succ t =>
    have h4 := dep_iter nodes t 33 (upF nodes i) hneg (by omega)
    have h5 := h4.2 32 (by omega)
    have : dep nodes 33 i = if i < 0 then 0 else dep nodes 32 (upF nodes i) + 1 := rfl
    rw [if_neg (by omega)] at this
    rw [this, h5]
    exact Nat.lt_succ_self _⟩
theorem upsIn_of {nodes : List Nd} (h : ∀ i < nodes.length, ckRange nodes i = 0) : UpsIn nodes := ⟨fun i hi => by
  have := h i hi
  unfold ckRange at this
  split at this
  · cases this
  · omega⟩

/-- Those just below one, among the first n. -/
def kidsTo (nodes : List Nd) (n : Nat) (i : Nat) : List Int := ((List.range n).filter (fun j => decide ((nodes[j]!).up = (i : Int)))).map (fun (j : Nat) => (j : Int))
def kidsOf (nodes : List Nd) : List (List Int) := (List.range nodes.length).map (kidsTo nodes nodes.length)
theorem kidsOf_len (nodes : List Nd) : (kidsOf nodes).length = nodes.length := by simp [kidsOf]
theorem kidsOf_get {nodes : List Nd} {i : Nat} (h : i < nodes.length) : (kidsOf nodes)[i]! = kidsTo nodes nodes.length i := by
  rw [getElem!_pos _ i (by rw [kidsOf_len]; exact h)]; simp [kidsOf]
theorem kidsTo_succ (nodes : List Nd) (n i : Nat) : kidsTo nodes (n + 1) i = if (nodes[n]!).up = (i : Int) then kidsTo nodes n i ++ [(n : Int)] else kidsTo nodes n i := by
  unfold kidsTo
  rw [List.range_succ, List.filter_append]
  by_cases hn : (nodes[n]!).up = (i : Int) <;> simp only [List.filter_cons, hn, decide_true, decide_false, if_true, if_false, List.filter_nil, List.map_append, List.map_cons, List.map_nil, List.append_nil, Bool.false_eq_true]
theorem mem_kidsTo {nodes : List Nd} {n i : Nat} {k : Int} : k ∈ kidsTo nodes n i ↔ 0 ≤ k ∧ k < n ∧ upF nodes k = i := by
  unfold kidsTo upF
  rw [List.mem_map]
  constructor
  · rintro ⟨j, hj, rfl⟩
    rw [List.mem_filter, List.mem_range] at hj
    simp only [decide_eq_true_eq] at hj
    simp only [Int.toNat_natCast]
    exact ⟨by omega, by omega, hj.2⟩
  · rintro ⟨h1, h2, h3⟩
    refine ⟨k.toNat, ?_, by omega⟩
    rw [List.mem_filter, List.mem_range]
    exact ⟨by omega, by simpa using h3⟩
theorem cast_inj : ∀ a b : Nat, ((a : Nat) : Int) = b → a = b := fun a b h => by omega
theorem nodup_cast {l : List Nat} (h : l.Nodup) : (l.map (fun (j : Nat) => (j : Int))).Nodup := by
  rw [List.nodup_iff_pairwise_ne, List.pairwise_map]
  exact List.Pairwise.imp (fun hab he => hab (cast_inj _ _ he)) (List.nodup_iff_pairwise_ne.1 h)
theorem kidsTo_nodup (nodes : List Nd) (n i : Nat) : (kidsTo nodes n i).Nodup := nodup_cast ((List.nodup_range).filter _)
theorem rootsTo_nodup (nodes : List Nd) (n : Nat) : (rootsTo nodes n).Nodup := nodup_cast ((List.nodup_range).filter _)
theorem mem_rootsTo {nodes : List Nd} {n : Nat} {k : Int} : k ∈ rootsTo nodes n ↔ 0 ≤ k ∧ k < n ∧ upF nodes k < 0 := by
  unfold rootsTo upF
  rw [List.mem_map]
  constructor
  · rintro ⟨j, hj, rfl⟩
    rw [List.mem_filter, List.mem_range] at hj
    simp only [decide_eq_true_eq] at hj
    simp only [Int.toNat_natCast]
    exact ⟨by omega, by omega, hj.2⟩
  · rintro ⟨h1, h2, h3⟩
    refine ⟨k.toNat, ?_, by omega⟩
    rw [List.mem_filter, List.mem_range]
    exact ⟨by omega, by simpa using h3⟩
theorem count_one : ∀ {l : List Int} (h : l.Nodup) (k : Int), l.count k = if k ∈ l then 1 else 0
  | [], _, k => by simp
  | x :: l, h, k => by
    have h' := List.nodup_cons.1 h
    rw [List.count_cons, count_one h'.2]
    by_cases e : x = k
    · subst e; simp [h'.1]
    · have : ¬ k = x := fun he => e he.symm
      simp [e, this]

/-! ### Counts -/
theorem sum_zero {α : Type} {g : α → Nat} : ∀ (l : List α), (∀ x ∈ l, g x = 0) → (l.map g).sum = 0
  | [], _ => rfl
  | x :: l, h => by rw [List.map_cons, List.sum_cons, h x (by simp), sum_zero l (fun y hy => h y (by simp [hy]))]
theorem sum_add {α : Type} {f g k : α → Nat} : ∀ (l : List α), (∀ x ∈ l, f x = g x + k x) → (l.map f).sum = (l.map g).sum + (l.map k).sum
  | [], _ => rfl
  | x :: l, h => by
    simp only [List.map_cons, List.sum_cons]
    rw [h x (by simp), sum_add l (fun y hy => h y (by simp [hy]))]; omega
theorem sum_ind (j : Int) : ∀ (l : List Int), (l.map (fun k => if j = k then 1 else 0)).sum = l.count j
  | [] => rfl
  | x :: l => by
    rw [List.map_cons, List.sum_cons, sum_ind j l, List.count_cons]
    by_cases e : x = j
    · subst e; simp; omega
    · have : ¬ j = x := fun h => e h.symm
      simp [e, this]
section
variable {nodes : List Nd} [ha : Acyc nodes]
theorem above_ind {p : Int → Prop} (h0 : ∀ j : Int, ¬ (0 ≤ j ∧ j < nodes.length) → p j) (h1 : ∀ j : Int, 0 ≤ j ∧ j < nodes.length → p (upF nodes j) → p j) (j : Int) : p j := by
  obtain ⟨d, hd⟩ := ha.eq
  have : ∀ n j, d j < n → p j := by
    intro n
    induction n with
    | zero => intro j h; omega
    | succ n ih =>
      intro j h
      by_cases hj : 0 ≤ j ∧ j < nodes.length
      · have := hd j hj.1 hj.2
        exact h1 j hj (ih _ (by unfold upF; omega))
      · exact h0 j hj
  exact this _ j (Nat.lt_succ_self _)
theorem above_count {j i : Int} (hj : 0 ≤ j ∧ j < nodes.length) : (above nodes j).count i = (above nodes (upF nodes j)).count i + if j = i then 1 else 0 := by
  rw [above_step hj, List.count_cons]
  simp only [beq_iff_eq]; rfl
omit ha in
theorem count_kids {i j : Int} (hi : 0 ≤ i ∧ i < nodes.length) (hj : 0 ≤ j ∧ j < nodes.length) : (kidsTo nodes nodes.length i.toNat).count j = if upF nodes j = i then 1 else 0 := by
  rw [count_one (kidsTo_nodup _ _ _)]
  have : (j ∈ kidsTo nodes nodes.length i.toNat) ↔ upF nodes j = i := by rw [mem_kidsTo]; constructor <;> intro h <;> omega
  simp [this]
theorem count_split {i : Int} (hi : 0 ≤ i ∧ i < nodes.length) : ∀ j : Int, (above nodes j).count i = (if j = i then 1 else 0) + ((kidsTo nodes nodes.length i.toNat).map (fun k => (above nodes j).count k)).sum := by
  refine above_ind (nodes := nodes) (fun j hj => ?_) (fun j hj ih => ?_)
  · have hne : ¬ j = i := fun e => hj (by rw [e]; exact hi)
    rw [above_no hj, if_neg hne, sum_zero _ (fun _ _ => by simp)]; simp
  · rw [above_count hj, ih]
    rw [sum_add (g := fun k => (above nodes (upF nodes j)).count k) (k := fun k => if j = k then 1 else 0) _ (fun k _ => above_count hj), sum_ind, count_kids hi hj]
    omega
theorem pre_count {r : Int → Nat} (hr : ∀ i : Int, 0 ≤ i → i < nodes.length → ∀ k ∈ (kidsOf nodes)[i.toNat]!, 0 ≤ k ∧ k < nodes.length ∧ r k < r i) : ∀ (f : Nat) (i : Int), 0 ≤ i ∧ i < nodes.length → r i < f → ∀ j, (pre (kidsOf nodes) f i).count j = (above nodes j).count i
  | 0, _, _, h, _ => by omega
  | f + 1, i, hi, hf, j => by
    rw [count_split hi j]
    unfold pre
    rw [List.count_cons, List.count_flatMap]
    have hk : (kidsOf nodes)[i.toNat]! = kidsTo nodes nodes.length i.toNat := kidsOf_get (by omega)
    have hkr := hr i hi.1 hi.2
    rw [hk] at hkr
    rw [hk]
    have : (kidsTo nodes nodes.length i.toNat).map (List.count j ∘ pre (kidsOf nodes) f) = (kidsTo nodes nodes.length i.toNat).map (fun k => (above nodes j).count k) := by
      refine List.map_congr_left fun k hk => ?_
      have := hkr k hk
      exact pre_count hr f k ⟨this.1, this.2.1⟩ (by omega) j
    rw [this]
    have : (i == j) = decide (j = i) := by
      by_cases e : i = j
      · subst e; simp
      · have : ¬ j = i := fun h => e h.symm
        simp [e, this]
    rw [this]
    by_cases e : j = i <;> simp [e] <;> omega
theorem roots_count (hu : UpsIn nodes) : ∀ j : Int, 0 ≤ j ∧ j < nodes.length → ((rootsTo nodes nodes.length).map (fun k => (above nodes j).count k)).sum = 1 := by
  refine above_ind (nodes := nodes) (fun j hj h => absurd h hj) (fun j hj ih _ => ?_)
  rw [sum_add (g := fun k => (above nodes (upF nodes j)).count k) (k := fun k => if j = k then 1 else 0) _ (fun k _ => above_count hj), sum_ind, count_one (rootsTo_nodup _ _)]
  have hm : (j ∈ rootsTo nodes nodes.length) ↔ upF nodes j < 0 := by rw [mem_rootsTo]; constructor <;> intro h <;> omega
  simp only [hm]
  by_cases hun : upF nodes j < 0
  · rw [if_pos hun, sum_zero _ (fun k _ => by rw [above_no (by omega)]; rfl)]
  · rw [if_neg hun]
    by_cases h2 : upF nodes j < nodes.length
    · rw [ih ⟨by omega, h2⟩]
    · exfalso
      have := (hu.eq j.toNat (by omega)).2
      unfold upF at h2; omega
end
end Go.Sl

/-
  A tree that is made.
-/
namespace Go.Sl
open Go.Proofs
set_option linter.unusedVariables false
set_option linter.unusedSimpArgs false
set_option maxRecDepth 10000
set_option synthInstance.maxSize 2000
set_option synthInstance.maxHeartbeats 200000
set_option maxHeartbeats 1000000
/-! ### The order -/
def orderF (nodes : List Nd) : List Int := (rootsTo nodes nodes.length).flatMap (pre (kidsOf nodes) 40)
theorem kids_wf {nodes : List Nd} (ha : Acyc nodes) : ∃ r : Int → Nat, (∀ i, r i < 40) ∧ ∀ i : Int, 0 ≤ i → i < (kidsOf nodes).length → ∀ k ∈ (kidsOf nodes)[i.toNat]!, 0 ≤ k ∧ k < (kidsOf nodes).length ∧ r k < r i := by
  obtain ⟨d, hd⟩ := ha.eq
  refine ⟨fun i => 33 - d i, fun i => by show 33 - d i < 40; omega, fun i h0 h1 k hk => ?_⟩
  rw [kidsOf_len] at h1 ⊢
  rw [kidsOf_get (by omega), mem_kidsTo] at hk
  obtain ⟨h2, h3, h4⟩ := hk
  have := hd k h2 h3
  unfold upF at h4
  rw [h4, show ((i.toNat : Nat) : Int) = i by omega] at this
  refine ⟨h2, h3, ?_⟩
  show 33 - d k < 33 - d i
  omega
theorem order_count {nodes : List Nd} (ha : Acyc nodes) (hu : UpsIn nodes) (j : Int) : (orderF nodes).count j = if 0 ≤ j ∧ j < nodes.length then 1 else 0 := by
  obtain ⟨r, h40, hr⟩ := kids_wf ha
  rw [kidsOf_len] at hr
  unfold orderF
  rw [List.count_flatMap]
  have : (rootsTo nodes nodes.length).map (List.count j ∘ pre (kidsOf nodes) 40) = (rootsTo nodes nodes.length).map (fun k => (above nodes j).count k) := by
    refine List.map_congr_left fun k hk => ?_
    rw [mem_rootsTo] at hk
    exact pre_count hr 40 k ⟨hk.1, hk.2.1⟩ (h40 k) j
  rw [this]
  split
  · rename_i hj; exact roots_count hu j hj
  · rename_i hj; exact sum_zero _ fun k _ => by rw [above_no hj]; rfl
theorem order_nodup {nodes : List Nd} (ha : Acyc nodes) (hu : UpsIn nodes) : (orderF nodes).Nodup := by
  rw [List.nodup_iff_count]
  intro j; rw [order_count ha hu]; split <;> omega
theorem order_mem {nodes : List Nd} (ha : Acyc nodes) (hu : UpsIn nodes) (j : Int) : j ∈ orderF nodes ↔ 0 ≤ j ∧ j < nodes.length := by
  rw [← List.count_pos_iff, order_count ha hu]; split <;> simp [*]
theorem order_len {nodes : List Nd} (ha : Acyc nodes) (hu : UpsIn nodes) : (orderF nodes).length ≤ nodes.length :=
  nodup_len _ _ (order_nodup ha hu) fun x hx => (order_mem ha hu x).1 hx

/-! ### What is wrong first -/
def firstBad (ck : Nat → Int) (n : Nat) : Option (Nat × Int) := (List.range n).findSome? fun i => if ck i ≠ 0 then some (i, ck i) else none
def treeErr (nodes : List Nd) : Option (Nat × Int) :=
  if nodes.length = 0 ∨ 32 < nodes.length then some (0, 5) else (List.range 5).findSome? fun s => firstBad (ckStep nodes s) nodes.length
theorem findSome_first {α : Type} {f : Nat → Option α} : ∀ {n i : Nat} {y : α}, i < n → (∀ j < i, f j = none) → f i = some y → (List.range n).findSome? f = some y
  | 0, _, _, h, _, _ => by omega
  | n + 1, i, y, h, h0, h1 => by
    rw [List.range_succ, List.findSome?_append]
    rcases Nat.lt_or_ge i n with h2 | h2
    · rw [findSome_first h2 h0 h1]; rfl
    · have : i = n := by omega
      subst this
      have : (List.range i).findSome? f = none := by
        rw [List.findSome?_eq_none_iff]; intro x hx; exact h0 x (List.mem_range.1 hx)
      rw [this]; simp [h1]
theorem findSome_none {α : Type} {f : Nat → Option α} {n : Nat} (h : ∀ j < n, f j = none) : (List.range n).findSome? f = none := by
  rw [List.findSome?_eq_none_iff]; intro x hx; exact h x (List.mem_range.1 hx)
theorem firstBad_none {ck : Nat → Int} {n : Nat} (h : ∀ i < n, ck i = 0) : firstBad ck n = none := findSome_none fun j hj => by simp [h j hj]
theorem firstBad_some {ck : Nat → Int} {n i : Nat} (hi : i < n) (h : ∀ j < i, ck j = 0) (hb : ck i ≠ 0) : firstBad ck n = some (i, ck i) := findSome_first hi (fun j hj => by simp [h j hj]) (by simp [hb])
theorem treeErr_some {nodes : List Nd} (hn : ¬ (nodes.length = 0 ∨ 32 < nodes.length)) {s i : Nat} (hs : s < 5) (hi : i < nodes.length) (h0 : ∀ s' < s, ∀ j < nodes.length, ckStep nodes s' j = 0) (h1 : ∀ j < i, ckStep nodes s j = 0) (hb : ckStep nodes s i ≠ 0) : treeErr nodes = some (i, ckStep nodes s i) := by
  unfold treeErr; rw [if_neg hn]
  exact findSome_first hs (fun s' hs' => firstBad_none (h0 s' hs')) (firstBad_some hi h1 hb)
theorem treeErr_none {nodes : List Nd} (hn : ¬ (nodes.length = 0 ∨ 32 < nodes.length)) (h0 : ∀ s' < 5, ∀ j < nodes.length, ckStep nodes s' j = 0) : treeErr nodes = none := by
  unfold treeErr; rw [if_neg hn]
  exact findSome_none fun s hs => firstBad_none (h0 s hs)

/-! ### Kids -/
abbrev KS := Option Addr × Nat × List Int
@[reducible] def encK (x : KS) : List Value := [.slice x.1 x.2.2.length x.2.1]
def inn (x : KS) : HP := slo encI 1 (.slice x.1 x.2.2.length x.2.1) x.2.2
instance : EncOne encK := ⟨fun y u hu => by simp at hu; subst hu; rfl⟩
theorem perm_out {α : Type} : ∀ {l : List α} {j : Nat} (hj : j < l.length), l.Perm (l[j] :: l.eraseIdx j)
  | [], _, h => by simp at h
  | x :: l, 0, _ => .refl _
  | x :: l, j + 1, h => (List.Perm.cons x (perm_out (l := l) (j := j) (by simpa using h))).trans (.swap _ _ _)
theorem inns_out {ks : List KS} {j : Nat} (hj : j < ks.length) : (ks.map inn).Perm (inn (ks[j]!) :: (ks.eraseIdx j).map inn) := by
  have : ks.Perm (ks[j]! :: ks.eraseIdx j) := by
    rw [getElem!_pos ks j hj]
    exact perm_out hj
  exact (this.map inn)
theorem inns_in {ks : List KS} {j : Nat} {y : KS} (hj : j < ks.length) : (inn y :: (ks.eraseIdx j).map inn).Perm ((ks.set j y).map inn) := by
  have h1 := inns_out (ks := ks.set j y) (j := j) (by simpa using hj)
  rw [getElem!_pos _ j (by simpa using hj)] at h1
  simp only [List.getElem_set_self, List.eraseIdx_set_eq] at h1
  exact h1.symm
theorem inns_out' {ks : List KS} {j : Nat} (T : List HP) (hj : j < ks.length) : (ks.map inn ++ T).Perm (slo encI 1 (.slice (ks[j]!).1 (ks[j]!).2.2.length (ks[j]!).2.1) (ks[j]!).2.2 :: ((ks.eraseIdx j).map inn ++ T)) := (inns_out hj).append_right T
theorem inns_in' {ks : List KS} {j : Nat} {a : Option Addr} {c : Nat} {l : List Int} (T : List HP) (hj : j < ks.length) : (slo encI 1 (.slice a l.length c) l :: ((ks.eraseIdx j).map inn ++ T)).Perm ((ks.set j (a, c, l)).map inn ++ T) := (inns_in (y := (a, c, l)) hj).append_right T
theorem perm4 {A : List HP} {x y z u : HP} {T : List HP} : (A ++ (x :: y :: z :: u :: T)).Perm (x :: y :: z :: u :: (A ++ T)) := List.perm_append_comm_assoc A [x, y, z, u] T
theorem Sub.perm {L V V' : List HP} (s : Sub L V) (p : V.Perm V') : Sub L V' := ⟨by
  obtain ⟨Z, hz⟩ := s.eq
  exact ⟨Z, hz.trans (p.append_right Z)⟩⟩
section
variable {P : Program} {N : NN} {k : List It} {Q : Post} {e : Env} {h : PHeap} {L : List HP}
theorem G_inns {c : Code} : ∀ (n : Nat), G P N c k Q e h ((List.replicate n ((none, 0, []) : KS)).map inn ++ L) → G P N c k Q e h L
  | 0, g => g
  | n + 1, g => by
    refine G_inns n ?_
    refine G_nil encI 1 none ?_
    exact g
theorem X_freezeAll {x : Exit} : ∀ {ks : List KS} {h : PHeap} {L : List HP}, (∀ h', Le h h' → (∀ y ∈ ks, FSl h' (.slice y.1 y.2.2.length y.2.1) encI 1 y.2.2) → X P N x k Q e h' L) → X P N x k Q e h (ks.map inn ++ L)
  | [], h, L, g => g h ⟨Hle.refl h⟩ (fun _ hy => by cases hy)
  | y :: ks, h, L, g => by
    refine X_freeze (x := inn y) ⟨.refl _⟩ fun h1 hl1 f1 => ?_
    refine X_freezeAll fun h2 hl2 f2 => ?_
    refine g h2 ⟨hl1.trans hl2.le⟩ fun z hz => ?_
    rcases List.mem_cons.1 hz with rfl | hz
    · exact FSl.mono hl2.le f1.slo
    · exact f2 z hz
theorem G_freezeAll {c : Code} : ∀ {ks : List KS} {h : PHeap} {L : List HP}, (∀ h', Le h h' → (∀ y ∈ ks, FSl h' (.slice y.1 y.2.2.length y.2.1) encI 1 y.2.2) → G P N c k Q e h' L) → G P N c k Q e h (ks.map inn ++ L)
  | [], h, L, g => g h ⟨Hle.refl h⟩ (fun _ hy => by cases hy)
  | y :: ks, h, L, g => by
    refine G_freeze (x := inn y) ⟨.refl _⟩ fun h1 hl1 f1 => ?_
    refine G_freezeAll fun h2 hl2 f2 => ?_
    refine g h2 ⟨hl1.trans hl2.le⟩ fun z hz => ?_
    rcases List.mem_cons.1 hz with rfl | hz
    · exact FSl.mono hl2.le f1.slo
    · exact f2 z hz
end
/-- The same cells, read otherwise. -/
theorem FSl.as {α β : Type} {h : PHeap} {v : Value} {enc : α → List Value} {enc' : β → List Value} {n : Nat} {xs : List α} (f : FSl h v enc n xs) (g : α → β) (hg : ∀ x, enc' (g x) = enc x) : FSl h v enc' n (xs.map g) := ⟨by
  obtain ⟨bs, ⟨h1, h2⟩, hb⟩ := f.fz
  have hf : (xs.map g).flatMap enc' = xs.flatMap enc := by
    rw [List.flatMap_map]; exact congrArg (fun f => List.flatMap f xs) (funext hg)
  refine ⟨bs, ⟨fun y hy => ?_, ?_⟩, hb⟩
  · obtain ⟨x, hx, rfl⟩ := List.mem_map.1 hy
    rw [hg]; exact h1 x hx
  · rcases h2 with ⟨ha, rfl, rfl⟩ | ⟨b, off, cap, pre, post, T, fr, rfl, hp, hcap, rfl⟩
    · exact .inl ⟨ha, rfl, rfl⟩
    · exact .inr ⟨b, off, cap, pre, post, T, fr, by rw [List.length_map], hp, by rw [List.length_map]; exact hcap, by rw [hf]⟩⟩
def mkTree (nodes : List Nd) : Tr :=
  let w := finalW (kidsOf nodes) nodes 40 (List.replicate nodes.length ⟨0, 0⟩) nodes.length
  ⟨nodes, kidsOf nodes, w.order, w.leaves, w.spans⟩
end Go.Sl
