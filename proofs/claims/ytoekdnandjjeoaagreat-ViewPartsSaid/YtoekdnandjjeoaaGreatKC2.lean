/-
  Facts that the proof is made of (C2).
-/
import Derived.Test.YtoekdnandjjeoaaGreatKC1
/-
  All places that have one of each list: the iterator.
-/
namespace Go.Sl
open Go.Proofs
set_option linter.unusedVariables false
set_option linter.unusedSimpArgs false
set_option maxRecDepth 10000
set_option synthInstance.maxSize 2000
set_option synthInstance.maxHeartbeats 200000
set_option maxHeartbeats 1000000
/-- The tuples that are still to come. -/
def combF (ls : List (List Int)) : Nat → Nat → (Nat → Int) → List (Nat → Int)
  | 0, _, l => [l]
  | r + 1, at_, l => (ls[at_]!).flatMap fun x => combF ls r (at_ + 1) (fun j => if at_ = j then x else l j)
def cntF (ls : List (List Int)) : Nat → Nat → Nat
  | 0, _ => 1
  | r + 1, a => (ls[a]!).length * cntF ls r (a + 1)
theorem combF_len (ls : List (List Int)) : ∀ (r a : Nat) (l : Nat → Int), (combF ls r a l).length = cntF ls r a
  | 0, _, _ => rfl
  | r + 1, a, l => by
    simp only [combF, cntF]
    have : ∀ xs : List Int, (xs.flatMap fun x => combF ls r (a + 1) (fun j => if a = j then x else l j)).length = xs.length * cntF ls r (a + 1) := by
      intro xs
      induction xs with
      | nil => simp
      | cons x xs ih => rw [List.flatMap_cons, List.length_append, combF_len ls r, ih, List.length_cons, Nat.add_mul]; omega
    exact this _
theorem comb_flat_len (ls : List (List Int)) (r a : Nat) (l : Nat → Int) : ∀ xs : List Int, (xs.flatMap fun x => combF ls r (a + 1) (fun j => if a = j then x else l j)).length = xs.length * cntF ls r (a + 1)
  | [] => by simp
  | x :: xs => by rw [List.flatMap_cons, List.length_append, combF_len ls r, comb_flat_len ls r a l xs, List.length_cons, Nat.add_mul]; omega
theorem YSpec.frame {P : Program} {l : Nat} {vs : List Value} {h : PHeap} {Lp L' M : List HP} {v : Value} (s : YSpec P l vs h Lp (fun K => K v h L')) : YSpec P l vs h (Lp ++ M) (fun K => K v h (L' ++ M)) := by
  intro K R w hT st
  obtain ⟨r, h1, h2, h3⟩ := s (fun v h' L'' => K v h' (L'' ++ M)) (M ++ R) w hT (by rw [← List.append_assoc]; exact st)
  refine ⟨r, h1, h2, h3.mono fun e w' hf => ?_⟩
  obtain ⟨v, h', L2, e1, e2, e3, e4⟩ := hf
  exact ⟨v, h', _, e1, e2, e3, by rw [List.append_assoc]; exact e4⟩
theorem Spec.frame {P : Program} {f : FuncId} {vs : List Value} {h : PHeap} {Lp L' M : List HP} {v : Value} (s : Spec P f vs h Lp (fun K => K v h L')) : Spec P f vs h (Lp ++ M) (fun K => K v h (L' ++ M)) := by
  intro K R w hT st
  refine (s (fun v h' L'' => K v h' (L'' ++ M)) (M ++ R) w hT (by rw [← List.append_assoc]; exact st)).mono fun e w' hf => ?_
  obtain ⟨v, h', L2, e1, e2, e3, e4⟩ := hf
  exact ⟨v, h', _, e1, e2, e3, by rw [List.append_assoc]; exact e4⟩
class PickJ {X : Type} (J : List X → List HP) (L : List HP) (pre : outParam (List X)) (M : outParam (List HP)) : Prop where
  eq : L.Perm (J pre ++ M)
instance {X : Type} {J : List X → List HP} {pre : List X} {R : List HP} : PickJ J (J pre ++ R) pre R := ⟨.refl _⟩
instance (priority := low) {X : Type} {J : List X → List HP} {pre : List X} {L M : List HP} {x : HP} [p : PickJ J L pre M] : PickJ J (x :: L) pre (x :: M) := ⟨(List.Perm.cons x p.eq).trans List.perm_middle.symm⟩
instance (priority := low) {X : Type} {J : List X → List HP} {pre : List X} {L R : List HP} [t : TailOf L R] : TailOf (J pre ++ L) R := ⟨J pre ++ t.eq.choose, by
  refine (List.Perm.append_left (J pre) t.eq.choose_spec).trans ?_
  rw [← List.append_assoc, ← List.append_assoc]
  exact List.Perm.append_right _ List.perm_append_comm⟩
instance subR_appT {A L R : List HP} [t : TailOf L R] : SubR (A ++ L) A R := ⟨t.eq.choose, List.Perm.append_left A t.eq.choose_spec⟩
section
variable {h : PHeap} {ls : List (List Int)}
theorem every_put {J : List (Nat → Int) → List HP} {ly lb yb pb : Nat} {lv : Value} {lvs : List Value} {t1 t2 t3 : TypeId} {f1 f2 f3 : Nat × Nat} [hl : Pt h lb (.cells [lv].toArray t1 f1)] [hy : Pt h yb (.cells [.func (.yield ly) #[] #[]].toArray t2 f2)]
    [hp : Pt h pb (.cells [.func (.func 145) #[] [.pointer (some ⟨lb, 0, none⟩), .pointer (some ⟨yb, 0, none⟩), .pointer (some ⟨pb, 0, none⟩)].toArray].toArray t3 f3)] [hv : FSl h lv encV 1 lvs] (hlen : lvs.length = ls.length) (h4 : ls.length ≤ 4)
    (hls : ∀ i < ls.length, FSl h (lvs[i]!) encI 1 (ls[i]!) ∧ (ls[i]!).length ≤ 4294967296)
    {B : Nat} (hY : ∀ pre (l : Nat → Int), (∀ k < ls.length, l k ∈ ls[k]!) → pre.length < B → YSpec Tryz.prog ly [.agg [vI (l 0), vI (l 1), vI (l 2), vI (l 3)].toArray] h (J pre) (fun K => K (.bool true) h (J (pre ++ [l])))) :
    ∀ (r a : Nat) (l : Nat → Int) (pre : List (Nat → Int)), a + r = ls.length → (∀ k < a, l k ∈ ls[k]!) → pre.length + cntF ls r a ≤ B → Spec Tryz.prog 145 [vI a, .agg [vI (l 0), vI (l 1), vI (l 2), vI (l 3)].toArray, .pointer (some ⟨lb, 0, none⟩), .pointer (some ⟨yb, 0, none⟩), .pointer (some ⟨pb, 0, none⟩)] h (J pre) (fun K => K (.bool true) h (J (pre ++ combF ls r a l))) := by
  intro r
  haveI hYc : ∀ {L M : List HP} {pre : List (Nat → Int)} {l : Nat → Int} [PickJ J L pre M], CallY Tryz.prog ly [.agg [vI (l 0), vI (l 1), vI (l 2), vI (l 3)].toArray] h L ((∀ k < ls.length, l k ∈ ls[k]!) ∧ pre.length < B) [] (fun K => K (.bool true) h (J (pre ++ [l]) ++ M)) := by
    intro L M pre l p
    exact ⟨fun hg => ⟨J pre ++ M, by rw [List.append_nil]; exact p.eq, (hY pre l hg.1 hg.2).frame⟩⟩
  induction r with
  | zero =>
    intro a l pre ha hg hB
    simp only [cntF] at hB
    refine spec_enter Tryz.func145 rfl Tryz.ntmps145 Tryz.results145 (by simp) fun K R hT => ?_
    simp only [combF] at hT
    repeat (first | refine Step.imp ?_ | refine Side.mk (by first | exact True.intro | omega | exact ⟨trivial, rfl⟩ | exact ⟨by omega, trivial, rfl⟩ | exact ⟨by omega, rfl⟩ | exact ⟨by omega, by omega, rfl⟩ | (simp only [List.length_cons, List.length_nil, List.length_append]; done) | (simp only [List.length_cons, List.length_nil, List.length_append]; omega) | decide +kernel) ?_ | refine GDraw_one (by decide +kernel) ?_ | refine New.mk fun _ => ?_ | refine NewS.mk fun _ _ => ?_)
    refine ⟨fun _ => ?_, fun hne => absurd (by omega) hne⟩
    repeat (first | refine Step.imp ?_ | refine Side.mk (by first | exact True.intro | omega | exact ⟨trivial, rfl⟩ | exact ⟨by omega, trivial, rfl⟩ | exact ⟨by omega, rfl⟩ | exact ⟨by omega, by omega, rfl⟩ | (simp only [List.length_cons, List.length_nil, List.length_append]; done) | (simp only [List.length_cons, List.length_nil, List.length_append]; omega) | decide +kernel) ?_ | refine GDraw_one (by decide +kernel) ?_ | refine New.mk fun _ => ?_ | refine NewS.mk fun _ _ => ?_)
    refine Side.mk ⟨fun k hk => hg k (by omega), by omega⟩ ?_
    repeat (first | refine Step.imp ?_ | refine Side.mk (by first | exact True.intro | omega | exact ⟨trivial, rfl⟩ | exact ⟨by omega, trivial, rfl⟩ | exact ⟨by omega, rfl⟩ | exact ⟨by omega, by omega, rfl⟩ | (simp only [List.length_cons, List.length_nil, List.length_append]; done) | (simp only [List.length_cons, List.length_nil, List.length_append]; omega) | decide +kernel) ?_ | refine GDraw_one (by decide +kernel) ?_ | refine New.mk fun _ => ?_ | refine NewS.mk fun _ _ => ?_)
    exact Fin.val hT rfl (Hle.refl _)
  | succ r ih =>
    intro a l pre ha hg hB
    simp only [cntF] at hB
    have hla := hls a (by omega)
    have hl1 := hla.1
    refine spec_enter Tryz.func145 rfl Tryz.ntmps145 Tryz.results145 (by simp) fun K R hT => ?_
    simp only [combF] at hT
    repeat (first | refine Step.imp ?_ | refine Side.mk (by first | exact True.intro | omega | exact ⟨trivial, rfl⟩ | exact ⟨by omega, trivial, rfl⟩ | exact ⟨by omega, rfl⟩ | exact ⟨by omega, by omega, rfl⟩ | (simp only [List.length_cons, List.length_nil, List.length_append]; done) | (simp only [List.length_cons, List.length_nil, List.length_append]; omega) | decide +kernel) ?_ | refine GDraw_one (by decide +kernel) ?_ | refine New.mk fun _ => ?_ | refine NewS.mk fun _ _ => ?_)
    refine ⟨fun he => absurd he (by omega), fun _ => ?_⟩
    repeat (first | refine Step.imp ?_ | refine Side.mk (by first | exact True.intro | omega | exact ⟨trivial, rfl⟩ | exact ⟨by omega, trivial, rfl⟩ | exact ⟨by omega, rfl⟩ | exact ⟨by omega, by omega, rfl⟩ | (simp only [List.length_cons, List.length_nil, List.length_append]; done) | (simp only [List.length_cons, List.length_nil, List.length_append]; omega) | decide +kernel) ?_ | refine GDraw_one (by decide +kernel) ?_ | refine New.mk fun _ => ?_ | refine NewS.mk fun _ _ => ?_)
    rename_i xb _
    refine G_loop (σ := Nat × (Nat → Int)) (fun s => s.1 ≤ (ls[a]!).length ∧ ∀ j, j ≠ a → s.2 j = l j) (fun s => (ls[a]!).length - s.1)
      (fun s => [(22, vI s.1), (21, vI (ls[a]!).length), (20, lvs[a]!), (0, vI a), (2, .pointer (some ⟨lb, 0, none⟩)), (3, .pointer (some ⟨yb, 0, none⟩)), (4, .pointer (some ⟨pb, 0, none⟩)), (6, .pointer (some ⟨xb, 0, none⟩))]) (fun _ => h)
      (fun s => blk xb (.cells [vI (s.2 0), vI (s.2 1), vI (s.2 2), vI (s.2 3)].toArray 113 (0, 0)) :: (J (pre ++ ((ls[a]!).take s.1).flatMap (fun x => combF ls r (a + 1) (fun j => if a = j then x else l j))) ++ R))
      (0, l) ⟨Nat.zero_le _, fun _ _ => rfl⟩ ⟨rfl, rfl, rfl, rfl, rfl, rfl, rfl, rfl, trivial⟩ rfl ?_ ?_
    · simp only [List.take_zero, List.flatMap_nil, List.append_nil]
      infer_instance
    rintro ⟨n, l'⟩ ⟨hn, hl'⟩
    simp only at hn hl' ⊢
    repeat (first | refine Step.imp ?_ | refine Side.mk (by first | exact True.intro | omega | exact ⟨trivial, rfl⟩ | exact ⟨by omega, trivial, rfl⟩ | exact ⟨by omega, rfl⟩ | exact ⟨by omega, by omega, rfl⟩ | (simp only [List.length_cons, List.length_nil, List.length_append]; done) | (simp only [List.length_cons, List.length_nil, List.length_append]; omega) | decide +kernel) ?_ | refine GDraw_one (by decide +kernel) ?_ | refine New.mk fun _ => ?_ | refine NewS.mk fun _ _ => ?_)
    refine ⟨fun hlt => ?_, fun hge => ?_⟩
    · have ha4 : a < 4 := by omega
      have hfun : ∀ x : Int, (fun j => if a = j then x else l' j) = (fun j => if a = j then x else l j) := fun x => by
        funext j
        by_cases e : a = j
        · simp [e]
        · simp only [e, if_false]; exact hl' j (fun h => e h.symm)
      haveI hrec : ∀ {L M : List HP} {pre : List (Nat → Int)} [PickJ J L pre M], CallT Tryz.prog 145 [vI ((a : Int) + 1), .agg [vI (if a = 0 then (ls[a]!)[n]! else l' 0), vI (if a = 1 then (ls[a]!)[n]! else l' 1), vI (if a = 2 then (ls[a]!)[n]! else l' 2), vI (if a = 3 then (ls[a]!)[n]! else l' 3)].toArray, .pointer (some ⟨lb, 0, none⟩), .pointer (some ⟨yb, 0, none⟩), .pointer (some ⟨pb, 0, none⟩)] h L (pre.length + cntF ls r (a + 1) ≤ B) []
          (fun K => K (.bool true) h (J (pre ++ combF ls r (a + 1) (fun j => if a = j then (ls[a]!)[n]! else l j)) ++ M)) := by
        intro L M pre p
        have h1 := fun hb => ih (a + 1) (fun j => if a = j then (ls[a]!)[n]! else l' j) pre (by omega) (fun k hk => by
          by_cases e : a = k
          · subst e
            simp only [if_true]
            rw [getElem!_pos (ls[a]!) n (by omega)]; exact List.getElem_mem _
          · simp only [e, if_false]
            rw [hl' k (fun h => e h.symm)]; exact hg k (by omega)) hb
        have e1 : ((a + 1 : Nat) : Int) = (a : Int) + 1 := by omega
        simp only [e1] at h1
        refine ⟨fun hb => ⟨J pre ++ M, by rw [List.append_nil]; exact p.eq, ?_⟩⟩
        rw [← hfun]
        exact Spec.frame (h1 hb)
      have hcl := comb_flat_len ls r a l ((ls[a]!).take n)
      have hmul : (n + 1) * cntF ls r (a + 1) ≤ (ls[a]!).length * cntF ls r (a + 1) := Nat.mul_le_mul_right _ (by omega)
      rw [Nat.add_mul] at hmul
      rw [List.length_take, show min n (ls[a]!).length = n by omega] at hcl
      have htk : (ls[a]!).take (n + 1) = (ls[a]!).take n ++ [(ls[a]!)[n]!] := by rw [List.take_succ_eq_append_getElem (by omega), getElem!_pos (ls[a]!) n (by omega)]
      repeat (first | refine Step.imp ?_ | refine Side.mk (by first | exact True.intro | omega | exact ⟨trivial, rfl⟩ | exact ⟨by omega, trivial, rfl⟩ | exact ⟨by omega, rfl⟩ | exact ⟨by omega, by omega, rfl⟩ | (simp only [List.length_cons, List.length_nil, List.length_append]; done) | (simp only [List.length_cons, List.length_nil, List.length_append]; omega) | decide +kernel) ?_ | refine GDraw_one (by decide +kernel) ?_ | refine New.mk fun _ => ?_ | refine NewS.mk fun _ _ => ?_)
      refine X_round (n + 1, fun j => if a = j then (ls[a]!)[n]! else l' j) ?_ ?_ ?_ ?_ ?_
      · refine ⟨by show n + 1 ≤ (ls[a]!).length; omega, fun j hj => ?_⟩
        show (if a = j then _ else l' j) = l j
        rw [if_neg (fun e => hj e.symm)]; exact hl' j hj
      · show (ls[a]!).length - (n + 1) < (ls[a]!).length - n
        omega
      · exact ⟨rfl, rfl, rfl, rfl, rfl, rfl, rfl, rfl, trivial⟩
      · rfl
      · simp only [htk, List.flatMap_append, List.flatMap_cons, List.flatMap_nil, List.append_nil, ← List.append_assoc]
        refine ⟨[], ?_⟩
        rw [List.append_nil]
        exact List.perm_middle
    · have hn2 : n = (ls[a]!).length := by omega
      subst hn2
      simp only [List.take_length]
      repeat (first | refine Step.imp ?_ | refine Side.mk (by first | exact True.intro | omega | exact ⟨trivial, rfl⟩ | exact ⟨by omega, trivial, rfl⟩ | exact ⟨by omega, rfl⟩ | exact ⟨by omega, by omega, rfl⟩ | (simp only [List.length_cons, List.length_nil, List.length_append]; done) | (simp only [List.length_cons, List.length_nil, List.length_append]; omega) | decide +kernel) ?_ | refine GDraw_one (by decide +kernel) ?_ | refine New.mk fun _ => ?_ | refine NewS.mk fun _ _ => ?_)
      exact Fin.val hT rfl (Hle.refl _)
end
end Go.Sl

/-
  All places that have one of each list: the closures around the iterator.
-/
namespace Go.Sl
open Go.Proofs
set_option linter.unusedVariables false
set_option linter.unusedSimpArgs false
set_option maxRecDepth 10000
set_option synthInstance.maxSize 2000
set_option synthInstance.maxHeartbeats 200000
set_option maxHeartbeats 1000000
section
variable {P : Program} {N : NN} {k : List It} {Q : Post} {e : Env} {h : PHeap} {L : List HP} {ops l : List Oper}
theorem GO1_freezeB {op : Oper} (b : Nat) {o : Obj} {R : List HP} [p : PickB L b o R] (g : ∀ h', Le h h' → Pt h' b o → GO1 P N ops op l k Q e h' R) : GO1 P N ops op l k Q e h L := fun a w s => by
  obtain ⟨h', hl, hf, hs⟩ := (s.st.perm p.eq).freeze
  exact g h' ⟨hl⟩ hf.blk a w (s.ae.as hs)
theorem GO1_freezeS {op : Oper} (v : Value) {α : Type} {enc : α → List Value} {sz : Nat} {xs : List α} {R : List HP} [p : PickO L v α enc sz xs R] (g : ∀ h', Le h h' → FSl h' v enc sz xs → GO1 P N ops op l k Q e h' R) : GO1 P N ops op l k Q e h L := fun a w s => by
  obtain ⟨h', hl, hf, hs⟩ := (s.st.perm p.eq).freeze
  exact g h' ⟨hl⟩ hf.slo a w (s.ae.as hs)
theorem GO_freezeB (b : Nat) {o : Obj} {R : List HP} [p : PickB L b o R] (g : ∀ h', Le h h' → Pt h' b o → GO P N ops l k Q e h' R) : GO P N ops l k Q e h L := fun a w s => by
  obtain ⟨h', hl, hf, hs⟩ := (s.st.perm p.eq).freeze
  exact g h' ⟨hl⟩ hf.blk a w (s.ae.as hs)
end
instance {P : Program} {N : NN} {V : List HP} {h : PHeap} {e : Env} {t len el sz : Nat} {agg : Bool} {ps : List (Nat × Operand)} {zs cs : List Value} [ht : ArrT P t len el] [hs : TySz P el agg sz] [hz : ZeroT P t (.agg zs.toArray)] [hf : Fill P V h e (fun i => some (i * sz, sz)) ps zs cs] : Soft P N V h e (.build t ps.toArray) True (.agg cs.toArray) :=
  ⟨fun _ hw d ty pos af g a w s _ => by
    obtain ⟨inf, e1, e2⟩ := hz.eq
    obtain ⟨inf', dd, e3, e4, _, _⟩ := hs.eq
    have hzr : ∀ w, (zeroValue t).run P w = .ok (.agg zs.toArray) w := fun w => by simp [zeroValue, typeInfo, e1, e2]
    have hsz : ∀ w, (sizeOf el).run P w = .ok sz w := fun w => by simp [sizeOf, typeInfo, e3, e4]
    have hfl := hf.eq hw N a s
    simp only [execOp, Instr.build, Sem.run_bind, hzr, Result.andThen_ok, Value.cells, run_underlying ht.eq, hsz]
    simp only [List.map_toArray, hfl, Sem.run_pure, Result.andThen_ok]⟩
section
variable {h : PHeap} {ls : List (List Int)}
/-- Lists that are never changed. -/
class IsLists (h : PHeap) (v : Value) (ls : outParam (List (List Int))) : Prop where
  out : ∃ lvs, FSl h v encV 1 lvs ∧ lvs.length = ls.length ∧ ∀ i < ls.length, FSl h (lvs[i]!) encI 1 (ls[i]!) ∧ (ls[i]!).length ≤ 4294967296
theorem IsLists.mono {h h' : PHeap} {v : Value} {ls : List (List Int)} (hl : Hle h h') (d : IsLists h v ls) : IsLists h' v ls := ⟨by
  obtain ⟨lvs, h1, h2, h3⟩ := d.out
  exact ⟨lvs, FSl.mono hl h1, h2, fun i hi => ⟨FSl.mono hl (h3 i hi).1, (h3 i hi).2⟩⟩⟩
instance (priority := low) {h h' : PHeap} {v : Value} {ls : List (List Int)} [l : Le h h'] [d : IsLists h v ls] : IsLists h' v ls := d.mono l.le
theorem every_in {B : Nat} {J : List (Nat → Int) → List HP} {ly lb : Nat} {lv : Value} {t1 : TypeId} {f1 : Nat × Nat} [hl : Pt h lb (.cells [lv].toArray t1 f1)] [hv : IsLists h lv ls] (h4 : ls.length ≤ 4) (hB : cntF ls ls.length 0 ≤ B)
    (hY : ∀ h', Hle h h' → ∀ pre (l : Nat → Int), (∀ k < ls.length, l k ∈ ls[k]!) → pre.length < B → YSpec Tryz.prog ly [.agg [vI (l 0), vI (l 1), vI (l 2), vI (l 3)].toArray] h' (J pre) (fun K => K (.bool true) h' (J (pre ++ [l])))) :
    Spec Tryz.prog 144 [.func (.yield ly) #[] #[], .pointer (some ⟨lb, 0, none⟩)] h (J []) (fun K => ∀ h', Hle h h' → K (.tuple ([] : List Value).toArray) h' (J (combF ls ls.length 0 (fun _ => 0)))) := by
  refine spec_enter Tryz.func144 rfl Tryz.ntmps144 Tryz.results144 (by simp) fun K R hT => ?_
  repeat (first | refine Step.imp ?_ | refine Side.mk (by first | exact True.intro | omega | exact ⟨trivial, rfl⟩ | exact ⟨by omega, trivial, rfl⟩ | exact ⟨by omega, rfl⟩ | exact ⟨by omega, by omega, rfl⟩ | (simp only [List.length_cons, List.length_nil, List.length_append]; done) | (simp only [List.length_cons, List.length_nil, List.length_append]; omega) | decide +kernel) ?_ | refine GDraw_one (by decide +kernel) ?_ | refine New.mk fun _ => ?_ | refine NewS.mk fun _ _ => ?_)
  rename_i yb pb
  refine GO1_freezeB pb fun h1 le1 f1 => ?_
  refine GO1_freezeB yb fun h2 le2 f2 => ?_
  have hle := le1.le.trans le2.le
  obtain ⟨lvs, q1, q2, q3⟩ := (IsLists.mono hle hv).out
  haveI hrec : ∀ {L M : List HP} {pre : List (Nat → Int)} [PickJ J L pre M], CallT Tryz.prog 145 [vI 0, .agg [vI 0, vI 0, vI 0, vI 0].toArray, .pointer (some ⟨lb, 0, none⟩), .pointer (some ⟨yb, 0, none⟩), .pointer (some ⟨pb, 0, none⟩)] h2 L (pre.length + cntF ls ls.length 0 ≤ B) []
      (fun K => K (.bool true) h2 (J (pre ++ combF ls ls.length 0 (fun _ => 0)) ++ M)) := by
    intro L M pre p
    have h1 := every_put (J := J) (ls := ls) (h := h2) (ly := ly) (lb := lb) (yb := yb) (pb := pb) q2 h4 q3 (hY h2 hle) ls.length 0 (fun _ => 0) pre (by omega) (fun k hk => absurd hk (by omega))
    exact ⟨fun hb => ⟨J pre ++ M, by rw [List.append_nil]; exact p.eq, Spec.frame (h1 hb)⟩⟩
  repeat (first | refine Step.imp ?_ | refine Side.mk (by first | exact True.intro | omega | exact ⟨trivial, rfl⟩ | exact ⟨by omega, trivial, rfl⟩ | exact ⟨by omega, rfl⟩ | exact ⟨by omega, by omega, rfl⟩ | (simp only [List.length_cons, List.length_nil, List.length_append]; done) | (simp only [List.length_cons, List.length_nil, List.length_append]; omega) | decide +kernel) ?_ | refine GDraw_one (by decide +kernel) ?_ | refine New.mk fun _ => ?_ | refine NewS.mk fun _ _ => ?_)
  rw [List.nil_append]
  exact Fin.val (hT h2 hle) rfl hle
instance every_made {L : List HP} {lv : Value} [hv : IsLists h lv ls] : CallX Tryz.prog 114 [lv] h L True
    (fun K => ∀ h' lb t, Le h h' → Pt h' lb (.cells [lv].toArray t (0, 0)) → K (.func (.func 144) #[] [.pointer (some ⟨lb, 0, none⟩)].toArray) h' []) := ⟨fun _ => by
  obtain ⟨lvs, q1, q2, q3⟩ := hv.out
  refine spec_enter Tryz.func114 rfl Tryz.ntmps114 Tryz.results114 (by simp) fun K R hT => ?_
  refine Step.imp ?_
  refine Step.imp ?_
  refine Step.imp ?_
  refine Step.imp ?_
  refine New.mk fun lb => ?_
  refine Step.imp ?_
  refine Step.imp ?_
  refine Side.mk trivial ?_
  refine GO_freezeB lb fun h1 le1 f1 => ?_
  have hfin := hT h1 lb _ le1 f1
  repeat (first | refine Step.imp ?_ | refine Side.mk (by first | exact True.intro | omega | exact ⟨trivial, rfl⟩ | exact ⟨by omega, trivial, rfl⟩ | exact ⟨by omega, rfl⟩ | exact ⟨by omega, by omega, rfl⟩ | (simp only [List.length_cons, List.length_nil, List.length_append]; done) | (simp only [List.length_cons, List.length_nil, List.length_append]; omega) | decide +kernel) ?_ | refine GDraw_one (by decide +kernel) ?_ | refine New.mk fun _ => ?_ | refine NewS.mk fun _ _ => ?_)
  exact Fin.val hfin rfl le1.le⟩
end
end Go.Sl

/-
  The leaves within a cell.
-/
namespace Go.Sl
open Go.Proofs
set_option linter.unusedVariables false
set_option linter.unusedSimpArgs false
set_option maxRecDepth 10000
set_option synthInstance.maxSize 2000
set_option synthInstance.maxHeartbeats 200000
set_option maxHeartbeats 1000000
def rangeI (a b : Int) : List Int := (List.range (b - a).toNat).map (fun (k : Nat) => a + k)
def rangeTo (a : Int) (n : Nat) : List Int := (List.range n).map (fun (k : Nat) => a + k)
theorem rangeTo_succ (a : Int) (n : Nat) : rangeTo a (n + 1) = rangeTo a n ++ [a + n] := by unfold rangeTo; rw [List.range_succ, List.map_append]; rfl
theorem rangeTo_len (a : Int) (n : Nat) : (rangeTo a n).length = n := by simp [rangeTo]
/-- The ranks of the leaves within a member. -/
def ranksOf (C : Cat) (a : Nat → Int) (i : Nat) : List Int := rangeI ((mkTree (C.dims[i]!).2).spanF (a i)).fr ((mkTree (C.dims[i]!).2).spanF (a i)).to
def listsOf (C : Cat) (a : Nat → Int) : List (List Int) := (List.range C.dims.length).map (ranksOf C a)
def underF (C : Cat) (m : Int) (a : Nat → Int) : List Int := if rightF C m a then (combF (listsOf C a) C.dims.length 0 (fun _ => 0)).map (fun l => packF m l (leavesN C) C.dims.length) else []
/-- A slice in a box. -/
def outO (ob : Nat) (xs : List Int) : HP := fun bs => ∃ a c b1 b2, bs = b1 ++ b2 ∧ blk ob (.cells [.slice a xs.length c].toArray 108 (0, 0)) b1 ∧ slo encI 1 (.slice a xs.length c) xs b2
theorem St.outO {h : PHeap} {ob : Nat} {xs : List Int} {L : List HP} {w : World} (s : St h (Sl.outO ob xs :: L) w) : ∃ a c, St h (blk ob (.cells [.slice a xs.length c].toArray 108 (0, 0)) :: slo encI 1 (.slice a xs.length c) xs :: L) w := by
  obtain ⟨bs, ⟨b1, b2, rfl, ⟨a, c, c1, c2, rfl, h1, h2⟩, hd⟩, s0⟩ := s
  exact ⟨a, c, c1 ++ (c2 ++ b2), ⟨c1, c2 ++ b2, rfl, h1, c2, b2, rfl, h2, hd⟩, by rw [← List.append_assoc]; exact s0⟩
theorem St.inO {h : PHeap} {ob : Nat} {xs : List Int} {L : List HP} {w : World} {a : Option Addr} {c : Nat} (s : St h (blk ob (.cells [.slice a xs.length c].toArray 108 (0, 0)) :: slo encI 1 (.slice a xs.length c) xs :: L) w) : St h (Sl.outO ob xs :: L) w := by
  obtain ⟨bs, ⟨b1, b2, rfl, h1, c1, c2, rfl, h2, hd⟩, s0⟩ := s
  exact ⟨(b1 ++ c1) ++ c2, ⟨b1 ++ c1, c2, rfl, ⟨a, c, b1, c1, rfl, h1, h2⟩, hd⟩, by rw [List.append_assoc]; exact s0⟩
theorem X_outO {P : Program} {N : NN} {k : List It} {Q : Post} {e : Env} {h : PHeap} {ob : Nat} {xs : List Int} {L : List HP} {x : Exit} (g : ∀ a c, X P N x k Q e h (blk ob (.cells [.slice a xs.length c].toArray 108 (0, 0)) :: slo encI 1 (.slice a xs.length c) xs :: L)) : X P N x k Q e h (outO ob xs :: L) := fun a w s => by
  obtain ⟨b, c, st⟩ := s.st.outO
  exact g b c a w (s.ae.as st)
theorem G_outO {P : Program} {N : NN} {k : List It} {Q : Post} {e : Env} {h : PHeap} {ob : Nat} {xs : List Int} {L : List HP} {x : Code} (g : ∀ a c, G P N x k Q e h (blk ob (.cells [.slice a xs.length c].toArray 108 (0, 0)) :: slo encI 1 (.slice a xs.length c) xs :: L)) : G P N x k Q e h (outO ob xs :: L) := fun a w s => by
  obtain ⟨b, c, st⟩ := s.st.outO
  exact g b c a w (s.ae.as st)
theorem X_inO {P : Program} {N : NN} {k : List It} {Q : Post} {e : Env} {h : PHeap} {ob : Nat} {xs : List Int} {L : List HP} {x : Exit} {a : Option Addr} {c : Nat} (g : X P N x k Q e h (outO ob xs :: L)) : X P N x k Q e h (blk ob (.cells [.slice a xs.length c].toArray 108 (0, 0)) :: slo encI 1 (.slice a xs.length c) xs :: L) := fun ac w s => g ac w (s.ae.as s.st.inO)
theorem cntF_le {ls : List (List Int)} (hb : ∀ k < ls.length, (ls[k]!).length ≤ 32) : ∀ (r a : Nat), a + r ≤ ls.length → cntF ls r a ≤ 32 ^ r
  | 0, _, _ => Nat.le_refl _
  | r + 1, a, h => by
    have h1 := hb a (by omega)
    have h2 := cntF_le hb r (a + 1) (by omega)
    simp only [cntF]
    rw [Nat.pow_succ, Nat.mul_comm (32 ^ r)]
    exact Nat.mul_le_mul h1 h2
theorem X_sub {P : Program} {N : NN} {k : List It} {Q : Post} {e : Env} {h : PHeap} {L V : List HP} {x : Exit} (s : Sub L V) (g : X P N x k Q e h V) : X P N x k Q e h L := fun a w st => by
  obtain ⟨Z, hz⟩ := s.eq
  exact g a w (st.ae.as ((st.st.perm hz).perm List.perm_append_comm).dropL)
theorem Spec.frameH {P : Program} {f : FuncId} {vs : List Value} {h : PHeap} {Lp L' M : List HP} {v : Value} (s : Spec P f vs h Lp (fun K => ∀ h', Hle h h' → K v h' L')) : Spec P f vs h (Lp ++ M) (fun K => ∀ h', Hle h h' → K v h' (L' ++ M)) := by
  intro K R w hT st
  refine (s (fun v h' L'' => K v h' (L'' ++ M)) (M ++ R) w hT (by rw [← List.append_assoc]; exact st)).mono fun e w' hf => ?_
  obtain ⟨v, h', L2, e1, e2, e3, e4⟩ := hf
  exact ⟨v, h', _, e1, e2, e3, by rw [List.append_assoc]; exact e4⟩
theorem Spec.permL {P : Program} {f : FuncId} {vs : List Value} {h : PHeap} {Lp Lp' : List HP} {T : Kont → Prop} (p : Lp.Perm Lp') (s : Spec P f vs h Lp' T) : Spec P f vs h Lp T := fun K R w hT st => s K R w hT (st.perm (p.append_right R))
section
variable {h : PHeap} {sb : Nat} {C : Cat}
instance space_under {L : List HP} {m a0 a1 a2 a3 : Int} [hS : IsSp h sb C] [ok : OkCat C] : CallX Tryz.prog 101 [.pointer (some ⟨sb, 0, none⟩), .agg [vI m, vI a0, vI a1, vI a2, vI a3].toArray] h L True
    (fun K => ∀ h' ao c, Le h h' → K (.slice ao (underF C m (get4 a0 a1 a2 a3)).length c) h' [slo encI 1 (.slice ao (underF C m (get4 a0 a1 a2 a3)).length c) (underF C m (get4 a0 a1 a2 a3))]) := ⟨fun _ => by
  have hS' := hS
  obtain ⟨db, tv, lv, tbs, lvs, ty, fr, h1, h2, h3, h4, h5, h6, h7⟩ := hS'.out
  have hd := ok.dims
  by_cases hr : rightF C m (get4 a0 a1 a2 a3)
  · refine spec_enterM Tryz.func101 rfl Tryz.ntmps101 Tryz.results101 (by simp) fun K R hT => ?_
    repeat' (first | refine Step.imp ?_ | refine Side.mk (by first | exact True.intro | omega | exact ⟨trivial, rfl⟩ | exact ⟨by omega, trivial, rfl⟩ | exact ⟨by omega, rfl⟩ | exact ⟨by omega, by omega, rfl⟩ | (simp only [List.length_cons, List.length_nil, List.length_append]; done) | (simp only [List.length_cons, List.length_nil, List.length_append]; omega) | decide +kernel) ?_ | refine GDraw_one (by decide +kernel) ?_ | refine New.mk fun _ => ?_ | refine NewS.mk fun _ _ => ?_ | refine Ways.mk (fun _ => ?_) (fun _ => ?_))
    all_goals first | (exfalso; contradiction) | skip
    rename_i tb cb _ _
    refine G_nil encV 1 none ?_
    repeat (first | refine Step.imp ?_ | refine Side.mk (by first | exact True.intro | omega | exact ⟨trivial, rfl⟩ | exact ⟨by omega, trivial, rfl⟩ | exact ⟨by omega, rfl⟩ | exact ⟨by omega, by omega, rfl⟩ | (simp only [List.length_cons, List.length_nil, List.length_append]; done) | (simp only [List.length_cons, List.length_nil, List.length_append]; omega) | decide +kernel) ?_ | refine GDraw_one (by decide +kernel) ?_ | refine New.mk fun _ => ?_ | refine NewS.mk fun _ _ => ?_)
    refine G_loop (σ := Nat × PHeap × (Option Addr × Nat) × List Value) (fun s => s.1 ≤ C.dims.length ∧ Hle h s.2.1 ∧ s.2.2.2.length = s.1 ∧ ∀ j < s.1, FSl s.2.1 (s.2.2.2[j]!) encI 1 (ranksOf C (get4 a0 a1 a2 a3) j)) (fun s => C.dims.length - s.1)
      (fun s => [(30, vI s.1), (29, vI C.dims.length), (28, tv), (2, .pointer (some ⟨tb, 0, none⟩)), (3, .pointer (some ⟨cb, 0, none⟩)), (5, .slice s.2.2.1.1 s.2.2.2.length s.2.2.1.2)]) (fun s => s.2.1)
      (fun s => slo encV 1 (.slice s.2.2.1.1 s.2.2.2.length s.2.2.1.2) s.2.2.2 :: blk cb (.cells [vI m, vI a0, vI a1, vI a2, vI a3].toArray 48 (0, 0)) :: blk tb (.cells [.pointer (some ⟨sb, 0, none⟩)].toArray 30 (0, 0)) :: (L ++ R))
      (0, h, (none, 0), []) ⟨by omega, Hle.refl h, rfl, fun j hj => by omega⟩ ⟨rfl, by rw [← h4], rfl, rfl, rfl, rfl, trivial⟩ rfl inferInstance ?_
    rintro ⟨i, h8, ⟨la, lc⟩, lss⟩ ⟨hi, hl8, hll, hall⟩
    simp only at hi hl8 hll hall ⊢
    haveI le8 : Le h h8 := ⟨hl8⟩
    repeat (first | refine Step.imp ?_ | refine Side.mk (by first | exact True.intro | omega | exact ⟨trivial, rfl⟩ | exact ⟨by omega, trivial, rfl⟩ | exact ⟨by omega, rfl⟩ | exact ⟨by omega, by omega, rfl⟩ | (simp only [List.length_cons, List.length_nil, List.length_append]; done) | (simp only [List.length_cons, List.length_nil, List.length_append]; omega) | decide +kernel) ?_ | refine GDraw_one (by decide +kernel) ?_ | refine New.mk fun _ => ?_ | refine NewS.mk fun _ _ => ?_)
    refine ⟨fun hlt => ?_, fun hge => ?_⟩
    · have hi4 : i < 4 := by omega
      have ht := (h7 i (by omega)).1
      haveI := mkTree_len (ok.trees i (by omega)).2
      have hri := right_in hr hd.2 i (by omega)
      have hsl := span_leaf (ok.trees i (by omega)).2 hri.1 hri.2
      have hsm := tree_small (ok.trees i (by omega)).2
      obtain ⟨sp, hsp⟩ : ∃ sp, sp = (mkTree (C.dims[i]!).2).spanF (get4 a0 a1 a2 a3 i) := ⟨_, rfl⟩
      rw [← hsp] at hsl
      repeat (first | refine Step.imp ?_ | refine Side.mk (by first | exact True.intro | omega | exact ⟨trivial, rfl⟩ | exact ⟨by omega, trivial, rfl⟩ | exact ⟨by omega, rfl⟩ | exact ⟨by omega, by omega, rfl⟩ | (simp only [List.length_cons, List.length_nil, List.length_append]; done) | (simp only [List.length_cons, List.length_nil, List.length_append]; omega) | decide +kernel) ?_ | refine GDraw_one (by decide +kernel) ?_ | refine New.mk fun _ => ?_ | refine NewS.mk fun _ _ => ?_)
      rw [← hsp]
      refine G_nil encI 1 none ?_
      refine G_loop (σ := Nat × Option Addr × Nat) (fun s => s.1 ≤ (sp.to - sp.fr).toNat) (fun s => (sp.to - sp.fr).toNat - s.1)
        (fun s => [(11, vI (sp.fr + s.1)), (10, vI sp.to), (8, .slice s.2.1 (rangeTo sp.fr s.1).length s.2.2), (30, vI i), (29, vI C.dims.length), (28, tv), (2, .pointer (some ⟨tb, 0, none⟩)), (3, .pointer (some ⟨cb, 0, none⟩)), (5, .slice la lss.length lc)]) (fun _ => h8)
        (fun s => slo encI 1 (.slice s.2.1 (rangeTo sp.fr s.1).length s.2.2) (rangeTo sp.fr s.1) :: slo encV 1 (.slice la lss.length lc) lss :: blk cb (.cells [vI m, vI a0, vI a1, vI a2, vI a3].toArray 48 (0, 0)) :: blk tb (.cells [.pointer (some ⟨sb, 0, none⟩)].toArray 30 (0, 0)) :: (L ++ R))
        (0, none, 0) (Nat.zero_le _) ?_ rfl ?_ ?_
      · refine ⟨?_, rfl, rfl, rfl, rfl, rfl, rfl, rfl, rfl, trivial⟩
        show some (vI sp.fr) = some (vI (sp.fr + 0))
        rw [Int.add_zero]
      · simp only [rangeTo, List.range_zero, List.map_nil, List.length_nil]
        infer_instance
      rintro ⟨n, ra, rc⟩ hn
      simp only at hn ⊢
      have hrl := rangeTo_len sp.fr n
      repeat (first | refine Step.imp ?_ | refine Side.mk (by first | exact True.intro | omega | exact ⟨trivial, rfl⟩ | exact ⟨by omega, trivial, rfl⟩ | exact ⟨by omega, rfl⟩ | exact ⟨by omega, by omega, rfl⟩ | (simp only [List.length_cons, List.length_nil, List.length_append]; done) | (simp only [List.length_cons, List.length_nil, List.length_append]; omega) | decide +kernel) ?_ | refine GDraw_one (by decide +kernel) ?_ | refine New.mk fun _ => ?_ | refine NewS.mk fun _ _ => ?_)
      refine ⟨fun hk => ?_, fun hk => ?_⟩
      · repeat (first | refine Step.imp ?_ | refine Side.mk (by first | exact True.intro | omega | exact ⟨trivial, rfl⟩ | exact ⟨by omega, trivial, rfl⟩ | exact ⟨by omega, rfl⟩ | exact ⟨by omega, by omega, rfl⟩ | (simp only [List.length_cons, List.length_nil, List.length_append]; done) | (simp only [List.length_cons, List.length_nil, List.length_append]; omega) | decide +kernel) ?_ | refine GDraw_one (by decide +kernel) ?_ | refine New.mk fun _ => ?_ | refine NewS.mk fun _ _ => ?_)
        rename_i b1 ra1 rc1
        refine X_round (n + 1, ra1, rc1) ?_ ?_ ?_ ?_ ?_
        · show n + 1 ≤ (sp.to - sp.fr).toNat
          omega
        · show (sp.to - sp.fr).toNat - (n + 1) < (sp.to - sp.fr).toNat - n
          omega
        · refine ⟨?_, rfl, ?_, rfl, rfl, rfl, rfl, rfl, rfl, trivial⟩
          · have : sp.fr + ((n + 1 : Nat) : Int) = sp.fr + n + 1 := by omega
            rw [this]
          · rw [rangeTo_succ, List.length_append]; rfl
        · rfl
        · simp only [rangeTo_succ, List.length_append, List.length_cons, List.length_nil, Nat.zero_add]
          infer_instance
      · have hn2 : n = (sp.to - sp.fr).toNat := by omega
        subst hn2
        refine G_freezeS (.slice ra (rangeTo sp.fr (sp.to - sp.fr).toNat).length rc) fun h9 le9 f9 => ?_
        have hll4 : lss.length ≤ 4 := by omega
        repeat (first | refine Step.imp ?_ | refine Side.mk (by first | exact True.intro | omega | exact ⟨trivial, rfl⟩ | exact ⟨by omega, trivial, rfl⟩ | exact ⟨by omega, rfl⟩ | exact ⟨by omega, by omega, rfl⟩ | (simp only [List.length_cons, List.length_nil, List.length_append]; done) | (simp only [List.length_cons, List.length_nil, List.length_append]; omega) | decide +kernel) ?_ | refine GDraw_one (by decide +kernel) ?_ | refine New.mk fun _ => ?_ | refine NewS.mk fun _ _ => ?_)
        rename_i b1 la1 lc1
        refine X_round (i + 1, h9, (la1, lc1), lss ++ [.slice ra (rangeTo sp.fr (sp.to - sp.fr).toNat).length rc]) ?_ ?_ ?_ ?_ ?_
        · refine ⟨by show i + 1 ≤ C.dims.length; omega, hl8.trans le9.le, by simp [hll], fun j hj => ?_⟩
          show FSl h9 ((lss ++ [.slice ra (rangeTo sp.fr (sp.to - sp.fr).toNat).length rc])[j]!) encI 1 _
          have hj : j < i + 1 := hj
          rw [getElem!_pos (lss ++ [_]) j (by simp; omega)]
          rcases Nat.lt_or_ge j i with hji | hji
          · rw [List.getElem_append_left (by omega)]
            have := hall j hji
            rw [getElem!_pos lss j (by omega)] at this
            exact FSl.mono le9.le this
          · have : j = i := by omega
            subst this
            rw [List.getElem_append_right (by omega)]
            simp only [hll, Nat.sub_self, List.getElem_cons_zero]
            unfold ranksOf
            rw [← hsp]
            exact f9
        · show C.dims.length - (i + 1) < C.dims.length - i
          omega
        · refine ⟨rfl, rfl, rfl, rfl, rfl, ?_, trivial⟩
          show _ = some (Value.slice la1 (lss ++ [_]).length lc1)
          rw [List.length_append]; rfl
        · rfl
        · simp only [List.length_append, List.length_cons, List.length_nil, Nat.zero_add]
          infer_instance
    · have hi2 : i = C.dims.length := by omega
      subst hi2
      repeat (first | refine Step.imp ?_ | refine Side.mk (by first | exact True.intro | omega | exact ⟨trivial, rfl⟩ | exact ⟨by omega, trivial, rfl⟩ | exact ⟨by omega, rfl⟩ | exact ⟨by omega, by omega, rfl⟩ | (simp only [List.length_cons, List.length_nil, List.length_append]; done) | (simp only [List.length_cons, List.length_nil, List.length_append]; omega) | decide +kernel) ?_ | refine GDraw_one (by decide +kernel) ?_ | refine New.mk fun _ => ?_ | refine NewS.mk fun _ _ => ?_)
      rename_i ob
      refine GO1_freezeS (.slice la lss.length lc) fun h10 le10 f10 => ?_
      have hlo : (listsOf C (get4 a0 a1 a2 a3)).length = C.dims.length := by simp [listsOf]
      have hlg : ∀ j, j < C.dims.length → (listsOf C (get4 a0 a1 a2 a3))[j]! = ranksOf C (get4 a0 a1 a2 a3) j := fun j hj => by
        rw [getElem!_pos _ j (by omega)]; simp [listsOf]
      have hrb : ∀ j, j < C.dims.length → ∀ x ∈ ranksOf C (get4 a0 a1 a2 a3) j, 0 ≤ x ∧ x < leavesN C j := fun j hj x hx => by
        have hri := right_in hr hd.2 j hj
        have hsl := span_leaf (ok.trees j hj).2 hri.1 hri.2
        unfold ranksOf rangeI at hx
        obtain ⟨k, hk, rfl⟩ := List.mem_map.1 hx
        have := List.mem_range.1 hk
        have hN : leavesN C j = (mkTree (C.dims[j]!).2).leaves.length := rfl
        omega
      have hrl : ∀ j, j < C.dims.length → (ranksOf C (get4 a0 a1 a2 a3) j).length ≤ 4294967296 := fun j hj => by
        have hri := right_in hr hd.2 j hj
        have hsl := span_leaf (ok.trees j hj).2 hri.1 hri.2
        have hsm := tree_small (ok.trees j hj).2
        unfold ranksOf rangeI
        rw [List.length_map, List.length_range]
        omega
      haveI hIL : IsLists h10 (.slice la lss.length lc) (listsOf C (get4 a0 a1 a2 a3)) := ⟨lss, f10, by rw [hlo, hll], fun j hj => by
        rw [hlo] at hj
        rw [hlg j hj]
        exact ⟨FSl.mono le10.le (hall j hj), hrl j hj⟩⟩
      repeat (first | refine Step.imp ?_ | refine Side.mk (by first | exact True.intro | omega | exact ⟨trivial, rfl⟩ | exact ⟨by omega, trivial, rfl⟩ | exact ⟨by omega, rfl⟩ | exact ⟨by omega, by omega, rfl⟩ | (simp only [List.length_cons, List.length_nil, List.length_append]; done) | (simp only [List.length_cons, List.length_nil, List.length_append]; omega) | decide +kernel) ?_ | refine GDraw_one (by decide +kernel) ?_ | refine New.mk fun _ => ?_ | refine NewS.mk fun _ _ => ?_)
      intro h11 lb tt le11 hlb
      repeat (first | refine Step.imp ?_ | refine Side.mk (by first | exact True.intro | omega | exact ⟨trivial, rfl⟩ | exact ⟨by omega, trivial, rfl⟩ | exact ⟨by omega, rfl⟩ | exact ⟨by omega, by omega, rfl⟩ | (simp only [List.length_cons, List.length_nil, List.length_append]; done) | (simp only [List.length_cons, List.length_nil, List.length_append]; omega) | decide +kernel) ?_ | refine GDraw_one (by decide +kernel) ?_ | refine New.mk fun _ => ?_ | refine NewS.mk fun _ _ => ?_)
      have hl11 : Hle h h11 := hl8.trans (le10.le.trans le11.le)
      refine G_conv (x := blk ob (.cells [.slice none 0 0].toArray 108 (0, 0))) (y := outO ob ([] : List Int)) (fun bs hb => ⟨none, 0, bs, [], by simp, hb, ⟨by simp, .inl ⟨⟨none, rfl⟩, rfl, rfl⟩⟩⟩) ?_
      have hcnt : cntF (listsOf C (get4 a0 a1 a2 a3)) (listsOf C (get4 a0 a1 a2 a3)).length 0 ≤ 4294967296 := by
        have h32 : ∀ k < (listsOf C (get4 a0 a1 a2 a3)).length, ((listsOf C (get4 a0 a1 a2 a3))[k]!).length ≤ 32 := fun k hk => by
          rw [hlo] at hk
          rw [hlg k hk]
          have hri := right_in hr hd.2 k hk
          have hsl := span_leaf (ok.trees k hk).2 hri.1 hri.2
          have hsm := tree_small (ok.trees k hk).2
          unfold ranksOf rangeI
          rw [List.length_map, List.length_range]
          omega
        have h1 := cntF_le h32 (listsOf C (get4 a0 a1 a2 a3)).length 0 (by omega)
        have h2 : (32 : Nat) ^ (listsOf C (get4 a0 a1 a2 a3)).length ≤ 32 ^ 4 := Nat.pow_le_pow_right (by omega) (by omega)
        have h3 : (32 : Nat) ^ 4 = 1048576 := by decide
        omega
      let J : Nat → Loop → List (Nat → Int) → List HP := fun l r pre => [blk l (.loop r), outO ob (pre.map (fun q => packF m q (leavesN C) C.dims.length)), blk cb (.cells [vI m, vI a0, vI a1, vI a2, vI a3].toArray 48 (0, 0)), blk tb (.cells [.pointer (some ⟨sb, 0, none⟩)].toArray 30 (0, 0))]
      refine G_range (p := 61) (fk := 144) (caps := [.pointer (some ⟨lb, 0, none⟩)]) rfl inferInstance (fun l D r K => ∀ h', Hle h11 h' → K (.tuple ([] : List Value).toArray) h' (J l r (combF (listsOf C (get4 a0 a1 a2 a3)) (listsOf C (get4 a0 a1 a2 a3)).length 0 (fun _ => 0)) ++ (blk D (.deferred (some [])) :: (L ++ R)))) ?_ ?_
      · intro l D r hrec
        refine Spec.permL (Lp' := J l r [] ++ (blk D (.deferred (some [])) :: (L ++ R))) (List.Perm.cons _ (List.perm_middle (l₁ := [_, _, _])).symm) ?_
        refine Spec.frameH (every_in (J := J l r) (B := 4294967296) (by omega) hcnt ?_)
        intro h' hle pre q hq hpre
        haveI : Le h11 h' := ⟨hle⟩
        refine yspec_of (N0 := 75) (p := 61) (by omega) hrec.ps hrec.ae fun K' R' hT' => ?_
        rw [hrec.as, hrec.bo]
        repeat (first | refine Step.imp ?_ | refine Side.mk (by first | exact True.intro | omega | exact ⟨trivial, rfl⟩ | exact ⟨by omega, trivial, rfl⟩ | exact ⟨by omega, rfl⟩ | exact ⟨by omega, by omega, rfl⟩ | (simp only [List.length_cons, List.length_nil, List.length_append]; done) | (simp only [List.length_cons, List.length_nil, List.length_append]; omega) | decide +kernel) ?_ | refine GDraw_one (by decide +kernel) ?_ | refine New.mk fun _ => ?_ | refine NewS.mk fun _ _ => ?_)
        refine X_begin (.swap _ _ _) hrec.st ?_ rfl
        rename_i xb
        refine G_perm (L' := outO ob (pre.map (fun q => packF m q (leavesN C) C.dims.length)) :: blk l (.loop { r with state := .busy }) :: blk xb (.cells [vI (q 0), vI (q 1), vI (q 2), vI (q 3)].toArray 113 (0, 0)) :: blk cb (.cells [vI m, vI a0, vI a1, vI a2, vI a3].toArray 48 (0, 0)) :: blk tb (.cells [.pointer (some ⟨sb, 0, none⟩)].toArray 30 (0, 0)) :: R') ((List.Perm.cons _ (List.Perm.swap _ _ _)).trans (List.Perm.swap _ _ _)) ?_
        refine G_outO fun a c => ?_
        have hml : (pre.map (fun q => packF m q (leavesN C) C.dims.length)).length < 4294967296 := by rw [List.length_map]; exact hpre
        have hqb : ∀ k, k < C.dims.length → 0 ≤ q k ∧ q k < leavesN C k := fun k hk => hrb k hk (q k) (by have := hq k (by omega); rwa [hlg k hk] at this)
        have hq4 : ∀ k, k < C.dims.length → get4 (q 0) (q 1) (q 2) (q 3) k = q k := fun k hk => get4_fun q (by omega)
        have hlt := pack_lt (C := C) (m := m) (p := get4 (q 0) (q 1) (q 2) (q 3)) (o := get4 (lowF C 0) (lowF C 1) (lowF C 2) (lowF C 3)) (d := C.dims.length) hr.1 (fun k hk => by rw [lowF_eq hd.2 hk, hq4 k hk]; exact hqb k hk)
        have hb : ∀ k < C.dims.length, 0 ≤ packF m (get4 (q 0) (q 1) (q 2) (q 3)) (get4 (lowF C 0) (lowF C 1) (lowF C 2) (lowF C 3)) k * get4 (lowF C 0) (lowF C 1) (lowF C 2) (lowF C 3) k ∧ packF m (get4 (q 0) (q 1) (q 2) (q 3)) (get4 (lowF C 0) (lowF C 1) (lowF C 2) (lowF C 3)) k * get4 (lowF C 0) (lowF C 1) (lowF C 2) (lowF C 3) k ≤ 9223372036854775807 ∧ 0 ≤ packF m (get4 (q 0) (q 1) (q 2) (q 3)) (get4 (lowF C 0) (lowF C 1) (lowF C 2) (lowF C 3)) (k + 1) ∧ packF m (get4 (q 0) (q 1) (q 2) (q 3)) (get4 (lowF C 0) (lowF C 1) (lowF C 2) (lowF C 3)) (k + 1) ≤ 9223372036854775807 := fun k hk => by
          have e1 := hlt k (by omega)
          have e2 := hlt (k + 1) (by omega)
          have e3 := all_low hd.2 (k + 1) (by omega)
          have e4 := leaves_bound ok (k + 1) (by omega)
          have e5 := hqb k hk
          rw [lowF_eq hd.2 hk]
          have e6 : 0 ≤ packF m (get4 (q 0) (q 1) (q 2) (q 3)) (get4 (lowF C 0) (lowF C 1) (lowF C 2) (lowF C 3)) k * leavesN C k := Int.mul_nonneg e1.1 (by omega)
          have e7 : packF m (get4 (q 0) (q 1) (q 2) (q 3)) (get4 (lowF C 0) (lowF C 1) (lowF C 2) (lowF C 3)) (k + 1) = packF m (get4 (q 0) (q 1) (q 2) (q 3)) (get4 (lowF C 0) (lowF C 1) (lowF C 2) (lowF C 3)) k * leavesN C k + q k := by simp only [packF]; rw [lowF_eq hd.2 hk, hq4 k hk]
          omega
        have hpk : packF m (get4 (q 0) (q 1) (q 2) (q 3)) (get4 (lowF C 0) (lowF C 1) (lowF C 2) (lowF C 3)) C.dims.length = packF m q (leavesN C) C.dims.length := packF_congr _ fun k hk => ⟨hq4 k hk, lowF_eq hd.2 hk⟩
        repeat (first | refine GDraw_O (.slice a (pre.map (fun q => packF m q (leavesN C) C.dims.length)).length c) (by decide +kernel) ?_ | refine Step.imp ?_ | refine Side.mk (by first | exact True.intro | omega | exact ⟨trivial, rfl⟩ | exact ⟨by omega, trivial, rfl⟩ | exact ⟨by omega, rfl⟩ | exact ⟨by omega, by omega, rfl⟩ | (simp only [List.length_cons, List.length_nil, List.length_append]; done) | (simp only [List.length_cons, List.length_nil, List.length_append]; omega) | decide +kernel) ?_ | refine GDraw_one (by decide +kernel) ?_ | refine New.mk fun _ => ?_ | refine NewS.mk fun _ _ => ?_)
        rename_i b1 oa oc
        rw [hpk]
        have hmap : pre.map (fun q => packF m q (leavesN C) C.dims.length) ++ [packF m q (leavesN C) C.dims.length] = (pre ++ [q]).map (fun q => packF m q (leavesN C) C.dims.length) := by rw [List.map_append]; rfl
        have hml2 : (pre.map (fun q => packF m q (leavesN C) C.dims.length)).length + 1 = ((pre ++ [q]).map (fun q => packF m q (leavesN C) C.dims.length)).length := by simp
        rw [hmap, hml2]
        refine X_sub (V := blk ob (.cells [.slice oa ((pre ++ [q]).map (fun q => packF m q (leavesN C) C.dims.length)).length oc].toArray 108 (0, 0)) :: slo encI 1 (.slice oa ((pre ++ [q]).map (fun q => packF m q (leavesN C) C.dims.length)).length oc) ((pre ++ [q]).map (fun q => packF m q (leavesN C) C.dims.length)) :: blk l (.loop { r with state := .busy }) :: blk cb (.cells [vI m, vI a0, vI a1, vI a2, vI a3].toArray 48 (0, 0)) :: blk tb (.cells [.pointer (some ⟨sb, 0, none⟩)].toArray 30 (0, 0)) :: R') inferInstance ?_
        refine X_inO ?_
        have hrr : ({ ({ r with state := .busy } : Loop) with state := .ready, pending := none } : Loop) = r := by
          have e1 := hrec.st
          have e2 := hrec.pe
          cases r; simp_all
        refine X_roundEnd (r := { r with state := .busy }) (L' := [outO ob ((pre ++ [q]).map (fun q => packF m q (leavesN C) C.dims.length)), blk cb (.cells [vI m, vI a0, vI a1, vI a2, vI a3].toArray 48 (0, 0)), blk tb (.cells [.pointer (some ⟨sb, 0, none⟩)].toArray 30 (0, 0))]) (.swap _ _ _) (Hle.refl _) ?_
        rw [hrr]
        exact hT'
      · intro l D r hrec h' hle
        haveI : Le h11 h' := ⟨hle⟩
        have hout : (combF (listsOf C (get4 a0 a1 a2 a3)) (listsOf C (get4 a0 a1 a2 a3)).length 0 (fun _ => 0)).map (fun q => packF m q (leavesN C) C.dims.length) = underF C m (get4 a0 a1 a2 a3) := by
          unfold underF; rw [if_pos hr, hlo]
        refine ⟨outO ob ((combF (listsOf C (get4 a0 a1 a2 a3)) (listsOf C (get4 a0 a1 a2 a3)).length 0 (fun _ => 0)).map (fun q => packF m q (leavesN C) C.dims.length)) :: blk cb _ :: blk tb _ :: blk D (.deferred (some [])) :: (L ++ R), .refl _, ?_⟩
        rw [hout]
        refine X_outO fun a c => ?_
        have hfin := hT h' a c ⟨hl11.trans hle⟩
        repeat (first | refine Step.imp ?_ | refine Side.mk (by first | exact True.intro | omega | exact ⟨trivial, rfl⟩ | exact ⟨by omega, trivial, rfl⟩ | exact ⟨by omega, rfl⟩ | exact ⟨by omega, by omega, rfl⟩ | (simp only [List.length_cons, List.length_nil, List.length_append]; done) | (simp only [List.length_cons, List.length_nil, List.length_append]; omega) | decide +kernel) ?_ | refine GDraw_one (by decide +kernel) ?_ | refine New.mk fun _ => ?_ | refine NewS.mk fun _ _ => ?_)
        exact Fin.val hfin rfl (hl11.trans hle)
  · have hu : underF C m (get4 a0 a1 a2 a3) = [] := by unfold underF; rw [if_neg hr]
    rw [hu] at *
    refine spec_enterM Tryz.func101 rfl Tryz.ntmps101 Tryz.results101 (by simp) fun K R hT => ?_
    refine Step.imp ?_
    refine G_nil encI 1 none ?_
    repeat' (first | refine Step.imp ?_ | refine Side.mk (by first | exact True.intro | omega | exact ⟨trivial, rfl⟩ | exact ⟨by omega, trivial, rfl⟩ | exact ⟨by omega, rfl⟩ | exact ⟨by omega, by omega, rfl⟩ | (simp only [List.length_cons, List.length_nil, List.length_append]; done) | (simp only [List.length_cons, List.length_nil, List.length_append]; omega) | decide +kernel) ?_ | refine GDraw_one (by decide +kernel) ?_ | refine New.mk fun _ => ?_ | refine NewS.mk fun _ _ => ?_ | refine Ways.mk (fun _ => ?_) (fun _ => ?_))
    all_goals first | (exfalso; contradiction) | exact Fin.val (hT h none 0 ⟨Hle.refl h⟩) rfl (Hle.refl _)⟩
end
end Go.Sl

/-
  The same leaf of another measure; what there is not.
-/
namespace Go.Sl
open Go.Proofs
set_option linter.unusedVariables false
set_option linter.unusedSimpArgs false
set_option maxRecDepth 10000
set_option synthInstance.maxSize 2000
set_option synthInstance.maxHeartbeats 200000
set_option maxHeartbeats 1000000
section
variable {h : PHeap} {sb : Nat} {C : Cat}
def swapF (C : Cat) (n m : Int) : Int := if 0 ≤ n ∧ n < leavesF C C.dims.length then codeF C m (get4 (leafAtF C n 0) (leafAtF C n 1) (leafAtF C n 2) (leafAtF C n 3)) else -1
end
section
variable {h : PHeap}
instance nil_leaf {n : Int} : CallV Tryz.prog 62 [.pointer none, vI n] h True (.tuple [.agg [vI 0, vI 0, vI 0, vI 0, vI 0].toArray, .bool false].toArray) := ⟨fun _ => by
  refine spec_enter Tryz.func62 rfl Tryz.ntmps62 Tryz.results62 (by simp) fun K R hT => ?_
  repeat' (first | refine Step.imp ?_ | refine Side.mk (by first | exact True.intro | omega | exact ⟨trivial, rfl⟩ | exact ⟨by omega, trivial, rfl⟩ | exact ⟨by omega, rfl⟩ | exact ⟨by omega, by omega, rfl⟩ | (simp only [List.length_cons, List.length_nil, List.length_append]; done) | (simp only [List.length_cons, List.length_nil, List.length_append]; omega) | decide +kernel) ?_ | refine GDraw_one (by decide +kernel) ?_ | refine New.mk fun _ => ?_ | refine NewS.mk fun _ _ => ?_ | refine Ways.mk (fun _ => ?_) (fun _ => ?_))
  all_goals first | (exfalso; contradiction) | exact Fin.val hT rfl (Hle.refl _)⟩
instance nil_cell {n : Int} : CallV Tryz.prog 74 [.pointer none, vI n] h True (.tuple [.agg [vI 0, vI 0, vI 0, vI 0, vI 0].toArray, .bool false].toArray) := ⟨fun _ => by
  refine spec_enter Tryz.func74 rfl Tryz.ntmps74 Tryz.results74 (by simp) fun K R hT => ?_
  repeat' (first | refine Step.imp ?_ | refine Side.mk (by first | exact True.intro | omega | exact ⟨trivial, rfl⟩ | exact ⟨by omega, trivial, rfl⟩ | exact ⟨by omega, rfl⟩ | exact ⟨by omega, by omega, rfl⟩ | (simp only [List.length_cons, List.length_nil, List.length_append]; done) | (simp only [List.length_cons, List.length_nil, List.length_append]; omega) | decide +kernel) ?_ | refine GDraw_one (by decide +kernel) ?_ | refine New.mk fun _ => ?_ | refine NewS.mk fun _ _ => ?_ | refine Ways.mk (fun _ => ?_) (fun _ => ?_))
  all_goals first | (exfalso; contradiction) | exact Fin.val hT rfl (Hle.refl _)⟩
instance nil_dims : CallV Tryz.prog 54 [.pointer none] h True (.pointer none) := ⟨fun _ => by
  refine spec_enter Tryz.func54 rfl Tryz.ntmps54 Tryz.results54 (by simp) fun K R hT => ?_
  repeat' (first | refine Step.imp ?_ | refine Side.mk (by first | exact True.intro | omega | exact ⟨trivial, rfl⟩ | exact ⟨by omega, trivial, rfl⟩ | exact ⟨by omega, rfl⟩ | exact ⟨by omega, by omega, rfl⟩ | (simp only [List.length_cons, List.length_nil, List.length_append]; done) | (simp only [List.length_cons, List.length_nil, List.length_append]; omega) | decide +kernel) ?_ | refine GDraw_one (by decide +kernel) ?_ | refine New.mk fun _ => ?_ | refine NewS.mk fun _ _ => ?_ | refine Ways.mk (fun _ => ?_) (fun _ => ?_))
  all_goals first | (exfalso; contradiction) | exact Fin.val hT rfl (Hle.refl _)⟩
instance nil_leaves : CallV Tryz.prog 15 [.pointer none] h True (vI 0) := ⟨fun _ => by
  refine spec_enter Tryz.func15 rfl Tryz.ntmps15 Tryz.results15 (by simp) fun K R hT => ?_
  repeat' (first | refine Step.imp ?_ | refine Side.mk (by first | exact True.intro | omega | exact ⟨trivial, rfl⟩ | exact ⟨by omega, trivial, rfl⟩ | exact ⟨by omega, rfl⟩ | exact ⟨by omega, by omega, rfl⟩ | (simp only [List.length_cons, List.length_nil, List.length_append]; done) | (simp only [List.length_cons, List.length_nil, List.length_append]; omega) | decide +kernel) ?_ | refine GDraw_one (by decide +kernel) ?_ | refine New.mk fun _ => ?_ | refine NewS.mk fun _ _ => ?_ | refine Ways.mk (fun _ => ?_) (fun _ => ?_))
  all_goals first | (exfalso; contradiction) | exact Fin.val hT rfl (Hle.refl _)⟩
instance nil_cells : CallV Tryz.prog 68 [.pointer none] h True (vI 0) := ⟨fun _ => by
  refine spec_enter Tryz.func68 rfl Tryz.ntmps68 Tryz.results68 (by simp) fun K R hT => ?_
  repeat' (first | refine Step.imp ?_ | refine Side.mk (by first | exact True.intro | omega | exact ⟨trivial, rfl⟩ | exact ⟨by omega, trivial, rfl⟩ | exact ⟨by omega, rfl⟩ | exact ⟨by omega, by omega, rfl⟩ | (simp only [List.length_cons, List.length_nil, List.length_append]; done) | (simp only [List.length_cons, List.length_nil, List.length_append]; omega) | decide +kernel) ?_ | refine GDraw_one (by decide +kernel) ?_ | refine New.mk fun _ => ?_ | refine NewS.mk fun _ _ => ?_ | refine Ways.mk (fun _ => ?_) (fun _ => ?_))
  all_goals first | (exfalso; contradiction) | exact Fin.val hT rfl (Hle.refl _)⟩
instance nil_index {v : List Value} : CallV Tryz.prog 71 [.pointer none, .agg v.toArray] h True (vI (-1)) := ⟨fun _ => by
  refine spec_enter Tryz.func71 rfl Tryz.ntmps71 Tryz.results71 (by simp) fun K R hT => ?_
  repeat' (first | refine Step.imp ?_ | refine Side.mk (by first | exact True.intro | omega | exact ⟨trivial, rfl⟩ | exact ⟨by omega, trivial, rfl⟩ | exact ⟨by omega, rfl⟩ | exact ⟨by omega, by omega, rfl⟩ | (simp only [List.length_cons, List.length_nil, List.length_append]; done) | (simp only [List.length_cons, List.length_nil, List.length_append]; omega) | decide +kernel) ?_ | refine GDraw_one (by decide +kernel) ?_ | refine New.mk fun _ => ?_ | refine NewS.mk fun _ _ => ?_ | refine Ways.mk (fun _ => ?_) (fun _ => ?_))
  all_goals first | (exfalso; contradiction) | exact Fin.val hT rfl (Hle.refl _)⟩
instance nil_under {v : List Value} : CallV Tryz.prog 101 [.pointer none, .agg v.toArray] h True (.slice none 0 0) := ⟨fun _ => by
  refine spec_enterM Tryz.func101 rfl Tryz.ntmps101 Tryz.results101 (by simp) fun K R hT => ?_
  repeat' (first | refine Step.imp ?_ | refine Side.mk (by first | exact True.intro | omega | exact ⟨trivial, rfl⟩ | exact ⟨by omega, trivial, rfl⟩ | exact ⟨by omega, rfl⟩ | exact ⟨by omega, by omega, rfl⟩ | (simp only [List.length_cons, List.length_nil, List.length_append]; done) | (simp only [List.length_cons, List.length_nil, List.length_append]; omega) | decide +kernel) ?_ | refine GDraw_one (by decide +kernel) ?_ | refine New.mk fun _ => ?_ | refine NewS.mk fun _ _ => ?_ | refine Ways.mk (fun _ => ?_) (fun _ => ?_))
  all_goals first | (exfalso; contradiction) | exact Fin.val hT rfl (Hle.refl _)⟩
instance nil_over {n : Int} : CallV Tryz.prog 70 [.pointer none, vI n] h True (.slice none 0 0) := ⟨fun _ => by
  refine spec_enterM Tryz.func70 rfl Tryz.ntmps70 Tryz.results70 (by simp) fun K R hT => ?_
  repeat' (first | refine Step.imp ?_ | refine Side.mk (by first | exact True.intro | omega | exact ⟨trivial, rfl⟩ | exact ⟨by omega, trivial, rfl⟩ | exact ⟨by omega, rfl⟩ | exact ⟨by omega, by omega, rfl⟩ | (simp only [List.length_cons, List.length_nil, List.length_append]; done) | (simp only [List.length_cons, List.length_nil, List.length_append]; omega) | decide +kernel) ?_ | refine GDraw_one (by decide +kernel) ?_ | refine New.mk fun _ => ?_ | refine NewS.mk fun _ _ => ?_ | refine Ways.mk (fun _ => ?_) (fun _ => ?_))
  all_goals first | (exfalso; contradiction) | exact Fin.val hT rfl (Hle.refl _)⟩
instance nil_new : CallV Tryz.prog 11 [.pointer none] h True (.tuple [.pointer none, vI 1].toArray) := ⟨fun _ => by
  refine spec_enter Tryz.func11 rfl Tryz.ntmps11 Tryz.results11 (by simp) fun K R hT => ?_
  repeat' (first | refine Step.imp ?_ | refine Side.mk (by first | exact True.intro | omega | exact ⟨trivial, rfl⟩ | exact ⟨by omega, trivial, rfl⟩ | exact ⟨by omega, rfl⟩ | exact ⟨by omega, by omega, rfl⟩ | (simp only [List.length_cons, List.length_nil, List.length_append]; done) | (simp only [List.length_cons, List.length_nil, List.length_append]; omega) | decide +kernel) ?_ | refine GDraw_one (by decide +kernel) ?_ | refine New.mk fun _ => ?_ | refine NewS.mk fun _ _ => ?_ | refine Ways.mk (fun _ => ?_) (fun _ => ?_))
  all_goals first | (exfalso; contradiction) | exact Fin.val hT rfl (Hle.refl _)⟩
end
end Go.Sl
