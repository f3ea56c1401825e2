/-
  Facts that the proof is made of (W6).
-/
import Derived.Test.YtegnndnlogpihaaGreatKW4
/-
  Leaves that change, one after another (layer 12).
-/
namespace Go.Sl
open Go.Proofs
set_option linter.unusedVariables false
set_option linter.unusedSimpArgs false
set_option maxRecDepth 10000
set_option synthInstance.maxSize 2000
set_option synthInstance.maxHeartbeats 200000
set_option maxHeartbeats 1000000
/-- A leaf that has another value. -/
structure Ac where
  code : Int
  n : Int
deriving Inhabited
@[reducible] def encAc (x : Ac) : List Value := [vI x.code, vI x.n]
instance : EncOne encAc := ⟨fun y u hu => by simp at hu; rcases hu with rfl | rfl <;> rfl⟩
def OkAcs (acts : List Ac) : Prop := ∀ k < acts.length, -9223372036854775808 ≤ (acts[k]!).n ∧ (acts[k]!).n ≤ 9223372036854775807
def play1 (vals : List Int) (a : Ac) : List Int := if 0 ≤ a.code ∧ a.code < vals.length then vals.set a.code.toNat a.n else vals
def playTo (vals : List Int) (acts : List Ac) : Nat → List Int
  | 0 => vals
  | k + 1 => play1 (playTo vals acts k) (acts[k]!)
theorem play1_len (vals : List Int) (a : Ac) : (play1 vals a).length = vals.length := by
  unfold play1; split
  · exact List.length_set
  · rfl
theorem playTo_len (vals : List Int) (acts : List Ac) : ∀ k, (playTo vals acts k).length = vals.length
  | 0 => rfl
  | k + 1 => by rw [playTo, play1_len, playTo_len vals acts k]
theorem playTo_64 {vals : List Int} {acts : List Ac} (hv : Ok64 vals) (ha : OkAcs acts) : ∀ k ≤ acts.length, Ok64 (playTo vals acts k)
  | 0, _ => hv
  | k + 1, hk => by
    have ih := playTo_64 hv ha k (by omega)
    simp only [playTo, play1]
    split
    · exact ih.set (ha k (by omega))
    · exact ih
theorem ok64_zero (n : Nat) : Ok64 (List.replicate n 0) := fun k hk => by
  rw [rep_get (by simpa using hk)]; omega
theorem X_rr {P : Program} {N : NN} {k : List It} {Q : Post} {e : Env} {h : PHeap} {L R : List HP} {rb : Nat} {vals : List Int} {x : Exit} (b : Nat) [p : PickRr L b rb vals R] (g : ∀ a ec, X P N x k Q e h (rrB b rb (.slice a vals.length ec) :: slo encE 2 (.slice a vals.length ec) vals :: R)) : X P N x k Q e h L := fun a w s => by
  obtain ⟨ea, ec, st⟩ := (s.st.perm p.eq).rrOut
  exact g ea ec a w (s.ae.as st)
theorem G_rrIn {P : Program} {N : NN} {k : List It} {Q : Post} {e : Env} {h : PHeap} {L R : List HP} {rb : Nat} {vals : List Int} {x : Code} {a : Option Addr} {c : Nat} (b : Nat) [p : PickR2 L b rb a c vals R] (g : G P N x k Q e h (rrH b rb vals :: R)) : G P N x k Q e h L := fun ac w s => g ac w (s.ae.as (St.rrIn (s.st.perm p.eq)))
theorem GO1_rr {P : Program} {N : NN} {k : List It} {Q : Post} {e : Env} {h : PHeap} {L R : List HP} {ops l : List Oper} {o : Oper} {rb : Nat} {vals : List Int} (b : Nat) [p : PickRr L b rb vals R] (g : ∀ a ec, GO1 P N ops o l k Q e h (rrB b rb (.slice a vals.length ec) :: slo encE 2 (.slice a vals.length ec) vals :: R)) : GO1 P N ops o l k Q e h L := fun a w s => by
  obtain ⟨ea, ec, st⟩ := (s.st.perm p.eq).rrOut
  exact g ea ec a w (s.ae.as st)
theorem X_rrIn {P : Program} {N : NN} {k : List It} {Q : Post} {e : Env} {h : PHeap} {L R : List HP} {rb : Nat} {vals : List Int} {x : Exit} {a : Option Addr} {c : Nat} (b : Nat) [p : PickR2 L b rb a c vals R] (g : X P N x k Q e h (rrH b rb vals :: R)) : X P N x k Q e h L := fun ac w s => g ac w (s.ae.as (St.rrIn (s.st.perm p.eq)))
/-- A region that draws its order, of which the free operations read nothing that is owned. -/
theorem GDraw_0 {P : Program} {N : NN} {Q : Post} {e : Env} {h : PHeap} {L : List HP} {k : List It} {l : List Oper} {id : Nat} [hm : Mixed P] (hok : drawOK l.toArray = true) (g : GD P N l [] h 0 l k Q e h L) : GDraw P N id l k Q e h L := G_draw (Z := L) [] hm.eq hok (by simp) g
end Go.Sl
