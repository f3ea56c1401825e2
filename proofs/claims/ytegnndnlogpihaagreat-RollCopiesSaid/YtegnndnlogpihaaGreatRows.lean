/-
  No cell of these rows narrows 'for every input' (looked for: loops, veiled, ifaces, maps, wideKeys, modest, calm, conditions, laid).
  DERIVED. THE GIVEN ROWS OF THIS SEAT. 5 by the template 'for every input the law returns true; each argument reads behind the call as it read before'; 0 by the template 'total and deterministic' (their statements: YtegnndnlogpihaaGreatTotals.lean).
  GIVEN WITH THE SEED: the statements are not yours to turn. If you find one false, say at which input.
  Laid BY PROGRAM, IN A SANDBOX (cutbox-rows.mjs): the forced cells as the released guide's own fill.sh prints them over the translation 91a0e94212fa0b91… (all of the seat's roots in one cut). By AI agents, Wed Nov 11 2026. No macro, syntax, notation, axiom, sorry.
-/
import Derived.Test.YtegnndnlogpihaaGreatChecked
import GoSem.Claim
import GoSem.ClaimJoined
import GoSem.ClaimMapViews
import Derived.JoinedTies
import Derived.KernelRfl
namespace Go.Proofs.YtegnndnlogpihaaGreat
/- THE CELL 'sum', in the pinned program and in every row, IS THE sha256 OF THE DUMP (.gsa) THAT YtegnndnlogpihaaGreatProg.lean LOADS. Nothing in Lean hashes anything: it is a label: what it is worth is what the hold of that sum in a sandbox is worth. -/
noncomputable def Tryz.pinned : Pinned := { name := "ytegnndnlogpihaagreat", sum := "91a0e94212fa0b91ef6f9aa5a6eb408cfc128c534490f937760c7916bfa410af", checked := Tryz.checked }
namespace Rows
def none {H : Type} : Left H := { results := [], args := [] }

/-- 'moietylaw12.RollPlays': WHATEVER THE INPUT: true; the input reads as it did. -/
def rollPlaysSpec : ChangeSpec := { name := "rollPlays", fn := fun _ => fun
  | [d1, d2, d3] => { results := [.lit (.bool true)], args := [d1, d2, d3] }
  | _ => none }
def rollPlaysRow : OpenClaim := { program := "ytegnndnlogpihaagreat", sum := "91a0e94212fa0b91ef6f9aa5a6eb408cfc128c534490f937760c7916bfa410af", func := "moiety/moietylaw12.RollPlays", spec := "rollPlays", inPlace := ["math/bits.Add64"], unfollowed := true, recurses := true, apart := false }
def RollPlaysSaid : Prop := rollPlaysRow.holds Tryz.pinned (OpenSpec.ofChange rollPlaysSpec)

/-- ITS FALSE NEIGHBOUR: 'it returns false'. Refute it at one input. -/
def rollPlaysWrong : ChangeSpec := { name := "rollPlays", fn := fun _ => fun
  | [d1, d2, d3] => { results := [.lit (.bool false)], args := [d1, d2, d3] }
  | _ => none }
def RollPlaysWrongFalsely : Prop := rollPlaysRow.holds Tryz.pinned (OpenSpec.ofChange rollPlaysWrong)

/-- 'moietylaw12.RollOver': WHATEVER THE INPUT: true; the input reads as it did. -/
def rollOverSpec : ChangeSpec := { name := "rollOver", fn := fun _ => fun
  | [d1, d2] => { results := [.lit (.bool true)], args := [d1, d2] }
  | _ => none }
def rollOverRow : OpenClaim := { program := "ytegnndnlogpihaagreat", sum := "91a0e94212fa0b91ef6f9aa5a6eb408cfc128c534490f937760c7916bfa410af", func := "moiety/moietylaw12.RollOver", spec := "rollOver", inPlace := ["math/bits.Add64"], unfollowed := true, recurses := true, apart := false }
def RollOverSaid : Prop := rollOverRow.holds Tryz.pinned (OpenSpec.ofChange rollOverSpec)

/-- ITS FALSE NEIGHBOUR: 'it returns false'. Refute it at one input. -/
def rollOverWrong : ChangeSpec := { name := "rollOver", fn := fun _ => fun
  | [d1, d2] => { results := [.lit (.bool false)], args := [d1, d2] }
  | _ => none }
def RollOverWrongFalsely : Prop := rollOverRow.holds Tryz.pinned (OpenSpec.ofChange rollOverWrong)

/-- 'moietylaw12.RollCopies': WHATEVER THE INPUT: true; the input reads as it did. -/
def rollCopiesSpec : ChangeSpec := { name := "rollCopies", fn := fun _ => fun
  | [d1, d2, d3, d4] => { results := [.lit (.bool true)], args := [d1, d2, d3, d4] }
  | _ => none }
def rollCopiesRow : OpenClaim := { program := "ytegnndnlogpihaagreat", sum := "91a0e94212fa0b91ef6f9aa5a6eb408cfc128c534490f937760c7916bfa410af", func := "moiety/moietylaw12.RollCopies", spec := "rollCopies", inPlace := ["math/bits.Add64"], unfollowed := true, recurses := true, apart := false }
def RollCopiesSaid : Prop := rollCopiesRow.holds Tryz.pinned (OpenSpec.ofChange rollCopiesSpec)

/-- ITS FALSE NEIGHBOUR: 'it returns false'. Refute it at one input. -/
def rollCopiesWrong : ChangeSpec := { name := "rollCopies", fn := fun _ => fun
  | [d1, d2, d3, d4] => { results := [.lit (.bool false)], args := [d1, d2, d3, d4] }
  | _ => none }
def RollCopiesWrongFalsely : Prop := rollCopiesRow.holds Tryz.pinned (OpenSpec.ofChange rollCopiesWrong)

/-- 'moietylaw12.RollOrder': WHATEVER THE INPUT: true; the input reads as it did. -/
def rollOrderSpec : ChangeSpec := { name := "rollOrder", fn := fun _ => fun
  | [d1, d2] => { results := [.lit (.bool true)], args := [d1, d2] }
  | _ => none }
def rollOrderRow : OpenClaim := { program := "ytegnndnlogpihaagreat", sum := "91a0e94212fa0b91ef6f9aa5a6eb408cfc128c534490f937760c7916bfa410af", func := "moiety/moietylaw12.RollOrder", spec := "rollOrder", inPlace := ["math/bits.Add64"], unfollowed := true, recurses := true, apart := false }
def RollOrderSaid : Prop := rollOrderRow.holds Tryz.pinned (OpenSpec.ofChange rollOrderSpec)

/-- ITS FALSE NEIGHBOUR: 'it returns false'. Refute it at one input. -/
def rollOrderWrong : ChangeSpec := { name := "rollOrder", fn := fun _ => fun
  | [d1, d2] => { results := [.lit (.bool false)], args := [d1, d2] }
  | _ => none }
def RollOrderWrongFalsely : Prop := rollOrderRow.holds Tryz.pinned (OpenSpec.ofChange rollOrderWrong)

/-- 'moietylaw12.RollNil': WHATEVER THE INPUT: true; the input reads as it did. -/
def rollNilSpec : ChangeSpec := { name := "rollNil", fn := fun _ => fun
  | [d] => { results := [.lit (.bool true)], args := [d] }
  | _ => none }
def rollNilRow : OpenClaim := { program := "ytegnndnlogpihaagreat", sum := "91a0e94212fa0b91ef6f9aa5a6eb408cfc128c534490f937760c7916bfa410af", func := "moiety/moietylaw12.RollNil", spec := "rollNil", inPlace := ["math/bits.Add64"], unfollowed := true, recurses := true, apart := false }
def RollNilSaid : Prop := rollNilRow.holds Tryz.pinned (OpenSpec.ofChange rollNilSpec)

/-- ITS FALSE NEIGHBOUR: 'it returns false'. Refute it at one input. -/
def rollNilWrong : ChangeSpec := { name := "rollNil", fn := fun _ => fun
  | [d] => { results := [.lit (.bool false)], args := [d] }
  | _ => none }
def RollNilWrongFalsely : Prop := rollNilRow.holds Tryz.pinned (OpenSpec.ofChange rollNilWrong)

/- THE SECOND FORM. 'bulk': how many values and letters a reading holds, each counted each time it is reached (what is shared counts as often as it is met; a slice's spare places count too). A statement '..UptoSaid' is the law's where the arguments, and the package variables that the reading takes, are together of bulk at most 1048576: NARROWER than '..Said'. Prove '..Said' where nothing that the law and all that it calls make is longer than what came in: it says more and counts as full. Else prove '..UptoSaid'. A law counts once. -/
mutual
def uptoBulk {H : Type} : DataW H → Nat
  | .lit (.string bytes) => bytes.length + 1
  | .lit _ => 1
  | .nil => 1
  | .ptr d => uptoBulk d + 1
  | .slice elems spare => uptoBulkAll elems + uptoBulkAll spare + 1
  | .agg parts => uptoBulkAll parts + 1
  | .iface _ d => uptoBulk d + 1
  | .map entries => uptoBulkEntries entries + 1
  | .held _ => 1
def uptoBulkAll {H : Type} : List (DataW H) → Nat
  | [] => 0
  | d :: r => uptoBulk d + uptoBulkAll r
def uptoBulkEntries {H : Type} : List (Lit × DataW H) → Nat
  | [] => 0
  | x :: r => uptoBulkEntry x + uptoBulkEntries r
def uptoBulkEntry {H : Type} : Lit × DataW H → Nat
  | (.string bytes, d) => bytes.length + uptoBulk d + 1
  | (_, d) => uptoBulk d + 1
 end
def uptoSmall : (H : Type) → List (DataW H) → Bool := fun _ ds => decide (uptoBulkAll ds ≤ 1048576)
def OpenSpec.upto (s : _root_.Go.ChangeSpec) : _root_.Go.OpenSpec := { _root_.Go.OpenSpec.ofChange s with cond := some uptoSmall }

/-- 'moietylaw12.RollPlays', WHERE WHAT IT READS IS OF BULK AT MOST 1048576: true; the input reads as it did. -/
def rollPlaysUptoRow : OpenClaim := { program := "ytegnndnlogpihaagreat", sum := "91a0e94212fa0b91ef6f9aa5a6eb408cfc128c534490f937760c7916bfa410af", func := "moiety/moietylaw12.RollPlays", spec := "rollPlays", inPlace := ["math/bits.Add64"], unfollowed := true, recurses := true, apart := false, narrowed := true }
def RollPlaysUptoSaid : Prop := rollPlaysUptoRow.holds Tryz.pinned (OpenSpec.upto rollPlaysSpec)

/-- 'moietylaw12.RollOver', WHERE WHAT IT READS IS OF BULK AT MOST 1048576: true; the input reads as it did. -/
def rollOverUptoRow : OpenClaim := { program := "ytegnndnlogpihaagreat", sum := "91a0e94212fa0b91ef6f9aa5a6eb408cfc128c534490f937760c7916bfa410af", func := "moiety/moietylaw12.RollOver", spec := "rollOver", inPlace := ["math/bits.Add64"], unfollowed := true, recurses := true, apart := false, narrowed := true }
def RollOverUptoSaid : Prop := rollOverUptoRow.holds Tryz.pinned (OpenSpec.upto rollOverSpec)

/-- 'moietylaw12.RollCopies', WHERE WHAT IT READS IS OF BULK AT MOST 1048576: true; the input reads as it did. -/
def rollCopiesUptoRow : OpenClaim := { program := "ytegnndnlogpihaagreat", sum := "91a0e94212fa0b91ef6f9aa5a6eb408cfc128c534490f937760c7916bfa410af", func := "moiety/moietylaw12.RollCopies", spec := "rollCopies", inPlace := ["math/bits.Add64"], unfollowed := true, recurses := true, apart := false, narrowed := true }
def RollCopiesUptoSaid : Prop := rollCopiesUptoRow.holds Tryz.pinned (OpenSpec.upto rollCopiesSpec)

/-- 'moietylaw12.RollOrder', WHERE WHAT IT READS IS OF BULK AT MOST 1048576: true; the input reads as it did. -/
def rollOrderUptoRow : OpenClaim := { program := "ytegnndnlogpihaagreat", sum := "91a0e94212fa0b91ef6f9aa5a6eb408cfc128c534490f937760c7916bfa410af", func := "moiety/moietylaw12.RollOrder", spec := "rollOrder", inPlace := ["math/bits.Add64"], unfollowed := true, recurses := true, apart := false, narrowed := true }
def RollOrderUptoSaid : Prop := rollOrderUptoRow.holds Tryz.pinned (OpenSpec.upto rollOrderSpec)

/-- 'moietylaw12.RollNil', WHERE WHAT IT READS IS OF BULK AT MOST 1048576: true; the input reads as it did. -/
def rollNilUptoRow : OpenClaim := { program := "ytegnndnlogpihaagreat", sum := "91a0e94212fa0b91ef6f9aa5a6eb408cfc128c534490f937760c7916bfa410af", func := "moiety/moietylaw12.RollNil", spec := "rollNil", inPlace := ["math/bits.Add64"], unfollowed := true, recurses := true, apart := false, narrowed := true }
def RollNilUptoSaid : Prop := rollNilUptoRow.holds Tryz.pinned (OpenSpec.upto rollNilSpec)

end Rows
end Go.Proofs.YtegnndnlogpihaaGreat
