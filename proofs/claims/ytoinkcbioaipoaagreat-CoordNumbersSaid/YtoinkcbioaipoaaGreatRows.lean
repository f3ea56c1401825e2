/-
  No cell of these rows narrows 'for every input' (looked for: loops, veiled, ifaces, maps, wideKeys, modest, calm, conditions, laid).
  DERIVED. THE GIVEN ROWS OF THIS SEAT. 3 by the template 'for every input the law returns true; each argument reads behind the call as it read before'; 0 by the template 'total and deterministic' (their statements: YtoinkcbioaipoaaGreatTotals.lean).
  GIVEN WITH THE SEED: the statements are not yours to turn. If you find one false, say at which input.
  Laid BY PROGRAM, IN A SANDBOX (cutbox-rows.mjs): the forced cells as the released guide's own fill.sh prints them over the translation cbe9b8b0f081d597… (all of the seat's roots in one cut). By AI agents, Wed Nov 11 2026. No macro, syntax, notation, axiom, sorry.
-/
import Derived.Test.YtoinkcbioaipoaaGreatChecked
import GoSem.Claim
import GoSem.ClaimJoined
import GoSem.ClaimMapViews
import Derived.JoinedTies
import Derived.KernelRfl
namespace Go.Proofs.YtoinkcbioaipoaaGreat
/- THE CELL 'sum', in the pinned program and in every row, IS THE sha256 OF THE DUMP (.gsa) THAT YtoinkcbioaipoaaGreatProg.lean LOADS. Nothing in Lean hashes anything: it is a label: what it is worth is what the hold of that sum in a sandbox is worth. -/
noncomputable def Tryz.pinned : Pinned := { name := "ytoinkcbioaipoaagreat", sum := "cbe9b8b0f081d5973819fa9e34eb096b15110f64dfc4d199b4a70b3f0956b00b", checked := Tryz.checked }
namespace Rows
def none {H : Type} : Left H := { results := [], args := [] }

/-- 'moietylaw07.CoordUnder': WHATEVER THE INPUT: true; the input reads as it did. -/
def coordUnderSpec : ChangeSpec := { name := "coordUnder", fn := fun _ => fun
  | [d1, d2, d3, d4] => { results := [.lit (.bool true)], args := [d1, d2, d3, d4] }
  | _ => none }
def coordUnderRow : OpenClaim := { program := "ytoinkcbioaipoaagreat", sum := "cbe9b8b0f081d5973819fa9e34eb096b15110f64dfc4d199b4a70b3f0956b00b", func := "moiety/moietylaw07.CoordUnder", spec := "coordUnder", unfollowed := true, recurses := true, apart := false }
def CoordUnderSaid : Prop := coordUnderRow.holds Tryz.pinned (OpenSpec.ofChange coordUnderSpec)

/-- ITS FALSE NEIGHBOUR: 'it returns false'. Refute it at one input. -/
def coordUnderWrong : ChangeSpec := { name := "coordUnder", fn := fun _ => fun
  | [d1, d2, d3, d4] => { results := [.lit (.bool false)], args := [d1, d2, d3, d4] }
  | _ => none }
def CoordUnderWrongFalsely : Prop := coordUnderRow.holds Tryz.pinned (OpenSpec.ofChange coordUnderWrong)

/-- 'moietylaw07.CoordNumbers': WHATEVER THE INPUT: true; the input reads as it did. -/
def coordNumbersSpec : ChangeSpec := { name := "coordNumbers", fn := fun _ => fun
  | [d1, d2, d3] => { results := [.lit (.bool true)], args := [d1, d2, d3] }
  | _ => none }
def coordNumbersRow : OpenClaim := { program := "ytoinkcbioaipoaagreat", sum := "cbe9b8b0f081d5973819fa9e34eb096b15110f64dfc4d199b4a70b3f0956b00b", func := "moiety/moietylaw07.CoordNumbers", spec := "coordNumbers", unfollowed := true, recurses := true, apart := false }
def CoordNumbersSaid : Prop := coordNumbersRow.holds Tryz.pinned (OpenSpec.ofChange coordNumbersSpec)

/-- ITS FALSE NEIGHBOUR: 'it returns false'. Refute it at one input. -/
def coordNumbersWrong : ChangeSpec := { name := "coordNumbers", fn := fun _ => fun
  | [d1, d2, d3] => { results := [.lit (.bool false)], args := [d1, d2, d3] }
  | _ => none }
def CoordNumbersWrongFalsely : Prop := coordNumbersRow.holds Tryz.pinned (OpenSpec.ofChange coordNumbersWrong)

/-- 'moietylaw07.CoordOver': WHATEVER THE INPUT: true; the input reads as it did. -/
def coordOverSpec : ChangeSpec := { name := "coordOver", fn := fun _ => fun
  | [d1, d2, d3, d4] => { results := [.lit (.bool true)], args := [d1, d2, d3, d4] }
  | _ => none }
def coordOverRow : OpenClaim := { program := "ytoinkcbioaipoaagreat", sum := "cbe9b8b0f081d5973819fa9e34eb096b15110f64dfc4d199b4a70b3f0956b00b", func := "moiety/moietylaw07.CoordOver", spec := "coordOver", unfollowed := true, recurses := true, apart := false }
def CoordOverSaid : Prop := coordOverRow.holds Tryz.pinned (OpenSpec.ofChange coordOverSpec)

/-- ITS FALSE NEIGHBOUR: 'it returns false'. Refute it at one input. -/
def coordOverWrong : ChangeSpec := { name := "coordOver", fn := fun _ => fun
  | [d1, d2, d3, d4] => { results := [.lit (.bool false)], args := [d1, d2, d3, d4] }
  | _ => none }
def CoordOverWrongFalsely : Prop := coordOverRow.holds Tryz.pinned (OpenSpec.ofChange coordOverWrong)

/- THE SECOND FORM. 'bulk': how many values and letters a reading holds, each counted each time it is reached (what is shared counts as often as it is met; a slice's spare places count too). A statement '..UptoSaid' is the law's where the arguments, and the package variables that the reading takes, are together of bulk at most 1048576: NARROWER than '..Said'. Prove '..Said' where nothing that the law and all that it calls make is longer than what came in: it says more and counts as full. Else prove '..UptoSaid'. A law counts once. -/
mutual
def uptoBulk {H : Type} : DataW H → Nat
  | .lit (.string bytes) => bytes.length + 1
  | .lit _ => 1
  | .nil => 1
  | .ptr d => uptoBulk d + 1
  | .slice elems spare => uptoBulkAll elems + uptoBulkAll spare + 1
  | .agg parts => uptoBulkAll parts + 1
  | .iface _ d => uptoBulk d + 1
  | .map entries => uptoBulkEntries entries + 1
  | .held _ => 1
def uptoBulkAll {H : Type} : List (DataW H) → Nat
  | [] => 0
  | d :: r => uptoBulk d + uptoBulkAll r
def uptoBulkEntries {H : Type} : List (Lit × DataW H) → Nat
  | [] => 0
  | x :: r => uptoBulkEntry x + uptoBulkEntries r
def uptoBulkEntry {H : Type} : Lit × DataW H → Nat
  | (.string bytes, d) => bytes.length + uptoBulk d + 1
  | (_, d) => uptoBulk d + 1
 end
def uptoSmall : (H : Type) → List (DataW H) → Bool := fun _ ds => decide (uptoBulkAll ds ≤ 1048576)
def OpenSpec.upto (s : _root_.Go.ChangeSpec) : _root_.Go.OpenSpec := { _root_.Go.OpenSpec.ofChange s with cond := some uptoSmall }

/-- 'moietylaw07.CoordUnder', WHERE WHAT IT READS IS OF BULK AT MOST 1048576: true; the input reads as it did. -/
def coordUnderUptoRow : OpenClaim := { program := "ytoinkcbioaipoaagreat", sum := "cbe9b8b0f081d5973819fa9e34eb096b15110f64dfc4d199b4a70b3f0956b00b", func := "moiety/moietylaw07.CoordUnder", spec := "coordUnder", unfollowed := true, recurses := true, apart := false, narrowed := true }
def CoordUnderUptoSaid : Prop := coordUnderUptoRow.holds Tryz.pinned (OpenSpec.upto coordUnderSpec)

/-- 'moietylaw07.CoordNumbers', WHERE WHAT IT READS IS OF BULK AT MOST 1048576: true; the input reads as it did. -/
def coordNumbersUptoRow : OpenClaim := { program := "ytoinkcbioaipoaagreat", sum := "cbe9b8b0f081d5973819fa9e34eb096b15110f64dfc4d199b4a70b3f0956b00b", func := "moiety/moietylaw07.CoordNumbers", spec := "coordNumbers", unfollowed := true, recurses := true, apart := false, narrowed := true }
def CoordNumbersUptoSaid : Prop := coordNumbersUptoRow.holds Tryz.pinned (OpenSpec.upto coordNumbersSpec)

/-- 'moietylaw07.CoordOver', WHERE WHAT IT READS IS OF BULK AT MOST 1048576: true; the input reads as it did. -/
def coordOverUptoRow : OpenClaim := { program := "ytoinkcbioaipoaagreat", sum := "cbe9b8b0f081d5973819fa9e34eb096b15110f64dfc4d199b4a70b3f0956b00b", func := "moiety/moietylaw07.CoordOver", spec := "coordOver", unfollowed := true, recurses := true, apart := false, narrowed := true }
def CoordOverUptoSaid : Prop := coordOverUptoRow.holds Tryz.pinned (OpenSpec.upto coordOverSpec)

end Rows
end Go.Proofs.YtoinkcbioaipoaaGreat
