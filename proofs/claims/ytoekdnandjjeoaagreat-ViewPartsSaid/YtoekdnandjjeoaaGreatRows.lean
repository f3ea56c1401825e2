/-
  No cell of these rows narrows 'for every input' (looked for: loops, veiled, ifaces, maps, wideKeys, modest, calm, conditions, laid).
  DERIVED. THE GIVEN ROWS OF THIS SEAT. 7 by the template 'for every input the law returns true; each argument reads behind the call as it read before'; 0 by the template 'total and deterministic' (their statements: YtoekdnandjjeoaaGreatTotals.lean).
  GIVEN WITH THE SEED: the statements are not yours to turn. If you find one false, say at which input.
  Laid BY PROGRAM, IN A SANDBOX (cutbox-rows.mjs): the forced cells as the released guide's own fill.sh prints them over the translation 8258fdcfa619da55… (all of the seat's roots in one cut). By AI agents, Wed Nov 11 2026. No macro, syntax, notation, axiom, sorry.
-/
import Derived.Test.YtoekdnandjjeoaaGreatChecked
import GoSem.Claim
import GoSem.ClaimJoined
import GoSem.ClaimMapViews
import Derived.JoinedTies
import Derived.KernelRfl
namespace Go.Proofs.YtoekdnandjjeoaaGreat
/- THE CELL 'sum', in the pinned program and in every row, IS THE sha256 OF THE DUMP (.gsa) THAT YtoekdnandjjeoaaGreatProg.lean LOADS. Nothing in Lean hashes anything: it is a label: what it is worth is what the hold of that sum in a sandbox is worth. -/
noncomputable def Tryz.pinned : Pinned := { name := "ytoekdnandjjeoaagreat", sum := "8258fdcfa619da559c247397ef9d2ee91ba25f56f9bc8d572b4330f7e5f0c6b9", checked := Tryz.checked }
namespace Rows
def none {H : Type} : Left H := { results := [], args := [] }

/-- 'moietylaw11.ViewMakes': WHATEVER THE INPUT: true; the input reads as it did. -/
def viewMakesSpec : ChangeSpec := { name := "viewMakes", fn := fun _ => fun
  | [d1, d2] => { results := [.lit (.bool true)], args := [d1, d2] }
  | _ => none }
def viewMakesRow : OpenClaim := { program := "ytoekdnandjjeoaagreat", sum := "8258fdcfa619da559c247397ef9d2ee91ba25f56f9bc8d572b4330f7e5f0c6b9", func := "moiety/moietylaw11.ViewMakes", spec := "viewMakes", inPlace := ["slices.overlaps[int]", "math/bits.Add64"], unfollowed := true, recurses := true, apart := false }
def ViewMakesSaid : Prop := viewMakesRow.holds Tryz.pinned (OpenSpec.ofChange viewMakesSpec)

/-- ITS FALSE NEIGHBOUR: 'it returns false'. Refute it at one input. -/
def viewMakesWrong : ChangeSpec := { name := "viewMakes", fn := fun _ => fun
  | [d1, d2] => { results := [.lit (.bool false)], args := [d1, d2] }
  | _ => none }
def ViewMakesWrongFalsely : Prop := viewMakesRow.holds Tryz.pinned (OpenSpec.ofChange viewMakesWrong)

/-- 'moietylaw11.ViewParts': WHATEVER THE INPUT: true; the input reads as it did. -/
def viewPartsSpec : ChangeSpec := { name := "viewParts", fn := fun _ => fun
  | [d1, d2, d3, d4] => { results := [.lit (.bool true)], args := [d1, d2, d3, d4] }
  | _ => none }
def viewPartsRow : OpenClaim := { program := "ytoekdnandjjeoaagreat", sum := "8258fdcfa619da559c247397ef9d2ee91ba25f56f9bc8d572b4330f7e5f0c6b9", func := "moiety/moietylaw11.ViewParts", spec := "viewParts", inPlace := ["slices.overlaps[int]", "math/bits.Add64"], unfollowed := true, recurses := true, apart := false }
def ViewPartsSaid : Prop := viewPartsRow.holds Tryz.pinned (OpenSpec.ofChange viewPartsSpec)

/-- ITS FALSE NEIGHBOUR: 'it returns false'. Refute it at one input. -/
def viewPartsWrong : ChangeSpec := { name := "viewParts", fn := fun _ => fun
  | [d1, d2, d3, d4] => { results := [.lit (.bool false)], args := [d1, d2, d3, d4] }
  | _ => none }
def ViewPartsWrongFalsely : Prop := viewPartsRow.holds Tryz.pinned (OpenSpec.ofChange viewPartsWrong)

/-- 'moietylaw11.ViewValues': WHATEVER THE INPUT: true; the input reads as it did. -/
def viewValuesSpec : ChangeSpec := { name := "viewValues", fn := fun _ => fun
  | [d1, d2, d3] => { results := [.lit (.bool true)], args := [d1, d2, d3] }
  | _ => none }
def viewValuesRow : OpenClaim := { program := "ytoekdnandjjeoaagreat", sum := "8258fdcfa619da559c247397ef9d2ee91ba25f56f9bc8d572b4330f7e5f0c6b9", func := "moiety/moietylaw11.ViewValues", spec := "viewValues", inPlace := ["slices.overlaps[int]", "math/bits.Add64"], unfollowed := true, recurses := true, apart := false }
def ViewValuesSaid : Prop := viewValuesRow.holds Tryz.pinned (OpenSpec.ofChange viewValuesSpec)

/-- ITS FALSE NEIGHBOUR: 'it returns false'. Refute it at one input. -/
def viewValuesWrong : ChangeSpec := { name := "viewValues", fn := fun _ => fun
  | [d1, d2, d3] => { results := [.lit (.bool false)], args := [d1, d2, d3] }
  | _ => none }
def ViewValuesWrongFalsely : Prop := viewValuesRow.holds Tryz.pinned (OpenSpec.ofChange viewValuesWrong)

/-- 'moietylaw11.ViewRows': WHATEVER THE INPUT: true; the input reads as it did. -/
def viewRowsSpec : ChangeSpec := { name := "viewRows", fn := fun _ => fun
  | [d1, d2, d3, d4] => { results := [.lit (.bool true)], args := [d1, d2, d3, d4] }
  | _ => none }
def viewRowsRow : OpenClaim := { program := "ytoekdnandjjeoaagreat", sum := "8258fdcfa619da559c247397ef9d2ee91ba25f56f9bc8d572b4330f7e5f0c6b9", func := "moiety/moietylaw11.ViewRows", spec := "viewRows", inPlace := ["slices.overlaps[int]", "math/bits.Add64"], unfollowed := true, recurses := true, apart := false }
def ViewRowsSaid : Prop := viewRowsRow.holds Tryz.pinned (OpenSpec.ofChange viewRowsSpec)

/-- ITS FALSE NEIGHBOUR: 'it returns false'. Refute it at one input. -/
def viewRowsWrong : ChangeSpec := { name := "viewRows", fn := fun _ => fun
  | [d1, d2, d3, d4] => { results := [.lit (.bool false)], args := [d1, d2, d3, d4] }
  | _ => none }
def ViewRowsWrongFalsely : Prop := viewRowsRow.holds Tryz.pinned (OpenSpec.ofChange viewRowsWrong)

/-- 'moietylaw11.ViewOver': WHATEVER THE INPUT: true; the input reads as it did. -/
def viewOverSpec : ChangeSpec := { name := "viewOver", fn := fun _ => fun
  | [d1, d2] => { results := [.lit (.bool true)], args := [d1, d2] }
  | _ => none }
def viewOverRow : OpenClaim := { program := "ytoekdnandjjeoaagreat", sum := "8258fdcfa619da559c247397ef9d2ee91ba25f56f9bc8d572b4330f7e5f0c6b9", func := "moiety/moietylaw11.ViewOver", spec := "viewOver", inPlace := ["slices.overlaps[int]", "math/bits.Add64"], unfollowed := true, recurses := true, apart := false }
def ViewOverSaid : Prop := viewOverRow.holds Tryz.pinned (OpenSpec.ofChange viewOverSpec)

/-- ITS FALSE NEIGHBOUR: 'it returns false'. Refute it at one input. -/
def viewOverWrong : ChangeSpec := { name := "viewOver", fn := fun _ => fun
  | [d1, d2] => { results := [.lit (.bool false)], args := [d1, d2] }
  | _ => none }
def ViewOverWrongFalsely : Prop := viewOverRow.holds Tryz.pinned (OpenSpec.ofChange viewOverWrong)

/-- 'moietylaw11.ViewNil': WHATEVER THE INPUT: true; the input reads as it did. -/
def viewNilSpec : ChangeSpec := { name := "viewNil", fn := fun _ => fun
  | [d1, d2] => { results := [.lit (.bool true)], args := [d1, d2] }
  | _ => none }
def viewNilRow : OpenClaim := { program := "ytoekdnandjjeoaagreat", sum := "8258fdcfa619da559c247397ef9d2ee91ba25f56f9bc8d572b4330f7e5f0c6b9", func := "moiety/moietylaw11.ViewNil", spec := "viewNil", inPlace := ["math/bits.Add64", "slices.overlaps[int]"], unfollowed := true, recurses := true, apart := false }
def ViewNilSaid : Prop := viewNilRow.holds Tryz.pinned (OpenSpec.ofChange viewNilSpec)

/-- ITS FALSE NEIGHBOUR: 'it returns false'. Refute it at one input. -/
def viewNilWrong : ChangeSpec := { name := "viewNil", fn := fun _ => fun
  | [d1, d2] => { results := [.lit (.bool false)], args := [d1, d2] }
  | _ => none }
def ViewNilWrongFalsely : Prop := viewNilRow.holds Tryz.pinned (OpenSpec.ofChange viewNilWrong)

/-- 'moietylaw12.RollViews': WHATEVER THE INPUT: true; the input reads as it did. -/
def rollViewsSpec : ChangeSpec := { name := "rollViews", fn := fun _ => fun
  | [d1, d2, d3] => { results := [.lit (.bool true)], args := [d1, d2, d3] }
  | _ => none }
def rollViewsRow : OpenClaim := { program := "ytoekdnandjjeoaagreat", sum := "8258fdcfa619da559c247397ef9d2ee91ba25f56f9bc8d572b4330f7e5f0c6b9", func := "moiety/moietylaw12.RollViews", spec := "rollViews", inPlace := ["math/bits.Add64", "slices.overlaps[int]"], unfollowed := true, recurses := true, apart := false }
def RollViewsSaid : Prop := rollViewsRow.holds Tryz.pinned (OpenSpec.ofChange rollViewsSpec)

/-- ITS FALSE NEIGHBOUR: 'it returns false'. Refute it at one input. -/
def rollViewsWrong : ChangeSpec := { name := "rollViews", fn := fun _ => fun
  | [d1, d2, d3] => { results := [.lit (.bool false)], args := [d1, d2, d3] }
  | _ => none }
def RollViewsWrongFalsely : Prop := rollViewsRow.holds Tryz.pinned (OpenSpec.ofChange rollViewsWrong)

/- THE SECOND FORM. 'bulk': how many values and letters a reading holds, each counted each time it is reached (what is shared counts as often as it is met; a slice's spare places count too). A statement '..UptoSaid' is the law's where the arguments, and the package variables that the reading takes, are together of bulk at most 1048576: NARROWER than '..Said'. Prove '..Said' where nothing that the law and all that it calls make is longer than what came in: it says more and counts as full. Else prove '..UptoSaid'. A law counts once. -/
mutual
def uptoBulk {H : Type} : DataW H → Nat
  | .lit (.string bytes) => bytes.length + 1
  | .lit _ => 1
  | .nil => 1
  | .ptr d => uptoBulk d + 1
  | .slice elems spare => uptoBulkAll elems + uptoBulkAll spare + 1
  | .agg parts => uptoBulkAll parts + 1
  | .iface _ d => uptoBulk d + 1
  | .map entries => uptoBulkEntries entries + 1
  | .held _ => 1
def uptoBulkAll {H : Type} : List (DataW H) → Nat
  | [] => 0
  | d :: r => uptoBulk d + uptoBulkAll r
def uptoBulkEntries {H : Type} : List (Lit × DataW H) → Nat
  | [] => 0
  | x :: r => uptoBulkEntry x + uptoBulkEntries r
def uptoBulkEntry {H : Type} : Lit × DataW H → Nat
  | (.string bytes, d) => bytes.length + uptoBulk d + 1
  | (_, d) => uptoBulk d + 1
 end
def uptoSmall : (H : Type) → List (DataW H) → Bool := fun _ ds => decide (uptoBulkAll ds ≤ 1048576)
def OpenSpec.upto (s : _root_.Go.ChangeSpec) : _root_.Go.OpenSpec := { _root_.Go.OpenSpec.ofChange s with cond := some uptoSmall }

/-- 'moietylaw11.ViewMakes', WHERE WHAT IT READS IS OF BULK AT MOST 1048576: true; the input reads as it did. -/
def viewMakesUptoRow : OpenClaim := { program := "ytoekdnandjjeoaagreat", sum := "8258fdcfa619da559c247397ef9d2ee91ba25f56f9bc8d572b4330f7e5f0c6b9", func := "moiety/moietylaw11.ViewMakes", spec := "viewMakes", inPlace := ["slices.overlaps[int]", "math/bits.Add64"], unfollowed := true, recurses := true, apart := false, narrowed := true }
def ViewMakesUptoSaid : Prop := viewMakesUptoRow.holds Tryz.pinned (OpenSpec.upto viewMakesSpec)

/-- 'moietylaw11.ViewParts', WHERE WHAT IT READS IS OF BULK AT MOST 1048576: true; the input reads as it did. -/
def viewPartsUptoRow : OpenClaim := { program := "ytoekdnandjjeoaagreat", sum := "8258fdcfa619da559c247397ef9d2ee91ba25f56f9bc8d572b4330f7e5f0c6b9", func := "moiety/moietylaw11.ViewParts", spec := "viewParts", inPlace := ["slices.overlaps[int]", "math/bits.Add64"], unfollowed := true, recurses := true, apart := false, narrowed := true }
def ViewPartsUptoSaid : Prop := viewPartsUptoRow.holds Tryz.pinned (OpenSpec.upto viewPartsSpec)

/-- 'moietylaw11.ViewValues', WHERE WHAT IT READS IS OF BULK AT MOST 1048576: true; the input reads as it did. -/
def viewValuesUptoRow : OpenClaim := { program := "ytoekdnandjjeoaagreat", sum := "8258fdcfa619da559c247397ef9d2ee91ba25f56f9bc8d572b4330f7e5f0c6b9", func := "moiety/moietylaw11.ViewValues", spec := "viewValues", inPlace := ["slices.overlaps[int]", "math/bits.Add64"], unfollowed := true, recurses := true, apart := false, narrowed := true }
def ViewValuesUptoSaid : Prop := viewValuesUptoRow.holds Tryz.pinned (OpenSpec.upto viewValuesSpec)

/-- 'moietylaw11.ViewRows', WHERE WHAT IT READS IS OF BULK AT MOST 1048576: true; the input reads as it did. -/
def viewRowsUptoRow : OpenClaim := { program := "ytoekdnandjjeoaagreat", sum := "8258fdcfa619da559c247397ef9d2ee91ba25f56f9bc8d572b4330f7e5f0c6b9", func := "moiety/moietylaw11.ViewRows", spec := "viewRows", inPlace := ["slices.overlaps[int]", "math/bits.Add64"], unfollowed := true, recurses := true, apart := false, narrowed := true }
def ViewRowsUptoSaid : Prop := viewRowsUptoRow.holds Tryz.pinned (OpenSpec.upto viewRowsSpec)

/-- 'moietylaw11.ViewOver', WHERE WHAT IT READS IS OF BULK AT MOST 1048576: true; the input reads as it did. -/
def viewOverUptoRow : OpenClaim := { program := "ytoekdnandjjeoaagreat", sum := "8258fdcfa619da559c247397ef9d2ee91ba25f56f9bc8d572b4330f7e5f0c6b9", func := "moiety/moietylaw11.ViewOver", spec := "viewOver", inPlace := ["slices.overlaps[int]", "math/bits.Add64"], unfollowed := true, recurses := true, apart := false, narrowed := true }
def ViewOverUptoSaid : Prop := viewOverUptoRow.holds Tryz.pinned (OpenSpec.upto viewOverSpec)

/-- 'moietylaw11.ViewNil', WHERE WHAT IT READS IS OF BULK AT MOST 1048576: true; the input reads as it did. -/
def viewNilUptoRow : OpenClaim := { program := "ytoekdnandjjeoaagreat", sum := "8258fdcfa619da559c247397ef9d2ee91ba25f56f9bc8d572b4330f7e5f0c6b9", func := "moiety/moietylaw11.ViewNil", spec := "viewNil", inPlace := ["math/bits.Add64", "slices.overlaps[int]"], unfollowed := true, recurses := true, apart := false, narrowed := true }
def ViewNilUptoSaid : Prop := viewNilUptoRow.holds Tryz.pinned (OpenSpec.upto viewNilSpec)

/-- 'moietylaw12.RollViews', WHERE WHAT IT READS IS OF BULK AT MOST 1048576: true; the input reads as it did. -/
def rollViewsUptoRow : OpenClaim := { program := "ytoekdnandjjeoaagreat", sum := "8258fdcfa619da559c247397ef9d2ee91ba25f56f9bc8d572b4330f7e5f0c6b9", func := "moiety/moietylaw12.RollViews", spec := "rollViews", inPlace := ["math/bits.Add64", "slices.overlaps[int]"], unfollowed := true, recurses := true, apart := false, narrowed := true }
def RollViewsUptoSaid : Prop := rollViewsUptoRow.holds Tryz.pinned (OpenSpec.upto rollViewsSpec)

end Rows
end Go.Proofs.YtoekdnandjjeoaaGreat
