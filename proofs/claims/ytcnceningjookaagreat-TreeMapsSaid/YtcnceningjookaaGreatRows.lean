/-
  No cell of these rows narrows 'for every input' (looked for: loops, veiled, ifaces, maps, wideKeys, modest, calm, conditions, laid).
  DERIVED. THE GIVEN ROWS OF THIS SEAT. 11 by the template 'for every input the law returns true; each argument reads behind the call as it read before'; 0 by the template 'total and deterministic' (their statements: YtcnceningjookaaGreatTotals.lean).
  GIVEN WITH THE SEED: the statements are not yours to turn. If you find one false, say at which input.
  Laid BY PROGRAM, IN A SANDBOX (cutbox-rows.mjs): the forced cells as the released guide's own fill.sh prints them over the translation f1d49c0c46b65cac… (all of the seat's roots in one cut). By AI agents, Wed Nov 11 2026. No macro, syntax, notation, axiom, sorry.
-/
import Derived.Test.YtcnceningjookaaGreatChecked
import GoSem.Claim
import GoSem.ClaimJoined
import GoSem.ClaimMapViews
import Derived.JoinedTies
import Derived.KernelRfl
namespace Go.Proofs.YtcnceningjookaaGreat
/- THE CELL 'sum', in the pinned program and in every row, IS THE sha256 OF THE DUMP (.gsa) THAT YtcnceningjookaaGreatProg.lean LOADS. Nothing in Lean hashes anything: it is a label: what it is worth is what the hold of that sum in a sandbox is worth. -/
noncomputable def Tryz.pinned : Pinned := { name := "ytcnceningjookaagreat", sum := "f1d49c0c46b65cac5055712003df6779b6cb65d9d6c5dcb00fdbc5ee90c5b127", checked := Tryz.checked }
namespace Rows
def none {H : Type} : Left H := { results := [], args := [] }

/-- 'cisternlaw11.ShelfSays': WHATEVER THE INPUT: true; the input reads as it did. -/
def shelfSaysSpec : ChangeSpec := { name := "shelfSays", fn := fun _ => fun
  | [d1, d2, d3] => { results := [.lit (.bool true)], args := [d1, d2, d3] }
  | _ => none }
def shelfSaysRow : OpenClaim := { program := "ytcnceningjookaagreat", sum := "f1d49c0c46b65cac5055712003df6779b6cb65d9d6c5dcb00fdbc5ee90c5b127", func := "cistern/cisternlaw11.ShelfSays", spec := "shelfSays", inPlace := ["slices.overlaps[uint64]"], unfollowed := true, recurses := true, apart := false }
def ShelfSaysSaid : Prop := shelfSaysRow.holds Tryz.pinned (OpenSpec.ofChange shelfSaysSpec)

/-- ITS FALSE NEIGHBOUR: 'it returns false'. Refute it at one input. -/
def shelfSaysWrong : ChangeSpec := { name := "shelfSays", fn := fun _ => fun
  | [d1, d2, d3] => { results := [.lit (.bool false)], args := [d1, d2, d3] }
  | _ => none }
def ShelfSaysWrongFalsely : Prop := shelfSaysRow.holds Tryz.pinned (OpenSpec.ofChange shelfSaysWrong)

/-- 'cisternlaw11.TreeKnown': WHATEVER THE INPUT: true; the input reads as it did. -/
def treeKnownSpec : ChangeSpec := { name := "treeKnown", fn := fun _ => fun
  | [] => { results := [.lit (.bool true)], args := [] }
  | _ => none }
def treeKnownRow : OpenClaim := { program := "ytcnceningjookaagreat", sum := "f1d49c0c46b65cac5055712003df6779b6cb65d9d6c5dcb00fdbc5ee90c5b127", func := "cistern/cisternlaw11.TreeKnown", spec := "treeKnown", inPlace := ["slices.overlaps[uint64]"], unfollowed := true, recurses := true, apart := false }
def TreeKnownSaid : Prop := treeKnownRow.holds Tryz.pinned (OpenSpec.ofChange treeKnownSpec)

/-- ITS FALSE NEIGHBOUR: 'it returns false'. Refute it at one input. -/
def treeKnownWrong : ChangeSpec := { name := "treeKnown", fn := fun _ => fun
  | [] => { results := [.lit (.bool false)], args := [] }
  | _ => none }
def TreeKnownWrongFalsely : Prop := treeKnownRow.holds Tryz.pinned (OpenSpec.ofChange treeKnownWrong)

/-- 'cisternlaw11.TreeMaps': WHATEVER THE INPUT: true; the input reads as it did. -/
def treeMapsSpec : ChangeSpec := { name := "treeMaps", fn := fun _ => fun
  | [d1, d2, d3] => { results := [.lit (.bool true)], args := [d1, d2, d3] }
  | _ => none }
def treeMapsRow : OpenClaim := { program := "ytcnceningjookaagreat", sum := "f1d49c0c46b65cac5055712003df6779b6cb65d9d6c5dcb00fdbc5ee90c5b127", func := "cistern/cisternlaw11.TreeMaps", spec := "treeMaps", inPlace := ["slices.overlaps[uint64]"], unfollowed := true, recurses := true, apart := false }
def TreeMapsSaid : Prop := treeMapsRow.holds Tryz.pinned (OpenSpec.ofChange treeMapsSpec)

/-- ITS FALSE NEIGHBOUR: 'it returns false'. Refute it at one input. -/
def treeMapsWrong : ChangeSpec := { name := "treeMaps", fn := fun _ => fun
  | [d1, d2, d3] => { results := [.lit (.bool false)], args := [d1, d2, d3] }
  | _ => none }
def TreeMapsWrongFalsely : Prop := treeMapsRow.holds Tryz.pinned (OpenSpec.ofChange treeMapsWrong)

/-- 'cisternlaw11.TreePlays': WHATEVER THE INPUT: true; the input reads as it did. -/
def treePlaysSpec : ChangeSpec := { name := "treePlays", fn := fun _ => fun
  | [d1, d2, d3] => { results := [.lit (.bool true)], args := [d1, d2, d3] }
  | _ => none }
def treePlaysRow : OpenClaim := { program := "ytcnceningjookaagreat", sum := "f1d49c0c46b65cac5055712003df6779b6cb65d9d6c5dcb00fdbc5ee90c5b127", func := "cistern/cisternlaw11.TreePlays", spec := "treePlays", inPlace := ["slices.overlaps[uint64]"], unfollowed := true, recurses := true, apart := false }
def TreePlaysSaid : Prop := treePlaysRow.holds Tryz.pinned (OpenSpec.ofChange treePlaysSpec)

/-- ITS FALSE NEIGHBOUR: 'it returns false'. Refute it at one input. -/
def treePlaysWrong : ChangeSpec := { name := "treePlays", fn := fun _ => fun
  | [d1, d2, d3] => { results := [.lit (.bool false)], args := [d1, d2, d3] }
  | _ => none }
def TreePlaysWrongFalsely : Prop := treePlaysRow.holds Tryz.pinned (OpenSpec.ofChange treePlaysWrong)

/-- 'cisternlaw11.TreeEmpties': WHATEVER THE INPUT: true; the input reads as it did. -/
def treeEmptiesSpec : ChangeSpec := { name := "treeEmpties", fn := fun _ => fun
  | [d1, d2] => { results := [.lit (.bool true)], args := [d1, d2] }
  | _ => none }
def treeEmptiesRow : OpenClaim := { program := "ytcnceningjookaagreat", sum := "f1d49c0c46b65cac5055712003df6779b6cb65d9d6c5dcb00fdbc5ee90c5b127", func := "cistern/cisternlaw11.TreeEmpties", spec := "treeEmpties", inPlace := ["slices.overlaps[uint64]"], unfollowed := true, recurses := true, apart := false }
def TreeEmptiesSaid : Prop := treeEmptiesRow.holds Tryz.pinned (OpenSpec.ofChange treeEmptiesSpec)

/-- ITS FALSE NEIGHBOUR: 'it returns false'. Refute it at one input. -/
def treeEmptiesWrong : ChangeSpec := { name := "treeEmpties", fn := fun _ => fun
  | [d1, d2] => { results := [.lit (.bool false)], args := [d1, d2] }
  | _ => none }
def TreeEmptiesWrongFalsely : Prop := treeEmptiesRow.holds Tryz.pinned (OpenSpec.ofChange treeEmptiesWrong)

/-- 'cisternlaw13.ShareKnown': WHATEVER THE INPUT: true; the input reads as it did. -/
def shareKnownSpec : ChangeSpec := { name := "shareKnown", fn := fun _ => fun
  | [] => { results := [.lit (.bool true)], args := [] }
  | _ => none }
def shareKnownRow : OpenClaim := { program := "ytcnceningjookaagreat", sum := "f1d49c0c46b65cac5055712003df6779b6cb65d9d6c5dcb00fdbc5ee90c5b127", func := "cistern/cisternlaw13.ShareKnown", spec := "shareKnown", inPlace := ["slices.overlaps[uint64]"], unfollowed := true, recurses := true, apart := false }
def ShareKnownSaid : Prop := shareKnownRow.holds Tryz.pinned (OpenSpec.ofChange shareKnownSpec)

/-- ITS FALSE NEIGHBOUR: 'it returns false'. Refute it at one input. -/
def shareKnownWrong : ChangeSpec := { name := "shareKnown", fn := fun _ => fun
  | [] => { results := [.lit (.bool false)], args := [] }
  | _ => none }
def ShareKnownWrongFalsely : Prop := shareKnownRow.holds Tryz.pinned (OpenSpec.ofChange shareKnownWrong)

/-- 'cisternlaw12.StretchJoins': WHATEVER THE INPUT: true; the input reads as it did. -/
def stretchJoinsSpec : ChangeSpec := { name := "stretchJoins", fn := fun _ => fun
  | [d1, d2, d3] => { results := [.lit (.bool true)], args := [d1, d2, d3] }
  | _ => none }
def stretchJoinsRow : OpenClaim := { program := "ytcnceningjookaagreat", sum := "f1d49c0c46b65cac5055712003df6779b6cb65d9d6c5dcb00fdbc5ee90c5b127", func := "cistern/cisternlaw12.StretchJoins", spec := "stretchJoins", inPlace := ["slices.overlaps[uint64]"], unfollowed := true, recurses := true, apart := false }
def StretchJoinsSaid : Prop := stretchJoinsRow.holds Tryz.pinned (OpenSpec.ofChange stretchJoinsSpec)

/-- ITS FALSE NEIGHBOUR: 'it returns false'. Refute it at one input. -/
def stretchJoinsWrong : ChangeSpec := { name := "stretchJoins", fn := fun _ => fun
  | [d1, d2, d3] => { results := [.lit (.bool false)], args := [d1, d2, d3] }
  | _ => none }
def StretchJoinsWrongFalsely : Prop := stretchJoinsRow.holds Tryz.pinned (OpenSpec.ofChange stretchJoinsWrong)

/-- 'cisternlaw12.StretchMaps': WHATEVER THE INPUT: true; the input reads as it did. -/
def stretchMapsSpec : ChangeSpec := { name := "stretchMaps", fn := fun _ => fun
  | [d1, d2, d3, d4, d5] => { results := [.lit (.bool true)], args := [d1, d2, d3, d4, d5] }
  | _ => none }
def stretchMapsRow : OpenClaim := { program := "ytcnceningjookaagreat", sum := "f1d49c0c46b65cac5055712003df6779b6cb65d9d6c5dcb00fdbc5ee90c5b127", func := "cistern/cisternlaw12.StretchMaps", spec := "stretchMaps", inPlace := ["slices.overlaps[uint64]"], unfollowed := true, recurses := true, apart := false }
def StretchMapsSaid : Prop := stretchMapsRow.holds Tryz.pinned (OpenSpec.ofChange stretchMapsSpec)

/-- ITS FALSE NEIGHBOUR: 'it returns false'. Refute it at one input. -/
def stretchMapsWrong : ChangeSpec := { name := "stretchMaps", fn := fun _ => fun
  | [d1, d2, d3, d4, d5] => { results := [.lit (.bool false)], args := [d1, d2, d3, d4, d5] }
  | _ => none }
def StretchMapsWrongFalsely : Prop := stretchMapsRow.holds Tryz.pinned (OpenSpec.ofChange stretchMapsWrong)

/-- 'cisternlaw13.SharePlays': WHATEVER THE INPUT: true; the input reads as it did. -/
def sharePlaysSpec : ChangeSpec := { name := "sharePlays", fn := fun _ => fun
  | [d1, d2, d3] => { results := [.lit (.bool true)], args := [d1, d2, d3] }
  | _ => none }
def sharePlaysRow : OpenClaim := { program := "ytcnceningjookaagreat", sum := "f1d49c0c46b65cac5055712003df6779b6cb65d9d6c5dcb00fdbc5ee90c5b127", func := "cistern/cisternlaw13.SharePlays", spec := "sharePlays", inPlace := ["slices.overlaps[uint64]"], unfollowed := true, recurses := true, apart := false }
def SharePlaysSaid : Prop := sharePlaysRow.holds Tryz.pinned (OpenSpec.ofChange sharePlaysSpec)

/-- ITS FALSE NEIGHBOUR: 'it returns false'. Refute it at one input. -/
def sharePlaysWrong : ChangeSpec := { name := "sharePlays", fn := fun _ => fun
  | [d1, d2, d3] => { results := [.lit (.bool false)], args := [d1, d2, d3] }
  | _ => none }
def SharePlaysWrongFalsely : Prop := sharePlaysRow.holds Tryz.pinned (OpenSpec.ofChange sharePlaysWrong)

/-- 'cisternlaw13.ShareCounts': WHATEVER THE INPUT: true; the input reads as it did. -/
def shareCountsSpec : ChangeSpec := { name := "shareCounts", fn := fun _ => fun
  | [d] => { results := [.lit (.bool true)], args := [d] }
  | _ => none }
def shareCountsRow : OpenClaim := { program := "ytcnceningjookaagreat", sum := "f1d49c0c46b65cac5055712003df6779b6cb65d9d6c5dcb00fdbc5ee90c5b127", func := "cistern/cisternlaw13.ShareCounts", spec := "shareCounts", inPlace := ["slices.overlaps[uint64]"], unfollowed := true, recurses := true, apart := false }
def ShareCountsSaid : Prop := shareCountsRow.holds Tryz.pinned (OpenSpec.ofChange shareCountsSpec)

/-- ITS FALSE NEIGHBOUR: 'it returns false'. Refute it at one input. -/
def shareCountsWrong : ChangeSpec := { name := "shareCounts", fn := fun _ => fun
  | [d] => { results := [.lit (.bool false)], args := [d] }
  | _ => none }
def ShareCountsWrongFalsely : Prop := shareCountsRow.holds Tryz.pinned (OpenSpec.ofChange shareCountsWrong)

/-- 'cisternlaw13.ShareSkips': WHATEVER THE INPUT: true; the input reads as it did. -/
def shareSkipsSpec : ChangeSpec := { name := "shareSkips", fn := fun _ => fun
  | [d1, d2] => { results := [.lit (.bool true)], args := [d1, d2] }
  | _ => none }
def shareSkipsRow : OpenClaim := { program := "ytcnceningjookaagreat", sum := "f1d49c0c46b65cac5055712003df6779b6cb65d9d6c5dcb00fdbc5ee90c5b127", func := "cistern/cisternlaw13.ShareSkips", spec := "shareSkips", inPlace := ["slices.overlaps[uint64]"], unfollowed := true, recurses := true, apart := false }
def ShareSkipsSaid : Prop := shareSkipsRow.holds Tryz.pinned (OpenSpec.ofChange shareSkipsSpec)

/-- ITS FALSE NEIGHBOUR: 'it returns false'. Refute it at one input. -/
def shareSkipsWrong : ChangeSpec := { name := "shareSkips", fn := fun _ => fun
  | [d1, d2] => { results := [.lit (.bool false)], args := [d1, d2] }
  | _ => none }
def ShareSkipsWrongFalsely : Prop := shareSkipsRow.holds Tryz.pinned (OpenSpec.ofChange shareSkipsWrong)

/- THE SECOND FORM. 'bulk': how many values and letters a reading holds, each counted each time it is reached (what is shared counts as often as it is met; a slice's spare places count too). A statement '..UptoSaid' is the law's where the arguments, and the package variables that the reading takes, are together of bulk at most 1048576: NARROWER than '..Said'. Prove '..Said' where nothing that the law and all that it calls make is longer than what came in: it says more and counts as full. Else prove '..UptoSaid'. A law counts once. -/
mutual
def uptoBulk {H : Type} : DataW H → Nat
  | .lit (.string bytes) => bytes.length + 1
  | .lit _ => 1
  | .nil => 1
  | .ptr d => uptoBulk d + 1
  | .slice elems spare => uptoBulkAll elems + uptoBulkAll spare + 1
  | .agg parts => uptoBulkAll parts + 1
  | .iface _ d => uptoBulk d + 1
  | .map entries => uptoBulkEntries entries + 1
  | .held _ => 1
def uptoBulkAll {H : Type} : List (DataW H) → Nat
  | [] => 0
  | d :: r => uptoBulk d + uptoBulkAll r
def uptoBulkEntries {H : Type} : List (Lit × DataW H) → Nat
  | [] => 0
  | x :: r => uptoBulkEntry x + uptoBulkEntries r
def uptoBulkEntry {H : Type} : Lit × DataW H → Nat
  | (.string bytes, d) => bytes.length + uptoBulk d + 1
  | (_, d) => uptoBulk d + 1
 end
def uptoSmall : (H : Type) → List (DataW H) → Bool := fun _ ds => decide (uptoBulkAll ds ≤ 1048576)
def OpenSpec.upto (s : _root_.Go.ChangeSpec) : _root_.Go.OpenSpec := { _root_.Go.OpenSpec.ofChange s with cond := some uptoSmall }

/-- 'cisternlaw11.ShelfSays', WHERE WHAT IT READS IS OF BULK AT MOST 1048576: true; the input reads as it did. -/
def shelfSaysUptoRow : OpenClaim := { program := "ytcnceningjookaagreat", sum := "f1d49c0c46b65cac5055712003df6779b6cb65d9d6c5dcb00fdbc5ee90c5b127", func := "cistern/cisternlaw11.ShelfSays", spec := "shelfSays", inPlace := ["slices.overlaps[uint64]"], unfollowed := true, recurses := true, apart := false, narrowed := true }
def ShelfSaysUptoSaid : Prop := shelfSaysUptoRow.holds Tryz.pinned (OpenSpec.upto shelfSaysSpec)

/-- 'cisternlaw11.TreeKnown', WHERE WHAT IT READS IS OF BULK AT MOST 1048576: true; the input reads as it did. -/
def treeKnownUptoRow : OpenClaim := { program := "ytcnceningjookaagreat", sum := "f1d49c0c46b65cac5055712003df6779b6cb65d9d6c5dcb00fdbc5ee90c5b127", func := "cistern/cisternlaw11.TreeKnown", spec := "treeKnown", inPlace := ["slices.overlaps[uint64]"], unfollowed := true, recurses := true, apart := false, narrowed := true }
def TreeKnownUptoSaid : Prop := treeKnownUptoRow.holds Tryz.pinned (OpenSpec.upto treeKnownSpec)

/-- 'cisternlaw11.TreeMaps', WHERE WHAT IT READS IS OF BULK AT MOST 1048576: true; the input reads as it did. -/
def treeMapsUptoRow : OpenClaim := { program := "ytcnceningjookaagreat", sum := "f1d49c0c46b65cac5055712003df6779b6cb65d9d6c5dcb00fdbc5ee90c5b127", func := "cistern/cisternlaw11.TreeMaps", spec := "treeMaps", inPlace := ["slices.overlaps[uint64]"], unfollowed := true, recurses := true, apart := false, narrowed := true }
def TreeMapsUptoSaid : Prop := treeMapsUptoRow.holds Tryz.pinned (OpenSpec.upto treeMapsSpec)

/-- 'cisternlaw11.TreePlays', WHERE WHAT IT READS IS OF BULK AT MOST 1048576: true; the input reads as it did. -/
def treePlaysUptoRow : OpenClaim := { program := "ytcnceningjookaagreat", sum := "f1d49c0c46b65cac5055712003df6779b6cb65d9d6c5dcb00fdbc5ee90c5b127", func := "cistern/cisternlaw11.TreePlays", spec := "treePlays", inPlace := ["slices.overlaps[uint64]"], unfollowed := true, recurses := true, apart := false, narrowed := true }
def TreePlaysUptoSaid : Prop := treePlaysUptoRow.holds Tryz.pinned (OpenSpec.upto treePlaysSpec)

/-- 'cisternlaw11.TreeEmpties', WHERE WHAT IT READS IS OF BULK AT MOST 1048576: true; the input reads as it did. -/
def treeEmptiesUptoRow : OpenClaim := { program := "ytcnceningjookaagreat", sum := "f1d49c0c46b65cac5055712003df6779b6cb65d9d6c5dcb00fdbc5ee90c5b127", func := "cistern/cisternlaw11.TreeEmpties", spec := "treeEmpties", inPlace := ["slices.overlaps[uint64]"], unfollowed := true, recurses := true, apart := false, narrowed := true }
def TreeEmptiesUptoSaid : Prop := treeEmptiesUptoRow.holds Tryz.pinned (OpenSpec.upto treeEmptiesSpec)

/-- 'cisternlaw13.ShareKnown', WHERE WHAT IT READS IS OF BULK AT MOST 1048576: true; the input reads as it did. -/
def shareKnownUptoRow : OpenClaim := { program := "ytcnceningjookaagreat", sum := "f1d49c0c46b65cac5055712003df6779b6cb65d9d6c5dcb00fdbc5ee90c5b127", func := "cistern/cisternlaw13.ShareKnown", spec := "shareKnown", inPlace := ["slices.overlaps[uint64]"], unfollowed := true, recurses := true, apart := false, narrowed := true }
def ShareKnownUptoSaid : Prop := shareKnownUptoRow.holds Tryz.pinned (OpenSpec.upto shareKnownSpec)

/-- 'cisternlaw12.StretchJoins', WHERE WHAT IT READS IS OF BULK AT MOST 1048576: true; the input reads as it did. -/
def stretchJoinsUptoRow : OpenClaim := { program := "ytcnceningjookaagreat", sum := "f1d49c0c46b65cac5055712003df6779b6cb65d9d6c5dcb00fdbc5ee90c5b127", func := "cistern/cisternlaw12.StretchJoins", spec := "stretchJoins", inPlace := ["slices.overlaps[uint64]"], unfollowed := true, recurses := true, apart := false, narrowed := true }
def StretchJoinsUptoSaid : Prop := stretchJoinsUptoRow.holds Tryz.pinned (OpenSpec.upto stretchJoinsSpec)

/-- 'cisternlaw12.StretchMaps', WHERE WHAT IT READS IS OF BULK AT MOST 1048576: true; the input reads as it did. -/
def stretchMapsUptoRow : OpenClaim := { program := "ytcnceningjookaagreat", sum := "f1d49c0c46b65cac5055712003df6779b6cb65d9d6c5dcb00fdbc5ee90c5b127", func := "cistern/cisternlaw12.StretchMaps", spec := "stretchMaps", inPlace := ["slices.overlaps[uint64]"], unfollowed := true, recurses := true, apart := false, narrowed := true }
def StretchMapsUptoSaid : Prop := stretchMapsUptoRow.holds Tryz.pinned (OpenSpec.upto stretchMapsSpec)

/-- 'cisternlaw13.SharePlays', WHERE WHAT IT READS IS OF BULK AT MOST 1048576: true; the input reads as it did. -/
def sharePlaysUptoRow : OpenClaim := { program := "ytcnceningjookaagreat", sum := "f1d49c0c46b65cac5055712003df6779b6cb65d9d6c5dcb00fdbc5ee90c5b127", func := "cistern/cisternlaw13.SharePlays", spec := "sharePlays", inPlace := ["slices.overlaps[uint64]"], unfollowed := true, recurses := true, apart := false, narrowed := true }
def SharePlaysUptoSaid : Prop := sharePlaysUptoRow.holds Tryz.pinned (OpenSpec.upto sharePlaysSpec)

/-- 'cisternlaw13.ShareCounts', WHERE WHAT IT READS IS OF BULK AT MOST 1048576: true; the input reads as it did. -/
def shareCountsUptoRow : OpenClaim := { program := "ytcnceningjookaagreat", sum := "f1d49c0c46b65cac5055712003df6779b6cb65d9d6c5dcb00fdbc5ee90c5b127", func := "cistern/cisternlaw13.ShareCounts", spec := "shareCounts", inPlace := ["slices.overlaps[uint64]"], unfollowed := true, recurses := true, apart := false, narrowed := true }
def ShareCountsUptoSaid : Prop := shareCountsUptoRow.holds Tryz.pinned (OpenSpec.upto shareCountsSpec)

/-- 'cisternlaw13.ShareSkips', WHERE WHAT IT READS IS OF BULK AT MOST 1048576: true; the input reads as it did. -/
def shareSkipsUptoRow : OpenClaim := { program := "ytcnceningjookaagreat", sum := "f1d49c0c46b65cac5055712003df6779b6cb65d9d6c5dcb00fdbc5ee90c5b127", func := "cistern/cisternlaw13.ShareSkips", spec := "shareSkips", inPlace := ["slices.overlaps[uint64]"], unfollowed := true, recurses := true, apart := false, narrowed := true }
def ShareSkipsUptoSaid : Prop := shareSkipsUptoRow.holds Tryz.pinned (OpenSpec.upto shareSkipsSpec)

end Rows
end Go.Proofs.YtcnceningjookaaGreat
