/-
  No cell of these rows narrows 'for every input' (looked for: loops, veiled, ifaces, maps, wideKeys, modest, calm, conditions, laid).
  DERIVED. THE GIVEN ROWS OF THIS SEAT. 10 by the template 'for every input the law returns true; each argument reads behind the call as it read before'; 0 by the template 'total and deterministic' (their statements: YtefdheoalonbaaaTotals.lean).
  GIVEN WITH THE SEED: the statements are not yours to turn. If you find one false, say at which input.
  Laid BY PROGRAM, IN A SANDBOX (cutbox-rows.mjs): the forced cells as the released guide's own fill.sh prints them over the translation d4fa4fefc0720eee… (all of the seat's roots in one cut). By AI agents, Wed Nov 11 2026. No macro, syntax, notation, axiom, sorry.
-/
import Derived.Test.YtefdheoalonbaaaChecked
import GoSem.Claim
import GoSem.ClaimJoined
import GoSem.ClaimMapViews
import Derived.JoinedTies
import Derived.KernelRfl
namespace Go.Proofs.Ytefdheoalonbaaa
/- THE CELL 'sum', in the pinned program and in every row, IS THE sha256 OF THE DUMP (.gsa) THAT YtefdheoalonbaaaProg.lean LOADS. Nothing in Lean hashes anything: it is a label: what it is worth is what the hold of that sum in a sandbox is worth. -/
noncomputable def Try.pinned : Pinned := { name := "ytefdheoalonbaaa", sum := "d4fa4fefc0720eeeb42b6f901eb8b7c49ce03c34de45ae567536061fec2cfca6", checked := Try.checked }
namespace Rows
def none {H : Type} : Left H := { results := [], args := [] }

/-- 'grisaillelaw47.TileBounds': WHATEVER THE INPUT: true; the input reads as it did. -/
def tileBoundsSpec : ChangeSpec := { name := "tileBounds", fn := fun _ => fun
  | [d1, d2, d3] => { results := [.lit (.bool true)], args := [d1, d2, d3] }
  | _ => none }
def tileBoundsRow : OpenClaim := { program := "ytefdheoalonbaaa", sum := "d4fa4fefc0720eeeb42b6f901eb8b7c49ce03c34de45ae567536061fec2cfca6", func := "grisaille/grisaillelaw47.TileBounds", spec := "tileBounds", unfollowed := true, recurses := true, apart := false }
def TileBoundsSaid : Prop := tileBoundsRow.holds Try.pinned (OpenSpec.ofChange tileBoundsSpec)

/-- ITS FALSE NEIGHBOUR: 'it returns false'. Refute it at one input. -/
def tileBoundsWrong : ChangeSpec := { name := "tileBounds", fn := fun _ => fun
  | [d1, d2, d3] => { results := [.lit (.bool false)], args := [d1, d2, d3] }
  | _ => none }
def TileBoundsWrongFalsely : Prop := tileBoundsRow.holds Try.pinned (OpenSpec.ofChange tileBoundsWrong)

/-- 'grisaillelaw47.TileSplit': WHATEVER THE INPUT: true; the input reads as it did. -/
def tileSplitSpec : ChangeSpec := { name := "tileSplit", fn := fun _ => fun
  | [d1, d2, d3] => { results := [.lit (.bool true)], args := [d1, d2, d3] }
  | _ => none }
def tileSplitRow : OpenClaim := { program := "ytefdheoalonbaaa", sum := "d4fa4fefc0720eeeb42b6f901eb8b7c49ce03c34de45ae567536061fec2cfca6", func := "grisaille/grisaillelaw47.TileSplit", spec := "tileSplit", unfollowed := true, recurses := true, apart := false }
def TileSplitSaid : Prop := tileSplitRow.holds Try.pinned (OpenSpec.ofChange tileSplitSpec)

/-- ITS FALSE NEIGHBOUR: 'it returns false'. Refute it at one input. -/
def tileSplitWrong : ChangeSpec := { name := "tileSplit", fn := fun _ => fun
  | [d1, d2, d3] => { results := [.lit (.bool false)], args := [d1, d2, d3] }
  | _ => none }
def TileSplitWrongFalsely : Prop := tileSplitRow.holds Try.pinned (OpenSpec.ofChange tileSplitWrong)

/-- 'grisaillelaw47.TileAssembleValues': WHATEVER THE INPUT: true; the input reads as it did. -/
def tileAssembleValuesSpec : ChangeSpec := { name := "tileAssembleValues", fn := fun _ => fun
  | [d1, d2] => { results := [.lit (.bool true)], args := [d1, d2] }
  | _ => none }
def tileAssembleValuesRow : OpenClaim := { program := "ytefdheoalonbaaa", sum := "d4fa4fefc0720eeeb42b6f901eb8b7c49ce03c34de45ae567536061fec2cfca6", func := "grisaille/grisaillelaw47.TileAssembleValues", spec := "tileAssembleValues", unfollowed := true, recurses := true, apart := false }
def TileAssembleValuesSaid : Prop := tileAssembleValuesRow.holds Try.pinned (OpenSpec.ofChange tileAssembleValuesSpec)

/-- ITS FALSE NEIGHBOUR: 'it returns false'. Refute it at one input. -/
def tileAssembleValuesWrong : ChangeSpec := { name := "tileAssembleValues", fn := fun _ => fun
  | [d1, d2] => { results := [.lit (.bool false)], args := [d1, d2] }
  | _ => none }
def TileAssembleValuesWrongFalsely : Prop := tileAssembleValuesRow.holds Try.pinned (OpenSpec.ofChange tileAssembleValuesWrong)

/-- 'grisaillelaw47.TileAssemble': WHATEVER THE INPUT: true; the input reads as it did. -/
def tileAssembleSpec : ChangeSpec := { name := "tileAssemble", fn := fun _ => fun
  | [d1, d2, d3] => { results := [.lit (.bool true)], args := [d1, d2, d3] }
  | _ => none }
def tileAssembleRow : OpenClaim := { program := "ytefdheoalonbaaa", sum := "d4fa4fefc0720eeeb42b6f901eb8b7c49ce03c34de45ae567536061fec2cfca6", func := "grisaille/grisaillelaw47.TileAssemble", spec := "tileAssemble", unfollowed := true, recurses := true, apart := false }
def TileAssembleSaid : Prop := tileAssembleRow.holds Try.pinned (OpenSpec.ofChange tileAssembleSpec)

/-- ITS FALSE NEIGHBOUR: 'it returns false'. Refute it at one input. -/
def tileAssembleWrong : ChangeSpec := { name := "tileAssemble", fn := fun _ => fun
  | [d1, d2, d3] => { results := [.lit (.bool false)], args := [d1, d2, d3] }
  | _ => none }
def TileAssembleWrongFalsely : Prop := tileAssembleRow.holds Try.pinned (OpenSpec.ofChange tileAssembleWrong)

/-- 'grisaillelaw47.TilePartition': WHATEVER THE INPUT: true; the input reads as it did. -/
def tilePartitionSpec : ChangeSpec := { name := "tilePartition", fn := fun _ => fun
  | [d1, d2, d3] => { results := [.lit (.bool true)], args := [d1, d2, d3] }
  | _ => none }
def tilePartitionRow : OpenClaim := { program := "ytefdheoalonbaaa", sum := "d4fa4fefc0720eeeb42b6f901eb8b7c49ce03c34de45ae567536061fec2cfca6", func := "grisaille/grisaillelaw47.TilePartition", spec := "tilePartition", unfollowed := true, recurses := true, apart := false }
def TilePartitionSaid : Prop := tilePartitionRow.holds Try.pinned (OpenSpec.ofChange tilePartitionSpec)

/-- ITS FALSE NEIGHBOUR: 'it returns false'. Refute it at one input. -/
def tilePartitionWrong : ChangeSpec := { name := "tilePartition", fn := fun _ => fun
  | [d1, d2, d3] => { results := [.lit (.bool false)], args := [d1, d2, d3] }
  | _ => none }
def TilePartitionWrongFalsely : Prop := tilePartitionRow.holds Try.pinned (OpenSpec.ofChange tilePartitionWrong)

/-- 'grisaillelaw47.TileShuffle': WHATEVER THE INPUT: true; the input reads as it did. -/
def tileShuffleSpec : ChangeSpec := { name := "tileShuffle", fn := fun _ => fun
  | [d1, d2] => { results := [.lit (.bool true)], args := [d1, d2] }
  | _ => none }
def tileShuffleRow : OpenClaim := { program := "ytefdheoalonbaaa", sum := "d4fa4fefc0720eeeb42b6f901eb8b7c49ce03c34de45ae567536061fec2cfca6", func := "grisaille/grisaillelaw47.TileShuffle", spec := "tileShuffle", unfollowed := true, recurses := true, apart := false }
def TileShuffleSaid : Prop := tileShuffleRow.holds Try.pinned (OpenSpec.ofChange tileShuffleSpec)

/-- ITS FALSE NEIGHBOUR: 'it returns false'. Refute it at one input. -/
def tileShuffleWrong : ChangeSpec := { name := "tileShuffle", fn := fun _ => fun
  | [d1, d2] => { results := [.lit (.bool false)], args := [d1, d2] }
  | _ => none }
def TileShuffleWrongFalsely : Prop := tileShuffleRow.holds Try.pinned (OpenSpec.ofChange tileShuffleWrong)

/-- 'grisaillelaw47.TileZOrder': WHATEVER THE INPUT: true; the input reads as it did. -/
def tileZOrderSpec : ChangeSpec := { name := "tileZOrder", fn := fun _ => fun
  | [d1, d2, d3] => { results := [.lit (.bool true)], args := [d1, d2, d3] }
  | _ => none }
def tileZOrderRow : OpenClaim := { program := "ytefdheoalonbaaa", sum := "d4fa4fefc0720eeeb42b6f901eb8b7c49ce03c34de45ae567536061fec2cfca6", func := "grisaille/grisaillelaw47.TileZOrder", spec := "tileZOrder", unfollowed := true, recurses := true, apart := false }
def TileZOrderSaid : Prop := tileZOrderRow.holds Try.pinned (OpenSpec.ofChange tileZOrderSpec)

/-- ITS FALSE NEIGHBOUR: 'it returns false'. Refute it at one input. -/
def tileZOrderWrong : ChangeSpec := { name := "tileZOrder", fn := fun _ => fun
  | [d1, d2, d3] => { results := [.lit (.bool false)], args := [d1, d2, d3] }
  | _ => none }
def TileZOrderWrongFalsely : Prop := tileZOrderRow.holds Try.pinned (OpenSpec.ofChange tileZOrderWrong)

/-- 'grisaillelaw47.TileHilbertOrder': WHATEVER THE INPUT: true; the input reads as it did. -/
def tileHilbertOrderSpec : ChangeSpec := { name := "tileHilbertOrder", fn := fun _ => fun
  | [d1, d2, d3] => { results := [.lit (.bool true)], args := [d1, d2, d3] }
  | _ => none }
def tileHilbertOrderRow : OpenClaim := { program := "ytefdheoalonbaaa", sum := "d4fa4fefc0720eeeb42b6f901eb8b7c49ce03c34de45ae567536061fec2cfca6", func := "grisaille/grisaillelaw47.TileHilbertOrder", spec := "tileHilbertOrder", unfollowed := true, recurses := true, apart := false }
def TileHilbertOrderSaid : Prop := tileHilbertOrderRow.holds Try.pinned (OpenSpec.ofChange tileHilbertOrderSpec)

/-- ITS FALSE NEIGHBOUR: 'it returns false'. Refute it at one input. -/
def tileHilbertOrderWrong : ChangeSpec := { name := "tileHilbertOrder", fn := fun _ => fun
  | [d1, d2, d3] => { results := [.lit (.bool false)], args := [d1, d2, d3] }
  | _ => none }
def TileHilbertOrderWrongFalsely : Prop := tileHilbertOrderRow.holds Try.pinned (OpenSpec.ofChange tileHilbertOrderWrong)

/-- 'grisaillelaw47.TileOrdersPermute': WHATEVER THE INPUT: true; the input reads as it did. -/
def tileOrdersPermuteSpec : ChangeSpec := { name := "tileOrdersPermute", fn := fun _ => fun
  | [d1, d2, d3] => { results := [.lit (.bool true)], args := [d1, d2, d3] }
  | _ => none }
def tileOrdersPermuteRow : OpenClaim := { program := "ytefdheoalonbaaa", sum := "d4fa4fefc0720eeeb42b6f901eb8b7c49ce03c34de45ae567536061fec2cfca6", func := "grisaille/grisaillelaw47.TileOrdersPermute", spec := "tileOrdersPermute", unfollowed := true, recurses := true, apart := false }
def TileOrdersPermuteSaid : Prop := tileOrdersPermuteRow.holds Try.pinned (OpenSpec.ofChange tileOrdersPermuteSpec)

/-- ITS FALSE NEIGHBOUR: 'it returns false'. Refute it at one input. -/
def tileOrdersPermuteWrong : ChangeSpec := { name := "tileOrdersPermute", fn := fun _ => fun
  | [d1, d2, d3] => { results := [.lit (.bool false)], args := [d1, d2, d3] }
  | _ => none }
def TileOrdersPermuteWrongFalsely : Prop := tileOrdersPermuteRow.holds Try.pinned (OpenSpec.ofChange tileOrdersPermuteWrong)

/-- 'grisaillelaw47.TileHilbertNeighbours': WHATEVER THE INPUT: true; the input reads as it did. -/
def tileHilbertNeighboursSpec : ChangeSpec := { name := "tileHilbertNeighbours", fn := fun _ => fun
  | [d1, d2, d3] => { results := [.lit (.bool true)], args := [d1, d2, d3] }
  | _ => none }
def tileHilbertNeighboursRow : OpenClaim := { program := "ytefdheoalonbaaa", sum := "d4fa4fefc0720eeeb42b6f901eb8b7c49ce03c34de45ae567536061fec2cfca6", func := "grisaille/grisaillelaw47.TileHilbertNeighbours", spec := "tileHilbertNeighbours", unfollowed := true, recurses := true, apart := false }
def TileHilbertNeighboursSaid : Prop := tileHilbertNeighboursRow.holds Try.pinned (OpenSpec.ofChange tileHilbertNeighboursSpec)

/-- ITS FALSE NEIGHBOUR: 'it returns false'. Refute it at one input. -/
def tileHilbertNeighboursWrong : ChangeSpec := { name := "tileHilbertNeighbours", fn := fun _ => fun
  | [d1, d2, d3] => { results := [.lit (.bool false)], args := [d1, d2, d3] }
  | _ => none }
def TileHilbertNeighboursWrongFalsely : Prop := tileHilbertNeighboursRow.holds Try.pinned (OpenSpec.ofChange tileHilbertNeighboursWrong)

/- THE SECOND FORM. 'bulk': how many values and letters a reading holds, each counted each time it is reached (what is shared counts as often as it is met; a slice's spare places count too). A statement '..UptoSaid' is the law's where the arguments, and the package variables that the reading takes, are together of bulk at most 1048576: NARROWER than '..Said'. Prove '..Said' where nothing that the law and all that it calls make is longer than what came in: it says more and counts as full. Else prove '..UptoSaid'. A law counts once. -/
mutual
def uptoBulk {H : Type} : DataW H → Nat
  | .lit (.string bytes) => bytes.length + 1
  | .lit _ => 1
  | .nil => 1
  | .ptr d => uptoBulk d + 1
  | .slice elems spare => uptoBulkAll elems + uptoBulkAll spare + 1
  | .agg parts => uptoBulkAll parts + 1
  | .iface _ d => uptoBulk d + 1
  | .map entries => uptoBulkEntries entries + 1
  | .held _ => 1
def uptoBulkAll {H : Type} : List (DataW H) → Nat
  | [] => 0
  | d :: r => uptoBulk d + uptoBulkAll r
def uptoBulkEntries {H : Type} : List (Lit × DataW H) → Nat
  | [] => 0
  | x :: r => uptoBulkEntry x + uptoBulkEntries r
def uptoBulkEntry {H : Type} : Lit × DataW H → Nat
  | (.string bytes, d) => bytes.length + uptoBulk d + 1
  | (_, d) => uptoBulk d + 1
 end
def uptoSmall : (H : Type) → List (DataW H) → Bool := fun _ ds => decide (uptoBulkAll ds ≤ 1048576)
def OpenSpec.upto (s : _root_.Go.ChangeSpec) : _root_.Go.OpenSpec := { _root_.Go.OpenSpec.ofChange s with cond := some uptoSmall }

/-- 'grisaillelaw47.TileBounds', WHERE WHAT IT READS IS OF BULK AT MOST 1048576: true; the input reads as it did. -/
def tileBoundsUptoRow : OpenClaim := { program := "ytefdheoalonbaaa", sum := "d4fa4fefc0720eeeb42b6f901eb8b7c49ce03c34de45ae567536061fec2cfca6", func := "grisaille/grisaillelaw47.TileBounds", spec := "tileBounds", unfollowed := true, recurses := true, apart := false, narrowed := true }
def TileBoundsUptoSaid : Prop := tileBoundsUptoRow.holds Try.pinned (OpenSpec.upto tileBoundsSpec)

/-- 'grisaillelaw47.TileSplit', WHERE WHAT IT READS IS OF BULK AT MOST 1048576: true; the input reads as it did. -/
def tileSplitUptoRow : OpenClaim := { program := "ytefdheoalonbaaa", sum := "d4fa4fefc0720eeeb42b6f901eb8b7c49ce03c34de45ae567536061fec2cfca6", func := "grisaille/grisaillelaw47.TileSplit", spec := "tileSplit", unfollowed := true, recurses := true, apart := false, narrowed := true }
def TileSplitUptoSaid : Prop := tileSplitUptoRow.holds Try.pinned (OpenSpec.upto tileSplitSpec)

/-- 'grisaillelaw47.TileAssembleValues', WHERE WHAT IT READS IS OF BULK AT MOST 1048576: true; the input reads as it did. -/
def tileAssembleValuesUptoRow : OpenClaim := { program := "ytefdheoalonbaaa", sum := "d4fa4fefc0720eeeb42b6f901eb8b7c49ce03c34de45ae567536061fec2cfca6", func := "grisaille/grisaillelaw47.TileAssembleValues", spec := "tileAssembleValues", unfollowed := true, recurses := true, apart := false, narrowed := true }
def TileAssembleValuesUptoSaid : Prop := tileAssembleValuesUptoRow.holds Try.pinned (OpenSpec.upto tileAssembleValuesSpec)

/-- 'grisaillelaw47.TileAssemble', WHERE WHAT IT READS IS OF BULK AT MOST 1048576: true; the input reads as it did. -/
def tileAssembleUptoRow : OpenClaim := { program := "ytefdheoalonbaaa", sum := "d4fa4fefc0720eeeb42b6f901eb8b7c49ce03c34de45ae567536061fec2cfca6", func := "grisaille/grisaillelaw47.TileAssemble", spec := "tileAssemble", unfollowed := true, recurses := true, apart := false, narrowed := true }
def TileAssembleUptoSaid : Prop := tileAssembleUptoRow.holds Try.pinned (OpenSpec.upto tileAssembleSpec)

/-- 'grisaillelaw47.TilePartition', WHERE WHAT IT READS IS OF BULK AT MOST 1048576: true; the input reads as it did. -/
def tilePartitionUptoRow : OpenClaim := { program := "ytefdheoalonbaaa", sum := "d4fa4fefc0720eeeb42b6f901eb8b7c49ce03c34de45ae567536061fec2cfca6", func := "grisaille/grisaillelaw47.TilePartition", spec := "tilePartition", unfollowed := true, recurses := true, apart := false, narrowed := true }
def TilePartitionUptoSaid : Prop := tilePartitionUptoRow.holds Try.pinned (OpenSpec.upto tilePartitionSpec)

/-- 'grisaillelaw47.TileShuffle', WHERE WHAT IT READS IS OF BULK AT MOST 1048576: true; the input reads as it did. -/
def tileShuffleUptoRow : OpenClaim := { program := "ytefdheoalonbaaa", sum := "d4fa4fefc0720eeeb42b6f901eb8b7c49ce03c34de45ae567536061fec2cfca6", func := "grisaille/grisaillelaw47.TileShuffle", spec := "tileShuffle", unfollowed := true, recurses := true, apart := false, narrowed := true }
def TileShuffleUptoSaid : Prop := tileShuffleUptoRow.holds Try.pinned (OpenSpec.upto tileShuffleSpec)

/-- 'grisaillelaw47.TileZOrder', WHERE WHAT IT READS IS OF BULK AT MOST 1048576: true; the input reads as it did. -/
def tileZOrderUptoRow : OpenClaim := { program := "ytefdheoalonbaaa", sum := "d4fa4fefc0720eeeb42b6f901eb8b7c49ce03c34de45ae567536061fec2cfca6", func := "grisaille/grisaillelaw47.TileZOrder", spec := "tileZOrder", unfollowed := true, recurses := true, apart := false, narrowed := true }
def TileZOrderUptoSaid : Prop := tileZOrderUptoRow.holds Try.pinned (OpenSpec.upto tileZOrderSpec)

/-- 'grisaillelaw47.TileHilbertOrder', WHERE WHAT IT READS IS OF BULK AT MOST 1048576: true; the input reads as it did. -/
def tileHilbertOrderUptoRow : OpenClaim := { program := "ytefdheoalonbaaa", sum := "d4fa4fefc0720eeeb42b6f901eb8b7c49ce03c34de45ae567536061fec2cfca6", func := "grisaille/grisaillelaw47.TileHilbertOrder", spec := "tileHilbertOrder", unfollowed := true, recurses := true, apart := false, narrowed := true }
def TileHilbertOrderUptoSaid : Prop := tileHilbertOrderUptoRow.holds Try.pinned (OpenSpec.upto tileHilbertOrderSpec)

/-- 'grisaillelaw47.TileOrdersPermute', WHERE WHAT IT READS IS OF BULK AT MOST 1048576: true; the input reads as it did. -/
def tileOrdersPermuteUptoRow : OpenClaim := { program := "ytefdheoalonbaaa", sum := "d4fa4fefc0720eeeb42b6f901eb8b7c49ce03c34de45ae567536061fec2cfca6", func := "grisaille/grisaillelaw47.TileOrdersPermute", spec := "tileOrdersPermute", unfollowed := true, recurses := true, apart := false, narrowed := true }
def TileOrdersPermuteUptoSaid : Prop := tileOrdersPermuteUptoRow.holds Try.pinned (OpenSpec.upto tileOrdersPermuteSpec)

/-- 'grisaillelaw47.TileHilbertNeighbours', WHERE WHAT IT READS IS OF BULK AT MOST 1048576: true; the input reads as it did. -/
def tileHilbertNeighboursUptoRow : OpenClaim := { program := "ytefdheoalonbaaa", sum := "d4fa4fefc0720eeeb42b6f901eb8b7c49ce03c34de45ae567536061fec2cfca6", func := "grisaille/grisaillelaw47.TileHilbertNeighbours", spec := "tileHilbertNeighbours", unfollowed := true, recurses := true, apart := false, narrowed := true }
def TileHilbertNeighboursUptoSaid : Prop := tileHilbertNeighboursUptoRow.holds Try.pinned (OpenSpec.upto tileHilbertNeighboursSpec)

end Rows
end Go.Proofs.Ytefdheoalonbaaa
