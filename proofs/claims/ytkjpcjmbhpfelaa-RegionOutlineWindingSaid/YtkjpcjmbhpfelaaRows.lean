/-
  No cell of these rows narrows 'for every input' (looked for: loops, veiled, ifaces, maps, wideKeys, modest, calm, conditions, laid).
  DERIVED. THE GIVEN ROWS OF THIS SEAT. 10 by the template 'for every input the law returns true; each argument reads behind the call as it read before'; 0 by the template 'total and deterministic' (their statements: YtkjpcjmbhpfelaaTotals.lean).
  GIVEN WITH THE SEED: the statements are not yours to turn. If you find one false, say at which input.
  Laid BY PROGRAM, IN A SANDBOX (cutbox-rows.mjs): the forced cells as the released guide's own fill.sh prints them over the translation 74a23db40ea59a10… (all of the seat's roots in one cut). By AI agents, Wed Nov 11 2026. No macro, syntax, notation, axiom, sorry.
-/
import Derived.Test.YtkjpcjmbhpfelaaChecked
import GoSem.Claim
import GoSem.ClaimJoined
import GoSem.ClaimMapViews
import Derived.JoinedTies
import Derived.KernelRfl
namespace Go.Proofs.Ytkjpcjmbhpfelaa
/- THE CELL 'sum', in the pinned program and in every row, IS THE sha256 OF THE DUMP (.gsa) THAT YtkjpcjmbhpfelaaProg.lean LOADS. Nothing in Lean hashes anything: it is a label: what it is worth is what the hold of that sum in a sandbox is worth. -/
noncomputable def Try.pinned : Pinned := { name := "ytkjpcjmbhpfelaa", sum := "74a23db40ea59a10efa3df52386f0bedbd73310488fecadc5b23dcb81998cee5", checked := Try.checked }
namespace Rows
def none {H : Type} : Left H := { results := [], args := [] }

/-- 'grisaillelaw10.RegionCanonical': WHATEVER THE INPUT: true; the input reads as it did. -/
def regionCanonicalSpec : ChangeSpec := { name := "regionCanonical", fn := fun _ => fun
  | [d1, d2] => { results := [.lit (.bool true)], args := [d1, d2] }
  | _ => none }
def regionCanonicalRow : OpenClaim := { program := "ytkjpcjmbhpfelaa", sum := "74a23db40ea59a10efa3df52386f0bedbd73310488fecadc5b23dcb81998cee5", func := "grisaille/grisaillelaw10.RegionCanonical", spec := "regionCanonical", unfollowed := true, recurses := true, plainKeys := false, apart := false }
def RegionCanonicalSaid : Prop := regionCanonicalRow.holds Try.pinned (OpenSpec.ofChange regionCanonicalSpec)

/-- ITS FALSE NEIGHBOUR: 'it returns false'. Refute it at one input. -/
def regionCanonicalWrong : ChangeSpec := { name := "regionCanonical", fn := fun _ => fun
  | [d1, d2] => { results := [.lit (.bool false)], args := [d1, d2] }
  | _ => none }
def RegionCanonicalWrongFalsely : Prop := regionCanonicalRow.holds Try.pinned (OpenSpec.ofChange regionCanonicalWrong)

/-- 'grisaillelaw10.RegionRectLimit': WHATEVER THE INPUT: true; the input reads as it did. -/
def regionRectLimitSpec : ChangeSpec := { name := "regionRectLimit", fn := fun _ => fun
  | [d1, d2] => { results := [.lit (.bool true)], args := [d1, d2] }
  | _ => none }
def regionRectLimitRow : OpenClaim := { program := "ytkjpcjmbhpfelaa", sum := "74a23db40ea59a10efa3df52386f0bedbd73310488fecadc5b23dcb81998cee5", func := "grisaille/grisaillelaw10.RegionRectLimit", spec := "regionRectLimit", unfollowed := true, recurses := true, plainKeys := false, apart := false }
def RegionRectLimitSaid : Prop := regionRectLimitRow.holds Try.pinned (OpenSpec.ofChange regionRectLimitSpec)

/-- ITS FALSE NEIGHBOUR: 'it returns false'. Refute it at one input. -/
def regionRectLimitWrong : ChangeSpec := { name := "regionRectLimit", fn := fun _ => fun
  | [d1, d2] => { results := [.lit (.bool false)], args := [d1, d2] }
  | _ => none }
def RegionRectLimitWrongFalsely : Prop := regionRectLimitRow.holds Try.pinned (OpenSpec.ofChange regionRectLimitWrong)

/-- 'grisaillelaw10.RegionOperations': WHATEVER THE INPUT: true; the input reads as it did. -/
def regionOperationsSpec : ChangeSpec := { name := "regionOperations", fn := fun _ => fun
  | [d1, d2] => { results := [.lit (.bool true)], args := [d1, d2] }
  | _ => none }
def regionOperationsRow : OpenClaim := { program := "ytkjpcjmbhpfelaa", sum := "74a23db40ea59a10efa3df52386f0bedbd73310488fecadc5b23dcb81998cee5", func := "grisaille/grisaillelaw10.RegionOperations", spec := "regionOperations", unfollowed := true, recurses := true, plainKeys := false, apart := false }
def RegionOperationsSaid : Prop := regionOperationsRow.holds Try.pinned (OpenSpec.ofChange regionOperationsSpec)

/-- ITS FALSE NEIGHBOUR: 'it returns false'. Refute it at one input. -/
def regionOperationsWrong : ChangeSpec := { name := "regionOperations", fn := fun _ => fun
  | [d1, d2] => { results := [.lit (.bool false)], args := [d1, d2] }
  | _ => none }
def RegionOperationsWrongFalsely : Prop := regionOperationsRow.holds Try.pinned (OpenSpec.ofChange regionOperationsWrong)

/-- 'grisaillelaw10.RegionSetOperations': WHATEVER THE INPUT: true; the input reads as it did. -/
def regionSetOperationsSpec : ChangeSpec := { name := "regionSetOperations", fn := fun _ => fun
  | [d1, d2, d3, d4] => { results := [.lit (.bool true)], args := [d1, d2, d3, d4] }
  | _ => none }
def regionSetOperationsRow : OpenClaim := { program := "ytkjpcjmbhpfelaa", sum := "74a23db40ea59a10efa3df52386f0bedbd73310488fecadc5b23dcb81998cee5", func := "grisaille/grisaillelaw10.RegionSetOperations", spec := "regionSetOperations", unfollowed := true, recurses := true, plainKeys := false, apart := false }
def RegionSetOperationsSaid : Prop := regionSetOperationsRow.holds Try.pinned (OpenSpec.ofChange regionSetOperationsSpec)

/-- ITS FALSE NEIGHBOUR: 'it returns false'. Refute it at one input. -/
def regionSetOperationsWrong : ChangeSpec := { name := "regionSetOperations", fn := fun _ => fun
  | [d1, d2, d3, d4] => { results := [.lit (.bool false)], args := [d1, d2, d3, d4] }
  | _ => none }
def RegionSetOperationsWrongFalsely : Prop := regionSetOperationsRow.holds Try.pinned (OpenSpec.ofChange regionSetOperationsWrong)

/-- 'grisaillelaw10.RegionBasics': WHATEVER THE INPUT: true; the input reads as it did. -/
def regionBasicsSpec : ChangeSpec := { name := "regionBasics", fn := fun _ => fun
  | [d] => { results := [.lit (.bool true)], args := [d] }
  | _ => none }
def regionBasicsRow : OpenClaim := { program := "ytkjpcjmbhpfelaa", sum := "74a23db40ea59a10efa3df52386f0bedbd73310488fecadc5b23dcb81998cee5", func := "grisaille/grisaillelaw10.RegionBasics", spec := "regionBasics", unfollowed := true, recurses := true, plainKeys := false, apart := false }
def RegionBasicsSaid : Prop := regionBasicsRow.holds Try.pinned (OpenSpec.ofChange regionBasicsSpec)

/-- ITS FALSE NEIGHBOUR: 'it returns false'. Refute it at one input. -/
def regionBasicsWrong : ChangeSpec := { name := "regionBasics", fn := fun _ => fun
  | [d] => { results := [.lit (.bool false)], args := [d] }
  | _ => none }
def RegionBasicsWrongFalsely : Prop := regionBasicsRow.holds Try.pinned (OpenSpec.ofChange regionBasicsWrong)

/-- 'grisaillelaw10.RegionAreaIdentities': WHATEVER THE INPUT: true; the input reads as it did. -/
def regionAreaIdentitiesSpec : ChangeSpec := { name := "regionAreaIdentities", fn := fun _ => fun
  | [d1, d2] => { results := [.lit (.bool true)], args := [d1, d2] }
  | _ => none }
def regionAreaIdentitiesRow : OpenClaim := { program := "ytkjpcjmbhpfelaa", sum := "74a23db40ea59a10efa3df52386f0bedbd73310488fecadc5b23dcb81998cee5", func := "grisaille/grisaillelaw10.RegionAreaIdentities", spec := "regionAreaIdentities", unfollowed := true, recurses := true, plainKeys := false, apart := false }
def RegionAreaIdentitiesSaid : Prop := regionAreaIdentitiesRow.holds Try.pinned (OpenSpec.ofChange regionAreaIdentitiesSpec)

/-- ITS FALSE NEIGHBOUR: 'it returns false'. Refute it at one input. -/
def regionAreaIdentitiesWrong : ChangeSpec := { name := "regionAreaIdentities", fn := fun _ => fun
  | [d1, d2] => { results := [.lit (.bool false)], args := [d1, d2] }
  | _ => none }
def RegionAreaIdentitiesWrongFalsely : Prop := regionAreaIdentitiesRow.holds Try.pinned (OpenSpec.ofChange regionAreaIdentitiesWrong)

/-- 'grisaillelaw10.RegionTilesTouched': WHATEVER THE INPUT: true; the input reads as it did. -/
def regionTilesTouchedSpec : ChangeSpec := { name := "regionTilesTouched", fn := fun _ => fun
  | [d1, d2, d3, d4] => { results := [.lit (.bool true)], args := [d1, d2, d3, d4] }
  | _ => none }
def regionTilesTouchedRow : OpenClaim := { program := "ytkjpcjmbhpfelaa", sum := "74a23db40ea59a10efa3df52386f0bedbd73310488fecadc5b23dcb81998cee5", func := "grisaille/grisaillelaw10.RegionTilesTouched", spec := "regionTilesTouched", unfollowed := true, recurses := true, plainKeys := false, apart := false }
def RegionTilesTouchedSaid : Prop := regionTilesTouchedRow.holds Try.pinned (OpenSpec.ofChange regionTilesTouchedSpec)

/-- ITS FALSE NEIGHBOUR: 'it returns false'. Refute it at one input. -/
def regionTilesTouchedWrong : ChangeSpec := { name := "regionTilesTouched", fn := fun _ => fun
  | [d1, d2, d3, d4] => { results := [.lit (.bool false)], args := [d1, d2, d3, d4] }
  | _ => none }
def RegionTilesTouchedWrongFalsely : Prop := regionTilesTouchedRow.holds Try.pinned (OpenSpec.ofChange regionTilesTouchedWrong)

/-- 'grisaillelaw10.RegionComponents': WHATEVER THE INPUT: true; the input reads as it did. -/
def regionComponentsSpec : ChangeSpec := { name := "regionComponents", fn := fun _ => fun
  | [d] => { results := [.lit (.bool true)], args := [d] }
  | _ => none }
def regionComponentsRow : OpenClaim := { program := "ytkjpcjmbhpfelaa", sum := "74a23db40ea59a10efa3df52386f0bedbd73310488fecadc5b23dcb81998cee5", func := "grisaille/grisaillelaw10.RegionComponents", spec := "regionComponents", unfollowed := true, recurses := true, plainKeys := false, apart := false }
def RegionComponentsSaid : Prop := regionComponentsRow.holds Try.pinned (OpenSpec.ofChange regionComponentsSpec)

/-- ITS FALSE NEIGHBOUR: 'it returns false'. Refute it at one input. -/
def regionComponentsWrong : ChangeSpec := { name := "regionComponents", fn := fun _ => fun
  | [d] => { results := [.lit (.bool false)], args := [d] }
  | _ => none }
def RegionComponentsWrongFalsely : Prop := regionComponentsRow.holds Try.pinned (OpenSpec.ofChange regionComponentsWrong)

/-- 'grisaillelaw10.RegionComponentsPartition': WHATEVER THE INPUT: true; the input reads as it did. -/
def regionComponentsPartitionSpec : ChangeSpec := { name := "regionComponentsPartition", fn := fun _ => fun
  | [d1, d2, d3] => { results := [.lit (.bool true)], args := [d1, d2, d3] }
  | _ => none }
def regionComponentsPartitionRow : OpenClaim := { program := "ytkjpcjmbhpfelaa", sum := "74a23db40ea59a10efa3df52386f0bedbd73310488fecadc5b23dcb81998cee5", func := "grisaille/grisaillelaw10.RegionComponentsPartition", spec := "regionComponentsPartition", unfollowed := true, recurses := true, plainKeys := false, apart := false }
def RegionComponentsPartitionSaid : Prop := regionComponentsPartitionRow.holds Try.pinned (OpenSpec.ofChange regionComponentsPartitionSpec)

/-- ITS FALSE NEIGHBOUR: 'it returns false'. Refute it at one input. -/
def regionComponentsPartitionWrong : ChangeSpec := { name := "regionComponentsPartition", fn := fun _ => fun
  | [d1, d2, d3] => { results := [.lit (.bool false)], args := [d1, d2, d3] }
  | _ => none }
def RegionComponentsPartitionWrongFalsely : Prop := regionComponentsPartitionRow.holds Try.pinned (OpenSpec.ofChange regionComponentsPartitionWrong)

/-- 'grisaillelaw10.RegionOutlineWinding': WHATEVER THE INPUT: true; the input reads as it did. -/
def regionOutlineWindingSpec : ChangeSpec := { name := "regionOutlineWinding", fn := fun _ => fun
  | [d1, d2, d3] => { results := [.lit (.bool true)], args := [d1, d2, d3] }
  | _ => none }
def regionOutlineWindingRow : OpenClaim := { program := "ytkjpcjmbhpfelaa", sum := "74a23db40ea59a10efa3df52386f0bedbd73310488fecadc5b23dcb81998cee5", func := "grisaille/grisaillelaw10.RegionOutlineWinding", spec := "regionOutlineWinding", unfollowed := true, recurses := true, plainKeys := false, apart := false }
def RegionOutlineWindingSaid : Prop := regionOutlineWindingRow.holds Try.pinned (OpenSpec.ofChange regionOutlineWindingSpec)

/-- ITS FALSE NEIGHBOUR: 'it returns false'. Refute it at one input. -/
def regionOutlineWindingWrong : ChangeSpec := { name := "regionOutlineWinding", fn := fun _ => fun
  | [d1, d2, d3] => { results := [.lit (.bool false)], args := [d1, d2, d3] }
  | _ => none }
def RegionOutlineWindingWrongFalsely : Prop := regionOutlineWindingRow.holds Try.pinned (OpenSpec.ofChange regionOutlineWindingWrong)

/- THE SECOND FORM. 'bulk': how many values and letters a reading holds, each counted each time it is reached (what is shared counts as often as it is met; a slice's spare places count too). A statement '..UptoSaid' is the law's where the arguments, and the package variables that the reading takes, are together of bulk at most 1048576: NARROWER than '..Said'. Prove '..Said' where nothing that the law and all that it calls make is longer than what came in: it says more and counts as full. Else prove '..UptoSaid'. A law counts once. -/
mutual
def uptoBulk {H : Type} : DataW H → Nat
  | .lit (.string bytes) => bytes.length + 1
  | .lit _ => 1
  | .nil => 1
  | .ptr d => uptoBulk d + 1
  | .slice elems spare => uptoBulkAll elems + uptoBulkAll spare + 1
  | .agg parts => uptoBulkAll parts + 1
  | .iface _ d => uptoBulk d + 1
  | .map entries => uptoBulkEntries entries + 1
  | .held _ => 1
def uptoBulkAll {H : Type} : List (DataW H) → Nat
  | [] => 0
  | d :: r => uptoBulk d + uptoBulkAll r
def uptoBulkEntries {H : Type} : List (Lit × DataW H) → Nat
  | [] => 0
  | x :: r => uptoBulkEntry x + uptoBulkEntries r
def uptoBulkEntry {H : Type} : Lit × DataW H → Nat
  | (.string bytes, d) => bytes.length + uptoBulk d + 1
  | (_, d) => uptoBulk d + 1
 end
def uptoSmall : (H : Type) → List (DataW H) → Bool := fun _ ds => decide (uptoBulkAll ds ≤ 1048576)
def OpenSpec.upto (s : _root_.Go.ChangeSpec) : _root_.Go.OpenSpec := { _root_.Go.OpenSpec.ofChange s with cond := some uptoSmall }

/-- 'grisaillelaw10.RegionCanonical', WHERE WHAT IT READS IS OF BULK AT MOST 1048576: true; the input reads as it did. -/
def regionCanonicalUptoRow : OpenClaim := { program := "ytkjpcjmbhpfelaa", sum := "74a23db40ea59a10efa3df52386f0bedbd73310488fecadc5b23dcb81998cee5", func := "grisaille/grisaillelaw10.RegionCanonical", spec := "regionCanonical", unfollowed := true, recurses := true, plainKeys := false, apart := false, narrowed := true }
def RegionCanonicalUptoSaid : Prop := regionCanonicalUptoRow.holds Try.pinned (OpenSpec.upto regionCanonicalSpec)

/-- 'grisaillelaw10.RegionRectLimit', WHERE WHAT IT READS IS OF BULK AT MOST 1048576: true; the input reads as it did. -/
def regionRectLimitUptoRow : OpenClaim := { program := "ytkjpcjmbhpfelaa", sum := "74a23db40ea59a10efa3df52386f0bedbd73310488fecadc5b23dcb81998cee5", func := "grisaille/grisaillelaw10.RegionRectLimit", spec := "regionRectLimit", unfollowed := true, recurses := true, plainKeys := false, apart := false, narrowed := true }
def RegionRectLimitUptoSaid : Prop := regionRectLimitUptoRow.holds Try.pinned (OpenSpec.upto regionRectLimitSpec)

/-- 'grisaillelaw10.RegionOperations', WHERE WHAT IT READS IS OF BULK AT MOST 1048576: true; the input reads as it did. -/
def regionOperationsUptoRow : OpenClaim := { program := "ytkjpcjmbhpfelaa", sum := "74a23db40ea59a10efa3df52386f0bedbd73310488fecadc5b23dcb81998cee5", func := "grisaille/grisaillelaw10.RegionOperations", spec := "regionOperations", unfollowed := true, recurses := true, plainKeys := false, apart := false, narrowed := true }
def RegionOperationsUptoSaid : Prop := regionOperationsUptoRow.holds Try.pinned (OpenSpec.upto regionOperationsSpec)

/-- 'grisaillelaw10.RegionSetOperations', WHERE WHAT IT READS IS OF BULK AT MOST 1048576: true; the input reads as it did. -/
def regionSetOperationsUptoRow : OpenClaim := { program := "ytkjpcjmbhpfelaa", sum := "74a23db40ea59a10efa3df52386f0bedbd73310488fecadc5b23dcb81998cee5", func := "grisaille/grisaillelaw10.RegionSetOperations", spec := "regionSetOperations", unfollowed := true, recurses := true, plainKeys := false, apart := false, narrowed := true }
def RegionSetOperationsUptoSaid : Prop := regionSetOperationsUptoRow.holds Try.pinned (OpenSpec.upto regionSetOperationsSpec)

/-- 'grisaillelaw10.RegionBasics', WHERE WHAT IT READS IS OF BULK AT MOST 1048576: true; the input reads as it did. -/
def regionBasicsUptoRow : OpenClaim := { program := "ytkjpcjmbhpfelaa", sum := "74a23db40ea59a10efa3df52386f0bedbd73310488fecadc5b23dcb81998cee5", func := "grisaille/grisaillelaw10.RegionBasics", spec := "regionBasics", unfollowed := true, recurses := true, plainKeys := false, apart := false, narrowed := true }
def RegionBasicsUptoSaid : Prop := regionBasicsUptoRow.holds Try.pinned (OpenSpec.upto regionBasicsSpec)

/-- 'grisaillelaw10.RegionAreaIdentities', WHERE WHAT IT READS IS OF BULK AT MOST 1048576: true; the input reads as it did. -/
def regionAreaIdentitiesUptoRow : OpenClaim := { program := "ytkjpcjmbhpfelaa", sum := "74a23db40ea59a10efa3df52386f0bedbd73310488fecadc5b23dcb81998cee5", func := "grisaille/grisaillelaw10.RegionAreaIdentities", spec := "regionAreaIdentities", unfollowed := true, recurses := true, plainKeys := false, apart := false, narrowed := true }
def RegionAreaIdentitiesUptoSaid : Prop := regionAreaIdentitiesUptoRow.holds Try.pinned (OpenSpec.upto regionAreaIdentitiesSpec)

/-- 'grisaillelaw10.RegionTilesTouched', WHERE WHAT IT READS IS OF BULK AT MOST 1048576: true; the input reads as it did. -/
def regionTilesTouchedUptoRow : OpenClaim := { program := "ytkjpcjmbhpfelaa", sum := "74a23db40ea59a10efa3df52386f0bedbd73310488fecadc5b23dcb81998cee5", func := "grisaille/grisaillelaw10.RegionTilesTouched", spec := "regionTilesTouched", unfollowed := true, recurses := true, plainKeys := false, apart := false, narrowed := true }
def RegionTilesTouchedUptoSaid : Prop := regionTilesTouchedUptoRow.holds Try.pinned (OpenSpec.upto regionTilesTouchedSpec)

/-- 'grisaillelaw10.RegionComponents', WHERE WHAT IT READS IS OF BULK AT MOST 1048576: true; the input reads as it did. -/
def regionComponentsUptoRow : OpenClaim := { program := "ytkjpcjmbhpfelaa", sum := "74a23db40ea59a10efa3df52386f0bedbd73310488fecadc5b23dcb81998cee5", func := "grisaille/grisaillelaw10.RegionComponents", spec := "regionComponents", unfollowed := true, recurses := true, plainKeys := false, apart := false, narrowed := true }
def RegionComponentsUptoSaid : Prop := regionComponentsUptoRow.holds Try.pinned (OpenSpec.upto regionComponentsSpec)

/-- 'grisaillelaw10.RegionComponentsPartition', WHERE WHAT IT READS IS OF BULK AT MOST 1048576: true; the input reads as it did. -/
def regionComponentsPartitionUptoRow : OpenClaim := { program := "ytkjpcjmbhpfelaa", sum := "74a23db40ea59a10efa3df52386f0bedbd73310488fecadc5b23dcb81998cee5", func := "grisaille/grisaillelaw10.RegionComponentsPartition", spec := "regionComponentsPartition", unfollowed := true, recurses := true, plainKeys := false, apart := false, narrowed := true }
def RegionComponentsPartitionUptoSaid : Prop := regionComponentsPartitionUptoRow.holds Try.pinned (OpenSpec.upto regionComponentsPartitionSpec)

/-- 'grisaillelaw10.RegionOutlineWinding', WHERE WHAT IT READS IS OF BULK AT MOST 1048576: true; the input reads as it did. -/
def regionOutlineWindingUptoRow : OpenClaim := { program := "ytkjpcjmbhpfelaa", sum := "74a23db40ea59a10efa3df52386f0bedbd73310488fecadc5b23dcb81998cee5", func := "grisaille/grisaillelaw10.RegionOutlineWinding", spec := "regionOutlineWinding", unfollowed := true, recurses := true, plainKeys := false, apart := false, narrowed := true }
def RegionOutlineWindingUptoSaid : Prop := regionOutlineWindingUptoRow.holds Try.pinned (OpenSpec.upto regionOutlineWindingSpec)

end Rows
end Go.Proofs.Ytkjpcjmbhpfelaa
