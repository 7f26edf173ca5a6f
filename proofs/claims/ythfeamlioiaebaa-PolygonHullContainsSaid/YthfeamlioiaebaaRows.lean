/-
  No cell of these rows narrows 'for every input' (looked for: loops, veiled, ifaces, maps, wideKeys, modest, calm, conditions, laid).
  DERIVED. THE GIVEN ROWS OF THIS SEAT. 11 by the template 'for every input the law returns true; each argument reads behind the call as it read before'; 0 by the template 'total and deterministic' (their statements: YthfeamlioiaebaaTotals.lean).
  GIVEN WITH THE SEED: the statements are not yours to turn. If you find one false, say at which input.
  Laid BY PROGRAM, IN A SANDBOX (cutbox-rows.mjs): the forced cells as the released guide's own fill.sh prints them over the translation b505555e05aede6e… (all of the seat's roots in one cut). By AI agents, Wed Nov 11 2026. No macro, syntax, notation, axiom, sorry.
-/
import Derived.Test.YthfeamlioiaebaaChecked
import GoSem.Claim
import GoSem.ClaimJoined
import GoSem.ClaimMapViews
import Derived.JoinedTies
import Derived.KernelRfl
namespace Go.Proofs.Ythfeamlioiaebaa
/- THE CELL 'sum', in the pinned program and in every row, IS THE sha256 OF THE DUMP (.gsa) THAT YthfeamlioiaebaaProg.lean LOADS. Nothing in Lean hashes anything: it is a label: what it is worth is what the hold of that sum in a sandbox is worth. -/
noncomputable def Try.pinned : Pinned := { name := "ythfeamlioiaebaa", sum := "b505555e05aede6e23fb3035150de290f5bacb5dfd9bb04dbdc437c75e5f988d", checked := Try.checked }
namespace Rows
def none {H : Type} : Left H := { results := [], args := [] }

/-- 'grisaillelaw16.PolygonBounds': WHATEVER THE INPUT: true; the input reads as it did. -/
def polygonBoundsSpec : ChangeSpec := { name := "polygonBounds", fn := fun _ => fun
  | [d1, d2] => { results := [.lit (.bool true)], args := [d1, d2] }
  | _ => none }
def polygonBoundsRow : OpenClaim := { program := "ythfeamlioiaebaa", sum := "b505555e05aede6e23fb3035150de290f5bacb5dfd9bb04dbdc437c75e5f988d", func := "grisaille/grisaillelaw16.PolygonBounds", spec := "polygonBounds", unfollowed := true, recurses := true, apart := false }
def PolygonBoundsSaid : Prop := polygonBoundsRow.holds Try.pinned (OpenSpec.ofChange polygonBoundsSpec)

/-- ITS FALSE NEIGHBOUR: 'it returns false'. Refute it at one input. -/
def polygonBoundsWrong : ChangeSpec := { name := "polygonBounds", fn := fun _ => fun
  | [d1, d2] => { results := [.lit (.bool false)], args := [d1, d2] }
  | _ => none }
def PolygonBoundsWrongFalsely : Prop := polygonBoundsRow.holds Try.pinned (OpenSpec.ofChange polygonBoundsWrong)

/-- 'grisaillelaw16.PolygonContains': WHATEVER THE INPUT: true; the input reads as it did. -/
def polygonContainsSpec : ChangeSpec := { name := "polygonContains", fn := fun _ => fun
  | [d1, d2, d3, d4] => { results := [.lit (.bool true)], args := [d1, d2, d3, d4] }
  | _ => none }
def polygonContainsRow : OpenClaim := { program := "ythfeamlioiaebaa", sum := "b505555e05aede6e23fb3035150de290f5bacb5dfd9bb04dbdc437c75e5f988d", func := "grisaille/grisaillelaw16.PolygonContains", spec := "polygonContains", unfollowed := true, recurses := true, apart := false }
def PolygonContainsSaid : Prop := polygonContainsRow.holds Try.pinned (OpenSpec.ofChange polygonContainsSpec)

/-- ITS FALSE NEIGHBOUR: 'it returns false'. Refute it at one input. -/
def polygonContainsWrong : ChangeSpec := { name := "polygonContains", fn := fun _ => fun
  | [d1, d2, d3, d4] => { results := [.lit (.bool false)], args := [d1, d2, d3, d4] }
  | _ => none }
def PolygonContainsWrongFalsely : Prop := polygonContainsRow.holds Try.pinned (OpenSpec.ofChange polygonContainsWrong)

/-- 'grisaillelaw16.PolygonWinding': WHATEVER THE INPUT: true; the input reads as it did. -/
def polygonWindingSpec : ChangeSpec := { name := "polygonWinding", fn := fun _ => fun
  | [d1, d2, d3, d4] => { results := [.lit (.bool true)], args := [d1, d2, d3, d4] }
  | _ => none }
def polygonWindingRow : OpenClaim := { program := "ythfeamlioiaebaa", sum := "b505555e05aede6e23fb3035150de290f5bacb5dfd9bb04dbdc437c75e5f988d", func := "grisaille/grisaillelaw16.PolygonWinding", spec := "polygonWinding", unfollowed := true, recurses := true, apart := false }
def PolygonWindingSaid : Prop := polygonWindingRow.holds Try.pinned (OpenSpec.ofChange polygonWindingSpec)

/-- ITS FALSE NEIGHBOUR: 'it returns false'. Refute it at one input. -/
def polygonWindingWrong : ChangeSpec := { name := "polygonWinding", fn := fun _ => fun
  | [d1, d2, d3, d4] => { results := [.lit (.bool false)], args := [d1, d2, d3, d4] }
  | _ => none }
def PolygonWindingWrongFalsely : Prop := polygonWindingRow.holds Try.pinned (OpenSpec.ofChange polygonWindingWrong)

/-- 'grisaillelaw16.PolygonTranslation': WHATEVER THE INPUT: true; the input reads as it did. -/
def polygonTranslationSpec : ChangeSpec := { name := "polygonTranslation", fn := fun _ => fun
  | [d1, d2, d3] => { results := [.lit (.bool true)], args := [d1, d2, d3] }
  | _ => none }
def polygonTranslationRow : OpenClaim := { program := "ythfeamlioiaebaa", sum := "b505555e05aede6e23fb3035150de290f5bacb5dfd9bb04dbdc437c75e5f988d", func := "grisaille/grisaillelaw16.PolygonTranslation", spec := "polygonTranslation", unfollowed := true, recurses := true, apart := false }
def PolygonTranslationSaid : Prop := polygonTranslationRow.holds Try.pinned (OpenSpec.ofChange polygonTranslationSpec)

/-- ITS FALSE NEIGHBOUR: 'it returns false'. Refute it at one input. -/
def polygonTranslationWrong : ChangeSpec := { name := "polygonTranslation", fn := fun _ => fun
  | [d1, d2, d3] => { results := [.lit (.bool false)], args := [d1, d2, d3] }
  | _ => none }
def PolygonTranslationWrongFalsely : Prop := polygonTranslationRow.holds Try.pinned (OpenSpec.ofChange polygonTranslationWrong)

/-- 'grisaillelaw16.PolygonOrientation': WHATEVER THE INPUT: true; the input reads as it did. -/
def polygonOrientationSpec : ChangeSpec := { name := "polygonOrientation", fn := fun _ => fun
  | [d1, d2] => { results := [.lit (.bool true)], args := [d1, d2] }
  | _ => none }
def polygonOrientationRow : OpenClaim := { program := "ythfeamlioiaebaa", sum := "b505555e05aede6e23fb3035150de290f5bacb5dfd9bb04dbdc437c75e5f988d", func := "grisaille/grisaillelaw16.PolygonOrientation", spec := "polygonOrientation", unfollowed := true, recurses := true, apart := false }
def PolygonOrientationSaid : Prop := polygonOrientationRow.holds Try.pinned (OpenSpec.ofChange polygonOrientationSpec)

/-- ITS FALSE NEIGHBOUR: 'it returns false'. Refute it at one input. -/
def polygonOrientationWrong : ChangeSpec := { name := "polygonOrientation", fn := fun _ => fun
  | [d1, d2] => { results := [.lit (.bool false)], args := [d1, d2] }
  | _ => none }
def PolygonOrientationWrongFalsely : Prop := polygonOrientationRow.holds Try.pinned (OpenSpec.ofChange polygonOrientationWrong)

/-- 'grisaillelaw16.PolygonOrient': WHATEVER THE INPUT: true; the input reads as it did. -/
def polygonOrientSpec : ChangeSpec := { name := "polygonOrient", fn := fun _ => fun
  | [d1, d2] => { results := [.lit (.bool true)], args := [d1, d2] }
  | _ => none }
def polygonOrientRow : OpenClaim := { program := "ythfeamlioiaebaa", sum := "b505555e05aede6e23fb3035150de290f5bacb5dfd9bb04dbdc437c75e5f988d", func := "grisaille/grisaillelaw16.PolygonOrient", spec := "polygonOrient", unfollowed := true, recurses := true, apart := false }
def PolygonOrientSaid : Prop := polygonOrientRow.holds Try.pinned (OpenSpec.ofChange polygonOrientSpec)

/-- ITS FALSE NEIGHBOUR: 'it returns false'. Refute it at one input. -/
def polygonOrientWrong : ChangeSpec := { name := "polygonOrient", fn := fun _ => fun
  | [d1, d2] => { results := [.lit (.bool false)], args := [d1, d2] }
  | _ => none }
def PolygonOrientWrongFalsely : Prop := polygonOrientRow.holds Try.pinned (OpenSpec.ofChange polygonOrientWrong)

/-- 'grisaillelaw16.PolygonConversions': WHATEVER THE INPUT: true; the input reads as it did. -/
def polygonConversionsSpec : ChangeSpec := { name := "polygonConversions", fn := fun _ => fun
  | [d1, d2, d3] => { results := [.lit (.bool true)], args := [d1, d2, d3] }
  | _ => none }
def polygonConversionsRow : OpenClaim := { program := "ythfeamlioiaebaa", sum := "b505555e05aede6e23fb3035150de290f5bacb5dfd9bb04dbdc437c75e5f988d", func := "grisaille/grisaillelaw16.PolygonConversions", spec := "polygonConversions", unfollowed := true, recurses := true, apart := false }
def PolygonConversionsSaid : Prop := polygonConversionsRow.holds Try.pinned (OpenSpec.ofChange polygonConversionsSpec)

/-- ITS FALSE NEIGHBOUR: 'it returns false'. Refute it at one input. -/
def polygonConversionsWrong : ChangeSpec := { name := "polygonConversions", fn := fun _ => fun
  | [d1, d2, d3] => { results := [.lit (.bool false)], args := [d1, d2, d3] }
  | _ => none }
def PolygonConversionsWrongFalsely : Prop := polygonConversionsRow.holds Try.pinned (OpenSpec.ofChange polygonConversionsWrong)

/-- 'grisaillelaw16.PolygonSimplifyKeeps': WHATEVER THE INPUT: true; the input reads as it did. -/
def polygonSimplifyKeepsSpec : ChangeSpec := { name := "polygonSimplifyKeeps", fn := fun _ => fun
  | [d1, d2] => { results := [.lit (.bool true)], args := [d1, d2] }
  | _ => none }
def polygonSimplifyKeepsRow : OpenClaim := { program := "ythfeamlioiaebaa", sum := "b505555e05aede6e23fb3035150de290f5bacb5dfd9bb04dbdc437c75e5f988d", func := "grisaille/grisaillelaw16.PolygonSimplifyKeeps", spec := "polygonSimplifyKeeps", unfollowed := true, recurses := true, apart := false }
def PolygonSimplifyKeepsSaid : Prop := polygonSimplifyKeepsRow.holds Try.pinned (OpenSpec.ofChange polygonSimplifyKeepsSpec)

/-- ITS FALSE NEIGHBOUR: 'it returns false'. Refute it at one input. -/
def polygonSimplifyKeepsWrong : ChangeSpec := { name := "polygonSimplifyKeeps", fn := fun _ => fun
  | [d1, d2] => { results := [.lit (.bool false)], args := [d1, d2] }
  | _ => none }
def PolygonSimplifyKeepsWrongFalsely : Prop := polygonSimplifyKeepsRow.holds Try.pinned (OpenSpec.ofChange polygonSimplifyKeepsWrong)

/-- 'grisaillelaw16.PolygonSimplify': WHATEVER THE INPUT: true; the input reads as it did. -/
def polygonSimplifySpec : ChangeSpec := { name := "polygonSimplify", fn := fun _ => fun
  | [d] => { results := [.lit (.bool true)], args := [d] }
  | _ => none }
def polygonSimplifyRow : OpenClaim := { program := "ythfeamlioiaebaa", sum := "b505555e05aede6e23fb3035150de290f5bacb5dfd9bb04dbdc437c75e5f988d", func := "grisaille/grisaillelaw16.PolygonSimplify", spec := "polygonSimplify", unfollowed := true, recurses := true, apart := false }
def PolygonSimplifySaid : Prop := polygonSimplifyRow.holds Try.pinned (OpenSpec.ofChange polygonSimplifySpec)

/-- ITS FALSE NEIGHBOUR: 'it returns false'. Refute it at one input. -/
def polygonSimplifyWrong : ChangeSpec := { name := "polygonSimplify", fn := fun _ => fun
  | [d] => { results := [.lit (.bool false)], args := [d] }
  | _ => none }
def PolygonSimplifyWrongFalsely : Prop := polygonSimplifyRow.holds Try.pinned (OpenSpec.ofChange polygonSimplifyWrong)

/-- 'grisaillelaw16.PolygonHull': WHATEVER THE INPUT: true; the input reads as it did. -/
def polygonHullSpec : ChangeSpec := { name := "polygonHull", fn := fun _ => fun
  | [d] => { results := [.lit (.bool true)], args := [d] }
  | _ => none }
def polygonHullRow : OpenClaim := { program := "ythfeamlioiaebaa", sum := "b505555e05aede6e23fb3035150de290f5bacb5dfd9bb04dbdc437c75e5f988d", func := "grisaille/grisaillelaw16.PolygonHull", spec := "polygonHull", unfollowed := true, recurses := true, apart := false }
def PolygonHullSaid : Prop := polygonHullRow.holds Try.pinned (OpenSpec.ofChange polygonHullSpec)

/-- ITS FALSE NEIGHBOUR: 'it returns false'. Refute it at one input. -/
def polygonHullWrong : ChangeSpec := { name := "polygonHull", fn := fun _ => fun
  | [d] => { results := [.lit (.bool false)], args := [d] }
  | _ => none }
def PolygonHullWrongFalsely : Prop := polygonHullRow.holds Try.pinned (OpenSpec.ofChange polygonHullWrong)

/-- 'grisaillelaw16.PolygonHullContains': WHATEVER THE INPUT: true; the input reads as it did. -/
def polygonHullContainsSpec : ChangeSpec := { name := "polygonHullContains", fn := fun _ => fun
  | [d1, d2] => { results := [.lit (.bool true)], args := [d1, d2] }
  | _ => none }
def polygonHullContainsRow : OpenClaim := { program := "ythfeamlioiaebaa", sum := "b505555e05aede6e23fb3035150de290f5bacb5dfd9bb04dbdc437c75e5f988d", func := "grisaille/grisaillelaw16.PolygonHullContains", spec := "polygonHullContains", unfollowed := true, recurses := true, apart := false }
def PolygonHullContainsSaid : Prop := polygonHullContainsRow.holds Try.pinned (OpenSpec.ofChange polygonHullContainsSpec)

/-- ITS FALSE NEIGHBOUR: 'it returns false'. Refute it at one input. -/
def polygonHullContainsWrong : ChangeSpec := { name := "polygonHullContains", fn := fun _ => fun
  | [d1, d2] => { results := [.lit (.bool false)], args := [d1, d2] }
  | _ => none }
def PolygonHullContainsWrongFalsely : Prop := polygonHullContainsRow.holds Try.pinned (OpenSpec.ofChange polygonHullContainsWrong)

/- THE SECOND FORM. 'bulk': how many values and letters a reading holds, each counted each time it is reached (what is shared counts as often as it is met; a slice's spare places count too). A statement '..UptoSaid' is the law's where the arguments, and the package variables that the reading takes, are together of bulk at most 1048576: NARROWER than '..Said'. Prove '..Said' where nothing that the law and all that it calls make is longer than what came in: it says more and counts as full. Else prove '..UptoSaid'. A law counts once. -/
mutual
def uptoBulk {H : Type} : DataW H → Nat
  | .lit (.string bytes) => bytes.length + 1
  | .lit _ => 1
  | .nil => 1
  | .ptr d => uptoBulk d + 1
  | .slice elems spare => uptoBulkAll elems + uptoBulkAll spare + 1
  | .agg parts => uptoBulkAll parts + 1
  | .iface _ d => uptoBulk d + 1
  | .map entries => uptoBulkEntries entries + 1
  | .held _ => 1
def uptoBulkAll {H : Type} : List (DataW H) → Nat
  | [] => 0
  | d :: r => uptoBulk d + uptoBulkAll r
def uptoBulkEntries {H : Type} : List (Lit × DataW H) → Nat
  | [] => 0
  | x :: r => uptoBulkEntry x + uptoBulkEntries r
def uptoBulkEntry {H : Type} : Lit × DataW H → Nat
  | (.string bytes, d) => bytes.length + uptoBulk d + 1
  | (_, d) => uptoBulk d + 1
 end
def uptoSmall : (H : Type) → List (DataW H) → Bool := fun _ ds => decide (uptoBulkAll ds ≤ 1048576)
def OpenSpec.upto (s : _root_.Go.ChangeSpec) : _root_.Go.OpenSpec := { _root_.Go.OpenSpec.ofChange s with cond := some uptoSmall }

/-- 'grisaillelaw16.PolygonBounds', WHERE WHAT IT READS IS OF BULK AT MOST 1048576: true; the input reads as it did. -/
def polygonBoundsUptoRow : OpenClaim := { program := "ythfeamlioiaebaa", sum := "b505555e05aede6e23fb3035150de290f5bacb5dfd9bb04dbdc437c75e5f988d", func := "grisaille/grisaillelaw16.PolygonBounds", spec := "polygonBounds", unfollowed := true, recurses := true, apart := false, narrowed := true }
def PolygonBoundsUptoSaid : Prop := polygonBoundsUptoRow.holds Try.pinned (OpenSpec.upto polygonBoundsSpec)

/-- 'grisaillelaw16.PolygonContains', WHERE WHAT IT READS IS OF BULK AT MOST 1048576: true; the input reads as it did. -/
def polygonContainsUptoRow : OpenClaim := { program := "ythfeamlioiaebaa", sum := "b505555e05aede6e23fb3035150de290f5bacb5dfd9bb04dbdc437c75e5f988d", func := "grisaille/grisaillelaw16.PolygonContains", spec := "polygonContains", unfollowed := true, recurses := true, apart := false, narrowed := true }
def PolygonContainsUptoSaid : Prop := polygonContainsUptoRow.holds Try.pinned (OpenSpec.upto polygonContainsSpec)

/-- 'grisaillelaw16.PolygonWinding', WHERE WHAT IT READS IS OF BULK AT MOST 1048576: true; the input reads as it did. -/
def polygonWindingUptoRow : OpenClaim := { program := "ythfeamlioiaebaa", sum := "b505555e05aede6e23fb3035150de290f5bacb5dfd9bb04dbdc437c75e5f988d", func := "grisaille/grisaillelaw16.PolygonWinding", spec := "polygonWinding", unfollowed := true, recurses := true, apart := false, narrowed := true }
def PolygonWindingUptoSaid : Prop := polygonWindingUptoRow.holds Try.pinned (OpenSpec.upto polygonWindingSpec)

/-- 'grisaillelaw16.PolygonTranslation', WHERE WHAT IT READS IS OF BULK AT MOST 1048576: true; the input reads as it did. -/
def polygonTranslationUptoRow : OpenClaim := { program := "ythfeamlioiaebaa", sum := "b505555e05aede6e23fb3035150de290f5bacb5dfd9bb04dbdc437c75e5f988d", func := "grisaille/grisaillelaw16.PolygonTranslation", spec := "polygonTranslation", unfollowed := true, recurses := true, apart := false, narrowed := true }
def PolygonTranslationUptoSaid : Prop := polygonTranslationUptoRow.holds Try.pinned (OpenSpec.upto polygonTranslationSpec)

/-- 'grisaillelaw16.PolygonOrientation', WHERE WHAT IT READS IS OF BULK AT MOST 1048576: true; the input reads as it did. -/
def polygonOrientationUptoRow : OpenClaim := { program := "ythfeamlioiaebaa", sum := "b505555e05aede6e23fb3035150de290f5bacb5dfd9bb04dbdc437c75e5f988d", func := "grisaille/grisaillelaw16.PolygonOrientation", spec := "polygonOrientation", unfollowed := true, recurses := true, apart := false, narrowed := true }
def PolygonOrientationUptoSaid : Prop := polygonOrientationUptoRow.holds Try.pinned (OpenSpec.upto polygonOrientationSpec)

/-- 'grisaillelaw16.PolygonOrient', WHERE WHAT IT READS IS OF BULK AT MOST 1048576: true; the input reads as it did. -/
def polygonOrientUptoRow : OpenClaim := { program := "ythfeamlioiaebaa", sum := "b505555e05aede6e23fb3035150de290f5bacb5dfd9bb04dbdc437c75e5f988d", func := "grisaille/grisaillelaw16.PolygonOrient", spec := "polygonOrient", unfollowed := true, recurses := true, apart := false, narrowed := true }
def PolygonOrientUptoSaid : Prop := polygonOrientUptoRow.holds Try.pinned (OpenSpec.upto polygonOrientSpec)

/-- 'grisaillelaw16.PolygonConversions', WHERE WHAT IT READS IS OF BULK AT MOST 1048576: true; the input reads as it did. -/
def polygonConversionsUptoRow : OpenClaim := { program := "ythfeamlioiaebaa", sum := "b505555e05aede6e23fb3035150de290f5bacb5dfd9bb04dbdc437c75e5f988d", func := "grisaille/grisaillelaw16.PolygonConversions", spec := "polygonConversions", unfollowed := true, recurses := true, apart := false, narrowed := true }
def PolygonConversionsUptoSaid : Prop := polygonConversionsUptoRow.holds Try.pinned (OpenSpec.upto polygonConversionsSpec)

/-- 'grisaillelaw16.PolygonSimplifyKeeps', WHERE WHAT IT READS IS OF BULK AT MOST 1048576: true; the input reads as it did. -/
def polygonSimplifyKeepsUptoRow : OpenClaim := { program := "ythfeamlioiaebaa", sum := "b505555e05aede6e23fb3035150de290f5bacb5dfd9bb04dbdc437c75e5f988d", func := "grisaille/grisaillelaw16.PolygonSimplifyKeeps", spec := "polygonSimplifyKeeps", unfollowed := true, recurses := true, apart := false, narrowed := true }
def PolygonSimplifyKeepsUptoSaid : Prop := polygonSimplifyKeepsUptoRow.holds Try.pinned (OpenSpec.upto polygonSimplifyKeepsSpec)

/-- 'grisaillelaw16.PolygonSimplify', WHERE WHAT IT READS IS OF BULK AT MOST 1048576: true; the input reads as it did. -/
def polygonSimplifyUptoRow : OpenClaim := { program := "ythfeamlioiaebaa", sum := "b505555e05aede6e23fb3035150de290f5bacb5dfd9bb04dbdc437c75e5f988d", func := "grisaille/grisaillelaw16.PolygonSimplify", spec := "polygonSimplify", unfollowed := true, recurses := true, apart := false, narrowed := true }
def PolygonSimplifyUptoSaid : Prop := polygonSimplifyUptoRow.holds Try.pinned (OpenSpec.upto polygonSimplifySpec)

/-- 'grisaillelaw16.PolygonHull', WHERE WHAT IT READS IS OF BULK AT MOST 1048576: true; the input reads as it did. -/
def polygonHullUptoRow : OpenClaim := { program := "ythfeamlioiaebaa", sum := "b505555e05aede6e23fb3035150de290f5bacb5dfd9bb04dbdc437c75e5f988d", func := "grisaille/grisaillelaw16.PolygonHull", spec := "polygonHull", unfollowed := true, recurses := true, apart := false, narrowed := true }
def PolygonHullUptoSaid : Prop := polygonHullUptoRow.holds Try.pinned (OpenSpec.upto polygonHullSpec)

/-- 'grisaillelaw16.PolygonHullContains', WHERE WHAT IT READS IS OF BULK AT MOST 1048576: true; the input reads as it did. -/
def polygonHullContainsUptoRow : OpenClaim := { program := "ythfeamlioiaebaa", sum := "b505555e05aede6e23fb3035150de290f5bacb5dfd9bb04dbdc437c75e5f988d", func := "grisaille/grisaillelaw16.PolygonHullContains", spec := "polygonHullContains", unfollowed := true, recurses := true, apart := false, narrowed := true }
def PolygonHullContainsUptoSaid : Prop := polygonHullContainsUptoRow.holds Try.pinned (OpenSpec.upto polygonHullContainsSpec)

end Rows
end Go.Proofs.Ythfeamlioiaebaa
