/-
  No cell of these rows narrows 'for every input' (looked for: loops, veiled, ifaces, maps, wideKeys, modest, calm, conditions, laid).
  DERIVED. THE GIVEN ROWS OF THIS SEAT. 11 by the template 'for every input the law returns true; each argument reads behind the call as it read before'; 0 by the template 'total and deterministic' (their statements: YtakoklldmdbphaaTotals.lean).
  GIVEN WITH THE SEED: the statements are not yours to turn. If you find one false, say at which input.
  Laid BY PROGRAM, IN A SANDBOX (cutbox-rows.mjs): the forced cells as the released guide's own fill.sh prints them over the translation 7668629090a034ad… (all of the seat's roots in one cut). By AI agents, Wed Nov 11 2026. No macro, syntax, notation, axiom, sorry.
-/
import Derived.Test.YtakoklldmdbphaaChecked
import GoSem.Claim
import GoSem.ClaimJoined
import GoSem.ClaimMapViews
import Derived.JoinedTies
import Derived.KernelRfl
namespace Go.Proofs.Ytakoklldmdbphaa
/- THE CELL 'sum', in the pinned program and in every row, IS THE sha256 OF THE DUMP (.gsa) THAT YtakoklldmdbphaaProg.lean LOADS. Nothing in Lean hashes anything: it is a label: what it is worth is what the hold of that sum in a sandbox is worth. -/
noncomputable def Try.pinned : Pinned := { name := "ytakoklldmdbphaa", sum := "7668629090a034adedfe1218b74f3f780e900d2256a01206f817638b44fcffb7", checked := Try.checked }
namespace Rows
def none {H : Type} : Left H := { results := [], args := [] }

/-- 'laws.FnExactBoxOf': WHATEVER THE INPUT: true; the input reads as it did. -/
def fnExactBoxOfSpec : ChangeSpec := { name := "fnExactBoxOf", fn := fun _ => fun
  | [d] => { results := [.lit (.bool true)], args := [d] }
  | _ => none }
def fnExactBoxOfRow : OpenClaim := { program := "ytakoklldmdbphaa", sum := "7668629090a034adedfe1218b74f3f780e900d2256a01206f817638b44fcffb7", func := "loop.example/g01165/laws.FnExactBoxOf", spec := "fnExactBoxOf", unfollowed := true, recurses := true, apart := false }
def FnExactBoxOfSaid : Prop := fnExactBoxOfRow.holds Try.pinned (OpenSpec.ofChange fnExactBoxOfSpec)

/-- ITS FALSE NEIGHBOUR: 'it returns false'. Refute it at one input. -/
def fnExactBoxOfWrong : ChangeSpec := { name := "fnExactBoxOf", fn := fun _ => fun
  | [d] => { results := [.lit (.bool false)], args := [d] }
  | _ => none }
def FnExactBoxOfWrongFalsely : Prop := fnExactBoxOfRow.holds Try.pinned (OpenSpec.ofChange fnExactBoxOfWrong)

/-- 'laws.FnExactEdgeLength': WHATEVER THE INPUT: true; the input reads as it did. -/
def fnExactEdgeLengthSpec : ChangeSpec := { name := "fnExactEdgeLength", fn := fun _ => fun
  | [d] => { results := [.lit (.bool true)], args := [d] }
  | _ => none }
def fnExactEdgeLengthRow : OpenClaim := { program := "ytakoklldmdbphaa", sum := "7668629090a034adedfe1218b74f3f780e900d2256a01206f817638b44fcffb7", func := "loop.example/g01165/laws.FnExactEdgeLength", spec := "fnExactEdgeLength", unfollowed := true, recurses := true, apart := false }
def FnExactEdgeLengthSaid : Prop := fnExactEdgeLengthRow.holds Try.pinned (OpenSpec.ofChange fnExactEdgeLengthSpec)

/-- ITS FALSE NEIGHBOUR: 'it returns false'. Refute it at one input. -/
def fnExactEdgeLengthWrong : ChangeSpec := { name := "fnExactEdgeLength", fn := fun _ => fun
  | [d] => { results := [.lit (.bool false)], args := [d] }
  | _ => none }
def FnExactEdgeLengthWrongFalsely : Prop := fnExactEdgeLengthRow.holds Try.pinned (OpenSpec.ofChange fnExactEdgeLengthWrong)

/-- 'laws.FnExactQuadCounts': WHATEVER THE INPUT: true; the input reads as it did. -/
def fnExactQuadCountsSpec : ChangeSpec := { name := "fnExactQuadCounts", fn := fun _ => fun
  | [d] => { results := [.lit (.bool true)], args := [d] }
  | _ => none }
def fnExactQuadCountsRow : OpenClaim := { program := "ytakoklldmdbphaa", sum := "7668629090a034adedfe1218b74f3f780e900d2256a01206f817638b44fcffb7", func := "loop.example/g01165/laws.FnExactQuadCounts", spec := "fnExactQuadCounts", apart := false }
def FnExactQuadCountsSaid : Prop := fnExactQuadCountsRow.holds Try.pinned (OpenSpec.ofChange fnExactQuadCountsSpec)

/-- ITS FALSE NEIGHBOUR: 'it returns false'. Refute it at one input. -/
def fnExactQuadCountsWrong : ChangeSpec := { name := "fnExactQuadCounts", fn := fun _ => fun
  | [d] => { results := [.lit (.bool false)], args := [d] }
  | _ => none }
def FnExactQuadCountsWrongFalsely : Prop := fnExactQuadCountsRow.holds Try.pinned (OpenSpec.ofChange fnExactQuadCountsWrong)

/-- 'laws.FnExactRunsOf': WHATEVER THE INPUT: true; the input reads as it did. -/
def fnExactRunsOfSpec : ChangeSpec := { name := "fnExactRunsOf", fn := fun _ => fun
  | [d] => { results := [.lit (.bool true)], args := [d] }
  | _ => none }
def fnExactRunsOfRow : OpenClaim := { program := "ytakoklldmdbphaa", sum := "7668629090a034adedfe1218b74f3f780e900d2256a01206f817638b44fcffb7", func := "loop.example/g01165/laws.FnExactRunsOf", spec := "fnExactRunsOf", unfollowed := true, recurses := true, apart := false }
def FnExactRunsOfSaid : Prop := fnExactRunsOfRow.holds Try.pinned (OpenSpec.ofChange fnExactRunsOfSpec)

/-- ITS FALSE NEIGHBOUR: 'it returns false'. Refute it at one input. -/
def fnExactRunsOfWrong : ChangeSpec := { name := "fnExactRunsOf", fn := fun _ => fun
  | [d] => { results := [.lit (.bool false)], args := [d] }
  | _ => none }
def FnExactRunsOfWrongFalsely : Prop := fnExactRunsOfRow.holds Try.pinned (OpenSpec.ofChange fnExactRunsOfWrong)

/-- 'laws.FnRegions': WHATEVER THE INPUT: true; the input reads as it did. -/
def fnRegionsSpec : ChangeSpec := { name := "fnRegions", fn := fun _ => fun
  | [d1, d2] => { results := [.lit (.bool true)], args := [d1, d2] }
  | _ => none }
def fnRegionsRow : OpenClaim := { program := "ytakoklldmdbphaa", sum := "7668629090a034adedfe1218b74f3f780e900d2256a01206f817638b44fcffb7", func := "loop.example/g01165/laws.FnRegions", spec := "fnRegions", unfollowed := true, recurses := true, apart := false }
def FnRegionsSaid : Prop := fnRegionsRow.holds Try.pinned (OpenSpec.ofChange fnRegionsSpec)

/-- ITS FALSE NEIGHBOUR: 'it returns false'. Refute it at one input. -/
def fnRegionsWrong : ChangeSpec := { name := "fnRegions", fn := fun _ => fun
  | [d1, d2] => { results := [.lit (.bool false)], args := [d1, d2] }
  | _ => none }
def FnRegionsWrongFalsely : Prop := fnRegionsRow.holds Try.pinned (OpenSpec.ofChange fnRegionsWrong)

/-- 'laws.FnExactRegionsOf': WHATEVER THE INPUT: true; the input reads as it did. -/
def fnExactRegionsOfSpec : ChangeSpec := { name := "fnExactRegionsOf", fn := fun _ => fun
  | [d1, d2, d3, d4] => { results := [.lit (.bool true)], args := [d1, d2, d3, d4] }
  | _ => none }
def fnExactRegionsOfRow : OpenClaim := { program := "ytakoklldmdbphaa", sum := "7668629090a034adedfe1218b74f3f780e900d2256a01206f817638b44fcffb7", func := "loop.example/g01165/laws.FnExactRegionsOf", spec := "fnExactRegionsOf", unfollowed := true, recurses := true, apart := false }
def FnExactRegionsOfSaid : Prop := fnExactRegionsOfRow.holds Try.pinned (OpenSpec.ofChange fnExactRegionsOfSpec)

/-- ITS FALSE NEIGHBOUR: 'it returns false'. Refute it at one input. -/
def fnExactRegionsOfWrong : ChangeSpec := { name := "fnExactRegionsOf", fn := fun _ => fun
  | [d1, d2, d3, d4] => { results := [.lit (.bool false)], args := [d1, d2, d3, d4] }
  | _ => none }
def FnExactRegionsOfWrongFalsely : Prop := fnExactRegionsOfRow.holds Try.pinned (OpenSpec.ofChange fnExactRegionsOfWrong)

/-- 'laws.FnExactNearestOf': WHATEVER THE INPUT: true; the input reads as it did. -/
def fnExactNearestOfSpec : ChangeSpec := { name := "fnExactNearestOf", fn := fun _ => fun
  | [d1, d2, d3] => { results := [.lit (.bool true)], args := [d1, d2, d3] }
  | _ => none }
def fnExactNearestOfRow : OpenClaim := { program := "ytakoklldmdbphaa", sum := "7668629090a034adedfe1218b74f3f780e900d2256a01206f817638b44fcffb7", func := "loop.example/g01165/laws.FnExactNearestOf", spec := "fnExactNearestOf", unfollowed := true, recurses := true, apart := false }
def FnExactNearestOfSaid : Prop := fnExactNearestOfRow.holds Try.pinned (OpenSpec.ofChange fnExactNearestOfSpec)

/-- ITS FALSE NEIGHBOUR: 'it returns false'. Refute it at one input. -/
def fnExactNearestOfWrong : ChangeSpec := { name := "fnExactNearestOf", fn := fun _ => fun
  | [d1, d2, d3] => { results := [.lit (.bool false)], args := [d1, d2, d3] }
  | _ => none }
def FnExactNearestOfWrongFalsely : Prop := fnExactNearestOfRow.holds Try.pinned (OpenSpec.ofChange fnExactNearestOfWrong)

/-- 'laws.FnExactFarthestOf': WHATEVER THE INPUT: true; the input reads as it did. -/
def fnExactFarthestOfSpec : ChangeSpec := { name := "fnExactFarthestOf", fn := fun _ => fun
  | [d1, d2] => { results := [.lit (.bool true)], args := [d1, d2] }
  | _ => none }
def fnExactFarthestOfRow : OpenClaim := { program := "ytakoklldmdbphaa", sum := "7668629090a034adedfe1218b74f3f780e900d2256a01206f817638b44fcffb7", func := "loop.example/g01165/laws.FnExactFarthestOf", spec := "fnExactFarthestOf", unfollowed := true, recurses := true, apart := false }
def FnExactFarthestOfSaid : Prop := fnExactFarthestOfRow.holds Try.pinned (OpenSpec.ofChange fnExactFarthestOfSpec)

/-- ITS FALSE NEIGHBOUR: 'it returns false'. Refute it at one input. -/
def fnExactFarthestOfWrong : ChangeSpec := { name := "fnExactFarthestOf", fn := fun _ => fun
  | [d1, d2] => { results := [.lit (.bool false)], args := [d1, d2] }
  | _ => none }
def FnExactFarthestOfWrongFalsely : Prop := fnExactFarthestOfRow.holds Try.pinned (OpenSpec.ofChange fnExactFarthestOfWrong)

/-- 'laws.FnDistances': WHATEVER THE INPUT: true; the input reads as it did. -/
def fnDistancesSpec : ChangeSpec := { name := "fnDistances", fn := fun _ => fun
  | [d1, d2] => { results := [.lit (.bool true)], args := [d1, d2] }
  | _ => none }
def fnDistancesRow : OpenClaim := { program := "ytakoklldmdbphaa", sum := "7668629090a034adedfe1218b74f3f780e900d2256a01206f817638b44fcffb7", func := "loop.example/g01165/laws.FnDistances", spec := "fnDistances", unfollowed := true, recurses := true, apart := false }
def FnDistancesSaid : Prop := fnDistancesRow.holds Try.pinned (OpenSpec.ofChange fnDistancesSpec)

/-- ITS FALSE NEIGHBOUR: 'it returns false'. Refute it at one input. -/
def fnDistancesWrong : ChangeSpec := { name := "fnDistances", fn := fun _ => fun
  | [d1, d2] => { results := [.lit (.bool false)], args := [d1, d2] }
  | _ => none }
def FnDistancesWrongFalsely : Prop := fnDistancesRow.holds Try.pinned (OpenSpec.ofChange fnDistancesWrong)

/-- 'laws.FnExactApartBy': WHATEVER THE INPUT: true; the input reads as it did. -/
def fnExactApartBySpec : ChangeSpec := { name := "fnExactApartBy", fn := fun _ => fun
  | [d1, d2, d3] => { results := [.lit (.bool true)], args := [d1, d2, d3] }
  | _ => none }
def fnExactApartByRow : OpenClaim := { program := "ytakoklldmdbphaa", sum := "7668629090a034adedfe1218b74f3f780e900d2256a01206f817638b44fcffb7", func := "loop.example/g01165/laws.FnExactApartBy", spec := "fnExactApartBy", unfollowed := true, recurses := true, apart := false }
def FnExactApartBySaid : Prop := fnExactApartByRow.holds Try.pinned (OpenSpec.ofChange fnExactApartBySpec)

/-- ITS FALSE NEIGHBOUR: 'it returns false'. Refute it at one input. -/
def fnExactApartByWrong : ChangeSpec := { name := "fnExactApartBy", fn := fun _ => fun
  | [d1, d2, d3] => { results := [.lit (.bool false)], args := [d1, d2, d3] }
  | _ => none }
def FnExactApartByWrongFalsely : Prop := fnExactApartByRow.holds Try.pinned (OpenSpec.ofChange fnExactApartByWrong)

/-- 'laws.FnExactPictureOfDiscs': WHATEVER THE INPUT: true; the input reads as it did. -/
def fnExactPictureOfDiscsSpec : ChangeSpec := { name := "fnExactPictureOfDiscs", fn := fun _ => fun
  | [d1, d2, d3, d4] => { results := [.lit (.bool true)], args := [d1, d2, d3, d4] }
  | _ => none }
def fnExactPictureOfDiscsRow : OpenClaim := { program := "ytakoklldmdbphaa", sum := "7668629090a034adedfe1218b74f3f780e900d2256a01206f817638b44fcffb7", func := "loop.example/g01165/laws.FnExactPictureOfDiscs", spec := "fnExactPictureOfDiscs", unfollowed := true, recurses := true, apart := false }
def FnExactPictureOfDiscsSaid : Prop := fnExactPictureOfDiscsRow.holds Try.pinned (OpenSpec.ofChange fnExactPictureOfDiscsSpec)

/-- ITS FALSE NEIGHBOUR: 'it returns false'. Refute it at one input. -/
def fnExactPictureOfDiscsWrong : ChangeSpec := { name := "fnExactPictureOfDiscs", fn := fun _ => fun
  | [d1, d2, d3, d4] => { results := [.lit (.bool false)], args := [d1, d2, d3, d4] }
  | _ => none }
def FnExactPictureOfDiscsWrongFalsely : Prop := fnExactPictureOfDiscsRow.holds Try.pinned (OpenSpec.ofChange fnExactPictureOfDiscsWrong)

/- THE SECOND FORM. 'bulk': how many values and letters a reading holds, each counted each time it is reached (what is shared counts as often as it is met; a slice's spare places count too). A statement '..UptoSaid' is the law's where the arguments, and the package variables that the reading takes, are together of bulk at most 1048576: NARROWER than '..Said'. Prove '..Said' where nothing that the law and all that it calls make is longer than what came in: it says more and counts as full. Else prove '..UptoSaid'. A law counts once. -/
mutual
def uptoBulk {H : Type} : DataW H → Nat
  | .lit (.string bytes) => bytes.length + 1
  | .lit _ => 1
  | .nil => 1
  | .ptr d => uptoBulk d + 1
  | .slice elems spare => uptoBulkAll elems + uptoBulkAll spare + 1
  | .agg parts => uptoBulkAll parts + 1
  | .iface _ d => uptoBulk d + 1
  | .map entries => uptoBulkEntries entries + 1
  | .held _ => 1
def uptoBulkAll {H : Type} : List (DataW H) → Nat
  | [] => 0
  | d :: r => uptoBulk d + uptoBulkAll r
def uptoBulkEntries {H : Type} : List (Lit × DataW H) → Nat
  | [] => 0
  | x :: r => uptoBulkEntry x + uptoBulkEntries r
def uptoBulkEntry {H : Type} : Lit × DataW H → Nat
  | (.string bytes, d) => bytes.length + uptoBulk d + 1
  | (_, d) => uptoBulk d + 1
 end
def uptoSmall : (H : Type) → List (DataW H) → Bool := fun _ ds => decide (uptoBulkAll ds ≤ 1048576)
def OpenSpec.upto (s : _root_.Go.ChangeSpec) : _root_.Go.OpenSpec := { _root_.Go.OpenSpec.ofChange s with cond := some uptoSmall }

/-- 'laws.FnExactBoxOf', WHERE WHAT IT READS IS OF BULK AT MOST 1048576: true; the input reads as it did. -/
def fnExactBoxOfUptoRow : OpenClaim := { program := "ytakoklldmdbphaa", sum := "7668629090a034adedfe1218b74f3f780e900d2256a01206f817638b44fcffb7", func := "loop.example/g01165/laws.FnExactBoxOf", spec := "fnExactBoxOf", unfollowed := true, recurses := true, apart := false, narrowed := true }
def FnExactBoxOfUptoSaid : Prop := fnExactBoxOfUptoRow.holds Try.pinned (OpenSpec.upto fnExactBoxOfSpec)

/-- 'laws.FnExactEdgeLength', WHERE WHAT IT READS IS OF BULK AT MOST 1048576: true; the input reads as it did. -/
def fnExactEdgeLengthUptoRow : OpenClaim := { program := "ytakoklldmdbphaa", sum := "7668629090a034adedfe1218b74f3f780e900d2256a01206f817638b44fcffb7", func := "loop.example/g01165/laws.FnExactEdgeLength", spec := "fnExactEdgeLength", unfollowed := true, recurses := true, apart := false, narrowed := true }
def FnExactEdgeLengthUptoSaid : Prop := fnExactEdgeLengthUptoRow.holds Try.pinned (OpenSpec.upto fnExactEdgeLengthSpec)

/-- 'laws.FnExactQuadCounts', WHERE WHAT IT READS IS OF BULK AT MOST 1048576: true; the input reads as it did. -/
def fnExactQuadCountsUptoRow : OpenClaim := { program := "ytakoklldmdbphaa", sum := "7668629090a034adedfe1218b74f3f780e900d2256a01206f817638b44fcffb7", func := "loop.example/g01165/laws.FnExactQuadCounts", spec := "fnExactQuadCounts", apart := false, narrowed := true }
def FnExactQuadCountsUptoSaid : Prop := fnExactQuadCountsUptoRow.holds Try.pinned (OpenSpec.upto fnExactQuadCountsSpec)

/-- 'laws.FnExactRunsOf', WHERE WHAT IT READS IS OF BULK AT MOST 1048576: true; the input reads as it did. -/
def fnExactRunsOfUptoRow : OpenClaim := { program := "ytakoklldmdbphaa", sum := "7668629090a034adedfe1218b74f3f780e900d2256a01206f817638b44fcffb7", func := "loop.example/g01165/laws.FnExactRunsOf", spec := "fnExactRunsOf", unfollowed := true, recurses := true, apart := false, narrowed := true }
def FnExactRunsOfUptoSaid : Prop := fnExactRunsOfUptoRow.holds Try.pinned (OpenSpec.upto fnExactRunsOfSpec)

/-- 'laws.FnRegions', WHERE WHAT IT READS IS OF BULK AT MOST 1048576: true; the input reads as it did. -/
def fnRegionsUptoRow : OpenClaim := { program := "ytakoklldmdbphaa", sum := "7668629090a034adedfe1218b74f3f780e900d2256a01206f817638b44fcffb7", func := "loop.example/g01165/laws.FnRegions", spec := "fnRegions", unfollowed := true, recurses := true, apart := false, narrowed := true }
def FnRegionsUptoSaid : Prop := fnRegionsUptoRow.holds Try.pinned (OpenSpec.upto fnRegionsSpec)

/-- 'laws.FnExactRegionsOf', WHERE WHAT IT READS IS OF BULK AT MOST 1048576: true; the input reads as it did. -/
def fnExactRegionsOfUptoRow : OpenClaim := { program := "ytakoklldmdbphaa", sum := "7668629090a034adedfe1218b74f3f780e900d2256a01206f817638b44fcffb7", func := "loop.example/g01165/laws.FnExactRegionsOf", spec := "fnExactRegionsOf", unfollowed := true, recurses := true, apart := false, narrowed := true }
def FnExactRegionsOfUptoSaid : Prop := fnExactRegionsOfUptoRow.holds Try.pinned (OpenSpec.upto fnExactRegionsOfSpec)

/-- 'laws.FnExactNearestOf', WHERE WHAT IT READS IS OF BULK AT MOST 1048576: true; the input reads as it did. -/
def fnExactNearestOfUptoRow : OpenClaim := { program := "ytakoklldmdbphaa", sum := "7668629090a034adedfe1218b74f3f780e900d2256a01206f817638b44fcffb7", func := "loop.example/g01165/laws.FnExactNearestOf", spec := "fnExactNearestOf", unfollowed := true, recurses := true, apart := false, narrowed := true }
def FnExactNearestOfUptoSaid : Prop := fnExactNearestOfUptoRow.holds Try.pinned (OpenSpec.upto fnExactNearestOfSpec)

/-- 'laws.FnExactFarthestOf', WHERE WHAT IT READS IS OF BULK AT MOST 1048576: true; the input reads as it did. -/
def fnExactFarthestOfUptoRow : OpenClaim := { program := "ytakoklldmdbphaa", sum := "7668629090a034adedfe1218b74f3f780e900d2256a01206f817638b44fcffb7", func := "loop.example/g01165/laws.FnExactFarthestOf", spec := "fnExactFarthestOf", unfollowed := true, recurses := true, apart := false, narrowed := true }
def FnExactFarthestOfUptoSaid : Prop := fnExactFarthestOfUptoRow.holds Try.pinned (OpenSpec.upto fnExactFarthestOfSpec)

/-- 'laws.FnDistances', WHERE WHAT IT READS IS OF BULK AT MOST 1048576: true; the input reads as it did. -/
def fnDistancesUptoRow : OpenClaim := { program := "ytakoklldmdbphaa", sum := "7668629090a034adedfe1218b74f3f780e900d2256a01206f817638b44fcffb7", func := "loop.example/g01165/laws.FnDistances", spec := "fnDistances", unfollowed := true, recurses := true, apart := false, narrowed := true }
def FnDistancesUptoSaid : Prop := fnDistancesUptoRow.holds Try.pinned (OpenSpec.upto fnDistancesSpec)

/-- 'laws.FnExactApartBy', WHERE WHAT IT READS IS OF BULK AT MOST 1048576: true; the input reads as it did. -/
def fnExactApartByUptoRow : OpenClaim := { program := "ytakoklldmdbphaa", sum := "7668629090a034adedfe1218b74f3f780e900d2256a01206f817638b44fcffb7", func := "loop.example/g01165/laws.FnExactApartBy", spec := "fnExactApartBy", unfollowed := true, recurses := true, apart := false, narrowed := true }
def FnExactApartByUptoSaid : Prop := fnExactApartByUptoRow.holds Try.pinned (OpenSpec.upto fnExactApartBySpec)

/-- 'laws.FnExactPictureOfDiscs', WHERE WHAT IT READS IS OF BULK AT MOST 1048576: true; the input reads as it did. -/
def fnExactPictureOfDiscsUptoRow : OpenClaim := { program := "ytakoklldmdbphaa", sum := "7668629090a034adedfe1218b74f3f780e900d2256a01206f817638b44fcffb7", func := "loop.example/g01165/laws.FnExactPictureOfDiscs", spec := "fnExactPictureOfDiscs", unfollowed := true, recurses := true, apart := false, narrowed := true }
def FnExactPictureOfDiscsUptoSaid : Prop := fnExactPictureOfDiscsUptoRow.holds Try.pinned (OpenSpec.upto fnExactPictureOfDiscsSpec)

end Rows
end Go.Proofs.Ytakoklldmdbphaa
