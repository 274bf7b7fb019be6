/-
  No cell of these rows narrows 'for every input' (looked for: loops, veiled, ifaces, maps, wideKeys, modest, calm, conditions, laid).
  DERIVED. THE GIVEN ROWS OF THIS SEAT. 12 by the template 'for every input the law returns true; each argument reads behind the call as it read before'; 0 by the template 'total and deterministic' (their statements: YteoodnhcghjjeaaTotals.lean).
  GIVEN WITH THE SEED: the statements are not yours to turn. If you find one false, say at which input.
  Laid BY PROGRAM, IN A SANDBOX (cutbox-rows.mjs): the forced cells as the released guide's own fill.sh prints them over the translation 8d25738e8060800c… (all of the seat's roots in one cut). By AI agents, Wed Nov 11 2026. No macro, syntax, notation, axiom, sorry.
-/
import Derived.Test.YteoodnhcghjjeaaChecked
import GoSem.Claim
import GoSem.ClaimJoined
import GoSem.ClaimMapViews
import Derived.JoinedTies
import Derived.KernelRfl
namespace Go.Proofs.Yteoodnhcghjjeaa
/- THE CELL 'sum', in the pinned program and in every row, IS THE sha256 OF THE DUMP (.gsa) THAT YteoodnhcghjjeaaProg.lean LOADS. Nothing in Lean hashes anything: it is a label: what it is worth is what the hold of that sum in a sandbox is worth. -/
noncomputable def Try.pinned : Pinned := { name := "yteoodnhcghjjeaa", sum := "8d25738e8060800c277254a4a2e3a7eb1d4691da3d69cc084fcfb378d92b8080", checked := Try.checked }
namespace Rows
def none {H : Type} : Left H := { results := [], args := [] }

/-- 'laws.FnExactPixelAt': WHATEVER THE INPUT: true; the input reads as it did. -/
def fnExactPixelAtSpec : ChangeSpec := { name := "fnExactPixelAt", fn := fun _ => fun
  | [d1, d2, d3] => { results := [.lit (.bool true)], args := [d1, d2, d3] }
  | _ => none }
def fnExactPixelAtRow : OpenClaim := { program := "yteoodnhcghjjeaa", sum := "8d25738e8060800c277254a4a2e3a7eb1d4691da3d69cc084fcfb378d92b8080", func := "loop.example/g01165/laws.FnExactPixelAt", spec := "fnExactPixelAt", apart := false }
def FnExactPixelAtSaid : Prop := fnExactPixelAtRow.holds Try.pinned (OpenSpec.ofChange fnExactPixelAtSpec)

/-- ITS FALSE NEIGHBOUR: 'it returns false'. Refute it at one input. -/
def fnExactPixelAtWrong : ChangeSpec := { name := "fnExactPixelAt", fn := fun _ => fun
  | [d1, d2, d3] => { results := [.lit (.bool false)], args := [d1, d2, d3] }
  | _ => none }
def FnExactPixelAtWrongFalsely : Prop := fnExactPixelAtRow.holds Try.pinned (OpenSpec.ofChange fnExactPixelAtWrong)

/-- 'laws.FnExactCountBlack': WHATEVER THE INPUT: true; the input reads as it did. -/
def fnExactCountBlackSpec : ChangeSpec := { name := "fnExactCountBlack", fn := fun _ => fun
  | [d] => { results := [.lit (.bool true)], args := [d] }
  | _ => none }
def fnExactCountBlackRow : OpenClaim := { program := "yteoodnhcghjjeaa", sum := "8d25738e8060800c277254a4a2e3a7eb1d4691da3d69cc084fcfb378d92b8080", func := "loop.example/g01165/laws.FnExactCountBlack", spec := "fnExactCountBlack", unfollowed := true, recurses := true, apart := false }
def FnExactCountBlackSaid : Prop := fnExactCountBlackRow.holds Try.pinned (OpenSpec.ofChange fnExactCountBlackSpec)

/-- ITS FALSE NEIGHBOUR: 'it returns false'. Refute it at one input. -/
def fnExactCountBlackWrong : ChangeSpec := { name := "fnExactCountBlack", fn := fun _ => fun
  | [d] => { results := [.lit (.bool false)], args := [d] }
  | _ => none }
def FnExactCountBlackWrongFalsely : Prop := fnExactCountBlackRow.holds Try.pinned (OpenSpec.ofChange fnExactCountBlackWrong)

/-- 'laws.FnExactSpotsOf': WHATEVER THE INPUT: true; the input reads as it did. -/
def fnExactSpotsOfSpec : ChangeSpec := { name := "fnExactSpotsOf", fn := fun _ => fun
  | [d] => { results := [.lit (.bool true)], args := [d] }
  | _ => none }
def fnExactSpotsOfRow : OpenClaim := { program := "yteoodnhcghjjeaa", sum := "8d25738e8060800c277254a4a2e3a7eb1d4691da3d69cc084fcfb378d92b8080", func := "loop.example/g01165/laws.FnExactSpotsOf", spec := "fnExactSpotsOf", unfollowed := true, recurses := true, apart := false }
def FnExactSpotsOfSaid : Prop := fnExactSpotsOfRow.holds Try.pinned (OpenSpec.ofChange fnExactSpotsOfSpec)

/-- ITS FALSE NEIGHBOUR: 'it returns false'. Refute it at one input. -/
def fnExactSpotsOfWrong : ChangeSpec := { name := "fnExactSpotsOf", fn := fun _ => fun
  | [d] => { results := [.lit (.bool false)], args := [d] }
  | _ => none }
def FnExactSpotsOfWrongFalsely : Prop := fnExactSpotsOfRow.holds Try.pinned (OpenSpec.ofChange fnExactSpotsOfWrong)

/-- 'laws.FnExactIsInside': WHATEVER THE INPUT: true; the input reads as it did. -/
def fnExactIsInsideSpec : ChangeSpec := { name := "fnExactIsInside", fn := fun _ => fun
  | [d1, d2] => { results := [.lit (.bool true)], args := [d1, d2] }
  | _ => none }
def fnExactIsInsideRow : OpenClaim := { program := "yteoodnhcghjjeaa", sum := "8d25738e8060800c277254a4a2e3a7eb1d4691da3d69cc084fcfb378d92b8080", func := "loop.example/g01165/laws.FnExactIsInside", spec := "fnExactIsInside", apart := false }
def FnExactIsInsideSaid : Prop := fnExactIsInsideRow.holds Try.pinned (OpenSpec.ofChange fnExactIsInsideSpec)

/-- ITS FALSE NEIGHBOUR: 'it returns false'. Refute it at one input. -/
def fnExactIsInsideWrong : ChangeSpec := { name := "fnExactIsInside", fn := fun _ => fun
  | [d1, d2] => { results := [.lit (.bool false)], args := [d1, d2] }
  | _ => none }
def FnExactIsInsideWrongFalsely : Prop := fnExactIsInsideRow.holds Try.pinned (OpenSpec.ofChange fnExactIsInsideWrong)

/-- 'laws.FnExactSetPixel': WHATEVER THE INPUT: true; the input reads as it did. -/
def fnExactSetPixelSpec : ChangeSpec := { name := "fnExactSetPixel", fn := fun _ => fun
  | [d1, d2, d3, d4] => { results := [.lit (.bool true)], args := [d1, d2, d3, d4] }
  | _ => none }
def fnExactSetPixelRow : OpenClaim := { program := "yteoodnhcghjjeaa", sum := "8d25738e8060800c277254a4a2e3a7eb1d4691da3d69cc084fcfb378d92b8080", func := "loop.example/g01165/laws.FnExactSetPixel", spec := "fnExactSetPixel", unfollowed := true, recurses := true, apart := false }
def FnExactSetPixelSaid : Prop := fnExactSetPixelRow.holds Try.pinned (OpenSpec.ofChange fnExactSetPixelSpec)

/-- ITS FALSE NEIGHBOUR: 'it returns false'. Refute it at one input. -/
def fnExactSetPixelWrong : ChangeSpec := { name := "fnExactSetPixel", fn := fun _ => fun
  | [d1, d2, d3, d4] => { results := [.lit (.bool false)], args := [d1, d2, d3, d4] }
  | _ => none }
def FnExactSetPixelWrongFalsely : Prop := fnExactSetPixelRow.holds Try.pinned (OpenSpec.ofChange fnExactSetPixelWrong)

/-- 'laws.FnExactInvertPicture': WHATEVER THE INPUT: true; the input reads as it did. -/
def fnExactInvertPictureSpec : ChangeSpec := { name := "fnExactInvertPicture", fn := fun _ => fun
  | [d] => { results := [.lit (.bool true)], args := [d] }
  | _ => none }
def fnExactInvertPictureRow : OpenClaim := { program := "yteoodnhcghjjeaa", sum := "8d25738e8060800c277254a4a2e3a7eb1d4691da3d69cc084fcfb378d92b8080", func := "loop.example/g01165/laws.FnExactInvertPicture", spec := "fnExactInvertPicture", unfollowed := true, recurses := true, apart := false }
def FnExactInvertPictureSaid : Prop := fnExactInvertPictureRow.holds Try.pinned (OpenSpec.ofChange fnExactInvertPictureSpec)

/-- ITS FALSE NEIGHBOUR: 'it returns false'. Refute it at one input. -/
def fnExactInvertPictureWrong : ChangeSpec := { name := "fnExactInvertPicture", fn := fun _ => fun
  | [d] => { results := [.lit (.bool false)], args := [d] }
  | _ => none }
def FnExactInvertPictureWrongFalsely : Prop := fnExactInvertPictureRow.holds Try.pinned (OpenSpec.ofChange fnExactInvertPictureWrong)

/-- 'laws.FnExactJoinPictures': WHATEVER THE INPUT: true; the input reads as it did. -/
def fnExactJoinPicturesSpec : ChangeSpec := { name := "fnExactJoinPictures", fn := fun _ => fun
  | [d1, d2, d3] => { results := [.lit (.bool true)], args := [d1, d2, d3] }
  | _ => none }
def fnExactJoinPicturesRow : OpenClaim := { program := "yteoodnhcghjjeaa", sum := "8d25738e8060800c277254a4a2e3a7eb1d4691da3d69cc084fcfb378d92b8080", func := "loop.example/g01165/laws.FnExactJoinPictures", spec := "fnExactJoinPictures", unfollowed := true, recurses := true, apart := false }
def FnExactJoinPicturesSaid : Prop := fnExactJoinPicturesRow.holds Try.pinned (OpenSpec.ofChange fnExactJoinPicturesSpec)

/-- ITS FALSE NEIGHBOUR: 'it returns false'. Refute it at one input. -/
def fnExactJoinPicturesWrong : ChangeSpec := { name := "fnExactJoinPictures", fn := fun _ => fun
  | [d1, d2, d3] => { results := [.lit (.bool false)], args := [d1, d2, d3] }
  | _ => none }
def FnExactJoinPicturesWrongFalsely : Prop := fnExactJoinPicturesRow.holds Try.pinned (OpenSpec.ofChange fnExactJoinPicturesWrong)

/-- 'laws.FnExactShiftPicture': WHATEVER THE INPUT: true; the input reads as it did. -/
def fnExactShiftPictureSpec : ChangeSpec := { name := "fnExactShiftPicture", fn := fun _ => fun
  | [d1, d2, d3] => { results := [.lit (.bool true)], args := [d1, d2, d3] }
  | _ => none }
def fnExactShiftPictureRow : OpenClaim := { program := "yteoodnhcghjjeaa", sum := "8d25738e8060800c277254a4a2e3a7eb1d4691da3d69cc084fcfb378d92b8080", func := "loop.example/g01165/laws.FnExactShiftPicture", spec := "fnExactShiftPicture", unfollowed := true, recurses := true, apart := false }
def FnExactShiftPictureSaid : Prop := fnExactShiftPictureRow.holds Try.pinned (OpenSpec.ofChange fnExactShiftPictureSpec)

/-- ITS FALSE NEIGHBOUR: 'it returns false'. Refute it at one input. -/
def fnExactShiftPictureWrong : ChangeSpec := { name := "fnExactShiftPicture", fn := fun _ => fun
  | [d1, d2, d3] => { results := [.lit (.bool false)], args := [d1, d2, d3] }
  | _ => none }
def FnExactShiftPictureWrongFalsely : Prop := fnExactShiftPictureRow.holds Try.pinned (OpenSpec.ofChange fnExactShiftPictureWrong)

/-- 'laws.FnExactTurnPicture': WHATEVER THE INPUT: true; the input reads as it did. -/
def fnExactTurnPictureSpec : ChangeSpec := { name := "fnExactTurnPicture", fn := fun _ => fun
  | [d1, d2] => { results := [.lit (.bool true)], args := [d1, d2] }
  | _ => none }
def fnExactTurnPictureRow : OpenClaim := { program := "yteoodnhcghjjeaa", sum := "8d25738e8060800c277254a4a2e3a7eb1d4691da3d69cc084fcfb378d92b8080", func := "loop.example/g01165/laws.FnExactTurnPicture", spec := "fnExactTurnPicture", unfollowed := true, recurses := true, apart := false }
def FnExactTurnPictureSaid : Prop := fnExactTurnPictureRow.holds Try.pinned (OpenSpec.ofChange fnExactTurnPictureSpec)

/-- ITS FALSE NEIGHBOUR: 'it returns false'. Refute it at one input. -/
def fnExactTurnPictureWrong : ChangeSpec := { name := "fnExactTurnPicture", fn := fun _ => fun
  | [d1, d2] => { results := [.lit (.bool false)], args := [d1, d2] }
  | _ => none }
def FnExactTurnPictureWrongFalsely : Prop := fnExactTurnPictureRow.holds Try.pinned (OpenSpec.ofChange fnExactTurnPictureWrong)

/-- 'laws.FnExactCropPicture': WHATEVER THE INPUT: true; the input reads as it did. -/
def fnExactCropPictureSpec : ChangeSpec := { name := "fnExactCropPicture", fn := fun _ => fun
  | [d1, d2, d3, d4] => { results := [.lit (.bool true)], args := [d1, d2, d3, d4] }
  | _ => none }
def fnExactCropPictureRow : OpenClaim := { program := "yteoodnhcghjjeaa", sum := "8d25738e8060800c277254a4a2e3a7eb1d4691da3d69cc084fcfb378d92b8080", func := "loop.example/g01165/laws.FnExactCropPicture", spec := "fnExactCropPicture", unfollowed := true, recurses := true, apart := false }
def FnExactCropPictureSaid : Prop := fnExactCropPictureRow.holds Try.pinned (OpenSpec.ofChange fnExactCropPictureSpec)

/-- ITS FALSE NEIGHBOUR: 'it returns false'. Refute it at one input. -/
def fnExactCropPictureWrong : ChangeSpec := { name := "fnExactCropPicture", fn := fun _ => fun
  | [d1, d2, d3, d4] => { results := [.lit (.bool false)], args := [d1, d2, d3, d4] }
  | _ => none }
def FnExactCropPictureWrongFalsely : Prop := fnExactCropPictureRow.holds Try.pinned (OpenSpec.ofChange fnExactCropPictureWrong)

/-- 'laws.FnExactPictureFrom': WHATEVER THE INPUT: true; the input reads as it did. -/
def fnExactPictureFromSpec : ChangeSpec := { name := "fnExactPictureFrom", fn := fun _ => fun
  | [d1, d2, d3] => { results := [.lit (.bool true)], args := [d1, d2, d3] }
  | _ => none }
def fnExactPictureFromRow : OpenClaim := { program := "yteoodnhcghjjeaa", sum := "8d25738e8060800c277254a4a2e3a7eb1d4691da3d69cc084fcfb378d92b8080", func := "loop.example/g01165/laws.FnExactPictureFrom", spec := "fnExactPictureFrom", apart := false }
def FnExactPictureFromSaid : Prop := fnExactPictureFromRow.holds Try.pinned (OpenSpec.ofChange fnExactPictureFromSpec)

/-- ITS FALSE NEIGHBOUR: 'it returns false'. Refute it at one input. -/
def fnExactPictureFromWrong : ChangeSpec := { name := "fnExactPictureFrom", fn := fun _ => fun
  | [d1, d2, d3] => { results := [.lit (.bool false)], args := [d1, d2, d3] }
  | _ => none }
def FnExactPictureFromWrongFalsely : Prop := fnExactPictureFromRow.holds Try.pinned (OpenSpec.ofChange fnExactPictureFromWrong)

/-- 'laws.FnJoins': WHATEVER THE INPUT: true; the input reads as it did. -/
def fnJoinsSpec : ChangeSpec := { name := "fnJoins", fn := fun _ => fun
  | [d1, d2] => { results := [.lit (.bool true)], args := [d1, d2] }
  | _ => none }
def fnJoinsRow : OpenClaim := { program := "yteoodnhcghjjeaa", sum := "8d25738e8060800c277254a4a2e3a7eb1d4691da3d69cc084fcfb378d92b8080", func := "loop.example/g01165/laws.FnJoins", spec := "fnJoins", unfollowed := true, recurses := true, apart := false }
def FnJoinsSaid : Prop := fnJoinsRow.holds Try.pinned (OpenSpec.ofChange fnJoinsSpec)

/-- ITS FALSE NEIGHBOUR: 'it returns false'. Refute it at one input. -/
def fnJoinsWrong : ChangeSpec := { name := "fnJoins", fn := fun _ => fun
  | [d1, d2] => { results := [.lit (.bool false)], args := [d1, d2] }
  | _ => none }
def FnJoinsWrongFalsely : Prop := fnJoinsRow.holds Try.pinned (OpenSpec.ofChange fnJoinsWrong)

/- THE SECOND FORM. 'bulk': how many values and letters a reading holds, each counted each time it is reached (what is shared counts as often as it is met; a slice's spare places count too). A statement '..UptoSaid' is the law's where the arguments, and the package variables that the reading takes, are together of bulk at most 1048576: NARROWER than '..Said'. Prove '..Said' where nothing that the law and all that it calls make is longer than what came in: it says more and counts as full. Else prove '..UptoSaid'. A law counts once. -/
mutual
def uptoBulk {H : Type} : DataW H → Nat
  | .lit (.string bytes) => bytes.length + 1
  | .lit _ => 1
  | .nil => 1
  | .ptr d => uptoBulk d + 1
  | .slice elems spare => uptoBulkAll elems + uptoBulkAll spare + 1
  | .agg parts => uptoBulkAll parts + 1
  | .iface _ d => uptoBulk d + 1
  | .map entries => uptoBulkEntries entries + 1
  | .held _ => 1
def uptoBulkAll {H : Type} : List (DataW H) → Nat
  | [] => 0
  | d :: r => uptoBulk d + uptoBulkAll r
def uptoBulkEntries {H : Type} : List (Lit × DataW H) → Nat
  | [] => 0
  | x :: r => uptoBulkEntry x + uptoBulkEntries r
def uptoBulkEntry {H : Type} : Lit × DataW H → Nat
  | (.string bytes, d) => bytes.length + uptoBulk d + 1
  | (_, d) => uptoBulk d + 1
 end
def uptoSmall : (H : Type) → List (DataW H) → Bool := fun _ ds => decide (uptoBulkAll ds ≤ 1048576)
def OpenSpec.upto (s : _root_.Go.ChangeSpec) : _root_.Go.OpenSpec := { _root_.Go.OpenSpec.ofChange s with cond := some uptoSmall }

/-- 'laws.FnExactPixelAt', WHERE WHAT IT READS IS OF BULK AT MOST 1048576: true; the input reads as it did. -/
def fnExactPixelAtUptoRow : OpenClaim := { program := "yteoodnhcghjjeaa", sum := "8d25738e8060800c277254a4a2e3a7eb1d4691da3d69cc084fcfb378d92b8080", func := "loop.example/g01165/laws.FnExactPixelAt", spec := "fnExactPixelAt", apart := false, narrowed := true }
def FnExactPixelAtUptoSaid : Prop := fnExactPixelAtUptoRow.holds Try.pinned (OpenSpec.upto fnExactPixelAtSpec)

/-- 'laws.FnExactCountBlack', WHERE WHAT IT READS IS OF BULK AT MOST 1048576: true; the input reads as it did. -/
def fnExactCountBlackUptoRow : OpenClaim := { program := "yteoodnhcghjjeaa", sum := "8d25738e8060800c277254a4a2e3a7eb1d4691da3d69cc084fcfb378d92b8080", func := "loop.example/g01165/laws.FnExactCountBlack", spec := "fnExactCountBlack", unfollowed := true, recurses := true, apart := false, narrowed := true }
def FnExactCountBlackUptoSaid : Prop := fnExactCountBlackUptoRow.holds Try.pinned (OpenSpec.upto fnExactCountBlackSpec)

/-- 'laws.FnExactSpotsOf', WHERE WHAT IT READS IS OF BULK AT MOST 1048576: true; the input reads as it did. -/
def fnExactSpotsOfUptoRow : OpenClaim := { program := "yteoodnhcghjjeaa", sum := "8d25738e8060800c277254a4a2e3a7eb1d4691da3d69cc084fcfb378d92b8080", func := "loop.example/g01165/laws.FnExactSpotsOf", spec := "fnExactSpotsOf", unfollowed := true, recurses := true, apart := false, narrowed := true }
def FnExactSpotsOfUptoSaid : Prop := fnExactSpotsOfUptoRow.holds Try.pinned (OpenSpec.upto fnExactSpotsOfSpec)

/-- 'laws.FnExactIsInside', WHERE WHAT IT READS IS OF BULK AT MOST 1048576: true; the input reads as it did. -/
def fnExactIsInsideUptoRow : OpenClaim := { program := "yteoodnhcghjjeaa", sum := "8d25738e8060800c277254a4a2e3a7eb1d4691da3d69cc084fcfb378d92b8080", func := "loop.example/g01165/laws.FnExactIsInside", spec := "fnExactIsInside", apart := false, narrowed := true }
def FnExactIsInsideUptoSaid : Prop := fnExactIsInsideUptoRow.holds Try.pinned (OpenSpec.upto fnExactIsInsideSpec)

/-- 'laws.FnExactSetPixel', WHERE WHAT IT READS IS OF BULK AT MOST 1048576: true; the input reads as it did. -/
def fnExactSetPixelUptoRow : OpenClaim := { program := "yteoodnhcghjjeaa", sum := "8d25738e8060800c277254a4a2e3a7eb1d4691da3d69cc084fcfb378d92b8080", func := "loop.example/g01165/laws.FnExactSetPixel", spec := "fnExactSetPixel", unfollowed := true, recurses := true, apart := false, narrowed := true }
def FnExactSetPixelUptoSaid : Prop := fnExactSetPixelUptoRow.holds Try.pinned (OpenSpec.upto fnExactSetPixelSpec)

/-- 'laws.FnExactInvertPicture', WHERE WHAT IT READS IS OF BULK AT MOST 1048576: true; the input reads as it did. -/
def fnExactInvertPictureUptoRow : OpenClaim := { program := "yteoodnhcghjjeaa", sum := "8d25738e8060800c277254a4a2e3a7eb1d4691da3d69cc084fcfb378d92b8080", func := "loop.example/g01165/laws.FnExactInvertPicture", spec := "fnExactInvertPicture", unfollowed := true, recurses := true, apart := false, narrowed := true }
def FnExactInvertPictureUptoSaid : Prop := fnExactInvertPictureUptoRow.holds Try.pinned (OpenSpec.upto fnExactInvertPictureSpec)

/-- 'laws.FnExactJoinPictures', WHERE WHAT IT READS IS OF BULK AT MOST 1048576: true; the input reads as it did. -/
def fnExactJoinPicturesUptoRow : OpenClaim := { program := "yteoodnhcghjjeaa", sum := "8d25738e8060800c277254a4a2e3a7eb1d4691da3d69cc084fcfb378d92b8080", func := "loop.example/g01165/laws.FnExactJoinPictures", spec := "fnExactJoinPictures", unfollowed := true, recurses := true, apart := false, narrowed := true }
def FnExactJoinPicturesUptoSaid : Prop := fnExactJoinPicturesUptoRow.holds Try.pinned (OpenSpec.upto fnExactJoinPicturesSpec)

/-- 'laws.FnExactShiftPicture', WHERE WHAT IT READS IS OF BULK AT MOST 1048576: true; the input reads as it did. -/
def fnExactShiftPictureUptoRow : OpenClaim := { program := "yteoodnhcghjjeaa", sum := "8d25738e8060800c277254a4a2e3a7eb1d4691da3d69cc084fcfb378d92b8080", func := "loop.example/g01165/laws.FnExactShiftPicture", spec := "fnExactShiftPicture", unfollowed := true, recurses := true, apart := false, narrowed := true }
def FnExactShiftPictureUptoSaid : Prop := fnExactShiftPictureUptoRow.holds Try.pinned (OpenSpec.upto fnExactShiftPictureSpec)

/-- 'laws.FnExactTurnPicture', WHERE WHAT IT READS IS OF BULK AT MOST 1048576: true; the input reads as it did. -/
def fnExactTurnPictureUptoRow : OpenClaim := { program := "yteoodnhcghjjeaa", sum := "8d25738e8060800c277254a4a2e3a7eb1d4691da3d69cc084fcfb378d92b8080", func := "loop.example/g01165/laws.FnExactTurnPicture", spec := "fnExactTurnPicture", unfollowed := true, recurses := true, apart := false, narrowed := true }
def FnExactTurnPictureUptoSaid : Prop := fnExactTurnPictureUptoRow.holds Try.pinned (OpenSpec.upto fnExactTurnPictureSpec)

/-- 'laws.FnExactCropPicture', WHERE WHAT IT READS IS OF BULK AT MOST 1048576: true; the input reads as it did. -/
def fnExactCropPictureUptoRow : OpenClaim := { program := "yteoodnhcghjjeaa", sum := "8d25738e8060800c277254a4a2e3a7eb1d4691da3d69cc084fcfb378d92b8080", func := "loop.example/g01165/laws.FnExactCropPicture", spec := "fnExactCropPicture", unfollowed := true, recurses := true, apart := false, narrowed := true }
def FnExactCropPictureUptoSaid : Prop := fnExactCropPictureUptoRow.holds Try.pinned (OpenSpec.upto fnExactCropPictureSpec)

/-- 'laws.FnExactPictureFrom', WHERE WHAT IT READS IS OF BULK AT MOST 1048576: true; the input reads as it did. -/
def fnExactPictureFromUptoRow : OpenClaim := { program := "yteoodnhcghjjeaa", sum := "8d25738e8060800c277254a4a2e3a7eb1d4691da3d69cc084fcfb378d92b8080", func := "loop.example/g01165/laws.FnExactPictureFrom", spec := "fnExactPictureFrom", apart := false, narrowed := true }
def FnExactPictureFromUptoSaid : Prop := fnExactPictureFromUptoRow.holds Try.pinned (OpenSpec.upto fnExactPictureFromSpec)

/-- 'laws.FnJoins', WHERE WHAT IT READS IS OF BULK AT MOST 1048576: true; the input reads as it did. -/
def fnJoinsUptoRow : OpenClaim := { program := "yteoodnhcghjjeaa", sum := "8d25738e8060800c277254a4a2e3a7eb1d4691da3d69cc084fcfb378d92b8080", func := "loop.example/g01165/laws.FnJoins", spec := "fnJoins", unfollowed := true, recurses := true, apart := false, narrowed := true }
def FnJoinsUptoSaid : Prop := fnJoinsUptoRow.holds Try.pinned (OpenSpec.upto fnJoinsSpec)

end Rows
end Go.Proofs.Yteoodnhcghjjeaa
