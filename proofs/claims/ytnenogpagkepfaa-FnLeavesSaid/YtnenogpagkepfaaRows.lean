/-
  No cell of these rows narrows 'for every input' (looked for: loops, veiled, ifaces, maps, wideKeys, modest, calm, conditions, laid).
  DERIVED. THE GIVEN ROWS OF THIS SEAT. 11 by the template 'for every input the law returns true; each argument reads behind the call as it read before'; 0 by the template 'total and deterministic' (their statements: YtnenogpagkepfaaTotals.lean).
  GIVEN WITH THE SEED: the statements are not yours to turn. If you find one false, say at which input.
  Laid BY PROGRAM, IN A SANDBOX (cutbox-rows.mjs): the forced cells as the released guide's own fill.sh prints them over the translation 7b24b93114ba6880… (all of the seat's roots in one cut). By AI agents, Wed Nov 11 2026. No macro, syntax, notation, axiom, sorry.
-/
import Derived.Test.YtnenogpagkepfaaChecked
import GoSem.Claim
import GoSem.ClaimJoined
import GoSem.ClaimMapViews
import Derived.JoinedTies
import Derived.KernelRfl
namespace Go.Proofs.Ytnenogpagkepfaa
/- THE CELL 'sum', in the pinned program and in every row, IS THE sha256 OF THE DUMP (.gsa) THAT YtnenogpagkepfaaProg.lean LOADS. Nothing in Lean hashes anything: it is a label: what it is worth is what the hold of that sum in a sandbox is worth. -/
noncomputable def Try.pinned : Pinned := { name := "ytnenogpagkepfaa", sum := "7b24b93114ba68808e4d29ff1f2193f51fca109c8560381771d856f7762f6cb6", checked := Try.checked }
namespace Rows
def none {H : Type} : Left H := { results := [], args := [] }

/-- 'laws.FnExactValidTree': WHATEVER THE INPUT: true; the input reads as it did. -/
def fnExactValidTreeSpec : ChangeSpec := { name := "fnExactValidTree", fn := fun _ => fun
  | [d] => { results := [.lit (.bool true)], args := [d] }
  | _ => none }
def fnExactValidTreeRow : OpenClaim := { program := "ytnenogpagkepfaa", sum := "7b24b93114ba68808e4d29ff1f2193f51fca109c8560381771d856f7762f6cb6", func := "loop.example/g01165/laws.FnExactValidTree", spec := "fnExactValidTree", recurses := true, apart := false }
def FnExactValidTreeSaid : Prop := fnExactValidTreeRow.holds Try.pinned (OpenSpec.ofChange fnExactValidTreeSpec)

/-- ITS FALSE NEIGHBOUR: 'it returns false'. Refute it at one input. -/
def fnExactValidTreeWrong : ChangeSpec := { name := "fnExactValidTree", fn := fun _ => fun
  | [d] => { results := [.lit (.bool false)], args := [d] }
  | _ => none }
def FnExactValidTreeWrongFalsely : Prop := fnExactValidTreeRow.holds Try.pinned (OpenSpec.ofChange fnExactValidTreeWrong)

/-- 'laws.FnExactAddressOf': WHATEVER THE INPUT: true; the input reads as it did. -/
def fnExactAddressOfSpec : ChangeSpec := { name := "fnExactAddressOf", fn := fun _ => fun
  | [d1, d2] => { results := [.lit (.bool true)], args := [d1, d2] }
  | _ => none }
def fnExactAddressOfRow : OpenClaim := { program := "ytnenogpagkepfaa", sum := "7b24b93114ba68808e4d29ff1f2193f51fca109c8560381771d856f7762f6cb6", func := "loop.example/g01165/laws.FnExactAddressOf", spec := "fnExactAddressOf", recurses := true, apart := false }
def FnExactAddressOfSaid : Prop := fnExactAddressOfRow.holds Try.pinned (OpenSpec.ofChange fnExactAddressOfSpec)

/-- ITS FALSE NEIGHBOUR: 'it returns false'. Refute it at one input. -/
def fnExactAddressOfWrong : ChangeSpec := { name := "fnExactAddressOf", fn := fun _ => fun
  | [d1, d2] => { results := [.lit (.bool false)], args := [d1, d2] }
  | _ => none }
def FnExactAddressOfWrongFalsely : Prop := fnExactAddressOfRow.holds Try.pinned (OpenSpec.ofChange fnExactAddressOfWrong)

/-- 'laws.FnExactTreeOf': WHATEVER THE INPUT: true; the input reads as it did. -/
def fnExactTreeOfSpec : ChangeSpec := { name := "fnExactTreeOf", fn := fun _ => fun
  | [d] => { results := [.lit (.bool true)], args := [d] }
  | _ => none }
def fnExactTreeOfRow : OpenClaim := { program := "ytnenogpagkepfaa", sum := "7b24b93114ba68808e4d29ff1f2193f51fca109c8560381771d856f7762f6cb6", func := "loop.example/g01165/laws.FnExactTreeOf", spec := "fnExactTreeOf", recurses := true, apart := false }
def FnExactTreeOfSaid : Prop := fnExactTreeOfRow.holds Try.pinned (OpenSpec.ofChange fnExactTreeOfSpec)

/-- ITS FALSE NEIGHBOUR: 'it returns false'. Refute it at one input. -/
def fnExactTreeOfWrong : ChangeSpec := { name := "fnExactTreeOf", fn := fun _ => fun
  | [d] => { results := [.lit (.bool false)], args := [d] }
  | _ => none }
def FnExactTreeOfWrongFalsely : Prop := fnExactTreeOfRow.holds Try.pinned (OpenSpec.ofChange fnExactTreeOfWrong)

/-- 'laws.FnExactLeafAt': WHATEVER THE INPUT: true; the input reads as it did. -/
def fnExactLeafAtSpec : ChangeSpec := { name := "fnExactLeafAt", fn := fun _ => fun
  | [d1, d2, d3] => { results := [.lit (.bool true)], args := [d1, d2, d3] }
  | _ => none }
def fnExactLeafAtRow : OpenClaim := { program := "ytnenogpagkepfaa", sum := "7b24b93114ba68808e4d29ff1f2193f51fca109c8560381771d856f7762f6cb6", func := "loop.example/g01165/laws.FnExactLeafAt", spec := "fnExactLeafAt", unfollowed := true, recurses := true, apart := false }
def FnExactLeafAtSaid : Prop := fnExactLeafAtRow.holds Try.pinned (OpenSpec.ofChange fnExactLeafAtSpec)

/-- ITS FALSE NEIGHBOUR: 'it returns false'. Refute it at one input. -/
def fnExactLeafAtWrong : ChangeSpec := { name := "fnExactLeafAt", fn := fun _ => fun
  | [d1, d2, d3] => { results := [.lit (.bool false)], args := [d1, d2, d3] }
  | _ => none }
def FnExactLeafAtWrongFalsely : Prop := fnExactLeafAtRow.holds Try.pinned (OpenSpec.ofChange fnExactLeafAtWrong)

/-- 'laws.FnExactBlackArea': WHATEVER THE INPUT: true; the input reads as it did. -/
def fnExactBlackAreaSpec : ChangeSpec := { name := "fnExactBlackArea", fn := fun _ => fun
  | [d] => { results := [.lit (.bool true)], args := [d] }
  | _ => none }
def fnExactBlackAreaRow : OpenClaim := { program := "ytnenogpagkepfaa", sum := "7b24b93114ba68808e4d29ff1f2193f51fca109c8560381771d856f7762f6cb6", func := "loop.example/g01165/laws.FnExactBlackArea", spec := "fnExactBlackArea", unfollowed := true, recurses := true, apart := false }
def FnExactBlackAreaSaid : Prop := fnExactBlackAreaRow.holds Try.pinned (OpenSpec.ofChange fnExactBlackAreaSpec)

/-- ITS FALSE NEIGHBOUR: 'it returns false'. Refute it at one input. -/
def fnExactBlackAreaWrong : ChangeSpec := { name := "fnExactBlackArea", fn := fun _ => fun
  | [d] => { results := [.lit (.bool false)], args := [d] }
  | _ => none }
def FnExactBlackAreaWrongFalsely : Prop := fnExactBlackAreaRow.holds Try.pinned (OpenSpec.ofChange fnExactBlackAreaWrong)

/-- 'laws.FnExactTouchingLeaves': WHATEVER THE INPUT: true; the input reads as it did. -/
def fnExactTouchingLeavesSpec : ChangeSpec := { name := "fnExactTouchingLeaves", fn := fun _ => fun
  | [d1, d2] => { results := [.lit (.bool true)], args := [d1, d2] }
  | _ => none }
def fnExactTouchingLeavesRow : OpenClaim := { program := "ytnenogpagkepfaa", sum := "7b24b93114ba68808e4d29ff1f2193f51fca109c8560381771d856f7762f6cb6", func := "loop.example/g01165/laws.FnExactTouchingLeaves", spec := "fnExactTouchingLeaves", recurses := true, apart := false }
def FnExactTouchingLeavesSaid : Prop := fnExactTouchingLeavesRow.holds Try.pinned (OpenSpec.ofChange fnExactTouchingLeavesSpec)

/-- ITS FALSE NEIGHBOUR: 'it returns false'. Refute it at one input. -/
def fnExactTouchingLeavesWrong : ChangeSpec := { name := "fnExactTouchingLeaves", fn := fun _ => fun
  | [d1, d2] => { results := [.lit (.bool false)], args := [d1, d2] }
  | _ => none }
def FnExactTouchingLeavesWrongFalsely : Prop := fnExactTouchingLeavesRow.holds Try.pinned (OpenSpec.ofChange fnExactTouchingLeavesWrong)

/-- 'laws.FnExactBestShift': WHATEVER THE INPUT: true; the input reads as it did. -/
def fnExactBestShiftSpec : ChangeSpec := { name := "fnExactBestShift", fn := fun _ => fun
  | [d1, d2] => { results := [.lit (.bool true)], args := [d1, d2] }
  | _ => none }
def fnExactBestShiftRow : OpenClaim := { program := "ytnenogpagkepfaa", sum := "7b24b93114ba68808e4d29ff1f2193f51fca109c8560381771d856f7762f6cb6", func := "loop.example/g01165/laws.FnExactBestShift", spec := "fnExactBestShift", unfollowed := true, recurses := true, apart := false }
def FnExactBestShiftSaid : Prop := fnExactBestShiftRow.holds Try.pinned (OpenSpec.ofChange fnExactBestShiftSpec)

/-- ITS FALSE NEIGHBOUR: 'it returns false'. Refute it at one input. -/
def fnExactBestShiftWrong : ChangeSpec := { name := "fnExactBestShift", fn := fun _ => fun
  | [d1, d2] => { results := [.lit (.bool false)], args := [d1, d2] }
  | _ => none }
def FnExactBestShiftWrongFalsely : Prop := fnExactBestShiftRow.holds Try.pinned (OpenSpec.ofChange fnExactBestShiftWrong)

/-- 'laws.FnLeaves': WHATEVER THE INPUT: true; the input reads as it did. -/
def fnLeavesSpec : ChangeSpec := { name := "fnLeaves", fn := fun _ => fun
  | [d1, d2] => { results := [.lit (.bool true)], args := [d1, d2] }
  | _ => none }
def fnLeavesRow : OpenClaim := { program := "ytnenogpagkepfaa", sum := "7b24b93114ba68808e4d29ff1f2193f51fca109c8560381771d856f7762f6cb6", func := "loop.example/g01165/laws.FnLeaves", spec := "fnLeaves", unfollowed := true, recurses := true, apart := false }
def FnLeavesSaid : Prop := fnLeavesRow.holds Try.pinned (OpenSpec.ofChange fnLeavesSpec)

/-- ITS FALSE NEIGHBOUR: 'it returns false'. Refute it at one input. -/
def fnLeavesWrong : ChangeSpec := { name := "fnLeaves", fn := fun _ => fun
  | [d1, d2] => { results := [.lit (.bool false)], args := [d1, d2] }
  | _ => none }
def FnLeavesWrongFalsely : Prop := fnLeavesRow.holds Try.pinned (OpenSpec.ofChange fnLeavesWrong)

/-- 'laws.FnExactLeavesOf': WHATEVER THE INPUT: true; the input reads as it did. -/
def fnExactLeavesOfSpec : ChangeSpec := { name := "fnExactLeavesOf", fn := fun _ => fun
  | [d] => { results := [.lit (.bool true)], args := [d] }
  | _ => none }
def fnExactLeavesOfRow : OpenClaim := { program := "ytnenogpagkepfaa", sum := "7b24b93114ba68808e4d29ff1f2193f51fca109c8560381771d856f7762f6cb6", func := "loop.example/g01165/laws.FnExactLeavesOf", spec := "fnExactLeavesOf", recurses := true, apart := false }
def FnExactLeavesOfSaid : Prop := fnExactLeavesOfRow.holds Try.pinned (OpenSpec.ofChange fnExactLeavesOfSpec)

/-- ITS FALSE NEIGHBOUR: 'it returns false'. Refute it at one input. -/
def fnExactLeavesOfWrong : ChangeSpec := { name := "fnExactLeavesOf", fn := fun _ => fun
  | [d] => { results := [.lit (.bool false)], args := [d] }
  | _ => none }
def FnExactLeavesOfWrongFalsely : Prop := fnExactLeavesOfRow.holds Try.pinned (OpenSpec.ofChange fnExactLeavesOfWrong)

/-- 'laws.FnExactInvertTree': WHATEVER THE INPUT: true; the input reads as it did. -/
def fnExactInvertTreeSpec : ChangeSpec := { name := "fnExactInvertTree", fn := fun _ => fun
  | [d] => { results := [.lit (.bool true)], args := [d] }
  | _ => none }
def fnExactInvertTreeRow : OpenClaim := { program := "ytnenogpagkepfaa", sum := "7b24b93114ba68808e4d29ff1f2193f51fca109c8560381771d856f7762f6cb6", func := "loop.example/g01165/laws.FnExactInvertTree", spec := "fnExactInvertTree", unfollowed := true, recurses := true, apart := false }
def FnExactInvertTreeSaid : Prop := fnExactInvertTreeRow.holds Try.pinned (OpenSpec.ofChange fnExactInvertTreeSpec)

/-- ITS FALSE NEIGHBOUR: 'it returns false'. Refute it at one input. -/
def fnExactInvertTreeWrong : ChangeSpec := { name := "fnExactInvertTree", fn := fun _ => fun
  | [d] => { results := [.lit (.bool false)], args := [d] }
  | _ => none }
def FnExactInvertTreeWrongFalsely : Prop := fnExactInvertTreeRow.holds Try.pinned (OpenSpec.ofChange fnExactInvertTreeWrong)

/-- 'laws.FnExactPictureOf': WHATEVER THE INPUT: true; the input reads as it did. -/
def fnExactPictureOfSpec : ChangeSpec := { name := "fnExactPictureOf", fn := fun _ => fun
  | [d] => { results := [.lit (.bool true)], args := [d] }
  | _ => none }
def fnExactPictureOfRow : OpenClaim := { program := "ytnenogpagkepfaa", sum := "7b24b93114ba68808e4d29ff1f2193f51fca109c8560381771d856f7762f6cb6", func := "loop.example/g01165/laws.FnExactPictureOf", spec := "fnExactPictureOf", recurses := true, apart := false }
def FnExactPictureOfSaid : Prop := fnExactPictureOfRow.holds Try.pinned (OpenSpec.ofChange fnExactPictureOfSpec)

/-- ITS FALSE NEIGHBOUR: 'it returns false'. Refute it at one input. -/
def fnExactPictureOfWrong : ChangeSpec := { name := "fnExactPictureOf", fn := fun _ => fun
  | [d] => { results := [.lit (.bool false)], args := [d] }
  | _ => none }
def FnExactPictureOfWrongFalsely : Prop := fnExactPictureOfRow.holds Try.pinned (OpenSpec.ofChange fnExactPictureOfWrong)

/- THE SECOND FORM. 'bulk': how many values and letters a reading holds, each counted each time it is reached (what is shared counts as often as it is met; a slice's spare places count too). A statement '..UptoSaid' is the law's where the arguments, and the package variables that the reading takes, are together of bulk at most 1048576: NARROWER than '..Said'. Prove '..Said' where nothing that the law and all that it calls make is longer than what came in: it says more and counts as full. Else prove '..UptoSaid'. A law counts once. -/
mutual
def uptoBulk {H : Type} : DataW H → Nat
  | .lit (.string bytes) => bytes.length + 1
  | .lit _ => 1
  | .nil => 1
  | .ptr d => uptoBulk d + 1
  | .slice elems spare => uptoBulkAll elems + uptoBulkAll spare + 1
  | .agg parts => uptoBulkAll parts + 1
  | .iface _ d => uptoBulk d + 1
  | .map entries => uptoBulkEntries entries + 1
  | .held _ => 1
def uptoBulkAll {H : Type} : List (DataW H) → Nat
  | [] => 0
  | d :: r => uptoBulk d + uptoBulkAll r
def uptoBulkEntries {H : Type} : List (Lit × DataW H) → Nat
  | [] => 0
  | x :: r => uptoBulkEntry x + uptoBulkEntries r
def uptoBulkEntry {H : Type} : Lit × DataW H → Nat
  | (.string bytes, d) => bytes.length + uptoBulk d + 1
  | (_, d) => uptoBulk d + 1
 end
def uptoSmall : (H : Type) → List (DataW H) → Bool := fun _ ds => decide (uptoBulkAll ds ≤ 1048576)
def OpenSpec.upto (s : _root_.Go.ChangeSpec) : _root_.Go.OpenSpec := { _root_.Go.OpenSpec.ofChange s with cond := some uptoSmall }

/-- 'laws.FnExactValidTree', WHERE WHAT IT READS IS OF BULK AT MOST 1048576: true; the input reads as it did. -/
def fnExactValidTreeUptoRow : OpenClaim := { program := "ytnenogpagkepfaa", sum := "7b24b93114ba68808e4d29ff1f2193f51fca109c8560381771d856f7762f6cb6", func := "loop.example/g01165/laws.FnExactValidTree", spec := "fnExactValidTree", recurses := true, apart := false, narrowed := true }
def FnExactValidTreeUptoSaid : Prop := fnExactValidTreeUptoRow.holds Try.pinned (OpenSpec.upto fnExactValidTreeSpec)

/-- 'laws.FnExactAddressOf', WHERE WHAT IT READS IS OF BULK AT MOST 1048576: true; the input reads as it did. -/
def fnExactAddressOfUptoRow : OpenClaim := { program := "ytnenogpagkepfaa", sum := "7b24b93114ba68808e4d29ff1f2193f51fca109c8560381771d856f7762f6cb6", func := "loop.example/g01165/laws.FnExactAddressOf", spec := "fnExactAddressOf", recurses := true, apart := false, narrowed := true }
def FnExactAddressOfUptoSaid : Prop := fnExactAddressOfUptoRow.holds Try.pinned (OpenSpec.upto fnExactAddressOfSpec)

/-- 'laws.FnExactTreeOf', WHERE WHAT IT READS IS OF BULK AT MOST 1048576: true; the input reads as it did. -/
def fnExactTreeOfUptoRow : OpenClaim := { program := "ytnenogpagkepfaa", sum := "7b24b93114ba68808e4d29ff1f2193f51fca109c8560381771d856f7762f6cb6", func := "loop.example/g01165/laws.FnExactTreeOf", spec := "fnExactTreeOf", recurses := true, apart := false, narrowed := true }
def FnExactTreeOfUptoSaid : Prop := fnExactTreeOfUptoRow.holds Try.pinned (OpenSpec.upto fnExactTreeOfSpec)

/-- 'laws.FnExactLeafAt', WHERE WHAT IT READS IS OF BULK AT MOST 1048576: true; the input reads as it did. -/
def fnExactLeafAtUptoRow : OpenClaim := { program := "ytnenogpagkepfaa", sum := "7b24b93114ba68808e4d29ff1f2193f51fca109c8560381771d856f7762f6cb6", func := "loop.example/g01165/laws.FnExactLeafAt", spec := "fnExactLeafAt", unfollowed := true, recurses := true, apart := false, narrowed := true }
def FnExactLeafAtUptoSaid : Prop := fnExactLeafAtUptoRow.holds Try.pinned (OpenSpec.upto fnExactLeafAtSpec)

/-- 'laws.FnExactBlackArea', WHERE WHAT IT READS IS OF BULK AT MOST 1048576: true; the input reads as it did. -/
def fnExactBlackAreaUptoRow : OpenClaim := { program := "ytnenogpagkepfaa", sum := "7b24b93114ba68808e4d29ff1f2193f51fca109c8560381771d856f7762f6cb6", func := "loop.example/g01165/laws.FnExactBlackArea", spec := "fnExactBlackArea", unfollowed := true, recurses := true, apart := false, narrowed := true }
def FnExactBlackAreaUptoSaid : Prop := fnExactBlackAreaUptoRow.holds Try.pinned (OpenSpec.upto fnExactBlackAreaSpec)

/-- 'laws.FnExactTouchingLeaves', WHERE WHAT IT READS IS OF BULK AT MOST 1048576: true; the input reads as it did. -/
def fnExactTouchingLeavesUptoRow : OpenClaim := { program := "ytnenogpagkepfaa", sum := "7b24b93114ba68808e4d29ff1f2193f51fca109c8560381771d856f7762f6cb6", func := "loop.example/g01165/laws.FnExactTouchingLeaves", spec := "fnExactTouchingLeaves", recurses := true, apart := false, narrowed := true }
def FnExactTouchingLeavesUptoSaid : Prop := fnExactTouchingLeavesUptoRow.holds Try.pinned (OpenSpec.upto fnExactTouchingLeavesSpec)

/-- 'laws.FnExactBestShift', WHERE WHAT IT READS IS OF BULK AT MOST 1048576: true; the input reads as it did. -/
def fnExactBestShiftUptoRow : OpenClaim := { program := "ytnenogpagkepfaa", sum := "7b24b93114ba68808e4d29ff1f2193f51fca109c8560381771d856f7762f6cb6", func := "loop.example/g01165/laws.FnExactBestShift", spec := "fnExactBestShift", unfollowed := true, recurses := true, apart := false, narrowed := true }
def FnExactBestShiftUptoSaid : Prop := fnExactBestShiftUptoRow.holds Try.pinned (OpenSpec.upto fnExactBestShiftSpec)

/-- 'laws.FnLeaves', WHERE WHAT IT READS IS OF BULK AT MOST 1048576: true; the input reads as it did. -/
def fnLeavesUptoRow : OpenClaim := { program := "ytnenogpagkepfaa", sum := "7b24b93114ba68808e4d29ff1f2193f51fca109c8560381771d856f7762f6cb6", func := "loop.example/g01165/laws.FnLeaves", spec := "fnLeaves", unfollowed := true, recurses := true, apart := false, narrowed := true }
def FnLeavesUptoSaid : Prop := fnLeavesUptoRow.holds Try.pinned (OpenSpec.upto fnLeavesSpec)

/-- 'laws.FnExactLeavesOf', WHERE WHAT IT READS IS OF BULK AT MOST 1048576: true; the input reads as it did. -/
def fnExactLeavesOfUptoRow : OpenClaim := { program := "ytnenogpagkepfaa", sum := "7b24b93114ba68808e4d29ff1f2193f51fca109c8560381771d856f7762f6cb6", func := "loop.example/g01165/laws.FnExactLeavesOf", spec := "fnExactLeavesOf", recurses := true, apart := false, narrowed := true }
def FnExactLeavesOfUptoSaid : Prop := fnExactLeavesOfUptoRow.holds Try.pinned (OpenSpec.upto fnExactLeavesOfSpec)

/-- 'laws.FnExactInvertTree', WHERE WHAT IT READS IS OF BULK AT MOST 1048576: true; the input reads as it did. -/
def fnExactInvertTreeUptoRow : OpenClaim := { program := "ytnenogpagkepfaa", sum := "7b24b93114ba68808e4d29ff1f2193f51fca109c8560381771d856f7762f6cb6", func := "loop.example/g01165/laws.FnExactInvertTree", spec := "fnExactInvertTree", unfollowed := true, recurses := true, apart := false, narrowed := true }
def FnExactInvertTreeUptoSaid : Prop := fnExactInvertTreeUptoRow.holds Try.pinned (OpenSpec.upto fnExactInvertTreeSpec)

/-- 'laws.FnExactPictureOf', WHERE WHAT IT READS IS OF BULK AT MOST 1048576: true; the input reads as it did. -/
def fnExactPictureOfUptoRow : OpenClaim := { program := "ytnenogpagkepfaa", sum := "7b24b93114ba68808e4d29ff1f2193f51fca109c8560381771d856f7762f6cb6", func := "loop.example/g01165/laws.FnExactPictureOf", spec := "fnExactPictureOf", recurses := true, apart := false, narrowed := true }
def FnExactPictureOfUptoSaid : Prop := fnExactPictureOfUptoRow.holds Try.pinned (OpenSpec.upto fnExactPictureOfSpec)

end Rows
end Go.Proofs.Ytnenogpagkepfaa
