/-
  No cell of these rows narrows 'for every input' (looked for: loops, veiled, ifaces, maps, wideKeys, modest, calm, conditions, laid).
  DERIVED. THE GIVEN ROWS OF THIS SEAT. 6 by the template 'for every input the law returns true; each argument reads behind the call as it read before'; 0 by the template 'total and deterministic' (their statements: YtjplikkehhpomaaTotals.lean).
  GIVEN WITH THE SEED: the statements are not yours to turn. If you find one false, say at which input.
  Laid BY PROGRAM, IN A SANDBOX (cutbox-rows.mjs): the forced cells as the released guide's own fill.sh prints them over the translation 8da63032b9583e83… (all of the seat's roots in one cut). By AI agents, Wed Nov 11 2026. No macro, syntax, notation, axiom, sorry.
-/
import Derived.Test.YtjplikkehhpomaaChecked
import GoSem.Claim
import GoSem.ClaimJoined
import GoSem.ClaimMapViews
import Derived.JoinedTies
import Derived.KernelRfl
namespace Go.Proofs.Ytjplikkehhpomaa
/- THE CELL 'sum', in the pinned program and in every row, IS THE sha256 OF THE DUMP (.gsa) THAT YtjplikkehhpomaaProg.lean LOADS. Nothing in Lean hashes anything: it is a label: what it is worth is what the hold of that sum in a sandbox is worth. -/
noncomputable def Try.pinned : Pinned := { name := "ytjplikkehhpomaa", sum := "8da63032b9583e8364e4a1a228737e90e7c2626096888fd58a3ab62ade7ea6b1", checked := Try.checked }
namespace Rows
def none {H : Type} : Left H := { results := [], args := [] }

/-- 'laws.FnExactIsBorder': WHATEVER THE INPUT: true; the input reads as it did. -/
def fnExactIsBorderSpec : ChangeSpec := { name := "fnExactIsBorder", fn := fun _ => fun
  | [d] => { results := [.lit (.bool true)], args := [d] }
  | _ => none }
def fnExactIsBorderRow : OpenClaim := { program := "ytjplikkehhpomaa", sum := "8da63032b9583e8364e4a1a228737e90e7c2626096888fd58a3ab62ade7ea6b1", func := "loop.example/g01165/laws.FnExactIsBorder", spec := "fnExactIsBorder", inPlace := ["internal/bytealg.IndexByteString"], plainKeys := false, apart := false }
def FnExactIsBorderSaid : Prop := fnExactIsBorderRow.holds Try.pinned (OpenSpec.ofChange fnExactIsBorderSpec)

/-- ITS FALSE NEIGHBOUR: 'it returns false'. Refute it at one input. -/
def fnExactIsBorderWrong : ChangeSpec := { name := "fnExactIsBorder", fn := fun _ => fun
  | [d] => { results := [.lit (.bool false)], args := [d] }
  | _ => none }
def FnExactIsBorderWrongFalsely : Prop := fnExactIsBorderRow.holds Try.pinned (OpenSpec.ofChange fnExactIsBorderWrong)

/-- 'laws.FnExactHullOfBorder': WHATEVER THE INPUT: true; the input reads as it did. -/
def fnExactHullOfBorderSpec : ChangeSpec := { name := "fnExactHullOfBorder", fn := fun _ => fun
  | [d] => { results := [.lit (.bool true)], args := [d] }
  | _ => none }
def fnExactHullOfBorderRow : OpenClaim := { program := "ytjplikkehhpomaa", sum := "8da63032b9583e8364e4a1a228737e90e7c2626096888fd58a3ab62ade7ea6b1", func := "loop.example/g01165/laws.FnExactHullOfBorder", spec := "fnExactHullOfBorder", inPlace := ["internal/bytealg.IndexByteString"], unfollowed := true, recurses := true, plainKeys := false, apart := false }
def FnExactHullOfBorderSaid : Prop := fnExactHullOfBorderRow.holds Try.pinned (OpenSpec.ofChange fnExactHullOfBorderSpec)

/-- ITS FALSE NEIGHBOUR: 'it returns false'. Refute it at one input. -/
def fnExactHullOfBorderWrong : ChangeSpec := { name := "fnExactHullOfBorder", fn := fun _ => fun
  | [d] => { results := [.lit (.bool false)], args := [d] }
  | _ => none }
def FnExactHullOfBorderWrongFalsely : Prop := fnExactHullOfBorderRow.holds Try.pinned (OpenSpec.ofChange fnExactHullOfBorderWrong)

/-- 'laws.FnExactSignedArea': WHATEVER THE INPUT: true; the input reads as it did. -/
def fnExactSignedAreaSpec : ChangeSpec := { name := "fnExactSignedArea", fn := fun _ => fun
  | [d] => { results := [.lit (.bool true)], args := [d] }
  | _ => none }
def fnExactSignedAreaRow : OpenClaim := { program := "ytjplikkehhpomaa", sum := "8da63032b9583e8364e4a1a228737e90e7c2626096888fd58a3ab62ade7ea6b1", func := "loop.example/g01165/laws.FnExactSignedArea", spec := "fnExactSignedArea", inPlace := ["internal/bytealg.IndexByteString"], plainKeys := false, apart := false }
def FnExactSignedAreaSaid : Prop := fnExactSignedAreaRow.holds Try.pinned (OpenSpec.ofChange fnExactSignedAreaSpec)

/-- ITS FALSE NEIGHBOUR: 'it returns false'. Refute it at one input. -/
def fnExactSignedAreaWrong : ChangeSpec := { name := "fnExactSignedArea", fn := fun _ => fun
  | [d] => { results := [.lit (.bool false)], args := [d] }
  | _ => none }
def FnExactSignedAreaWrongFalsely : Prop := fnExactSignedAreaRow.holds Try.pinned (OpenSpec.ofChange fnExactSignedAreaWrong)

/-- 'laws.FnExactTurningOf': WHATEVER THE INPUT: true; the input reads as it did. -/
def fnExactTurningOfSpec : ChangeSpec := { name := "fnExactTurningOf", fn := fun _ => fun
  | [d] => { results := [.lit (.bool true)], args := [d] }
  | _ => none }
def fnExactTurningOfRow : OpenClaim := { program := "ytjplikkehhpomaa", sum := "8da63032b9583e8364e4a1a228737e90e7c2626096888fd58a3ab62ade7ea6b1", func := "loop.example/g01165/laws.FnExactTurningOf", spec := "fnExactTurningOf", inPlace := ["internal/bytealg.IndexByteString"], plainKeys := false, apart := false }
def FnExactTurningOfSaid : Prop := fnExactTurningOfRow.holds Try.pinned (OpenSpec.ofChange fnExactTurningOfSpec)

/-- ITS FALSE NEIGHBOUR: 'it returns false'. Refute it at one input. -/
def fnExactTurningOfWrong : ChangeSpec := { name := "fnExactTurningOf", fn := fun _ => fun
  | [d] => { results := [.lit (.bool false)], args := [d] }
  | _ => none }
def FnExactTurningOfWrongFalsely : Prop := fnExactTurningOfRow.holds Try.pinned (OpenSpec.ofChange fnExactTurningOfWrong)

/-- 'laws.FnExactCornersOfBorder': WHATEVER THE INPUT: true; the input reads as it did. -/
def fnExactCornersOfBorderSpec : ChangeSpec := { name := "fnExactCornersOfBorder", fn := fun _ => fun
  | [d] => { results := [.lit (.bool true)], args := [d] }
  | _ => none }
def fnExactCornersOfBorderRow : OpenClaim := { program := "ytjplikkehhpomaa", sum := "8da63032b9583e8364e4a1a228737e90e7c2626096888fd58a3ab62ade7ea6b1", func := "loop.example/g01165/laws.FnExactCornersOfBorder", spec := "fnExactCornersOfBorder", inPlace := ["internal/bytealg.IndexByteString"], plainKeys := false, apart := false }
def FnExactCornersOfBorderSaid : Prop := fnExactCornersOfBorderRow.holds Try.pinned (OpenSpec.ofChange fnExactCornersOfBorderSpec)

/-- ITS FALSE NEIGHBOUR: 'it returns false'. Refute it at one input. -/
def fnExactCornersOfBorderWrong : ChangeSpec := { name := "fnExactCornersOfBorder", fn := fun _ => fun
  | [d] => { results := [.lit (.bool false)], args := [d] }
  | _ => none }
def FnExactCornersOfBorderWrongFalsely : Prop := fnExactCornersOfBorderRow.holds Try.pinned (OpenSpec.ofChange fnExactCornersOfBorderWrong)

/-- 'laws.FnExactBorderFrom': WHATEVER THE INPUT: true; the input reads as it did. -/
def fnExactBorderFromSpec : ChangeSpec := { name := "fnExactBorderFrom", fn := fun _ => fun
  | [d] => { results := [.lit (.bool true)], args := [d] }
  | _ => none }
def fnExactBorderFromRow : OpenClaim := { program := "ytjplikkehhpomaa", sum := "8da63032b9583e8364e4a1a228737e90e7c2626096888fd58a3ab62ade7ea6b1", func := "loop.example/g01165/laws.FnExactBorderFrom", spec := "fnExactBorderFrom", inPlace := ["internal/abi.NoEscape", "internal/bytealg.MakeNoZero", "internal/bytealg.IndexByteString"], unfollowed := true, recurses := true, plainKeys := false, apart := false }
def FnExactBorderFromSaid : Prop := fnExactBorderFromRow.holds Try.pinned (OpenSpec.ofChange fnExactBorderFromSpec)

/-- ITS FALSE NEIGHBOUR: 'it returns false'. Refute it at one input. -/
def fnExactBorderFromWrong : ChangeSpec := { name := "fnExactBorderFrom", fn := fun _ => fun
  | [d] => { results := [.lit (.bool false)], args := [d] }
  | _ => none }
def FnExactBorderFromWrongFalsely : Prop := fnExactBorderFromRow.holds Try.pinned (OpenSpec.ofChange fnExactBorderFromWrong)

/- THE SECOND FORM. 'bulk': how many values and letters a reading holds, each counted each time it is reached (what is shared counts as often as it is met; a slice's spare places count too). A statement '..UptoSaid' is the law's where the arguments, and the package variables that the reading takes, are together of bulk at most 1048576: NARROWER than '..Said'. Prove '..Said' where nothing that the law and all that it calls make is longer than what came in: it says more and counts as full. Else prove '..UptoSaid'. A law counts once. -/
mutual
def uptoBulk {H : Type} : DataW H → Nat
  | .lit (.string bytes) => bytes.length + 1
  | .lit _ => 1
  | .nil => 1
  | .ptr d => uptoBulk d + 1
  | .slice elems spare => uptoBulkAll elems + uptoBulkAll spare + 1
  | .agg parts => uptoBulkAll parts + 1
  | .iface _ d => uptoBulk d + 1
  | .map entries => uptoBulkEntries entries + 1
  | .held _ => 1
def uptoBulkAll {H : Type} : List (DataW H) → Nat
  | [] => 0
  | d :: r => uptoBulk d + uptoBulkAll r
def uptoBulkEntries {H : Type} : List (Lit × DataW H) → Nat
  | [] => 0
  | x :: r => uptoBulkEntry x + uptoBulkEntries r
def uptoBulkEntry {H : Type} : Lit × DataW H → Nat
  | (.string bytes, d) => bytes.length + uptoBulk d + 1
  | (_, d) => uptoBulk d + 1
 end
def uptoSmall : (H : Type) → List (DataW H) → Bool := fun _ ds => decide (uptoBulkAll ds ≤ 1048576)
def OpenSpec.upto (s : _root_.Go.ChangeSpec) : _root_.Go.OpenSpec := { _root_.Go.OpenSpec.ofChange s with cond := some uptoSmall }

/-- 'laws.FnExactIsBorder', WHERE WHAT IT READS IS OF BULK AT MOST 1048576: true; the input reads as it did. -/
def fnExactIsBorderUptoRow : OpenClaim := { program := "ytjplikkehhpomaa", sum := "8da63032b9583e8364e4a1a228737e90e7c2626096888fd58a3ab62ade7ea6b1", func := "loop.example/g01165/laws.FnExactIsBorder", spec := "fnExactIsBorder", inPlace := ["internal/bytealg.IndexByteString"], plainKeys := false, apart := false, narrowed := true }
def FnExactIsBorderUptoSaid : Prop := fnExactIsBorderUptoRow.holds Try.pinned (OpenSpec.upto fnExactIsBorderSpec)

/-- 'laws.FnExactHullOfBorder', WHERE WHAT IT READS IS OF BULK AT MOST 1048576: true; the input reads as it did. -/
def fnExactHullOfBorderUptoRow : OpenClaim := { program := "ytjplikkehhpomaa", sum := "8da63032b9583e8364e4a1a228737e90e7c2626096888fd58a3ab62ade7ea6b1", func := "loop.example/g01165/laws.FnExactHullOfBorder", spec := "fnExactHullOfBorder", inPlace := ["internal/bytealg.IndexByteString"], unfollowed := true, recurses := true, plainKeys := false, apart := false, narrowed := true }
def FnExactHullOfBorderUptoSaid : Prop := fnExactHullOfBorderUptoRow.holds Try.pinned (OpenSpec.upto fnExactHullOfBorderSpec)

/-- 'laws.FnExactSignedArea', WHERE WHAT IT READS IS OF BULK AT MOST 1048576: true; the input reads as it did. -/
def fnExactSignedAreaUptoRow : OpenClaim := { program := "ytjplikkehhpomaa", sum := "8da63032b9583e8364e4a1a228737e90e7c2626096888fd58a3ab62ade7ea6b1", func := "loop.example/g01165/laws.FnExactSignedArea", spec := "fnExactSignedArea", inPlace := ["internal/bytealg.IndexByteString"], plainKeys := false, apart := false, narrowed := true }
def FnExactSignedAreaUptoSaid : Prop := fnExactSignedAreaUptoRow.holds Try.pinned (OpenSpec.upto fnExactSignedAreaSpec)

/-- 'laws.FnExactTurningOf', WHERE WHAT IT READS IS OF BULK AT MOST 1048576: true; the input reads as it did. -/
def fnExactTurningOfUptoRow : OpenClaim := { program := "ytjplikkehhpomaa", sum := "8da63032b9583e8364e4a1a228737e90e7c2626096888fd58a3ab62ade7ea6b1", func := "loop.example/g01165/laws.FnExactTurningOf", spec := "fnExactTurningOf", inPlace := ["internal/bytealg.IndexByteString"], plainKeys := false, apart := false, narrowed := true }
def FnExactTurningOfUptoSaid : Prop := fnExactTurningOfUptoRow.holds Try.pinned (OpenSpec.upto fnExactTurningOfSpec)

/-- 'laws.FnExactCornersOfBorder', WHERE WHAT IT READS IS OF BULK AT MOST 1048576: true; the input reads as it did. -/
def fnExactCornersOfBorderUptoRow : OpenClaim := { program := "ytjplikkehhpomaa", sum := "8da63032b9583e8364e4a1a228737e90e7c2626096888fd58a3ab62ade7ea6b1", func := "loop.example/g01165/laws.FnExactCornersOfBorder", spec := "fnExactCornersOfBorder", inPlace := ["internal/bytealg.IndexByteString"], plainKeys := false, apart := false, narrowed := true }
def FnExactCornersOfBorderUptoSaid : Prop := fnExactCornersOfBorderUptoRow.holds Try.pinned (OpenSpec.upto fnExactCornersOfBorderSpec)

/-- 'laws.FnExactBorderFrom', WHERE WHAT IT READS IS OF BULK AT MOST 1048576: true; the input reads as it did. -/
def fnExactBorderFromUptoRow : OpenClaim := { program := "ytjplikkehhpomaa", sum := "8da63032b9583e8364e4a1a228737e90e7c2626096888fd58a3ab62ade7ea6b1", func := "loop.example/g01165/laws.FnExactBorderFrom", spec := "fnExactBorderFrom", inPlace := ["internal/abi.NoEscape", "internal/bytealg.MakeNoZero", "internal/bytealg.IndexByteString"], unfollowed := true, recurses := true, plainKeys := false, apart := false, narrowed := true }
def FnExactBorderFromUptoSaid : Prop := fnExactBorderFromUptoRow.holds Try.pinned (OpenSpec.upto fnExactBorderFromSpec)

end Rows
end Go.Proofs.Ytjplikkehhpomaa
