/-
  No cell of these rows narrows 'for every input' (looked for: loops, veiled, ifaces, maps, wideKeys, modest, calm, conditions, laid).
  DERIVED. THE GIVEN ROWS OF THIS SEAT. 6 by the template 'for every input the law returns true; each argument reads behind the call as it read before'; 0 by the template 'total and deterministic' (their statements: YtdnjcbfiojckpaaTotals.lean).
  GIVEN WITH THE SEED: the statements are not yours to turn. If you find one false, say at which input.
  Laid BY PROGRAM, IN A SANDBOX (cutbox-rows.mjs): the forced cells as the released guide's own fill.sh prints them over the translation c3e0db0a1ff8320f… (all of the seat's roots in one cut). By AI agents, Wed Nov 11 2026. No macro, syntax, notation, axiom, sorry.
-/
import Derived.Test.YtdnjcbfiojckpaaChecked
import GoSem.Claim
import GoSem.ClaimJoined
import GoSem.ClaimMapViews
import Derived.JoinedTies
import Derived.KernelRfl
namespace Go.Proofs.Ytdnjcbfiojckpaa
/- THE CELL 'sum', in the pinned program and in every row, IS THE sha256 OF THE DUMP (.gsa) THAT YtdnjcbfiojckpaaProg.lean LOADS. Nothing in Lean hashes anything: it is a label: what it is worth is what the hold of that sum in a sandbox is worth. -/
noncomputable def Try.pinned : Pinned := { name := "ytdnjcbfiojckpaa", sum := "c3e0db0a1ff8320f27bf2e797d306d805917514aa4760f4e7ecbb263e401c0b5", checked := Try.checked }
namespace Rows
def none {H : Type} : Left H := { results := [], args := [] }

/-- 'laws.FnExactConstants': WHATEVER THE INPUT: true; the input reads as it did. -/
def fnExactConstantsSpec : ChangeSpec := { name := "fnExactConstants", fn := fun _ => fun
  | [] => { results := [.lit (.bool true)], args := [] }
  | _ => none }
def fnExactConstantsRow : OpenClaim := { program := "ytdnjcbfiojckpaa", sum := "c3e0db0a1ff8320f27bf2e797d306d805917514aa4760f4e7ecbb263e401c0b5", func := "loop.example/g01165/laws.FnExactConstants", spec := "fnExactConstants", apart := false }
def FnExactConstantsSaid : Prop := fnExactConstantsRow.holds Try.pinned (OpenSpec.ofChange fnExactConstantsSpec)

/-- ITS FALSE NEIGHBOUR: 'it returns false'. Refute it at one input. -/
def fnExactConstantsWrong : ChangeSpec := { name := "fnExactConstants", fn := fun _ => fun
  | [] => { results := [.lit (.bool false)], args := [] }
  | _ => none }
def FnExactConstantsWrongFalsely : Prop := fnExactConstantsRow.holds Try.pinned (OpenSpec.ofChange fnExactConstantsWrong)

/-- 'laws.FnExactIsName': WHATEVER THE INPUT: true; the input reads as it did. -/
def fnExactIsNameSpec : ChangeSpec := { name := "fnExactIsName", fn := fun _ => fun
  | [d] => { results := [.lit (.bool true)], args := [d] }
  | _ => none }
def fnExactIsNameRow : OpenClaim := { program := "ytdnjcbfiojckpaa", sum := "c3e0db0a1ff8320f27bf2e797d306d805917514aa4760f4e7ecbb263e401c0b5", func := "loop.example/g01165/laws.FnExactIsName", spec := "fnExactIsName", apart := false }
def FnExactIsNameSaid : Prop := fnExactIsNameRow.holds Try.pinned (OpenSpec.ofChange fnExactIsNameSpec)

/-- ITS FALSE NEIGHBOUR: 'it returns false'. Refute it at one input. -/
def fnExactIsNameWrong : ChangeSpec := { name := "fnExactIsName", fn := fun _ => fun
  | [d] => { results := [.lit (.bool false)], args := [d] }
  | _ => none }
def FnExactIsNameWrongFalsely : Prop := fnExactIsNameRow.holds Try.pinned (OpenSpec.ofChange fnExactIsNameWrong)

/-- 'laws.FnExactCheckOf': WHATEVER THE INPUT: true; the input reads as it did. -/
def fnExactCheckOfSpec : ChangeSpec := { name := "fnExactCheckOf", fn := fun _ => fun
  | [d1, d2] => { results := [.lit (.bool true)], args := [d1, d2] }
  | _ => none }
def fnExactCheckOfRow : OpenClaim := { program := "ytdnjcbfiojckpaa", sum := "c3e0db0a1ff8320f27bf2e797d306d805917514aa4760f4e7ecbb263e401c0b5", func := "loop.example/g01165/laws.FnExactCheckOf", spec := "fnExactCheckOf", apart := false }
def FnExactCheckOfSaid : Prop := fnExactCheckOfRow.holds Try.pinned (OpenSpec.ofChange fnExactCheckOfSpec)

/-- ITS FALSE NEIGHBOUR: 'it returns false'. Refute it at one input. -/
def fnExactCheckOfWrong : ChangeSpec := { name := "fnExactCheckOf", fn := fun _ => fun
  | [d1, d2] => { results := [.lit (.bool false)], args := [d1, d2] }
  | _ => none }
def FnExactCheckOfWrongFalsely : Prop := fnExactCheckOfRow.holds Try.pinned (OpenSpec.ofChange fnExactCheckOfWrong)

/-- 'laws.FnExactFarSpots': WHATEVER THE INPUT: true; the input reads as it did. -/
def fnExactFarSpotsSpec : ChangeSpec := { name := "fnExactFarSpots", fn := fun _ => fun
  | [d1, d2, d3] => { results := [.lit (.bool true)], args := [d1, d2, d3] }
  | _ => none }
def fnExactFarSpotsRow : OpenClaim := { program := "ytdnjcbfiojckpaa", sum := "c3e0db0a1ff8320f27bf2e797d306d805917514aa4760f4e7ecbb263e401c0b5", func := "loop.example/g01165/laws.FnExactFarSpots", spec := "fnExactFarSpots", apart := false }
def FnExactFarSpotsSaid : Prop := fnExactFarSpotsRow.holds Try.pinned (OpenSpec.ofChange fnExactFarSpotsSpec)

/-- ITS FALSE NEIGHBOUR: 'it returns false'. Refute it at one input. -/
def fnExactFarSpotsWrong : ChangeSpec := { name := "fnExactFarSpots", fn := fun _ => fun
  | [d1, d2, d3] => { results := [.lit (.bool false)], args := [d1, d2, d3] }
  | _ => none }
def FnExactFarSpotsWrongFalsely : Prop := fnExactFarSpotsRow.holds Try.pinned (OpenSpec.ofChange fnExactFarSpotsWrong)

/-- 'laws.FnExactValidPicture': WHATEVER THE INPUT: true; the input reads as it did. -/
def fnExactValidPictureSpec : ChangeSpec := { name := "fnExactValidPicture", fn := fun _ => fun
  | [d] => { results := [.lit (.bool true)], args := [d] }
  | _ => none }
def fnExactValidPictureRow : OpenClaim := { program := "ytdnjcbfiojckpaa", sum := "c3e0db0a1ff8320f27bf2e797d306d805917514aa4760f4e7ecbb263e401c0b5", func := "loop.example/g01165/laws.FnExactValidPicture", spec := "fnExactValidPicture", apart := false }
def FnExactValidPictureSaid : Prop := fnExactValidPictureRow.holds Try.pinned (OpenSpec.ofChange fnExactValidPictureSpec)

/-- ITS FALSE NEIGHBOUR: 'it returns false'. Refute it at one input. -/
def fnExactValidPictureWrong : ChangeSpec := { name := "fnExactValidPicture", fn := fun _ => fun
  | [d] => { results := [.lit (.bool false)], args := [d] }
  | _ => none }
def FnExactValidPictureWrongFalsely : Prop := fnExactValidPictureRow.holds Try.pinned (OpenSpec.ofChange fnExactValidPictureWrong)

/-- 'laws.FnExactBlankPicture': WHATEVER THE INPUT: true; the input reads as it did. -/
def fnExactBlankPictureSpec : ChangeSpec := { name := "fnExactBlankPicture", fn := fun _ => fun
  | [d1, d2] => { results := [.lit (.bool true)], args := [d1, d2] }
  | _ => none }
def fnExactBlankPictureRow : OpenClaim := { program := "ytdnjcbfiojckpaa", sum := "c3e0db0a1ff8320f27bf2e797d306d805917514aa4760f4e7ecbb263e401c0b5", func := "loop.example/g01165/laws.FnExactBlankPicture", spec := "fnExactBlankPicture", apart := false }
def FnExactBlankPictureSaid : Prop := fnExactBlankPictureRow.holds Try.pinned (OpenSpec.ofChange fnExactBlankPictureSpec)

/-- ITS FALSE NEIGHBOUR: 'it returns false'. Refute it at one input. -/
def fnExactBlankPictureWrong : ChangeSpec := { name := "fnExactBlankPicture", fn := fun _ => fun
  | [d1, d2] => { results := [.lit (.bool false)], args := [d1, d2] }
  | _ => none }
def FnExactBlankPictureWrongFalsely : Prop := fnExactBlankPictureRow.holds Try.pinned (OpenSpec.ofChange fnExactBlankPictureWrong)

/- THE SECOND FORM. 'bulk': how many values and letters a reading holds, each counted each time it is reached (what is shared counts as often as it is met; a slice's spare places count too). A statement '..UptoSaid' is the law's where the arguments, and the package variables that the reading takes, are together of bulk at most 1048576: NARROWER than '..Said'. Prove '..Said' where nothing that the law and all that it calls make is longer than what came in: it says more and counts as full. Else prove '..UptoSaid'. A law counts once. -/
mutual
def uptoBulk {H : Type} : DataW H → Nat
  | .lit (.string bytes) => bytes.length + 1
  | .lit _ => 1
  | .nil => 1
  | .ptr d => uptoBulk d + 1
  | .slice elems spare => uptoBulkAll elems + uptoBulkAll spare + 1
  | .agg parts => uptoBulkAll parts + 1
  | .iface _ d => uptoBulk d + 1
  | .map entries => uptoBulkEntries entries + 1
  | .held _ => 1
def uptoBulkAll {H : Type} : List (DataW H) → Nat
  | [] => 0
  | d :: r => uptoBulk d + uptoBulkAll r
def uptoBulkEntries {H : Type} : List (Lit × DataW H) → Nat
  | [] => 0
  | x :: r => uptoBulkEntry x + uptoBulkEntries r
def uptoBulkEntry {H : Type} : Lit × DataW H → Nat
  | (.string bytes, d) => bytes.length + uptoBulk d + 1
  | (_, d) => uptoBulk d + 1
 end
def uptoSmall : (H : Type) → List (DataW H) → Bool := fun _ ds => decide (uptoBulkAll ds ≤ 1048576)
def OpenSpec.upto (s : _root_.Go.ChangeSpec) : _root_.Go.OpenSpec := { _root_.Go.OpenSpec.ofChange s with cond := some uptoSmall }

/-- 'laws.FnExactConstants', WHERE WHAT IT READS IS OF BULK AT MOST 1048576: true; the input reads as it did. -/
def fnExactConstantsUptoRow : OpenClaim := { program := "ytdnjcbfiojckpaa", sum := "c3e0db0a1ff8320f27bf2e797d306d805917514aa4760f4e7ecbb263e401c0b5", func := "loop.example/g01165/laws.FnExactConstants", spec := "fnExactConstants", apart := false, narrowed := true }
def FnExactConstantsUptoSaid : Prop := fnExactConstantsUptoRow.holds Try.pinned (OpenSpec.upto fnExactConstantsSpec)

/-- 'laws.FnExactIsName', WHERE WHAT IT READS IS OF BULK AT MOST 1048576: true; the input reads as it did. -/
def fnExactIsNameUptoRow : OpenClaim := { program := "ytdnjcbfiojckpaa", sum := "c3e0db0a1ff8320f27bf2e797d306d805917514aa4760f4e7ecbb263e401c0b5", func := "loop.example/g01165/laws.FnExactIsName", spec := "fnExactIsName", apart := false, narrowed := true }
def FnExactIsNameUptoSaid : Prop := fnExactIsNameUptoRow.holds Try.pinned (OpenSpec.upto fnExactIsNameSpec)

/-- 'laws.FnExactCheckOf', WHERE WHAT IT READS IS OF BULK AT MOST 1048576: true; the input reads as it did. -/
def fnExactCheckOfUptoRow : OpenClaim := { program := "ytdnjcbfiojckpaa", sum := "c3e0db0a1ff8320f27bf2e797d306d805917514aa4760f4e7ecbb263e401c0b5", func := "loop.example/g01165/laws.FnExactCheckOf", spec := "fnExactCheckOf", apart := false, narrowed := true }
def FnExactCheckOfUptoSaid : Prop := fnExactCheckOfUptoRow.holds Try.pinned (OpenSpec.upto fnExactCheckOfSpec)

/-- 'laws.FnExactFarSpots', WHERE WHAT IT READS IS OF BULK AT MOST 1048576: true; the input reads as it did. -/
def fnExactFarSpotsUptoRow : OpenClaim := { program := "ytdnjcbfiojckpaa", sum := "c3e0db0a1ff8320f27bf2e797d306d805917514aa4760f4e7ecbb263e401c0b5", func := "loop.example/g01165/laws.FnExactFarSpots", spec := "fnExactFarSpots", apart := false, narrowed := true }
def FnExactFarSpotsUptoSaid : Prop := fnExactFarSpotsUptoRow.holds Try.pinned (OpenSpec.upto fnExactFarSpotsSpec)

/-- 'laws.FnExactValidPicture', WHERE WHAT IT READS IS OF BULK AT MOST 1048576: true; the input reads as it did. -/
def fnExactValidPictureUptoRow : OpenClaim := { program := "ytdnjcbfiojckpaa", sum := "c3e0db0a1ff8320f27bf2e797d306d805917514aa4760f4e7ecbb263e401c0b5", func := "loop.example/g01165/laws.FnExactValidPicture", spec := "fnExactValidPicture", apart := false, narrowed := true }
def FnExactValidPictureUptoSaid : Prop := fnExactValidPictureUptoRow.holds Try.pinned (OpenSpec.upto fnExactValidPictureSpec)

/-- 'laws.FnExactBlankPicture', WHERE WHAT IT READS IS OF BULK AT MOST 1048576: true; the input reads as it did. -/
def fnExactBlankPictureUptoRow : OpenClaim := { program := "ytdnjcbfiojckpaa", sum := "c3e0db0a1ff8320f27bf2e797d306d805917514aa4760f4e7ecbb263e401c0b5", func := "loop.example/g01165/laws.FnExactBlankPicture", spec := "fnExactBlankPicture", apart := false, narrowed := true }
def FnExactBlankPictureUptoSaid : Prop := fnExactBlankPictureUptoRow.holds Try.pinned (OpenSpec.upto fnExactBlankPictureSpec)

end Rows
end Go.Proofs.Ytdnjcbfiojckpaa
