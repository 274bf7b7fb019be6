/-
  No cell of these rows narrows 'for every input' (looked for: loops, veiled, ifaces, maps, wideKeys, modest, calm, conditions, laid).
  DERIVED. THE GIVEN ROWS OF THIS SEAT. 7 by the template 'for every input the law returns true; each argument reads behind the call as it read before'; 0 by the template 'total and deterministic' (their statements: YtheakjbbfdcbaaaTotals.lean).
  GIVEN WITH THE SEED: the statements are not yours to turn. If you find one false, say at which input.
  Laid BY PROGRAM, IN A SANDBOX (cutbox-rows.mjs): the forced cells as the released guide's own fill.sh prints them over the translation a9fdef8f64ec8f66… (all of the seat's roots in one cut). By AI agents, Wed Nov 11 2026. No macro, syntax, notation, axiom, sorry.
-/
import Derived.Test.YtheakjbbfdcbaaaChecked
import GoSem.Claim
import GoSem.ClaimJoined
import GoSem.ClaimMapViews
import Derived.JoinedTies
import Derived.KernelRfl
namespace Go.Proofs.Ytheakjbbfdcbaaa
/- THE CELL 'sum', in the pinned program and in every row, IS THE sha256 OF THE DUMP (.gsa) THAT YtheakjbbfdcbaaaProg.lean LOADS. Nothing in Lean hashes anything: it is a label: what it is worth is what the hold of that sum in a sandbox is worth. -/
noncomputable def Try.pinned : Pinned := { name := "ytheakjbbfdcbaaa", sum := "a9fdef8f64ec8f6612158c66c1741ee30b534c9a4d88c985b9c00d0177b66ac8", checked := Try.checked }
namespace Rows
def none {H : Type} : Left H := { results := [], args := [] }

/-- 'laws.FnExactFactorElement': WHATEVER THE INPUT: true; the input reads as it did. -/
def fnExactFactorElementSpec : ChangeSpec := { name := "fnExactFactorElement", fn := fun _ => fun
  | [d] => { results := [.lit (.bool true)], args := [d] }
  | _ => none }
def fnExactFactorElementRow : OpenClaim := { program := "ytheakjbbfdcbaaa", sum := "a9fdef8f64ec8f6612158c66c1741ee30b534c9a4d88c985b9c00d0177b66ac8", func := "loop.example/g01165/laws.FnExactFactorElement", spec := "fnExactFactorElement", unfollowed := true, recurses := true, apart := false }
def FnExactFactorElementSaid : Prop := fnExactFactorElementRow.holds Try.pinned (OpenSpec.ofChange fnExactFactorElementSpec)

/-- ITS FALSE NEIGHBOUR: 'it returns false'. Refute it at one input. -/
def fnExactFactorElementWrong : ChangeSpec := { name := "fnExactFactorElement", fn := fun _ => fun
  | [d] => { results := [.lit (.bool false)], args := [d] }
  | _ => none }
def FnExactFactorElementWrongFalsely : Prop := fnExactFactorElementRow.holds Try.pinned (OpenSpec.ofChange fnExactFactorElementWrong)

/-- 'laws.FnExactValidElement': WHATEVER THE INPUT: true; the input reads as it did. -/
def fnExactValidElementSpec : ChangeSpec := { name := "fnExactValidElement", fn := fun _ => fun
  | [d] => { results := [.lit (.bool true)], args := [d] }
  | _ => none }
def fnExactValidElementRow : OpenClaim := { program := "ytheakjbbfdcbaaa", sum := "a9fdef8f64ec8f6612158c66c1741ee30b534c9a4d88c985b9c00d0177b66ac8", func := "loop.example/g01165/laws.FnExactValidElement", spec := "fnExactValidElement", apart := false }
def FnExactValidElementSaid : Prop := fnExactValidElementRow.holds Try.pinned (OpenSpec.ofChange fnExactValidElementSpec)

/-- ITS FALSE NEIGHBOUR: 'it returns false'. Refute it at one input. -/
def fnExactValidElementWrong : ChangeSpec := { name := "fnExactValidElement", fn := fun _ => fun
  | [d] => { results := [.lit (.bool false)], args := [d] }
  | _ => none }
def FnExactValidElementWrongFalsely : Prop := fnExactValidElementRow.holds Try.pinned (OpenSpec.ofChange fnExactValidElementWrong)

/-- 'laws.FnExactFitsAt': WHATEVER THE INPUT: true; the input reads as it did. -/
def fnExactFitsAtSpec : ChangeSpec := { name := "fnExactFitsAt", fn := fun _ => fun
  | [d1, d2, d3] => { results := [.lit (.bool true)], args := [d1, d2, d3] }
  | _ => none }
def fnExactFitsAtRow : OpenClaim := { program := "ytheakjbbfdcbaaa", sum := "a9fdef8f64ec8f6612158c66c1741ee30b534c9a4d88c985b9c00d0177b66ac8", func := "loop.example/g01165/laws.FnExactFitsAt", spec := "fnExactFitsAt", unfollowed := true, recurses := true, apart := false }
def FnExactFitsAtSaid : Prop := fnExactFitsAtRow.holds Try.pinned (OpenSpec.ofChange fnExactFitsAtSpec)

/-- ITS FALSE NEIGHBOUR: 'it returns false'. Refute it at one input. -/
def fnExactFitsAtWrong : ChangeSpec := { name := "fnExactFitsAt", fn := fun _ => fun
  | [d1, d2, d3] => { results := [.lit (.bool false)], args := [d1, d2, d3] }
  | _ => none }
def FnExactFitsAtWrongFalsely : Prop := fnExactFitsAtRow.holds Try.pinned (OpenSpec.ofChange fnExactFitsAtWrong)

/-- 'laws.FnExactSquareElement': WHATEVER THE INPUT: true; the input reads as it did. -/
def fnExactSquareElementSpec : ChangeSpec := { name := "fnExactSquareElement", fn := fun _ => fun
  | [d] => { results := [.lit (.bool true)], args := [d] }
  | _ => none }
def fnExactSquareElementRow : OpenClaim := { program := "ytheakjbbfdcbaaa", sum := "a9fdef8f64ec8f6612158c66c1741ee30b534c9a4d88c985b9c00d0177b66ac8", func := "loop.example/g01165/laws.FnExactSquareElement", spec := "fnExactSquareElement", unfollowed := true, recurses := true, apart := false }
def FnExactSquareElementSaid : Prop := fnExactSquareElementRow.holds Try.pinned (OpenSpec.ofChange fnExactSquareElementSpec)

/-- ITS FALSE NEIGHBOUR: 'it returns false'. Refute it at one input. -/
def fnExactSquareElementWrong : ChangeSpec := { name := "fnExactSquareElement", fn := fun _ => fun
  | [d] => { results := [.lit (.bool false)], args := [d] }
  | _ => none }
def FnExactSquareElementWrongFalsely : Prop := fnExactSquareElementRow.holds Try.pinned (OpenSpec.ofChange fnExactSquareElementWrong)

/-- 'laws.FnExactCrossElement': WHATEVER THE INPUT: true; the input reads as it did. -/
def fnExactCrossElementSpec : ChangeSpec := { name := "fnExactCrossElement", fn := fun _ => fun
  | [d] => { results := [.lit (.bool true)], args := [d] }
  | _ => none }
def fnExactCrossElementRow : OpenClaim := { program := "ytheakjbbfdcbaaa", sum := "a9fdef8f64ec8f6612158c66c1741ee30b534c9a4d88c985b9c00d0177b66ac8", func := "loop.example/g01165/laws.FnExactCrossElement", spec := "fnExactCrossElement", unfollowed := true, recurses := true, apart := false }
def FnExactCrossElementSaid : Prop := fnExactCrossElementRow.holds Try.pinned (OpenSpec.ofChange fnExactCrossElementSpec)

/-- ITS FALSE NEIGHBOUR: 'it returns false'. Refute it at one input. -/
def fnExactCrossElementWrong : ChangeSpec := { name := "fnExactCrossElement", fn := fun _ => fun
  | [d] => { results := [.lit (.bool false)], args := [d] }
  | _ => none }
def FnExactCrossElementWrongFalsely : Prop := fnExactCrossElementRow.holds Try.pinned (OpenSpec.ofChange fnExactCrossElementWrong)

/-- 'laws.FnExactMirrorElement': WHATEVER THE INPUT: true; the input reads as it did. -/
def fnExactMirrorElementSpec : ChangeSpec := { name := "fnExactMirrorElement", fn := fun _ => fun
  | [d] => { results := [.lit (.bool true)], args := [d] }
  | _ => none }
def fnExactMirrorElementRow : OpenClaim := { program := "ytheakjbbfdcbaaa", sum := "a9fdef8f64ec8f6612158c66c1741ee30b534c9a4d88c985b9c00d0177b66ac8", func := "loop.example/g01165/laws.FnExactMirrorElement", spec := "fnExactMirrorElement", unfollowed := true, recurses := true, apart := false }
def FnExactMirrorElementSaid : Prop := fnExactMirrorElementRow.holds Try.pinned (OpenSpec.ofChange fnExactMirrorElementSpec)

/-- ITS FALSE NEIGHBOUR: 'it returns false'. Refute it at one input. -/
def fnExactMirrorElementWrong : ChangeSpec := { name := "fnExactMirrorElement", fn := fun _ => fun
  | [d] => { results := [.lit (.bool false)], args := [d] }
  | _ => none }
def FnExactMirrorElementWrongFalsely : Prop := fnExactMirrorElementRow.holds Try.pinned (OpenSpec.ofChange fnExactMirrorElementWrong)

/-- 'laws.FnExactSumElements': WHATEVER THE INPUT: true; the input reads as it did. -/
def fnExactSumElementsSpec : ChangeSpec := { name := "fnExactSumElements", fn := fun _ => fun
  | [d1, d2] => { results := [.lit (.bool true)], args := [d1, d2] }
  | _ => none }
def fnExactSumElementsRow : OpenClaim := { program := "ytheakjbbfdcbaaa", sum := "a9fdef8f64ec8f6612158c66c1741ee30b534c9a4d88c985b9c00d0177b66ac8", func := "loop.example/g01165/laws.FnExactSumElements", spec := "fnExactSumElements", unfollowed := true, recurses := true, apart := false }
def FnExactSumElementsSaid : Prop := fnExactSumElementsRow.holds Try.pinned (OpenSpec.ofChange fnExactSumElementsSpec)

/-- ITS FALSE NEIGHBOUR: 'it returns false'. Refute it at one input. -/
def fnExactSumElementsWrong : ChangeSpec := { name := "fnExactSumElements", fn := fun _ => fun
  | [d1, d2] => { results := [.lit (.bool false)], args := [d1, d2] }
  | _ => none }
def FnExactSumElementsWrongFalsely : Prop := fnExactSumElementsRow.holds Try.pinned (OpenSpec.ofChange fnExactSumElementsWrong)

/- THE SECOND FORM. 'bulk': how many values and letters a reading holds, each counted each time it is reached (what is shared counts as often as it is met; a slice's spare places count too). A statement '..UptoSaid' is the law's where the arguments, and the package variables that the reading takes, are together of bulk at most 1048576: NARROWER than '..Said'. Prove '..Said' where nothing that the law and all that it calls make is longer than what came in: it says more and counts as full. Else prove '..UptoSaid'. A law counts once. -/
mutual
def uptoBulk {H : Type} : DataW H → Nat
  | .lit (.string bytes) => bytes.length + 1
  | .lit _ => 1
  | .nil => 1
  | .ptr d => uptoBulk d + 1
  | .slice elems spare => uptoBulkAll elems + uptoBulkAll spare + 1
  | .agg parts => uptoBulkAll parts + 1
  | .iface _ d => uptoBulk d + 1
  | .map entries => uptoBulkEntries entries + 1
  | .held _ => 1
def uptoBulkAll {H : Type} : List (DataW H) → Nat
  | [] => 0
  | d :: r => uptoBulk d + uptoBulkAll r
def uptoBulkEntries {H : Type} : List (Lit × DataW H) → Nat
  | [] => 0
  | x :: r => uptoBulkEntry x + uptoBulkEntries r
def uptoBulkEntry {H : Type} : Lit × DataW H → Nat
  | (.string bytes, d) => bytes.length + uptoBulk d + 1
  | (_, d) => uptoBulk d + 1
 end
def uptoSmall : (H : Type) → List (DataW H) → Bool := fun _ ds => decide (uptoBulkAll ds ≤ 1048576)
def OpenSpec.upto (s : _root_.Go.ChangeSpec) : _root_.Go.OpenSpec := { _root_.Go.OpenSpec.ofChange s with cond := some uptoSmall }

/-- 'laws.FnExactFactorElement', WHERE WHAT IT READS IS OF BULK AT MOST 1048576: true; the input reads as it did. -/
def fnExactFactorElementUptoRow : OpenClaim := { program := "ytheakjbbfdcbaaa", sum := "a9fdef8f64ec8f6612158c66c1741ee30b534c9a4d88c985b9c00d0177b66ac8", func := "loop.example/g01165/laws.FnExactFactorElement", spec := "fnExactFactorElement", unfollowed := true, recurses := true, apart := false, narrowed := true }
def FnExactFactorElementUptoSaid : Prop := fnExactFactorElementUptoRow.holds Try.pinned (OpenSpec.upto fnExactFactorElementSpec)

/-- 'laws.FnExactValidElement', WHERE WHAT IT READS IS OF BULK AT MOST 1048576: true; the input reads as it did. -/
def fnExactValidElementUptoRow : OpenClaim := { program := "ytheakjbbfdcbaaa", sum := "a9fdef8f64ec8f6612158c66c1741ee30b534c9a4d88c985b9c00d0177b66ac8", func := "loop.example/g01165/laws.FnExactValidElement", spec := "fnExactValidElement", apart := false, narrowed := true }
def FnExactValidElementUptoSaid : Prop := fnExactValidElementUptoRow.holds Try.pinned (OpenSpec.upto fnExactValidElementSpec)

/-- 'laws.FnExactFitsAt', WHERE WHAT IT READS IS OF BULK AT MOST 1048576: true; the input reads as it did. -/
def fnExactFitsAtUptoRow : OpenClaim := { program := "ytheakjbbfdcbaaa", sum := "a9fdef8f64ec8f6612158c66c1741ee30b534c9a4d88c985b9c00d0177b66ac8", func := "loop.example/g01165/laws.FnExactFitsAt", spec := "fnExactFitsAt", unfollowed := true, recurses := true, apart := false, narrowed := true }
def FnExactFitsAtUptoSaid : Prop := fnExactFitsAtUptoRow.holds Try.pinned (OpenSpec.upto fnExactFitsAtSpec)

/-- 'laws.FnExactSquareElement', WHERE WHAT IT READS IS OF BULK AT MOST 1048576: true; the input reads as it did. -/
def fnExactSquareElementUptoRow : OpenClaim := { program := "ytheakjbbfdcbaaa", sum := "a9fdef8f64ec8f6612158c66c1741ee30b534c9a4d88c985b9c00d0177b66ac8", func := "loop.example/g01165/laws.FnExactSquareElement", spec := "fnExactSquareElement", unfollowed := true, recurses := true, apart := false, narrowed := true }
def FnExactSquareElementUptoSaid : Prop := fnExactSquareElementUptoRow.holds Try.pinned (OpenSpec.upto fnExactSquareElementSpec)

/-- 'laws.FnExactCrossElement', WHERE WHAT IT READS IS OF BULK AT MOST 1048576: true; the input reads as it did. -/
def fnExactCrossElementUptoRow : OpenClaim := { program := "ytheakjbbfdcbaaa", sum := "a9fdef8f64ec8f6612158c66c1741ee30b534c9a4d88c985b9c00d0177b66ac8", func := "loop.example/g01165/laws.FnExactCrossElement", spec := "fnExactCrossElement", unfollowed := true, recurses := true, apart := false, narrowed := true }
def FnExactCrossElementUptoSaid : Prop := fnExactCrossElementUptoRow.holds Try.pinned (OpenSpec.upto fnExactCrossElementSpec)

/-- 'laws.FnExactMirrorElement', WHERE WHAT IT READS IS OF BULK AT MOST 1048576: true; the input reads as it did. -/
def fnExactMirrorElementUptoRow : OpenClaim := { program := "ytheakjbbfdcbaaa", sum := "a9fdef8f64ec8f6612158c66c1741ee30b534c9a4d88c985b9c00d0177b66ac8", func := "loop.example/g01165/laws.FnExactMirrorElement", spec := "fnExactMirrorElement", unfollowed := true, recurses := true, apart := false, narrowed := true }
def FnExactMirrorElementUptoSaid : Prop := fnExactMirrorElementUptoRow.holds Try.pinned (OpenSpec.upto fnExactMirrorElementSpec)

/-- 'laws.FnExactSumElements', WHERE WHAT IT READS IS OF BULK AT MOST 1048576: true; the input reads as it did. -/
def fnExactSumElementsUptoRow : OpenClaim := { program := "ytheakjbbfdcbaaa", sum := "a9fdef8f64ec8f6612158c66c1741ee30b534c9a4d88c985b9c00d0177b66ac8", func := "loop.example/g01165/laws.FnExactSumElements", spec := "fnExactSumElements", unfollowed := true, recurses := true, apart := false, narrowed := true }
def FnExactSumElementsUptoSaid : Prop := fnExactSumElementsUptoRow.holds Try.pinned (OpenSpec.upto fnExactSumElementsSpec)

end Rows
end Go.Proofs.Ytheakjbbfdcbaaa
