/- What the laws' walks keep of results that are slices of slices of numbers. -/
import Derived.Test.YtedgjcmimdblgaaLawKit
import Derived.Test.YtedgjcmimdblgaaLawInts
set_option linter.unusedVariables false
namespace Go.Proofs.Ytedgjcmimdblgaa
open Go.RowKit

theorem ArgRd.under {B : Nat} {w w' : World} {p : Option Addr} {m : Nat} {f : Nat → Value} (h : ArgRd B w p m f) {B' : Nat} (hb : Below B' w w') (hB : B ≤ B') : ArgRd B w' p m f := by
  rcases h with h | ⟨b, o, hp, hlt, hc⟩
  · exact .inl h
  · exact .inr ⟨b, o, hp, hlt, fun i hi => (hb.cell (p := ⟨b, o + i, none⟩) (Nat.lt_of_lt_of_le hlt hB)).trans (hc i hi)⟩
theorem Copy.under {w w' : World} {g : Nat} {t : TypeId} {n : Nat} {f : Nat → Value} (h : Copy w g t n f) {B : Nat} (hb : Below B w w') (hB : g < B) : Copy w' g t n f := ⟨row_below h.row hb hB⟩
/-- A list of lists that is not too long. -/
structure SSok (L : List (List Int)) : Prop where
  n : L.length ≤ 1048576
  m : lenTo L L.length ≤ 1048576
  e : ∀ l ∈ L, l.length ≤ 1048576
theorem OwnSS.form {lo : Nat} {w : World} {v : Value} {L : List (List Int)} (h : OwnSS lo w v L) : ∃ p c, v = .slice p L.length c := by
  obtain ⟨vs, h⟩ := h
  exact h.form
theorem OwnSSI.grow {lo hi : Nat} {w w' : World} {v : Value} {L : List (List Int)} (h : OwnSSI lo hi w v L) {r : Option Nat} (hg : w.grownBy w' r) (hr : ∀ g, r = some g → g < lo ∨ hi ≤ g) : OwnSSI lo hi w' v L := by
  obtain ⟨vs, h, h1, h2⟩ := h
  refine ⟨vs, h.grown hg (fun k hk e => ?_) (fun i hi k hk e => ?_), h1, h2⟩
  · have := h1 k hk
    have := (h.lt k hk).1
    have := hr k e.symm
    omega
  · have := h2 i hi k hk
    have := ((h.inner i hi).ge k hk).1
    have := hr k e.symm
    omega
theorem eqInt64SS_g {p q : Option Addr} {c d : Nat} {L : List (List Int)} {w : World} (h : SSok L) (hr : RdSS w p L) (hq : RdSS w q L) :
    Calls Try.prog 18 #[.slice p L.length c, .slice q L.length d] w fun e w' => e = .returned (.bool true) ∧ Below w.heap.size w w' :=
  (eqInt64SS_same p q c d L w h.n h.e hr hq).mono fun e w' ⟨he, n, hw⟩ => ⟨he, hw ▸ bl_drewN _ _⟩
theorem markInt64SS_g {lo hi : Nat} {w : World} {p : Option Addr} {c : Nat} {L : List (List Int)} (h : OwnSSI lo hi w (.slice p L.length c) L) (hL : SSok L) (hlo : lo ≤ w.heap.size) :
    Calls Try.prog 25 #[.slice p L.length c, .int .i64 1] w fun e w' => e = .returned (.int .i64 (1 + (lenTo L L.length : Nat))) ∧ MarkSS w' p L ∧ Below lo w w' :=
  (markInt64SS_i h hL.n hL.m hlo).mono fun e w' ⟨he, hr⟩ => ⟨he.trans (ret_int (by omega)), hr⟩
theorem heldInt64SS_s {w : World} {p : Option Addr} {c : Nat} {L : List (List Int)} (h : MarkSS w p L) (hL : SSok L) :
    Calls Try.prog 26 #[.slice p L.length c, .int .i64 1] w fun e w' => e = .returned (.int .i64 (1 + (lenTo L L.length : Nat))) ∧ Below w.heap.size w w' :=
  (heldInt64SS_g c h hL.n hL.m).mono fun e w' ⟨he, hr⟩ => ⟨he.trans (ret_int (by omega)), hr⟩
end Go.Proofs.Ytedgjcmimdblgaa
