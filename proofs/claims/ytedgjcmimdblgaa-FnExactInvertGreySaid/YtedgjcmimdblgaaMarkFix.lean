/- Marks over slices of slices of numbers: what does not turn behind them, above as below. -/
import Derived.Test.YtedgjcmimdblgaaLawKit2
import Derived.Test.YtedgjcmimdblgaaLawGrey
set_option linter.unusedVariables false
set_option linter.unusedSimpArgs false
namespace Go.Proofs.Ytedgjcmimdblgaa
open Go.RowKit

/-- Blocks from hi on have not turned. -/
def Fix (hi : Nat) (w w' : World) : Prop := ∀ k, hi ≤ k → k < w.heap.size → w'.heap[k]? = w.heap[k]?
theorem Fix.refl (hi : Nat) (w : World) : Fix hi w w := fun _ _ _ => rfl
theorem Fix.grown {hi : Nat} {w a b : World} {r : Option Nat} (h : Fix hi w a) (hs : w.heap.size ≤ a.heap.size) (hg : a.grownBy b r) (hr : ∀ k, r = some k → k < hi) : Fix hi w b := fun k h1 h2 =>
  (hg.block k (Nat.lt_of_lt_of_le h2 hs) (fun e => by have := hr k e.symm; omega)).trans (h k h1 h2)
theorem Fix.alloc {hi : Nat} {w b : World} {o : Obj} (h : Fix hi (w.alloc o) b) : Fix hi w b := fun k h1 h2 =>
  (h k h1 (by rw [World.size_alloc]; omega)).trans (Below.heap_alloc w o k h2)
theorem Blk.fix {hi : Nat} {w w' : World} {b : Nat} {cs : Array Value} {t : TypeId} (h : Blk w b cs t) (hf : Fix hi w w') (hb : hi ≤ b) : Blk w' b cs t := (hf b hb (Array.getElem?_eq_some_iff.1 h).1).trans h
theorem Box.fix {hi : Nat} {w w' : World} {b : Nat} {v : Value} {t : TypeId} (h : Box w b v t) (hf : Fix hi w w') (hb : hi ≤ b) : Box w' b v t := (hf b hb h.lt).trans h
theorem own_fix {hi : Nat} {w w' : World} {base : Nat} {e : TypeId} {size : Nat} {v : Value} {n : Nat} {xs : List Value} (h : w.ownsRow base e size v n xs) (hf : Fix hi w w') (hb : hi ≤ base) : w'.ownsRow base e size v n xs := by
  refine ⟨h.1, ?_⟩
  rcases h.2 with h0 | ⟨g, cap, cur, hv, hbg, hg, rest⟩
  · exact .inl h0
  · exact .inr ⟨g, cap, cur, hv, hbg, (hf g (by omega) (Array.getElem?_eq_some_iff.1 hg).1).trans hg, rest⟩
theorem OwnSSI.fix {hi lo up : Nat} {w w' : World} {v : Value} {L : List (List Int)} (h : OwnSSI lo up w v L) (hf : Fix hi w w') (hb : hi ≤ lo) : OwnSSI lo up w' v L := by
  obtain ⟨vs, h, h1, h2⟩ := h
  obtain ⟨p, c, hv, ho⟩ := h.own
  refine ⟨vs, ⟨⟨p, c, hv, own_fix ho hf hb⟩, fun i hi => ?_, h.apart, h.apart0⟩, h1, h2⟩
  obtain ⟨p', c', hv', ho'⟩ := h.inner i hi
  exact ⟨p', c', hv', own_fix ho' hf hb⟩
/-- The rows of an argument: they lie below block B. -/
def ArgSS (B : Nat) (w : World) (p : Option Addr) (L : List (List Int)) : Prop :=
  ∃ vs : Nat → Value, ArgRd B w p L.length vs ∧ ∀ i, i < L.length → ∃ q d, vs i = .slice q (L.getD i []).length d ∧ ArgRd B w q (L.getD i []).length (intAt (L.getD i []))
theorem ArgSS.of {w : World} {p : Option Addr} {L : List (List Int)} (h : RdSS w p L) : ArgSS w.heap.size w p L := by
  obtain ⟨vs, h1, h2⟩ := h
  refine ⟨vs, ArgRd.of_rd h1, fun i hi => ?_⟩
  obtain ⟨q, d, e, hr⟩ := h2 i hi
  exact ⟨q, d, e, ArgRd.of_rd hr⟩
theorem ArgSS.rd {B : Nat} {w : World} {p : Option Addr} {L : List (List Int)} (h : ArgSS B w p L) : RdSS w p L := by
  obtain ⟨vs, h1, h2⟩ := h
  refine ⟨vs, h1.rd, fun i hi => ?_⟩
  obtain ⟨q, d, e, hr⟩ := h2 i hi
  exact ⟨q, d, e, hr.rd⟩
theorem ArgSS.bl {B : Nat} {w w' : World} {p : Option Addr} {L : List (List Int)} (h : ArgSS B w p L) (hb : Below w.heap.size w w') : ArgSS B w' p L := by
  obtain ⟨vs, h1, h2⟩ := h
  refine ⟨vs, h1.bl hb, fun i hi => ?_⟩
  obtain ⟨q, d, e, hr⟩ := h2 i hi
  exact ⟨q, d, e, hr.bl hb⟩
theorem ArgSS.under {B : Nat} {w w' : World} {p : Option Addr} {L : List (List Int)} (h : ArgSS B w p L) {B' : Nat} (hb : Below B' w w') (hB : B ≤ B') : ArgSS B w' p L := by
  obtain ⟨vs, h1, h2⟩ := h
  refine ⟨vs, h1.under hb hB, fun i hi => ?_⟩
  obtain ⟨q, d, e, hr⟩ := h2 i hi
  exact ⟨q, d, e, hr.under hb hB⟩
theorem OwnSSI.cell {lo up : Nat} {w : World} {p : Option Addr} {n c : Nat} {L : List (List Int)} (h : OwnSSI lo up w (.slice p n c) L) : n = L.length := by
  obtain ⟨q, d, e⟩ := h.form
  simp only [Value.slice.injEq] at e
  exact e.2.1
/-- While the rows are marked, with what stays above. -/
structure MarkF (lo hi : Nat) (w : World) (p : Option Addr) (L : List (List Int)) (vs : Nat → Value) (j : Nat) (wr : World) : Prop where
  mrk : Marking lo w p L vs j wr
  fix : Fix hi w wr
set_option maxRecDepth 100000 in
set_option maxHeartbeats 2000000 in
theorem markInt64SS_f {lo hi : Nat} {w : World} {p : Option Addr} {c : Nat} {L : List (List Int)} (h : OwnSSI lo hi w (.slice p L.length c) L) (hn : L.length ≤ 1048576) (hm : lenTo L L.length ≤ 1048576) (hlo : lo ≤ w.heap.size) :
    Calls Try.prog 25 #[.slice p L.length c, .int .i64 1] w fun e w' => e = .returned (.int .i64 ((1 + lenTo L L.length : Nat) : Int)) ∧ MarkSS w' p L ∧ Below lo w w' ∧ Fix hi w w' := by
  obtain ⟨vs, h, _, hup⟩ := h
  have J0 : MarkF lo hi w p L vs 0 w := ⟨⟨h.rd, fun i hi => absurd hi (Nat.not_lt_zero _), fun i _ hi => h.inner i hi, Below.refl _ _⟩, Fix.refl _ _⟩
  go_enter Try.func25, Try.ntmps25
  go_wp2
  go_loopw [1, 5] (fun kk i wr => ∃ j : Nat, j ≤ L.length ∧ i = .int .i64 j ∧ kk = .int .i64 ((1 + lenTo L j : Nat) : Int) ∧ MarkF lo hi w p L vs j wr) (fun _ i _ => L.length - (intOf i).toNat)
  case atStart => exact ⟨0, Nat.zero_le _, rfl, by simp [lenTo], J0⟩
  case round =>
    clear J0
    obtain ⟨j, hj, rfl, rfl, J, F⟩ := hrel
    by_cases hlt : j < L.length
    · obtain ⟨b, o, hp, hb, hc⟩ := J.rd.at hlt
      have hcj := hc j hlt
      have hown := J.todo j (Nat.le_refl _) hlt
      obtain ⟨q, d, e⟩ := hown.form
      have hl1 := lenTo_succ L j hlt
      have hl2 := lenTo_le L (j + 1) hlt
      have hcall := markInt64S_own (w := wr) (by rw [← e]; exact hown) (by omega) (1 + lenTo L j) (by omega) (by omega)
      have hge := hown.ge
      rw [e] at hcj hge
      have HL := Lib.hid hl1
      have HE := Lib.hid e
      have hx : ((1 + lenTo L (j + 1) : Nat) : Int) = ((1 + lenTo L j + (L.getD j []).length : Nat) : Int) := by omega
      have HX := Lib.hid hx
      obtain ⟨n, en⟩ : ∃ n, (L.getD j []).length = n := ⟨_, rfl⟩
      rw [en] at hcj hcall hge
      have HN := Lib.hid en
      have Hcall := Lib.hid hcall; clear hcall
      clear hx e hown hl1 hc
      subst hp
      clear en
      generalize hkk : ((1 + lenTo L j : Nat) : Int) = kk at *
      go_wp2_with fail
      refine Hcall.out.mono ?_
      rintro e w1 ⟨rfl, hr1, hg1⟩
      go_wp2
      go_roundw
      case rel =>
        refine ⟨j + 1, by omega, by go_num, val_int (by rw [HX.out, HN.out]; omega), ?_⟩
        have hv := HE.out
        rw [HN.out] at hv
        refine ⟨⟨?_, ?_, ?_, ?_⟩, ?_⟩
        · refine J.rd.off hg1 (fun k hk n c hx => ?_)
          exact h.apart0 j hlt k (by rw [hv]; exact hk) ((ownBlock_slice _ _ _ _ _).trans hx)
        · intro i hi
          by_cases e' : i = j
          · subst e'
            exact ⟨q, d, by rw [HN.out]; exact hv, by rw [HN.out]; exact hr1⟩
          · obtain ⟨q', d', e1, r1⟩ := J.done i (by omega)
            refine ⟨q', d', e1, r1.off hg1 (fun k hk n c hx => ?_)⟩
            exact h.apart j i hlt (by omega) (by omega) k (by rw [hv]; exact hk) (by rw [e1]; exact (ownBlock_slice _ _ _ _ _).trans hx)
        · intro i hi hl
          refine (J.todo i (by omega) hl).grown hg1 (fun k hk e2 => ?_)
          exact h.apart i j hl hlt (by omega) k hk (by rw [hv]; exact e2.symm)
        · exact J.below.grown hg1 (Nat.le_trans hlo J.below.size) (fun k hk => (hge k hk).1)
        · exact F.grown J.below.size hg1 (fun k hk => hup j hlt k (by rw [hv]; exact hk))
      case measure => simp [intOf]; omega
    · obtain rfl : j = L.length := by omega
      go_wp2
      go_ret
      exact ⟨rfl, ⟨vs, J.rd, J.done⟩, J.below, F⟩
set_option maxHeartbeats 1000000 in
theorem markGrey_f {lo hi : Nat} {w : World} {p : Option Addr} {c : Nat} {L : List (List Int)} (h : OwnSSI lo hi w (.slice p L.length c) L) (hL : SSok L) (hlo : lo ≤ w.heap.size) :
    Calls Try.prog 12 #[.agg #[.slice p L.length c], .int .i64 1] w fun e w' => e = .returned (.int .i64 ((1 + lenTo L L.length : Nat) : Int)) ∧ MarkSS w' p L ∧ Below lo w w' ∧ Fix hi w w' := by
  have hy := bl_alloc w (.cells #[.slice p L.length c] 27)
  have B := (Box.new w (.slice p L.length c) 27).cell
  have c0 := markInt64SS_f (h.bl hy) hL.n hL.m (by rw [World.size_alloc]; omega)
  have hb0 := hy.mono hlo
  generalize 1 + lenTo L L.length = m at *
  have C0 := Lib.hid c0; clear c0
  clear h hL
  go_enter Try.func12, Try.ntmps12
  go_wp2_with fail
  with_reducible (refine C0.out.mono ?_)
  rintro e w1 ⟨rfl, hm, hb, hf⟩
  have hb2 := hb0.trans hb
  have hf2 := hf.alloc
  clear hb hf hb0 C0 B
  have Hm := Lib.hid hm; clear hm
  have Hb2 := Lib.hid hb2; clear hb2
  have Hf2 := Lib.hid hf2; clear hf2
  go_wp2
  go_ret
  exact ⟨rfl, Hm.out, Hb2.out, Hf2.out⟩
set_option maxHeartbeats 1000000 in
theorem heldGrey_f {w : World} {p : Option Addr} (c : Nat) {L : List (List Int)} (h : MarkSS w p L) (hL : SSok L) :
    Calls Try.prog 13 #[.agg #[.slice p L.length c], .int .i64 1] w fun e w' => e = .returned (.int .i64 ((1 + lenTo L L.length : Nat) : Int)) ∧ Below w.heap.size w w' := by
  have hy := bl_alloc w (.cells #[.slice p L.length c] 27)
  have B := (Box.new w (.slice p L.length c) 27).cell
  have c0 := heldInt64SS_g c (h.bl hy) hL.n hL.m
  have h0 : (0 : Int) ≤ ((1 + lenTo L L.length : Nat) : Int) := Int.natCast_nonneg _
  generalize hmm : ((1 + lenTo L L.length : Nat) : Int) = m at *
  have C0 := Lib.hid c0; clear c0
  have Hmm := Lib.hid hmm; clear hmm
  clear h hL
  go_enter Try.func13, Try.ntmps13
  go_wp2_with fail
  with_reducible (refine C0.out.mono ?_)
  rintro e w1 ⟨rfl, hb⟩
  have hb2 := bl_trans hy hb
  clear hb C0 B
  go_wp2
  go_ret
  exact ⟨rfl, hb2⟩
end Go.Proofs.Ytedgjcmimdblgaa
