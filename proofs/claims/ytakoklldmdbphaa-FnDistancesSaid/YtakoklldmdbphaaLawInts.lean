/- Contracts of the laws' marks over slices of slices of numbers; what the laws' walks keep of such results. -/
import Derived.Test.YtakoklldmdbphaaInts
set_option linter.unusedVariables false
namespace Go.Proofs.Ytakoklldmdbphaa
open Go.RowKit

theorem own_under {w w' : World} {base : Nat} {e : TypeId} {size : Nat} {v : Value} {n : Nat} {xs : List Value} (h : w.ownsRow base e size v n xs) {B : Nat} (hb : Below B w w') (hk : ∀ k, v.ownBlock = some k → k < B) : w'.ownsRow base e size v n xs := by
  refine ⟨h.1, ?_⟩
  rcases h.2 with h0 | ⟨g, cap, cur, hv, hbg, hg, rest⟩
  · exact .inl h0
  · exact .inr ⟨g, cap, cur, hv, hbg, (hb.block g (hk g (by rw [hv]; rfl))).trans hg, rest⟩
theorem OwnInts.under {b : Nat} {w w' : World} {v : Value} {l : List Int} (h : OwnInts b w v l) {B : Nat} (hb : Below B w w') (hk : ∀ k, v.ownBlock = some k → k < B) : OwnInts b w' v l := by
  obtain ⟨p, c, hv, ho⟩ := h
  exact ⟨p, c, hv, own_under ho hb hk⟩
theorem Since.under {w a b : World} (h : Since w a) {B : Nat} (hb : Below B a b) (hB : w.heap.size ≤ B) : Since w b := ⟨h.below.trans (hb.mono hB)⟩
theorem Blk.under {w w' : World} {b : Nat} {cs : Array Value} {t : TypeId} (h : Blk w b cs t) {B : Nat} (hb : Below B w w') (hB : b < B) : Blk w' b cs t := (hb.block b hB).trans h

/-- Slices of slices of the call's own, in the blocks from lo to hi. -/
def OwnSSI (lo hi : Nat) (w : World) (v : Value) (L : List (List Int)) : Prop :=
  ∃ vs, OwnIntss lo w v L vs ∧ (∀ k, v.ownBlock = some k → k < hi) ∧ ∀ i, i < L.length → ∀ k, (vs i).ownBlock = some k → k < hi
theorem OwnSS.cap {lo : Nat} {w : World} {v : Value} {L : List (List Int)} (h : OwnSS lo w v L) : OwnSSI lo w.heap.size w v L := by
  obtain ⟨vs, h⟩ := h
  exact ⟨vs, h, fun k hk => (h.lt k hk).2, fun i hi k hk => ((h.inner i hi).ge k hk).2⟩
theorem OwnSSI.under {lo hi : Nat} {w w' : World} {v : Value} {L : List (List Int)} (h : OwnSSI lo hi w v L) {B : Nat} (hb : Below B w w') (hB : hi ≤ B) : OwnSSI lo hi w' v L := by
  obtain ⟨vs, h, h1, h2⟩ := h
  obtain ⟨p, c, hv, ho⟩ := h.own
  exact ⟨vs, ⟨⟨p, c, hv, own_under ho hb (fun k hk => Nat.lt_of_lt_of_le (h1 k hk) hB)⟩, fun i hi => (h.inner i hi).under hb (fun k hk => Nat.lt_of_lt_of_le (h2 i hi k hk) hB), h.apart, h.apart0⟩, h1, h2⟩
theorem OwnSSI.bl {lo hi : Nat} {w w' : World} {v : Value} {L : List (List Int)} (h : OwnSSI lo hi w v L) (hb : Below w.heap.size w w') : OwnSSI lo hi w' v L := by
  obtain ⟨vs, h, h1, h2⟩ := h
  exact ⟨vs, h.bl hb, h1, h2⟩
theorem OwnSSI.form {lo hi : Nat} {w : World} {v : Value} {L : List (List Int)} (h : OwnSSI lo hi w v L) : ∃ p c, v = .slice p L.length c := by
  obtain ⟨vs, h, _⟩ := h
  exact h.form
theorem OwnSSI.rd {lo hi : Nat} {w : World} {p : Option Addr} {n c : Nat} {L : List (List Int)} (h : OwnSSI lo hi w (.slice p n c) L) : RdSS w p L := by
  obtain ⟨vs, h, _⟩ := h
  exact h.rds

/-- How many numbers the first i lists have. -/
def lenTo (L : List (List Int)) (i : Nat) : Nat := ((L.take i).map List.length).sum
theorem lenTo_succ (L : List (List Int)) (i : Nat) (h : i < L.length) : lenTo L (i + 1) = lenTo L i + (L.getD i []).length := by
  unfold lenTo
  rw [List.take_succ_eq_append_getElem h, List.map_append, List.sum_append]
  simp [List.getD, List.getElem?_eq_getElem h]
theorem lenTo_le (L : List (List Int)) (i : Nat) (h : i ≤ L.length) : lenTo L i ≤ lenTo L L.length := by
  induction hd : L.length - i generalizing i with
  | zero => rw [show i = L.length by omega]; exact Nat.le_refl _
  | succ n ih =>
    have := ih (i + 1) (by omega) (by omega)
    rw [lenTo_succ L i (by omega)] at this
    omega

/-- The marks of the rows, kept. -/
def MarkSS (w : World) (p : Option Addr) (L : List (List Int)) : Prop :=
  ∃ vs : Nat → Value, Rd w p L.length vs ∧ ∀ i, i < L.length → ∃ q d, vs i = .slice q (L.getD i []).length d ∧ Rd w q (L.getD i []).length (numAt (1 + lenTo L i))
theorem MarkSS.bl {w w' : World} {p : Option Addr} {L : List (List Int)} (h : MarkSS w p L) (hb : Below w.heap.size w w') : MarkSS w' p L := by
  obtain ⟨vs, h1, h2⟩ := h
  refine ⟨vs, h1.bl hb, fun i hi => ?_⟩
  obtain ⟨q, d, e, hr⟩ := h2 i hi
  exact ⟨q, d, e, hr.bl hb⟩

/-- While the rows are marked: those before j bear their marks, the others are as they were. -/
structure Marking (lo : Nat) (w : World) (p : Option Addr) (L : List (List Int)) (vs : Nat → Value) (j : Nat) (wr : World) : Prop where
  rd : Rd wr p L.length vs
  done : ∀ i, i < j → ∃ q d, vs i = .slice q (L.getD i []).length d ∧ Rd wr q (L.getD i []).length (numAt (1 + lenTo L i))
  todo : ∀ i, j ≤ i → i < L.length → OwnInts lo wr (vs i) (L.getD i [])
  below : Below lo w wr
theorem ownBlock_slice (p : Option Addr) (n c n' c' : Nat) : (Value.slice p n c).ownBlock = (Value.slice p n' c').ownBlock := by cases p <;> rfl
theorem Rd.off {w w' : World} {p : Option Addr} {m : Nat} {f : Nat → Value} (h : Rd w p m f) {r : Option Nat} (hg : w.grownBy w' r) (hr : ∀ k, r = some k → ∀ n c, (Value.slice p n c).ownBlock ≠ some k) : Rd w' p m f :=
  h.grown hg (fun b o hp e => by
    subst hp
    exact hr b e.symm 0 0 rfl)
set_option maxRecDepth 100000 in
set_option maxHeartbeats 2000000 in
theorem markInt64SS_i {lo hi : Nat} {w : World} {p : Option Addr} {c : Nat} {L : List (List Int)} (h : OwnSSI lo hi w (.slice p L.length c) L) (hn : L.length ≤ 1048576) (hm : lenTo L L.length ≤ 1048576) (hlo : lo ≤ w.heap.size) :
    Calls Try.prog 31 #[.slice p L.length c, .int .i64 1] w fun e w' => e = .returned (.int .i64 ((1 + lenTo L L.length : Nat) : Int)) ∧ MarkSS w' p L ∧ Below lo w w' := by
  obtain ⟨vs, h, _, _⟩ := h
  have J0 : Marking lo w p L vs 0 w := ⟨h.rd, fun i hi => absurd hi (Nat.not_lt_zero _), fun i _ hi => h.inner i hi, Below.refl _ _⟩
  go_enter Try.func31, Try.ntmps31
  go_wp2
  go_loopw [1, 5] (fun kk i wr => ∃ j : Nat, j ≤ L.length ∧ i = .int .i64 j ∧ kk = .int .i64 ((1 + lenTo L j : Nat) : Int) ∧ Marking lo w p L vs j wr) (fun _ i _ => L.length - (intOf i).toNat)
  case atStart => exact ⟨0, Nat.zero_le _, rfl, by simp [lenTo], J0⟩
  case round =>
    clear J0
    obtain ⟨j, hj, rfl, rfl, J⟩ := hrel
    by_cases hlt : j < L.length
    · obtain ⟨b, o, hp, hb, hc⟩ := J.rd.at hlt
      have hcj := hc j hlt
      have hown := J.todo j (Nat.le_refl _) hlt
      obtain ⟨q, d, e⟩ := hown.form
      have hl1 := lenTo_succ L j hlt
      have hl2 := lenTo_le L (j + 1) hlt
      have hcall := markInt64S_own (w := wr) (by rw [← e]; exact hown) (by omega) (1 + lenTo L j) (by omega) (by omega)
      have hge := hown.ge
      rw [e] at hcj hge
      have HL := Lib.hid hl1
      have HE := Lib.hid e
      have hx : ((1 + lenTo L (j + 1) : Nat) : Int) = ((1 + lenTo L j + (L.getD j []).length : Nat) : Int) := by omega
      have HX := Lib.hid hx
      obtain ⟨n, en⟩ : ∃ n, (L.getD j []).length = n := ⟨_, rfl⟩
      rw [en] at hcj hcall hge
      have HN := Lib.hid en
      have Hcall := Lib.hid hcall; clear hcall
      clear hx e hown hl1 hc
      subst hp
      clear en
      generalize hkk : ((1 + lenTo L j : Nat) : Int) = kk at *
      go_wp2_with fail
      refine Hcall.out.mono ?_
      rintro e w1 ⟨rfl, hr1, hg1⟩
      go_wp2
      go_roundw
      case rel =>
        refine ⟨j + 1, by omega, by go_num, val_int (by rw [HX.out, HN.out]; omega), ?_⟩
        have hv := HE.out
        rw [HN.out] at hv
        refine ⟨?_, ?_, ?_, ?_⟩
        · refine J.rd.off hg1 (fun k hk n c hx => ?_)
          exact h.apart0 j hlt k (by rw [hv]; exact hk) ((ownBlock_slice _ _ _ _ _).trans hx)
        · intro i hi
          by_cases e' : i = j
          · subst e'
            exact ⟨q, d, by rw [HN.out]; exact hv, by rw [HN.out]; exact hr1⟩
          · obtain ⟨q', d', e1, r1⟩ := J.done i (by omega)
            refine ⟨q', d', e1, r1.off hg1 (fun k hk n c hx => ?_)⟩
            exact h.apart j i hlt (by omega) (by omega) k (by rw [hv]; exact hk) (by rw [e1]; exact (ownBlock_slice _ _ _ _ _).trans hx)
        · intro i hi hl
          refine (J.todo i (by omega) hl).grown hg1 (fun k hk e2 => ?_)
          exact h.apart i j hl hlt (by omega) k hk (by rw [hv]; exact e2.symm)
        · exact J.below.grown hg1 (Nat.le_trans hlo J.below.size) (fun k hk => (hge k hk).1)
      case measure => simp [intOf]; omega
    · obtain rfl : j = L.length := by omega
      go_wp2
      go_ret
      exact ⟨rfl, ⟨vs, J.rd, J.done⟩, J.below⟩
set_option maxRecDepth 100000 in
set_option maxHeartbeats 2000000 in
theorem heldInt64SS_g {w : World} {p : Option Addr} {L : List (List Int)} (c : Nat) (h : MarkSS w p L) (hn : L.length ≤ 1048576) (hm : lenTo L L.length ≤ 1048576) :
    Calls Try.prog 32 #[.slice p L.length c, .int .i64 1] w fun e w' => e = .returned (.int .i64 ((1 + lenTo L L.length : Nat) : Int)) ∧ Below w.heap.size w w' := by
  obtain ⟨vs, h1, h2⟩ := h
  go_enter Try.func32, Try.ntmps32
  go_wp2
  go_loop [1, 5] (fun kk i => ∃ j : Nat, j ≤ L.length ∧ i = .int .i64 j ∧ kk = .int .i64 ((1 + lenTo L j : Nat) : Int)) (fun _ i => L.length - (intOf i).toNat)
  case atStart => exact ⟨0, Nat.zero_le _, rfl, by simp [lenTo]⟩
  case round =>
    obtain ⟨j, hj, rfl, rfl⟩ := hrel
    by_cases hlt : j < L.length
    · obtain ⟨b, o, rfl, hb, hc⟩ := h1.at hlt
      have hcj := hc j hlt
      obtain ⟨q, d, e, hr⟩ := h2 j hlt
      have hl1 := lenTo_succ L j hlt
      have hl2 := lenTo_le L (j + 1) hlt
      have hcall := heldInt64S_any q (L.getD j []).length d (1 + lenTo L j) w (by omega) (by omega) (by omega) hr
      rw [e] at hcj
      have hx : ((1 + lenTo L (j + 1) : Nat) : Int) = ((1 + lenTo L j + (L.getD j []).length : Nat) : Int) := by omega
      have HX := Lib.hid hx
      have hnn : (0 : Int) ≤ ((1 + lenTo L j + (L.getD j []).length : Nat) : Int) := Int.natCast_nonneg _
      rw [← hx] at hcall hnn
      obtain ⟨n, en⟩ : ∃ n, (L.getD j []).length = n := ⟨_, rfl⟩
      rw [en] at hcj hcall
      have Hcall := Lib.hid hcall; clear hcall
      have En := Lib.hid en; clear en
      clear hx e hl1 hc hr h1 h2
      generalize hkk : ((1 + lenTo L j : Nat) : Int) = kk at *
      generalize hk2 : ((1 + lenTo L (j + 1) : Nat) : Int) = k2 at *
      have Hkk := Lib.hid hkk; clear hkk
      have Hk2 := Lib.hid hk2; clear hk2
      go_wp2_with fail
      refine Hcall.out.mono ?_
      rintro e w1 ⟨rfl, rfl⟩
      go_wp2
      go_round
      case rel => exact ⟨j + 1, by omega, by go_num, by rw [Hk2.out]⟩
      case measure => simp [intOf]; omega
    · obtain rfl : j = L.length := by omega
      go_wp2
      go_ret
      exact ⟨rfl, Below.refl _ _⟩
end Go.Proofs.Ytakoklldmdbphaa
