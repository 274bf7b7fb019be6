/- Contracts of the source of choices: what is picked lies within bounds. -/
import Derived.Test.YtnenogpagkepfaaMem
set_option linter.unusedVariables false
namespace Go.Proofs.Ytnenogpagkepfaa
open Go.RowKit

def byteAt (l : List Int) (i : Nat) : Value := .int .u8 (l.getD i 0)
/-- A source in block b: at most K reads so far. -/
structure Src (w : World) (b : Nat) (p : Option Addr) (c : Nat) (l : List Int) (K : Nat) : Prop where
  blk : ∃ (a : Nat) (s : Int), a ≤ K ∧ Blk w b #[.slice p l.length c, .int .i64 a, .int .u64 s] 135
  rd : Rd w p l.length (byteAt l)
  far : 0 < l.length → ∀ b' o, p = some ⟨b', o, none⟩ → b' < b
  bytes : ∀ x ∈ l, 0 ≤ x ∧ x ≤ 255
theorem Src.bl {w w' : World} {b : Nat} {p : Option Addr} {c : Nat} {l : List Int} {K : Nat} (h : Src w b p c l K) (hb : Below w.heap.size w w') : Src w' b p c l K := by
  obtain ⟨⟨a, s, h1, h2⟩, h3, h4, h5⟩ := h
  exact ⟨⟨a, s, h1, h2.bl hb⟩, h3.bl hb, h4, h5⟩
theorem Src.lt {w : World} {b : Nat} {p : Option Addr} {c : Nat} {l : List Int} {K : Nat} (h : Src w b p c l K) : b < w.heap.size := by
  obtain ⟨⟨a, s, h1, h2⟩, _⟩ := h
  exact h2.lt
theorem Src.more {w : World} {b : Nat} {p : Option Addr} {c : Nat} {l : List Int} {K K' : Nat} (h : Src w b p c l K) (hk : K ≤ K') : Src w b p c l K' := by
  obtain ⟨⟨a, s, h1, h2⟩, h3, h4, h5⟩ := h
  exact ⟨⟨a, s, by omega, h2⟩, h3, h4, h5⟩
theorem Src.under {w w' : World} {b : Nat} {p : Option Addr} {c : Nat} {l : List Int} {K : Nat} (h : Src w b p c l K) {B : Nat} (hb : Below B w w') (hB : b < B) : Src w' b p c l K := by
  obtain ⟨⟨a, s, h1, h2⟩, h3, h4, h5⟩ := h
  refine ⟨⟨a, s, h1, (hb.block b hB).trans h2⟩, ?_, h4, h5⟩
  rcases h3 with h0 | ⟨b', o, e, hc⟩
  · exact .inl h0
  · by_cases h0 : 0 < l.length
    · exact .inr ⟨b', o, e, fun i hi => (hb.cell (p := ⟨b', o + i, none⟩) (Nat.lt_trans (h4 h0 b' o e) hB)).trans (hc i hi)⟩
    · exact .inl (by omega)
theorem Src.grow {w w' : World} {b : Nat} {p : Option Addr} {c : Nat} {l : List Int} {K : Nat} (h : Src w b p c l K) {r : Option Nat} (hg : w.grownBy w' r) (hr : ∀ k, r = some k → b < k) : Src w' b p c l K := by
  refine h.under (B := b + 1) ?_ (Nat.lt_succ_self b)
  exact (Below.refl _ _).grown hg (by have := h.lt; omega) (fun k e => hr k e)
theorem Blk.two12 {w : World} {b : Nat} {u v r : Value} {t : TypeId} (h : Blk w b #[u, v, r] t) (x y : Value) : Blk ((w.setCell ⟨b, 1, none⟩ x).setCell ⟨b, 2, none⟩ y) b #[u, x, y] t := (h.set 1 x).set 2 y
theorem and255 (z : Int) : ∃ r : Nat, r ≤ 255 ∧ wrap64 (Go.bits .and .u64 z 255) = (r : Int) ∧ IntKind.i64.wrap (Go.bits .and .u64 z 255) = (r : Int) := by
  have hle : (BitVec.ofInt 64 z &&& BitVec.ofInt 64 255).toNat ≤ 255 := by
    rw [BitVec.toNat_and]
    exact Nat.le_trans Nat.and_le_right (by decide)
  refine ⟨(BitVec.ofInt 64 z &&& BitVec.ofInt 64 255).toNat, hle, ?_, ?_⟩
  all_goals
    have e : Go.bits .and .u64 z 255 = ((BitVec.ofInt 64 z &&& BitVec.ofInt 64 255).toNat : Int) := by
      show IntKind.u64.wrap _ = _
      rw [IntKind.wrap_u64]
      show (((BitVec.ofInt 64 z &&& BitVec.ofInt 64 255).toNat : Int)) % _ = _
      omega
    rw [e]
    generalize (BitVec.ofInt 64 z &&& BitVec.ofInt 64 255).toNat = m at *
    first | exact IntWalk.i64_in (m : Int) (by omega) | exact IntWalk.wrap64_in (m : Int) (by omega)
/-- What a read leaves. -/
theorem Src.read {w w1 : World} {b c : Nat} {p : Option Addr} {l : List Int} {K a : Nat} {s : Int} (hb1 : Below w.heap.size w w1) (B : Blk w b #[.slice p l.length c, .int .i64 a, .int .u64 s] 135) (ha : a ≤ K) (hr : Rd w p l.length (byteAt l)) (hf : 0 < l.length → ∀ b' o, p = some ⟨b', o, none⟩ → b' < b) (hby : ∀ x ∈ l, 0 ≤ x ∧ x ≤ 255) (a' : Int) (hea : a' = (a : Int) + 1) (s' : Int) (n : Nat) :
    Src (((w1.setCell ⟨b, 1, none⟩ (.int .i64 a')).setCell ⟨b, 2, none⟩ (.int .u64 s')).drewN n) b p c l (K + 1) ∧ w.grownBy (((w1.setCell ⟨b, 1, none⟩ (.int .i64 a')).setCell ⟨b, 2, none⟩ (.int .u64 s')).drewN n) (some b) := by
  have hg : w.grownBy (((w1.setCell ⟨b, 1, none⟩ (.int .i64 a')).setCell ⟨b, 2, none⟩ (.int .u64 s')).drewN n) (some b) :=
    grown_below (grown_setCell (grown_setCell (grown_below (grown_refl w _) hb1 (Nat.le_refl _)) _ _) _ _) (bl_drewN _ n) (by have := hb1.size; simpa using this)
  refine ⟨⟨⟨a + 1, s', by omega, ?_⟩, ?_, hf, hby⟩, hg⟩
  · have := ((B.bl hb1).two12 (.int .i64 a') (.int .u64 s')).bl (bl_drewN _ n)
    rw [hea] at this
    rw [hea, show ((a + 1 : Nat) : Int) = (a : Int) + 1 by omega]
    exact this
  · by_cases h0 : 0 < l.length
    · exact hr.grown hg (by intro b' o e h; cases h; exact Nat.lt_irrefl _ (hf h0 _ _ e))
    · exact .inl (by omega)
set_option maxHeartbeats 4000000 in
theorem next_any (b : Nat) (p : Option Addr) (c : Nat) (l : List Int) (K : Nat) (w : World) (hK : K ≤ 1000000) (hl : l.length ≤ 1048576) (h : Src w b p c l K) :
    Calls Try.prog 116 #[.pointer (some ⟨b, 0, none⟩)] w fun e w' => ∃ r : Nat, r ≤ 255 ∧ e = .returned (.int .i64 r) ∧ Src w' b p c l (K + 1) ∧ w.grownBy w' (some b) := by
  obtain ⟨⟨a, s, ha, B⟩, hr, hf, hby⟩ := h
  have hread := fun w1 (h : Below w.heap.size w w1) => Src.read h B ha hr hf hby
  have c0 := B.cell 0 rfl
  have c1 := B.cell 1 rfl
  have c2 := B.cell 2 rfl
  have f1 := B.frozen 1
  have f2 := B.frozen 2
  by_cases hlt : a < l.length
  · obtain ⟨pb, po, rfl, hb, hc⟩ := hr.at hlt
    have c3 := hc a hlt
    have hv := hby (l.getD a 0) (by simp [List.getD, List.getElem?_eq_getElem hlt])
    unfold byteAt at c3
    generalize l.getD a 0 = v at *
    have hpb : pb ≠ b := Nat.ne_of_lt (hf (by omega) pb po rfl)
    obtain ⟨v, rfl⟩ := Int.eq_ofNat_of_zero_le hv.1
    obtain ⟨hv0, hv1⟩ := hv
    have ha0 : (0 : Int) ≤ (a : Int) := Int.natCast_nonneg _
    have ha1 : (a : Int) < (l.length : Int) := by omega
    have Hr := Lib.hid hr; clear hr
    have Hby := Lib.hid hby; clear hby
    have Hf := Lib.hid hf; clear hf
    have Hc := Lib.hid hc; clear hc
    have Hread := Lib.hid hread; clear hread
    go_enter Try.func116, Try.ntmps116
    go_wp2
    go_quiet (fail)
    go_wp2
    go_quiet (fail)
    go_wp2
    go_quiet (fail)
    go_wp2
    go_ret
    have h9 := fun n1 n2 s' => Hread.out (w.drewN n1) (bl_drewN w n1) ((a : Int) + 1) rfl s' n2
    exact ⟨v, by omega, rfl, h9 _ _ _⟩
  · have Hread := Lib.hid hread; clear hread
    have Hby := Lib.hid hby; clear hby
    have Hf := Lib.hid hf; clear hf
    have Hr := Lib.hid hr; clear hr
    go_enter Try.func116, Try.ntmps116
    go_wp2
    go_quiet (fail)
    go_wp2
    go_quiet (fail)
    go_wp2
    go_ret
    have h9 := fun n1 n2 s' => Hread.out (w.drewN n1) (bl_drewN w n1) ((a : Int) + 1) rfl s' n2
    obtain ⟨r, hr1, hr2, hr3⟩ := and255 (IntKind.u64.wrap (IntKind.u64.wrap (IntKind.u64.wrap (s * 6364136223846793005)) + 1442695040888963407) / 1099511627776)
    exact ⟨r, hr1, ret_int hr2, h9 _ _ _⟩
set_option maxHeartbeats 4000000 in
theorem pick_any (n : Int) (b : Nat) (p : Option Addr) (c : Nat) (l : List Int) (K : Nat) (w : World) (hK : K ≤ 999990) (hl : l.length ≤ 1048576) (hn : n ≤ 60000) (h : Src w b p c l K) :
    Calls Try.prog 110 #[.pointer (some ⟨b, 0, none⟩), .int .i64 n] w fun e w' => ∃ r : Nat, (n ≤ 1 → r = 0) ∧ (1 ≤ n → (r : Int) < n) ∧ e = .returned (.int .i64 r) ∧ Src w' b p c l (K + 2) ∧ w.grownBy w' (some b) := by
  by_cases h1 : n ≤ 1
  · have H := Lib.hid h; clear h
    go_enter Try.func110, Try.ntmps110
    go_wp2
    go_ret
    exact ⟨0, fun _ => rfl, fun _ => by omega, rfl, H.out.more (by omega), grown_refl _ _⟩
  · obtain ⟨N, rfl⟩ := Int.eq_ofNat_of_zero_le (show 0 ≤ n by omega)
    have cn := next_any b p c l K w (by omega) hl h
    have Cn := Lib.hid cn; clear cn
    have H := Lib.hid h; clear h
    go_enter Try.func110, Try.ntmps110
    go_wp2_with fail
    refine Cn.out.mono ?_
    rintro e w1 ⟨r1, hr1, rfl, h', hg⟩
    have hN0 : (N : Int) ≠ 0 := by omega
    have cm := next_any b p c l (K + 1) w1 (by omega) hl h'
    have Cm := Lib.hid cm; clear cm
    have H' := Lib.hid h'; clear h'
    clear Cn H
    by_cases h2 : (N : Int) ≤ 200
    · have hm : Int.tmod (r1 : Int) (N : Int) = ((r1 % N : Nat) : Int) := by rw [Int.ofNat_tmod]
      have hlt := Nat.mod_lt r1 (show 0 < N by omega)
      go_wp2
      go_ret
      exact ⟨r1 % N, fun _ => by omega, fun _ => by omega, ret_int (by first | exact hm | rfl | omega), H'.out.more (by omega), hg⟩
    · go_wp2_with fail
      refine Cm.out.mono ?_
      rintro e w2 ⟨r2, hr2, rfl, h3, hg2⟩
      have hm : Int.tmod ((r1 : Int) * 256 + (r2 : Int)) (N : Int) = (((r1 * 256 + r2) % N : Nat) : Int) := by rw [Int.natCast_emod, Int.tmod_eq_emod_of_nonneg (by omega)]; simp
      have hlt := Nat.mod_lt (r1 * 256 + r2) (show 0 < N by omega)
      go_wp2
      go_ret
      exact ⟨(r1 * 256 + r2) % N, fun _ => by omega, fun _ => by omega, ret_int (by first | exact hm | rfl | omega), h3, grown_trans hg hg2⟩
set_option maxHeartbeats 4000000 in
theorem one_any (n : Int) (b : Nat) (p : Option Addr) (c : Nat) (l : List Int) (K : Nat) (w : World) (hK : K ≤ 999990) (hl : l.length ≤ 1048576) (hn : n ≤ 60000) (h : Src w b p c l K) :
    Calls Try.prog 108 #[.pointer (some ⟨b, 0, none⟩), .int .i64 n] w fun e w' => ∃ r : Bool, e = .returned (.bool r) ∧ Src w' b p c l (K + 2) ∧ w.grownBy w' (some b) := by
  have cn := pick_any n b p c l K w hK hl hn h
  have Cn := Lib.hid cn; clear cn
  have H := Lib.hid h; clear h
  go_enter Try.func108, Try.ntmps108
  go_wp2_with fail
  refine Cn.out.mono ?_
  rintro e w1 ⟨r1, hr1, hr2, rfl, h', hg⟩
  go_wp2
  all_goals
    go_ret
    exact ⟨_, rfl, h', hg⟩
set_option maxHeartbeats 4000000 in
theorem from_any (p : Option Addr) (c : Nat) (l : List Int) (w : World) (hr : Rd w p l.length (byteAt l)) (hby : ∀ x ∈ l, 0 ≤ x ∧ x ≤ 255) (hl : l.length ≤ 1048576) :
    Calls Try.prog 84 #[.slice p l.length c] w fun e w' => e = .returned (.pointer (some ⟨w.heap.size, 0, none⟩)) ∧ Src w' w.heap.size p c l 0 ∧ Below w.heap.size w w' ∧ w.heap.size < w'.heap.size := by
  have hsrc : Src (w.alloc (.cells #[.slice p l.length c, .int .i64 0, .int .u64 0] 135)) w.heap.size p c l 0 := by
    refine ⟨⟨0, 0, Nat.le_refl _, Blk.new _ _ _⟩, hr.alloc _, ?_, hby⟩
    intro h0 b' o e
    obtain ⟨b2, o2, e2, h2, _⟩ := hr.at h0
    rw [e] at e2
    cases e2
    omega
  have hlt := hsrc.lt
  have Hsrc := Lib.hid hsrc; clear hsrc
  go_enter Try.func84, Try.ntmps84
  go_wp2
  go_ret
  exact ⟨rfl, Hsrc.out, bl_alloc _ _, hlt⟩
end Go.Proofs.Ytnenogpagkepfaa
