/- Contracts of the signed area of a border, the reference's and the program's. -/
import Derived.Test.YtjplikkehhpomaaBdI3
import Derived.Test.YtjplikkehhpomaaLawBd
set_option linter.unusedVariables false
set_option linter.unusedSimpArgs false
namespace Go.Proofs.Ytjplikkehhpomaa
open Go.RowKit

theorem Bd.corner_at {x y : Int} {s : ByteArray} (h : Bd x y s) {k : Nat} (hk : k ≤ s.size) : corner (pos x y s k) := by
  rcases Nat.lt_or_ge k s.size with h1 | h1
  · exact (h.step k h1).at0
  · obtain rfl : k = s.size := by omega
    rw [h.back]
    exact (h.step 0 (by have := h.lo; omega)).at0
theorem Bd.next {x y : Int} {s : ByteArray} (h : Bd x y s) {k : Nat} (hk : k < s.size) : pos x y s (k + 1) = ((pos x y s k).1 + dX (way s k), (pos x y s k).2 + dY (way s k)) := by
  obtain ⟨⟨a1, a2⟩, a3, a4⟩ := h.corner_at (Nat.le_of_lt hk)
  have hw := (h.step k hk).letter
  have hw3 := (way_in s k).2
  have e : pos x y s (k + 1) = nxt (pos x y s k) (way s k) := rfl
  have d1 : -1 ≤ dX (way s k) ∧ dX (way s k) ≤ 1 := by unfold dX; split <;> (try split) <;> omega
  have d2 : -1 ≤ dY (way s k) ∧ dY (way s k) ≤ 1 := by unfold dY; split <;> (try split) <;> omega
  rw [e, nxt_d ⟨⟨by omega, by omega⟩, by omega, by omega⟩ hw hw3, wrap_id (by omega), wrap_id (by omega)]
/-- What the first steps add to the area. -/
def areaN (x y : Int) (s : ByteArray) : Nat → Int
  | 0 => 0
  | k + 1 => areaN x y s k + (pos x y s k).1 * dY (way s k)
theorem mul_dY {X v : Int} (h : 0 ≤ X ∧ X ≤ 16) : -16 ≤ X * dY v ∧ X * dY v ≤ 16 := by
  unfold dY
  split
  · omega
  · split <;> omega
theorem areaN_bd {x y : Int} {s : ByteArray} (h : Bd x y s) : ∀ k, k ≤ s.size → -16 * (k : Int) ≤ areaN x y s k ∧ areaN x y s k ≤ 16 * (k : Int)
  | 0, _ => by simp [areaN]
  | k + 1, hk => by
    have ih := areaN_bd h k (by omega)
    have := mul_dY (v := way s k) (h.corner_at (k := k) (by omega)).1
    rw [areaN]
    push_cast
    omega
noncomputable def areaB (x y : Int) (s : ByteArray) : Int := if bdB x y s then areaN x y s s.size else 0
theorem edge_cells {x y : Int} {s : ByteArray} {b o : Nat} {wr : World} (h : Rd wr (some ⟨b, o, none⟩) (s.size * 3) (triAt (edges x y s s.size))) {i : Nat} (hi : i < s.size) :
    CellAt wr b (o + i * 3) (.int .i64 (pos x y s i).1) ∧ CellAt wr b (o + i * 3 + 1) (.int .i64 (pos x y s i).2) ∧ CellAt wr b (o + i * 3 + 2) (.int .i64 (way s i)) := by
  obtain ⟨b', o', hq, h0, h1, h2⟩ := h.tri hi
  cases hq
  rw [edges_at3 hi] at h0 h1 h2
  exact ⟨h0, h1, h2⟩
theorem edges_rd {x y : Int} {s : ByteArray} {B : Nat} {w : World} {v : Value} (h : OwnTris 56 B w v (edges x y s s.size)) : ∃ q c, v = .slice q s.size c ∧ Rd w q (s.size * 3) (triAt (edges x y s s.size)) := by
  obtain ⟨q, c, hv, ho⟩ := h
  subst hv
  have := OwnTris.rd (T := 56) (B := B) (w := w) (p := q) (c := c) ⟨q, c, rfl, ho⟩
  rw [edges_len] at this
  exact ⟨q, c, by rw [edges_len], this⟩
set_option maxRecDepth 100000 in
set_option maxHeartbeats 4000000 in
theorem sArea_any (x y : Int) (s : ByteArray) (w : World) (hs : s.size ≤ maxLen) (hsm : small (x, y)) :
    Calls Try.prog 18 #[.agg #[.int .i64 x, .int .i64 y, .string s]] w fun e w' => e = .returned (.tuple #[.int .i64 (areaB x y s), .bool (bdB x y s)]) ∧ Below w.heap.size w w' := by
  have B := Blk.new w #[.int .i64 x, .int .i64 y, .string s] 30
  have S := (Since.refl w).alloc (.cells #[.int .i64 x, .int .i64 y, .string s] 30)
  have c := l04Is_any w.heap.size x y s _ hs hsm B
  cases hbd : bdB x y s
  · rw [hbd] at c
    have hA : areaB x y s = 0 := by simp [areaB, hbd]
    rw [hA]
    have C := Lib.hid c; clear c
    have Hbd := Lib.hid hbd; clear hbd
    have HA := Lib.hid hA; clear hA
    go_enter Try.func18, Try.ntmps18
    go_wp2_with fail
    refine C.out.mono ?_
    rintro e w1 ⟨rfl, hb⟩
    go_wp2
    go_ret2
    exact ⟨rfl, (S.bl hb).below⟩
  · rw [hbd] at c
    have bd := bdB_iff.1 hbd
    have hA : areaB x y s = areaN x y s s.size := by simp [areaB, hbd]
    rw [hA]
    have hlo := bd.lo
    have hhi := bd.hi
    have hW : ∀ i w, Calls Try.prog 47 #[.int .u8 (byteAt s i).toNat] w fun e w' => e = .returned (.int .i64 (way s i)) ∧ w = w' := fun i w => l04Way_any _ w
    have hX := fun k w => l04X_any k w
    have hY := fun k w => l04Y_any k w
    clear hs
    have C := Lib.hid c; clear c
    have Hbd := Lib.hid hbd; clear hbd
    have HA := Lib.hid hA; clear hA
    have Bd := Lib.hid bd; clear bd
    have HW := Lib.hid hW; clear hW
    have HX := Lib.hid hX; clear hX
    have HY := Lib.hid hY; clear hY
    go_enter Try.func18, Try.ntmps18
    go_wp2_with fail
    refine C.out.mono ?_
    rintro e w1 ⟨rfl, hb⟩
    replace S := S.bl hb
    replace B := B.bl hb
    have k0 := B.cell 0 rfl
    go_wp2
    clear k0 hb
    generalize w.heap.size = g at *
    go_loopw [4, 5, 6] (fun v u i wr => ∃ k : Nat, k ≤ s.size ∧ i = .int .i64 k ∧ v = .int .i64 (areaN x y s k) ∧ u = .int .i64 (pos x y s k).1 ∧ Blk wr g #[.int .i64 x, .int .i64 y, .string s] 30 ∧ Since w wr) (fun _ _ i _ => s.size - (intOf i).toNat)
    case atStart => exact ⟨0, Nat.zero_le _, rfl, rfl, rfl, B, S⟩
    case round =>
      clear B S
      obtain ⟨k, hk, rfl, rfl, rfl, B, S⟩ := hrel
      have k2 := B.cell 2 rfl
      have hab := areaN_bd Bd.out k hk
      by_cases hlt : k < s.size
      · have w1 : ∀ w, Calls Try.prog 47 #[.int .u8 s[k].toNat] w fun e w' => e = .returned (.int .i64 (way s k)) ∧ w = w' := fun w => by
          rw [byteAt_get hlt]
          exact HW.out k w
        have hnx := congrArg Prod.fst (Bd.out.next hlt)
        obtain ⟨⟨c1, c2⟩, _, _⟩ := Bd.out.corner_at (k := k) hk
        have hmu := mul_dY (v := way s k) ⟨c1, c2⟩
        have han : areaN x y s (k + 1) = areaN x y s k + (pos x y s k).1 * dY (way s k) := rfl
        have hd1 : -1 ≤ dX (way s k) ∧ dX (way s k) ≤ 1 := by unfold dX; split <;> (try split) <;> omega
        have cX := HX.out (way s k)
        have cY := HY.out (way s k)
        obtain ⟨P, eP⟩ : ∃ P, (pos x y s k).1 = P := ⟨_, rfl⟩
        obtain ⟨A, eA⟩ : ∃ A, areaN x y s k = A := ⟨_, rfl⟩
        obtain ⟨V, eV⟩ : ∃ V, way s k = V := ⟨_, rfl⟩
        simp only [eP, eA, eV] at w1 hnx c1 c2 hmu han hd1 cX cY hab ⊢
        obtain ⟨d, ed⟩ : ∃ d, dX V = d := ⟨_, rfl⟩
        obtain ⟨d2, ed2⟩ : ∃ d, dY V = d := ⟨_, rfl⟩
        rw [ed] at cX hd1 hnx
        rw [ed2] at cY hmu han
        have W1 := Lib.hid w1; clear w1
        have Hnx := Lib.hid hnx; clear hnx
        have CX := Lib.hid cX; clear cX
        have CY := Lib.hid cY; clear cY
        have Han := Lib.hid han; clear han
        have EP := Lib.hid eP; clear eP
        have EA := Lib.hid eA; clear eA
        have EV := Lib.hid eV; clear eV
        have Ed := Lib.hid ed; clear ed
        have Ed2 := Lib.hid ed2; clear ed2
        go_wp2_with fail
        refine (W1.out _).mono ?_
        rintro e w3 ⟨rfl, rfl⟩
        go_wp2_with fail
        refine (CY.out _).mono ?_
        rintro e w3 ⟨rfl, rfl⟩
        go_wp2_with fail
        refine (CX.out _).mono ?_
        rintro e w3 ⟨rfl, rfl⟩
        go_wp2
        go_roundw
        case rel => exact ⟨k + 1, by omega, by go_num, by rw [Han.out], by rw [Hnx.out], B, S⟩
        case measure => simp [intOf]; omega
      · obtain rfl : k = s.size := by omega
        go_wp2
        go_ret2
        exact ⟨rfl, S.below⟩
set_option maxRecDepth 100000 in
set_option maxHeartbeats 4000000 in
theorem signedArea_any (x y : Int) (s : ByteArray) (w : World) (hs : s.size ≤ maxLen) (hsm : small (x, y)) :
    Calls Try.prog 19 #[.agg #[.int .i64 x, .int .i64 y, .string s]] w fun e w' => e = .returned (.tuple #[.int .i64 (areaB x y s), .bool (bdB x y s)]) ∧ Below w.heap.size w w' := by
  have B := Blk.new w #[.int .i64 x, .int .i64 y, .string s] 30
  have S := (Since.refl w).alloc (.cells #[.int .i64 x, .int .i64 y, .string s] 30)
  have c := isBorder_any x y s (w.alloc (.cells #[.int .i64 x, .int .i64 y, .string s] 30)) hs hsm
  cases hbd : bdB x y s
  · rw [hbd] at c
    have hA : areaB x y s = 0 := by simp [areaB, hbd]
    rw [hA]
    have C := Lib.hid c; clear c
    have Hbd := Lib.hid hbd; clear hbd
    have HA := Lib.hid hA; clear hA
    go_enter Try.func19, Try.ntmps19
    go_wp2_with fail
    refine C.out.mono ?_
    rintro e w1 ⟨rfl, hb⟩
    go_wp2
    go_ret2
    exact ⟨rfl, (S.bl hb).below⟩
  · rw [hbd] at c
    have bd := bdB_iff.1 hbd
    have hA : areaB x y s = areaN x y s s.size := by simp [areaB, hbd]
    rw [hA]
    have hlo := bd.lo
    have hhi := bd.hi
    have c2 := fun w1 (B1 : Blk w1 w.heap.size #[.int .i64 x, .int .i64 y, .string s] 30) => edges_ok w.heap.size x y s w1 hhi hsm B1 (fun i hi => (bd.step i hi).letter)
    clear hs
    have C := Lib.hid c; clear c
    have Hbd := Lib.hid hbd; clear hbd
    have HA := Lib.hid hA; clear hA
    have Bd := Lib.hid bd; clear bd
    have C2 := Lib.hid c2; clear c2
    go_enter Try.func19, Try.ntmps19
    go_wp2_with fail
    refine C.out.mono ?_
    rintro e w1 ⟨rfl, hb⟩
    replace S := S.bl hb
    replace B := B.bl hb
    go_wp2_with fail
    refine (C2.out _ B).mono ?_
    rintro e w2 ⟨v, rfl, own, hb2⟩
    replace S := S.bl hb2
    clear B hb hb2
    obtain ⟨q, c', rfl, hrd⟩ := edges_rd own
    obtain ⟨b, o, rfl, _⟩ := hrd.at (k := 0) (by omega)
    clear own
    go_wp2
    go_loopw [6, 18] (fun v i wr => ∃ k : Nat, k ≤ s.size ∧ i = .int .i64 k ∧ v = .int .i64 (areaN x y s k) ∧ Rd wr (some ⟨b, o, none⟩) (s.size * 3) (triAt (edges x y s s.size)) ∧ Since w wr) (fun _ i _ => s.size - (intOf i).toNat)
    case atStart => exact ⟨0, Nat.zero_le _, rfl, rfl, hrd, S⟩
    case round =>
      clear hrd S
      obtain ⟨k, hk, rfl, rfl, R, S⟩ := hrel
      have hab := areaN_bd Bd.out k hk
      by_cases hlt : k < s.size
      · obtain ⟨⟨c1, c2⟩, _, _⟩ := Bd.out.corner_at (k := k) hk
        have hv0 := (Bd.out.step k hlt).letter
        have hv3 := (way_in s k).2
        have han : areaN x y s (k + 1) = areaN x y s k + (pos x y s k).1 * dY (way s k) := rfl
        obtain ⟨a0, a1, a2⟩ := edge_cells R hlt
        obtain ⟨P, eP⟩ : ∃ P, (pos x y s k).1 = P := ⟨_, rfl⟩
        obtain ⟨P2, eP2⟩ : ∃ P, (pos x y s k).2 = P := ⟨_, rfl⟩
        obtain ⟨A, eA⟩ : ∃ A, areaN x y s k = A := ⟨_, rfl⟩
        obtain ⟨V, eV⟩ : ∃ V, way s k = V := ⟨_, rfl⟩
        simp only [eP, eP2, eA, eV] at c1 c2 han hab a0 a1 a2 hv0 hv3 ⊢
        have A0 := a0.out
        have A1 := a1.out
        have A2 := a2.out
        have x7 := Blk.new wr #[.int .i64 P, .int .i64 P2, .int .i64 V] 56
        have R2 := R.bl (bl_alloc wr (.cells #[.int .i64 P, .int .i64 P2, .int .i64 V] 56))
        have S2 := S.bl (bl_alloc wr (.cells #[.int .i64 P, .int .i64 P2, .int .i64 V] 56))
        clear a0 a1 a2 R S
        have e4 : V = 0 ∨ V = 1 ∨ V = 2 ∨ V = 3 := by omega
        clear hv0 hv3
        rcases e4 with rfl | rfl | rfl | rfl
        all_goals
          have Han := Lib.hid han; clear han
          have EP := Lib.hid eP; clear eP
          have EP2 := Lib.hid eP2; clear eP2
          have EA := Lib.hid eA; clear eA
          have EV := Lib.hid eV; clear eV
          have A3 := x7.cell 0 rfl
          have A4 := x7.cell 2 rfl
          go_wp2
          go_roundw
          case rel => exact ⟨k + 1, by omega, by go_num, by rw [Han.out]; simp [dY, Int.sub_eq_add_neg], R2, S2⟩
          case measure => simp [intOf]; omega
      · obtain rfl : k = s.size := by omega
        go_wp2
        go_ret2
        exact ⟨rfl, S.below⟩
end Go.Proofs.Ytjplikkehhpomaa
