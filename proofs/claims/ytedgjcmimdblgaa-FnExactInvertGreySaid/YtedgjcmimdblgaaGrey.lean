/- Contracts of the reference's and the program's tests of grey pictures. -/
import Derived.Test.YtedgjcmimdblgaaLawInts
import Derived.Test.YtedgjcmimdblgaaBase
set_option linter.unusedVariables false
set_option linter.unusedSimpArgs false
namespace Go.Proofs.Ytedgjcmimdblgaa
open Go.RowKit

def okRowG (n : Nat) (most : Int) (l : List Int) : Bool := decide (l.length = n) && l.all (fun z => inB z 0 most)
/-- Rows of a right size, with numbers from 0 to most. -/
def okG (L : List (List Int)) (most : Int) : Bool := inB L.length 1 16 && (inB (L.getD 0 []).length 1 16 && L.all (okRowG (L.getD 0 []).length most))
theorem getD_memG {l : List Int} {k : Nat} (h : k < l.length) : l.getD k 0 ∈ l := by simp [List.getD, List.getElem?_eq_getElem h]
theorem ints_takeG {l : List Int} {j : Nat} (h : j < l.length) : l.take (j + 1) = l.take j ++ [l.getD j 0] := by
  rw [List.take_succ_eq_append_getElem h]; simp [List.getD, List.getElem?_eq_getElem h]
theorem getD_memL {l : List (List Int)} {k : Nat} (h : k < l.length) : l.getD k [] ∈ l := by simp [List.getD, List.getElem?_eq_getElem h]
theorem lists_take {l : List (List Int)} {j : Nat} (h : j < l.length) : l.take (j + 1) = l.take j ++ [l.getD j []] := by
  rw [List.take_succ_eq_append_getElem h]; simp [List.getD, List.getElem?_eq_getElem h]
set_option maxRecDepth 100000 in
set_option maxHeartbeats 2000000 in
theorem l07Table_any (p : Option Addr) (c : Nat) (L : List (List Int)) (most : Int) (w : World) (hn : L.length ≤ 1048576) (hi : ∀ l ∈ L, l.length ≤ 1048576) (hr : RdSS w p L) :
    Calls Try.prog 28 #[.slice p L.length c, .int .i64 most] w fun e w' => e = .returned (.bool (okG L most)) ∧ Below w.heap.size w w' := by
  cases h1 : inB (L.length : Int) 1 16
  · have hv : okG L most = false := by simp [okG, h1]
    rw [hv]
    have cs := l01Side_any (L.length : Int) w
    rw [h1] at cs
    have Cs := Lib.hid cs; clear cs
    have Hv := Lib.hid hv; clear hv
    have H1 := Lib.hid h1; clear h1
    clear hr
    go_enter Try.func28, Try.ntmps28
    go_wp2_with fail
    with_reducible (refine Cs.out.mono ?_)
    rintro e w1 ⟨rfl, rfl⟩
    go_wp2
    go_ret
    exact ⟨rfl, Below.refl _ _⟩
  · obtain ⟨d1, d2⟩ := inB_true h1
    obtain ⟨vs, hrv, hri⟩ := hr
    obtain ⟨b, o, rfl, hb, hc⟩ := hrv.at (k := 0) (by omega)
    obtain ⟨q0, c0, e0, r0⟩ := hri 0 (by omega)
    have x0 := hc 0 (by omega)
    rw [e0, Nat.add_zero] at x0
    have hW := hi _ (getD_memL (l := L) (k := 0) (by omega))
    obtain ⟨W, eW⟩ : ∃ W, (L.getD 0 []).length = W := ⟨_, rfl⟩
    rw [eW] at x0 hW
    have hG : okG L most = (inB W 1 16 && L.all (okRowG W most)) := by simp only [okG, h1, eW, Bool.true_and]
    rw [hG]
    have cs1 := fun w => l01Side_any (L.length : Int) w
    have cs2 := fun w => l01Side_any (W : Int) w
    simp only [h1] at cs1
    have hL0 : (0 : Int) < (L.length : Int) := by omega
    clear r0 e0 hG
    cases h2 : inB (W : Int) 1 16
    · simp only [h2] at cs2
      have Cs1 := Lib.hid cs1; clear cs1
      have Cs2 := Lib.hid cs2; clear cs2
      have H1 := Lib.hid h1; clear h1
      have H2 := Lib.hid h2; clear h2
      have Hc := Lib.hid hc; clear hc
      have Hri := Lib.hid hri; clear hri
      have Hrv := Lib.hid hrv; clear hrv
      have EW := Lib.hid eW; clear eW
      have Hi := Lib.hid hi; clear hi
      go_enter Try.func28, Try.ntmps28
      go_wp2_with fail
      with_reducible (refine (Cs1.out _).mono ?_)
      rintro e w1 ⟨rfl, rfl⟩
      go_wp2_with fail
      with_reducible (refine (Cs2.out _).mono ?_)
      rintro e w1 ⟨rfl, rfl⟩
      go_wp2
      go_ret
      exact ⟨rfl, Below.refl _ _⟩
    · simp only [h2] at cs2
      obtain ⟨d3, d4⟩ := inB_true h2
      have Cs1 := Lib.hid cs1; clear cs1
      have Cs2 := Lib.hid cs2; clear cs2
      have H1 := Lib.hid h1; clear h1
      have H2 := Lib.hid h2; clear h2
      have Hc := Lib.hid hc; clear hc
      have Hri := Lib.hid hri; clear hri
      have Hrv := Lib.hid hrv; clear hrv
      have EW := Lib.hid eW; clear eW
      have Hi := Lib.hid hi; clear hi
      go_enter Try.func28, Try.ntmps28
      go_wp2_with fail
      with_reducible (refine (Cs1.out _).mono ?_)
      rintro e w1 ⟨rfl, rfl⟩
      go_wp2_with fail
      with_reducible (refine (Cs2.out _).mono ?_)
      rintro e w1 ⟨rfl, rfl⟩
      go_wp2
      go_loopw [5] (fun i wr => ∃ y : Nat, y ≤ L.length ∧ i = .int .i64 y ∧ (L.take y).all (okRowG W most) = true ∧ Since w wr) (fun i _ => L.length - (intOf i).toNat)
      case atStart => exact ⟨0, Nat.zero_le _, rfl, by simp, Since.refl _⟩
      case round =>
        obtain ⟨y, hy, rfl, hall, S⟩ := hrel
        by_cases hlt : y < L.length
        · obtain ⟨q1, c1, e1, r1⟩ := Hri.out y hlt
          have y0 := (S.below.cell (p := ⟨b, o, none⟩) hb).trans x0
          have y1 := (S.below.cell (p := ⟨b, o + y, none⟩) hb).trans (Hc.out y hlt)
          rw [e1] at y1
          have hsu : (L.take (y + 1)).all (okRowG W most) = okRowG W most (L.getD y []) := by rw [lists_take hlt, List.all_append, hall]; simp
          have hno : okRowG W most (L.getD y []) = false → L.all (okRowG W most) = false := fun h => List.all_eq_false.2 ⟨_, getD_memL hlt, by rw [h]; exact Bool.false_ne_true⟩
          have hrw := Hi.out _ (getD_memL hlt)
          obtain ⟨row, er⟩ : ∃ row, L.getD y [] = row := ⟨_, rfl⟩
          rw [er] at y1 r1 hsu hno hrw
          have hy0 : (0 : Int) ≤ (y : Int) := Int.natCast_nonneg _
          have hy1 : (y : Int) < (L.length : Int) := by omega
          have Hall := Lib.hid hall; clear hall
          have Hsu := Lib.hid hsu; clear hsu
          have Hno := Lib.hid hno; clear hno
          have Er := Lib.hid er; clear er
          have E1 := Lib.hid e1; clear e1
          by_cases hlen : row.length = W
          · have hlen2 : ((row.length : Nat) : Int) = (W : Int) := by omega
            go_wp2
            go_quiet (fail)
            go_wp2
            go_loopw [6] (fun i wr => ∃ x : Nat, x ≤ row.length ∧ i = .int .i64 x ∧ (row.take x).all (fun z => inB z 0 most) = true ∧ Since w wr) (fun i _ => row.length - (intOf i).toNat)
            case atStart => exact ⟨0, Nat.zero_le _, rfl, by simp, S.bl (bl_drewN _ _)⟩
            case round =>
              clear y0 y1 S
              obtain ⟨x, hx, rfl, hall2, S⟩ := hrel
              have y1 := (S.below.cell (p := ⟨b, o + y, none⟩) hb).trans (Hc.out y hlt)
              rw [E1.out] at y1
              rw [Er.out] at y1
              by_cases hxl : x < row.length
              · obtain ⟨b2, o2, rfl, hb2, hc2⟩ := r1.at hxl
                have z1 := (S.below.cell (p := ⟨b2, o2 + x, none⟩) hb2).trans (hc2 x hxl)
                rw [intAt] at z1
                have hsu2 : (row.take (x + 1)).all (fun z => inB z 0 most) = inB (row.getD x 0) 0 most := by rw [ints_takeG hxl, List.all_append, hall2]; simp
                have hno2 : inB (row.getD x 0) 0 most = false → row.all (fun z => inB z 0 most) = false := fun h => List.all_eq_false.2 ⟨_, getD_memG hxl, by rw [h]; exact Bool.false_ne_true⟩
                generalize row.getD x 0 = z at *
                have ci := fun w => l00In_any z 0 most w
                have hx0 : (0 : Int) ≤ (x : Int) := Int.natCast_nonneg _
                have hx1 : (x : Int) < (row.length : Int) := by omega
                clear r1
                cases hz : inB z 0 most
                · simp only [hz] at ci
                  have hfin := Hno.out (by rw [okRowG, hno2 hz]; simp)
                  have Ci := Lib.hid ci; clear ci
                  have Hc2 := Lib.hid hc2; clear hc2
                  have Hsu2 := Lib.hid hsu2; clear hsu2
                  have Hno2 := Lib.hid hno2; clear hno2
                  have Hz := Lib.hid hz; clear hz
                  have Hall2 := Lib.hid hall2; clear hall2
                  have Hfin := Lib.hid hfin; clear hfin
                  go_wp2_with fail
                  with_reducible (refine (Ci.out _).mono ?_)
                  rintro e w3 ⟨rfl, rfl⟩
                  go_wp2
                  go_ret
                  exact ⟨ret_bool Hfin.out.symm, S.below⟩
                · simp only [hz] at ci
                  have hk := hsu2.trans hz
                  have Ci := Lib.hid ci; clear ci
                  have Hc2 := Lib.hid hc2; clear hc2
                  have Hsu2 := Lib.hid hsu2; clear hsu2
                  have Hno2 := Lib.hid hno2; clear hno2
                  have Hz := Lib.hid hz; clear hz
                  have Hall2 := Lib.hid hall2; clear hall2
                  have Hk := Lib.hid hk; clear hk
                  go_wp2_with fail
                  with_reducible (refine (Ci.out _).mono ?_)
                  rintro e w3 ⟨rfl, rfl⟩
                  go_wp2
                  go_roundw
                  case rel => exact ⟨x + 1, by omega, by go_num, Hk.out, S⟩
                  case measure => simp [intOf]; omega
              · obtain rfl : x = row.length := by omega
                rw [List.take_of_length_le (Nat.le_refl _)] at hall2
                have hk : (L.take (y + 1)).all (okRowG W most) = true := by rw [Hsu.out, okRowG, hall2, decide_eq_true hlen]; rfl
                have Hk := Lib.hid hk; clear hk
                have Hall2 := Lib.hid hall2; clear hall2
                go_wp2
                go_roundw
                case rel => exact ⟨y + 1, by omega, by go_num, Hk.out, S⟩
                case measure => simp [intOf]; omega
          · have hlen2 : ¬ ((row.length : Nat) : Int) = (W : Int) := by omega
            have hfin := Hno.out (by rw [okRowG, decide_eq_false hlen]; rfl)
            have Hfin := Lib.hid hfin; clear hfin
            go_wp2
            go_quiet (fail)
            go_wp2
            go_ret
            exact ⟨ret_bool Hfin.out.symm, (S.bl (bl_drewN _ _)).below⟩
        · obtain rfl : y = L.length := by omega
          rw [List.take_of_length_le (Nat.le_refl _)] at hall
          have Hall := Lib.hid hall; clear hall
          go_wp2
          go_ret
          exact ⟨ret_bool Hall.out.symm, S.below⟩
set_option maxHeartbeats 400000 in
theorem l07Is_any (a : Nat) (p : Option Addr) (c : Nat) (L : List (List Int)) (w : World) (hn : L.length ≤ 1048576) (hi : ∀ l ∈ L, l.length ≤ 1048576) (hb : w.cell? ⟨a, 0, none⟩ = some (.slice p L.length c)) (hr : RdSS w p L) :
    Calls Try.prog 15 #[.pointer (some ⟨a, 0, none⟩)] w fun e w' => e = .returned (.bool (okG L 99)) ∧ Below w.heap.size w w' := by
  have ct := l07Table_any p c L 99 w hn hi hr
  generalize okG L 99 = z at *
  have Ct := Lib.hid ct; clear ct
  clear hr hi
  go_enter Try.func15, Try.ntmps15
  go_wp2_with fail
  with_reducible (refine Ct.out.mono ?_)
  rintro e w1 ⟨rfl, hb1⟩
  go_wp2
  go_ret
  exact ⟨rfl, hb1⟩
set_option maxHeartbeats 400000 in
theorem sValidGrey_any (p : Option Addr) (c : Nat) (L : List (List Int)) (w : World) (hn : L.length ≤ 1048576) (hi : ∀ l ∈ L, l.length ≤ 1048576) (hr : RdSS w p L) :
    Calls Try.prog 6 #[.agg #[.slice p L.length c]] w fun e w' => e = .returned (.bool (okG L 99)) ∧ Below w.heap.size w w' := by
  have hy := bl_alloc w (.cells #[.slice p L.length c] 27)
  have B := Box.new w (.slice p L.length c) 27
  have ct := l07Is_any w.heap.size p c L _ hn hi B.cell (hr.bl hy)
  generalize okG L 99 = z at *
  have Ct := Lib.hid ct; clear ct
  clear hr hi
  go_enter Try.func6, Try.ntmps6
  go_wp2_with fail
  with_reducible (refine Ct.out.mono ?_)
  rintro e w1 ⟨rfl, hb1⟩
  have hb2 := bl_trans hy hb1
  go_wp2
  go_ret
  exact ⟨rfl, hb2⟩
end Go.Proofs.Ytedgjcmimdblgaa
