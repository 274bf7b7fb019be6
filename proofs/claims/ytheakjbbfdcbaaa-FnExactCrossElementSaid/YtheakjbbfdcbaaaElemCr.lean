/- Contracts of the cross elements, the reference's and the program's. -/
import Derived.Test.YtheakjbbfdcbaaaElemSq
set_option linter.unusedVariables false
set_option linter.unusedSimpArgs false
namespace Go.Proofs.Ytheakjbbfdcbaaa
open Go.RowKit

def abz (n : Int) : Int := max n (-n)
set_option maxHeartbeats 400000 in
theorem sizeC_any (n : Int) (w : World) (h1 : -100 ≤ n) (h2 : n ≤ 100) : Calls Try.prog 60 #[.int .i64 n] w fun e w' => e = .returned (.int .i64 (abz n)) ∧ w = w' := by
  go_enter Try.func60, Try.ntmps60
  go_wp2
  all_goals
    go_ret
    exact ⟨ret_int (by unfold abz; omega), rfl⟩
set_option maxHeartbeats 400000 in
theorem l00MaxC_any (a b : Int) (w : World) : Calls Try.prog 75 #[.int .i64 a, .int .i64 b] w fun e w' => e = .returned (.int .i64 (max a b)) ∧ w = w' := by
  by_cases h : b < a
  · go_enter Try.func75, Try.ntmps75
    go_wp2
    go_ret
    exact ⟨ret_int (by omega), rfl⟩
  · go_enter Try.func75, Try.ntmps75
    go_wp2
    go_ret
    exact ⟨ret_int (by omega), rfl⟩
set_option maxHeartbeats 400000 in
theorem l03Abs_any (n : Int) (w : World) (h1 : -100 ≤ n) (h2 : n ≤ 100) : Calls Try.prog 59 #[.int .i64 n] w fun e w' => e = .returned (.int .i64 (abz n)) ∧ w = w' := by
  have c := fun w => l00MaxC_any n (-n) w
  change ∀ w, Calls _ _ _ _ (fun e w' => e = .returned (.int .i64 (abz n)) ∧ w = w') at c
  obtain ⟨z, ez⟩ : ∃ z, abz n = z := ⟨_, rfl⟩
  rw [ez] at c ⊢
  have C := Lib.hid c; clear c
  have Ez := Lib.hid ez; clear ez
  go_enter Try.func59, Try.ntmps59
  go_wp2_with fail
  refine (C.out _).mono ?_
  rintro e w1 ⟨rfl, rfl⟩
  go_wp2
  go_ret
  exact ⟨rfl, rfl⟩
/-- Is a spot of the square around the middle one of the cross? -/
def crIn (r x y : Nat) : Bool := decide (abz ((x : Int) - r) + abz ((y : Int) - r) ≤ (r : Int))
def crT (r n : Nat) : List (Int × Int) := (List.range n).filterMap fun i => if crIn r (i % (2 * r + 1)) (i / (2 * r + 1)) then some (((i % (2 * r + 1) : Nat) : Int) - r, ((i / (2 * r + 1) : Nat) : Int) - r) else none
theorem crT_succ {r x y : Nat} (hx : x < 2 * r + 1) : crT r (y * (2 * r + 1) + x + 1) = crT r (y * (2 * r + 1) + x) ++ if crIn r x y then [((x : Int) - r, (y : Int) - r)] else [] := by
  unfold crT
  rw [List.range_succ, List.filterMap_append]
  congr 1
  simp only [List.filterMap_cons, List.filterMap_nil, (at_mod hx).1, (at_mod hx).2]
  cases crIn r x y <;> simp
theorem crT_len (r n : Nat) : (crT r n).length ≤ n := by
  have := List.length_filterMap_le (fun i => if crIn r (i % (2 * r + 1)) (i / (2 * r + 1)) then some (((i % (2 * r + 1) : Nat) : Int) - r, ((i / (2 * r + 1) : Nat) : Int) - r) else none) (List.range n)
  simpa [crT] using this
def crL (r : Nat) : List (Int × Int) := crT r ((2 * r + 1) * (2 * r + 1))
def crB (k : Int) : Bool := inB k 0 4
def crR (k : Int) : List (Int × Int) := if crB k then crL k.toNat else []
theorem crB_nat {k : Int} (h : crB k = true) : ∃ r : Nat, k = r ∧ r ≤ 4 := by
  have h1 : 0 ≤ k ∧ k ≤ 4 := by simpa [crB, inB] using h
  exact ⟨k.toNat, by omega, by omega⟩
theorem crL_ok {r : Nat} (h : r ≤ 4) : okEl (crL r) = true := by
  have e : r = 0 ∨ r = 1 ∨ r = 2 ∨ r = 3 ∨ r = 4 := by omega
  rcases e with rfl | rfl | rfl | rfl | rfl <;> decide +kernel
theorem cr_mul {r y : Nat} (h : r ≤ 4) (hy : y ≤ 2 * r + 1) : y * (2 * r + 1) ≤ 81 :=
  Nat.le_trans (Nat.mul_le_mul (show y ≤ 9 by omega) (show 2 * r + 1 ≤ 9 by omega)) (by omega)
theorem crL_len {r : Nat} (h : r ≤ 4) : (crL r).length ≤ 1048576 := by
  have := crT_len r ((2 * r + 1) * (2 * r + 1))
  have := cr_mul h (Nat.le_refl (2 * r + 1))
  unfold crL
  omega
theorem crR_len (k : Int) : (crR k).length ≤ 1048576 := by
  unfold crR
  split
  · rename_i h
    obtain ⟨r, rfl, h1⟩ := crB_nat h
    rw [Int.toNat_natCast]
    exact crL_len h1
  · simp
theorem cr_r {r : Nat} (h : r ≤ 4) : crR (r : Int) = crL r := by
  have : crB (r : Int) = true := by simp [crB, inB]; omega
  rw [crR, if_pos this, Int.toNat_natCast]
theorem okEl_pos {l : List (Int × Int)} (h : okEl l = true) : 0 < l.length := by
  simp only [okEl, Bool.and_eq_true, inB] at h
  have := h.2
  simp at this
  omega
/-- The outer loop's counter. -/
def CrY (r : Nat) (i : Value) (y : Nat) : Prop := ∃ e : Int, i = .int .i64 e ∧ e = (y : Int) - r ∧ y ≤ 2 * r + 1
set_option maxRecDepth 100000 in
set_option maxHeartbeats 8000000 in
theorem sCross_any (k : Int) (w : World) : Calls Try.prog 27 #[.int .i64 k] w fun e w' => ∃ v, e = .returned (.tuple #[.agg #[v], .bool (crB k)]) ∧ OwnSpots w.heap.size w' v (crR k) ∧ Below w.heap.size w w' := by
  have S := (Since.refl w).alloc (.cells #[.slice none 0 0] 28)
  have B0 := Box.new w (.slice none 0 0) 28
  have c0 := fun w => l00In_any k 0 4 w
  change ∀ w, Calls _ _ _ _ (fun e w' => e = .returned (.bool (crB k)) ∧ w = w') at c0
  cases hk : crB k
  · have hR : crR k = [] := by simp [crR, hk]
    rw [hR]
    rw [hk] at c0
    have f0 := B0.frozen
    have f1 := B0.cell
    have e0 := (B0.set (.slice none 0 0)).cell
    have C0 := Lib.hid c0; clear c0
    have Hk := Lib.hid hk; clear hk
    have HR := Lib.hid hR; clear hR
    go_enter Try.func27, Try.ntmps27
    go_wp2_with fail
    refine (C0.out _).mono ?_
    rintro e w1 ⟨rfl, rfl⟩
    go_wp2
    exact bodyPost_ret (v := .tuple #[.agg #[.slice none 0 0], .bool false]) (by simp [results, Try.results27, go_sem, e0]) rfl ⟨_, rfl, OwnSpots.nil _ _, S.below⟩
  · obtain ⟨r, rfl, h1⟩ := crB_nat hk
    rw [cr_r h1]
    rw [hk] at c0
    have hmul := fun y hy => cr_mul (y := y) h1 hy
    have r0 := ElRel.start (w := w)
    have cA := fun n w h1 h2 => l03Abs_any n w h1 h2
    have hlen := crL_len h1
    have c2 := fun a p c w' hA hR => l03Is_any a p c (crL r) w' hlen hA hR
    rw [crL_ok h1] at c2
    obtain ⟨L, eL⟩ : ∃ L, crL r = L := ⟨_, rfl⟩
    rw [eL] at c2 ⊢
    have C0 := Lib.hid c0; clear c0
    have Hk := Lib.hid hk; clear hk
    have Hmul := Lib.hid hmul; clear hmul
    have R0 := Lib.hid r0; clear r0
    have CA := Lib.hid cA; clear cA
    have C2 := Lib.hid c2; clear c2
    have EL := Lib.hid eL; clear eL
    clear S B0
    go_enter Try.func27, Try.ntmps27
    go_wp2_with fail
    refine (C0.out _).mono ?_
    rintro e w1 ⟨rfl, rfl⟩
    go_wp2
    generalize w.heap.size + 1 + 1 = eb at *
    go_loopw [5] (fun i wr => ∃ (y : Nat) (e : Int), y ≤ 2 * r + 1 ∧ i = .int .i64 e ∧ e = (y : Int) - r ∧ ∃ p c, ElRel (crT r (y * (2 * r + 1))) w.heap.size eb w wr p c) (fun i _ => (r + 1 - intOf i).toNat)
    case atStart => exact ⟨0, _, Nat.zero_le _, rfl, by omega, _, _, by rw [Nat.zero_mul]; exact R0.out⟩
    case round =>
      clear R0
      obtain ⟨y, e, hy, rfl, he, p, c, rr⟩ := hrel
      by_cases hyn : y < 2 * r + 1
      · have hm := Hmul.out y hy
        have he1 : e ≤ (r : Int) := by omega
        have he2 : -4 ≤ e := by omega
        have he3 : (r : Int) ≤ 4 := by omega
        have Rr := Lib.hid rr; clear rr
        have He := Lib.hid he; clear he
        go_wp2_with fail
        go_loopw [6] (fun i wr => ∃ (x : Nat) (u : Int), x ≤ 2 * r + 1 ∧ i = .int .i64 u ∧ u = (x : Int) - r ∧ ∃ p c, ElRel (crT r (y * (2 * r + 1) + x)) w.heap.size eb w wr p c) (fun i _ => (r + 1 - intOf i).toNat)
        case atStart => exact ⟨0, _, Nat.zero_le _, rfl, by omega, _, _, Rr.out⟩
        case round =>
          clear Rr
          obtain ⟨x, u, hx, rfl, hu, p, c, rr⟩ := hrel
          by_cases hxn : x < 2 * r + 1
          · have hu1 : u ≤ (r : Int) := by omega
            have hu2 : -4 ≤ u := by omega
            have hsu := crT_succ (r := r) (x := x) (y := y) hxn
            have hin : crIn r x y = decide (abz u + abz e ≤ (r : Int)) := by rw [crIn, hu, He.out]
            have hle := crT_len r (y * (2 * r + 1) + x)
            have a1 := fun w => CA.out u w (by omega) (by omega)
            have a2 := fun w => CA.out e w (by omega) (by omega)
            have hb1 : 0 ≤ abz u ∧ abz u ≤ 4 := by unfold abz; omega
            have hb2 : 0 ≤ abz e ∧ abz e ≤ 4 := by unfold abz; omega
            have hpe : ((x : Int) - r, (y : Int) - r) = (u, e) := by rw [hu, He.out]
            rw [hpe] at hsu
            obtain ⟨z1, ez1⟩ : ∃ z, abz u = z := ⟨_, rfl⟩
            obtain ⟨z2, ez2⟩ : ∃ z, abz e = z := ⟨_, rfl⟩
            rw [ez1] at a1 hb1 hin
            rw [ez2] at a2 hb2 hin
            obtain ⟨l, el⟩ : ∃ l, crT r (y * (2 * r + 1) + x) = l := ⟨_, rfl⟩
            rw [el] at hsu hle rr
            by_cases hc : z1 + z2 ≤ (r : Int)
            · have hsu2 : crT r (y * (2 * r + 1) + x + 1) = l ++ [(u, e)] := by rw [hsu, hin, decide_eq_true hc]; rfl
              have f1 := rr.box.cell
              have hown := rr.own
              have hbs : w.heap.size + 1 ≤ wr.heap.size := by have := rr.box.lt; have := rr.lt; omega
              obtain ⟨m, hm2⟩ : ∃ m, y * (2 * r + 1) = m := ⟨_, rfl⟩
              rw [hm2] at hm hle
              have hpush := fun g cap w2 h1 h2 h3 => rr.push (g := g) (cap := cap) (w2 := w2) (x := u) (y := e) h1 h2 h3
              have hbx := fun w2 h2 => (rr.box.grown (w' := w2) h2 rr.ne)
              have hu4 : u + 1 = ((x + 1 : Nat) : Int) - r := by omega
              obtain ⟨k, ek⟩ : ∃ k, l.length = k := ⟨_, rfl⟩
              rw [ek] at f1 hown hle hpush hbx
              clear hsu hin
              have Hsu2 := Lib.hid hsu2; clear hsu2
              have El := Lib.hid el; clear el
              have Ek := Lib.hid ek; clear ek
              have Hm2 := Lib.hid hm2; clear hm2
              have Rr := Lib.hid rr; clear rr
              have Hpush := Lib.hid hpush; clear hpush
              have Hbx := Lib.hid hbx; clear hbx
              have A1 := Lib.hid a1; clear a1
              have A2 := Lib.hid a2; clear a2
              have Ez1 := Lib.hid ez1; clear ez1
              have Ez2 := Lib.hid ez2; clear ez2
              have Hu := Lib.hid hu; clear hu
              have Hu4 := Lib.hid hu4; clear hu4
              have Hpe := Lib.hid hpe; clear hpe
              go_wp2_with (first | (go_at_call 59; with_reducible (refine (A1.out _).mono ?_; rintro e wx ⟨rfl, rfl⟩)) | (go_at_call 59; with_reducible (refine (A2.out _).mono ?_; rintro e wx ⟨rfl, rfl⟩)) | (at_builtin; refine wpList_push rfl _ _ 26 rfl (w.heap.size + 1) 45 (.agg #[.int .i64 0, .int .i64 0]) 2 16 Try.underlying26 info_spot rfl (by decide) (.slice p k c) k _ rfl hown _ 1 rfl rfl (one_spot _ _) (by omega) (by simp [maxLen]; omega) hbs ?_; intro g' cap w2 hown2 hgr hat hlt2; have hr3 := Hpush.out g' cap w2 hown2 hgr hat; have f2 := (Hbx.out w2 hgr).cell; have f3 := (Hbx.out w2 hgr).frozen) | fail)
              go_roundw
              case rel => exact ⟨x + 1, _, by omega, rfl, Hu4.out, _, _, by rw [← Nat.add_assoc, Hsu2.out]; exact hr3⟩
              case measure => simp [intOf]; omega
            · have hsu2 : crT r (y * (2 * r + 1) + x + 1) = l := by rw [hsu, hin, decide_eq_false hc]; simp
              have hu4 : u + 1 = ((x + 1 : Nat) : Int) - r := by omega
              clear hsu hin
              have Hsu2 := Lib.hid hsu2; clear hsu2
              have El := Lib.hid el; clear el
              have Rr := Lib.hid rr; clear rr
              have A1 := Lib.hid a1; clear a1
              have A2 := Lib.hid a2; clear a2
              have Ez1 := Lib.hid ez1; clear ez1
              have Ez2 := Lib.hid ez2; clear ez2
              have Hu := Lib.hid hu; clear hu
              have Hu4 := Lib.hid hu4; clear hu4
              have Hpe := Lib.hid hpe; clear hpe
              go_wp2_with (first | (go_at_call 59; with_reducible (refine (A1.out _).mono ?_; rintro e wx ⟨rfl, rfl⟩)) | (go_at_call 59; with_reducible (refine (A2.out _).mono ?_; rintro e wx ⟨rfl, rfl⟩)) | fail)
              go_roundw
              case rel => exact ⟨x + 1, _, by omega, rfl, Hu4.out, _, _, by rw [← Nat.add_assoc, Hsu2.out]; exact Rr.out⟩
              case measure => simp [intOf]; omega
          · obtain rfl : x = 2 * r + 1 := by omega
            have e1 : (y + 1) * (2 * r + 1) = y * (2 * r + 1) + (2 * r + 1) := by rw [Nat.add_mul, Nat.one_mul]
            have hu1 : (r : Int) < u := by omega
            have hu3 : u ≤ 5 := by omega
            have he4 : e + 1 = ((y + 1 : Nat) : Int) - r := by rw [He.out]; omega
            have Rr := Lib.hid rr; clear rr
            have E1 := Lib.hid e1; clear e1
            have Hu := Lib.hid hu; clear hu
            have He4 := Lib.hid he4; clear he4
            go_wp2
            go_roundw
            case rel => exact ⟨y + 1, _, by omega, rfl, He4.out, _, _, by rw [E1.out]; exact Rr.out⟩
            case measure => simp [intOf]; omega
      · obtain rfl : y = 2 * r + 1 := by omega
        have he1 : (r : Int) < e := by omega
        have he5 : e ≤ 5 := by omega
        have rr2 : ElRel L w.heap.size eb w wr p c := by
          rw [← EL.out]
          exact rr
        clear rr
        have hA : CellAt wr eb 0 (.slice p L.length c) := rr2.box.cell
        have hR : Rd wr p (L.length * 2) (spotAt L) := OwnSpots.rd (B := w.heap.size + 1) (c := c) ⟨p, c, rfl, rr2.own⟩
        have hge := rr2.ge
        have c3 := C2.out eb p c wr hA hR
        have Rr2 := Lib.hid rr2; clear rr2
        have C3 := Lib.hid c3; clear c3
        have He := Lib.hid he; clear he
        clear hA hR
        go_wp2_with fail
        refine C3.out.mono ?_
        rintro e w3 ⟨rfl, hb⟩
        have rr3 := Rr2.out.bl hb
        have f1 := rr3.box.cell
        have f2 := rr3.res.cell
        have f3 := rr3.res.frozen
        have e0 := (rr3.res.set (.slice p L.length c)).cell
        have O : OwnSpots w.heap.size (w3.setCell ⟨w.heap.size, 0, none⟩ (.slice p L.length c)) (.slice p L.length c) L :=
          ⟨p, c, rfl, own_mono (own_other rr3.own (fun e => by have h9 : w.heap.size + 1 ≤ w.heap.size := own_ge rr3.own _ e.symm; omega) _) (by omega)⟩
        have S := rr3.since.setS (p := ⟨w.heap.size, 0, none⟩) (Nat.le_refl _) (.slice p L.length c)
        have Rr3 := Lib.hid rr3; clear rr3
        go_wp2
        exact bodyPost_ret (v := .tuple #[.agg #[.slice p L.length c], .bool true]) (by simp [results, Try.results27, go_sem, e0]) rfl ⟨_, rfl, O, S.below⟩
set_option maxRecDepth 100000 in
set_option maxHeartbeats 8000000 in
theorem cross_any (k : Int) (w : World) : Calls Try.prog 28 #[.int .i64 k] w fun e w' => ∃ v, e = .returned (.tuple #[.agg #[v], .bool (crB k)]) ∧ OwnSpots w.heap.size w' v (crR k) ∧ Below w.heap.size w w' := by
  have S := (Since.refl w).alloc (.cells #[.slice none 0 0] 28)
  have B0 := Box.new w (.slice none 0 0) 28
  have c0 := fun w => in_any k 0 4 w
  change ∀ w, Calls _ _ _ _ (fun e w' => e = .returned (.bool (crB k)) ∧ w = w') at c0
  cases hk : crB k
  · have hR : crR k = [] := by simp [crR, hk]
    rw [hR]
    rw [hk] at c0
    have f0 := B0.frozen
    have f1 := B0.cell
    have e0 := (B0.set (.slice none 0 0)).cell
    have C0 := Lib.hid c0; clear c0
    have Hk := Lib.hid hk; clear hk
    have HR := Lib.hid hR; clear hR
    go_enter Try.func28, Try.ntmps28
    go_wp2_with fail
    refine (C0.out _).mono ?_
    rintro e w1 ⟨rfl, rfl⟩
    go_wp2
    exact bodyPost_ret (v := .tuple #[.agg #[.slice none 0 0], .bool false]) (by simp [results, Try.results28, go_sem, e0]) rfl ⟨_, rfl, OwnSpots.nil _ _, S.below⟩
  · obtain ⟨r, rfl, h1⟩ := crB_nat hk
    rw [cr_r h1]
    rw [hk] at c0
    have hmul := fun y hy => cr_mul (y := y) h1 hy
    have cA := fun n w h1 h2 => sizeC_any n w h1 h2
    have hlen := crL_len h1
    have hpos := okEl_pos (crL_ok h1)
    have c1 := fun B g c w' O => toldElement_ok B g c (crL r) w' hlen (crL_ok h1) O
    have O0 : OwnSpots (w.heap.size + 1) ((w.alloc (.cells #[.slice none 0 0] 28)).alloc (.cells #[] 45)) (.slice (some ⟨w.heap.size + 1, 0, none⟩) 0 0) [] := by
      have h1 := World.ownsRow_made (base := w.heap.size + 1) (e := 45) (size := 2) (w.alloc (.cells #[.slice none 0 0] 28)) #[] 0 (by simp) (by decide) rfl
      rw [World.size_alloc] at h1
      exact ⟨_, _, rfl, h1⟩
    replace S := S.alloc (.cells #[] 45)
    replace B0 := B0.alloc (.cells #[] 45)
    obtain ⟨L, eL⟩ : ∃ L, crL r = L := ⟨_, rfl⟩
    rw [eL] at c1 hpos ⊢
    have C0 := Lib.hid c0; clear c0
    have Hk := Lib.hid hk; clear hk
    have C1 := Lib.hid c1; clear c1
    have Hmul := Lib.hid hmul; clear hmul
    have CA := Lib.hid cA; clear cA
    have EL := Lib.hid eL; clear eL
    clear hlen
    go_enter Try.func28, Try.ntmps28
    go_wp2_with fail
    refine (C0.out _).mono ?_
    rintro e w1 ⟨rfl, rfl⟩
    go_wp2
    go_loopw [4, 5] (fun v i wr => ∃ (y : Nat) (e : Int), y ≤ 2 * r + 1 ∧ i = .int .i64 e ∧ e = (y : Int) - r ∧ OwnSpots (w.heap.size + 1) wr v (crT r (y * (2 * r + 1))) ∧ Box wr w.heap.size (.slice none 0 0) 28 ∧ Since w wr) (fun _ i _ => (r + 1 - intOf i).toNat)
    case atStart => exact ⟨0, _, Nat.zero_le _, rfl, by omega, by rw [Nat.zero_mul]; exact O0, B0, S⟩
    case round =>
      clear O0 B0 S
      obtain ⟨y, e, hy, rfl, he, O, B, S⟩ := hrel
      by_cases hyn : y < 2 * r + 1
      · have hm := Hmul.out y hy
        have he1 : e ≤ (r : Int) := by omega
        have he2 : -4 ≤ e := by omega
        have he3 : (r : Int) ≤ 4 := by omega
        obtain ⟨p0, c0, rfl⟩ := O.form
        have He := Lib.hid he; clear he
        go_wp2_with fail
        go_loopw [4, 6] (fun v i wr => ∃ (x : Nat) (u : Int), x ≤ 2 * r + 1 ∧ i = .int .i64 u ∧ u = (x : Int) - r ∧ OwnSpots (w.heap.size + 1) wr v (crT r (y * (2 * r + 1) + x)) ∧ Box wr w.heap.size (.slice none 0 0) 28 ∧ Since w wr) (fun _ i _ => (r + 1 - intOf i).toNat)
        case atStart => exact ⟨0, _, Nat.zero_le _, rfl, by omega, O, B, S⟩
        case round =>
          clear O B S
          obtain ⟨x, u, hx, rfl, hu, O, B, S⟩ := hrel
          by_cases hxn : x < 2 * r + 1
          · have hu1 : u ≤ (r : Int) := by omega
            have hu2 : -4 ≤ u := by omega
            have hsu := crT_succ (r := r) (x := x) (y := y) hxn
            have hin : crIn r x y = decide (abz u + abz e ≤ (r : Int)) := by rw [crIn, hu, He.out]
            have hle := crT_len r (y * (2 * r + 1) + x)
            have a1 := fun w => CA.out u w (by omega) (by omega)
            have a2 := fun w => CA.out e w (by omega) (by omega)
            have hb1 : 0 ≤ abz u ∧ abz u ≤ 4 := by unfold abz; omega
            have hb2 : 0 ≤ abz e ∧ abz e ≤ 4 := by unfold abz; omega
            have hpe : ((x : Int) - r, (y : Int) - r) = (u, e) := by rw [hu, He.out]
            rw [hpe] at hsu
            obtain ⟨z1, ez1⟩ : ∃ z, abz u = z := ⟨_, rfl⟩
            obtain ⟨z2, ez2⟩ : ∃ z, abz e = z := ⟨_, rfl⟩
            rw [ez1] at a1 hb1 hin
            rw [ez2] at a2 hb2 hin
            obtain ⟨l, el⟩ : ∃ l, crT r (y * (2 * r + 1) + x) = l := ⟨_, rfl⟩
            rw [el] at hsu hle O
            obtain ⟨p, c, rfl, hown⟩ := O
            have hu4 : u + 1 = ((x + 1 : Nat) : Int) - r := by omega
            have hbs : w.heap.size + 1 ≤ wr.heap.size := by have := B.lt; omega
            obtain ⟨m, hm2⟩ : ∃ m, y * (2 * r + 1) = m := ⟨_, rfl⟩
            rw [hm2] at hm hle
            obtain ⟨k, ek⟩ : ∃ k, l.length = k := ⟨_, rfl⟩
            rw [ek] at hown hle ⊢
            by_cases hc : z1 + z2 ≤ (r : Int)
            · have hsu2 : crT r (y * (2 * r + 1) + x + 1) = l ++ [(u, e)] := by rw [hsu, hin, decide_eq_true hc]; rfl
              clear hsu hin
              have Hsu2 := Lib.hid hsu2; clear hsu2
              have El := Lib.hid el; clear el
              have Ek := Lib.hid ek; clear ek
              have Hm2 := Lib.hid hm2; clear hm2
              have A1 := Lib.hid a1; clear a1
              have A2 := Lib.hid a2; clear a2
              have Ez1 := Lib.hid ez1; clear ez1
              have Ez2 := Lib.hid ez2; clear ez2
              have Hu := Lib.hid hu; clear hu
              have Hu4 := Lib.hid hu4; clear hu4
              have Hpe := Lib.hid hpe; clear hpe
              go_wp2_with (first | (go_at_call 60; with_reducible (refine (A1.out _).mono ?_; rintro e wx ⟨rfl, rfl⟩)) | (go_at_call 60; with_reducible (refine (A2.out _).mono ?_; rintro e wx ⟨rfl, rfl⟩)) | (at_builtin; refine wpList_push rfl _ _ 26 rfl (w.heap.size + 1) 45 (.agg #[.int .i64 0, .int .i64 0]) 2 16 Try.underlying26 info_spot rfl (by decide) (.slice p k c) k _ rfl hown _ 1 rfl rfl (one_spot _ _) (by omega) (by simp [maxLen]; omega) hbs ?_; intro g' cap w2 hown2 hgr hat hlt2) | fail)
              have hO : OwnSpots (w.heap.size + 1) w2 (.slice (some ⟨g', 0, none⟩) (k + 1) cap) (l ++ [(u, e)]) := by
                refine ⟨some ⟨g', 0, none⟩, cap, by rw [List.length_append, Ek.out]; rfl, ?_⟩
                rw [List.length_append, Ek.out, spotCells_snoc]
                exact hown2
              have B2 := B.grown hgr (fun e => by have h9 : w.heap.size + 1 ≤ w.heap.size := own_ge hown _ e.symm; omega)
              have S2 : Since w w2 := ⟨below_own S.below hgr (fun i hi => by have := own_ge hown i hi; omega) S.size⟩
              go_roundw
              case rel => exact ⟨x + 1, _, by omega, rfl, Hu4.out, by rw [← Nat.add_assoc, Hsu2.out]; exact hO, B2, S2⟩
              case measure => simp [intOf]; omega
            · have hsu2 : crT r (y * (2 * r + 1) + x + 1) = l := by rw [hsu, hin, decide_eq_false hc]; simp
              have hO : OwnSpots (w.heap.size + 1) wr (.slice p k c) l := ⟨p, c, by rw [ek], by rw [ek]; exact hown⟩
              clear hsu hin
              have Hsu2 := Lib.hid hsu2; clear hsu2
              have El := Lib.hid el; clear el
              have A1 := Lib.hid a1; clear a1
              have A2 := Lib.hid a2; clear a2
              have Ez1 := Lib.hid ez1; clear ez1
              have Ez2 := Lib.hid ez2; clear ez2
              have Hu := Lib.hid hu; clear hu
              have Hu4 := Lib.hid hu4; clear hu4
              have Hpe := Lib.hid hpe; clear hpe
              have HO := Lib.hid hO; clear hO
              have Ek := Lib.hid ek; clear ek
              go_wp2_with (first | (go_at_call 60; with_reducible (refine (A1.out _).mono ?_; rintro e wx ⟨rfl, rfl⟩)) | (go_at_call 60; with_reducible (refine (A2.out _).mono ?_; rintro e wx ⟨rfl, rfl⟩)) | fail)
              go_roundw
              case rel => exact ⟨x + 1, _, by omega, rfl, Hu4.out, by rw [← Nat.add_assoc, Hsu2.out]; exact HO.out, B, S⟩
              case measure => simp [intOf]; omega
          · obtain rfl : x = 2 * r + 1 := by omega
            have e1 : (y + 1) * (2 * r + 1) = y * (2 * r + 1) + (2 * r + 1) := by rw [Nat.add_mul, Nat.one_mul]
            have hu1 : (r : Int) < u := by omega
            have hu3 : u ≤ 5 := by omega
            have he4 : e + 1 = ((y + 1 : Nat) : Int) - r := by rw [He.out]; omega
            obtain ⟨p1, c1, rfl⟩ := O.form
            have E1 := Lib.hid e1; clear e1
            have Hu := Lib.hid hu; clear hu
            have He4 := Lib.hid he4; clear he4
            go_wp2
            go_roundw
            case rel => exact ⟨y + 1, _, by omega, rfl, He4.out, by rw [E1.out]; exact O, B, S⟩
            case measure => simp [intOf]; omega
      · obtain rfl : y = 2 * r + 1 := by omega
        have he1 : (r : Int) < e := by omega
        have he5 : e ≤ 5 := by omega
        have O2 := O
        rw [show crT r ((2 * r + 1) * (2 * r + 1)) = L from EL.out] at O2
        clear O
        obtain ⟨g, c, rfl, hg⟩ := O2.at hpos
        have He := Lib.hid he; clear he
        go_wp2_with fail
        refine (C1.out _ _ _ _ O2).mono ?_
        rintro e w1 ⟨rfl, hb⟩
        replace S := S.bl hb
        replace B := B.bl hb
        have O3 := O2.bl hb
        have f0 := B.frozen
        have f1 := B.cell
        have e0 := (B.set (.slice (some ⟨g, 0, none⟩) L.length c)).cell
        have O4 : OwnSpots w.heap.size (w1.setCell ⟨w.heap.size, 0, none⟩ (.slice (some ⟨g, 0, none⟩) L.length c)) (.slice (some ⟨g, 0, none⟩) L.length c) L := by
          obtain ⟨p', c', hv, ho⟩ := O3
          exact ⟨p', c', hv, own_mono (own_other ho (fun e => by have h9 : w.heap.size + 1 ≤ w.heap.size := own_ge ho _ e.symm; omega) _) (by omega)⟩
        have S2 := S.setS (p := ⟨w.heap.size, 0, none⟩) (Nat.le_refl _) (.slice (some ⟨g, 0, none⟩) L.length c)
        go_wp2
        exact bodyPost_ret (v := .tuple #[.agg #[.slice (some ⟨g, 0, none⟩) L.length c], .bool true]) (by simp [results, Try.results28, go_sem, e0]) rfl ⟨_, rfl, O4, S2.below⟩
end Go.Proofs.Ytheakjbbfdcbaaa
