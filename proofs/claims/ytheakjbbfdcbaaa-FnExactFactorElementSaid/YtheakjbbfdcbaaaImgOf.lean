/- Contracts of imageOf and ValidPicture. -/
import Derived.Test.YtheakjbbfdcbaaaImg
set_option linter.unusedVariables false
namespace Go.Proofs.Ytheakjbbfdcbaaa
open Go.RowKit

/-- Is the byte x of row y a '#'? -/
def bitAt (ss : List ByteArray) (x y : Nat) : Bool := match (rowS ss y).data.toList[x]? with | some b => b == 35 | none => false
/-- The pixels in reading order. -/
def bits (ss : List ByteArray) (i : Nat) : Bool := bitAt ss (i % wid ss) (i / wid ss)

theorem bitAt_byte {ss : List ByteArray} {x y : Nat} (hx : x < (rowS ss y).size) : bitAt ss x y = ((rowS ss y)[x] == 35) := by
  unfold bitAt
  rw [List.getElem?_eq_getElem (by simpa using hx)]
  rfl
theorem bits_at {ss : List ByteArray} {x y : Nat} (hx : x < wid ss) : bits ss (y * wid ss + x) = bitAt ss x y := by
  unfold bits
  rw [Nat.mul_comm, Nat.mul_add_mod, Nat.mod_eq_of_lt hx, Nat.mul_add_div (by omega), Nat.div_eq_of_lt hx, Nat.add_zero]

/-- What imageOf answers. -/
def ImgOut (w : World) (ss : List ByteArray) (e : Ending) (w' : World) : Prop :=
  Below w.heap.size w w' ∧ ((okPic ss = false ∧ e = .returned (.tuple #[.pointer none, .bool false])) ∨
    (okPic ss = true ∧ ∃ m g, e = .returned (.tuple #[.pointer (some ⟨m, 0, none⟩), .bool true]) ∧ Img w' m g (wid ss) ss.length (bits ss) ∧ w.heap.size ≤ m ∧ w.heap.size ≤ g))

/-- The image while it is read: n pixels are there. -/
def part (ss : List ByteArray) (n : Nat) (i : Nat) : Bool := if i < n then bits ss i else false

theorem img_step {w : World} {m g W H : Nat} {ss : List ByteArray} {n : Nat} (h : Img w m g W H (part ss n)) (b : Bool) (hb : bits ss n = b) : Img (w.setCell ⟨g, n, none⟩ (.bool b)).drew m g W H (part ss (n + 1)) := by
  refine ((h.set n b).drewN 1).congr (fun i _ => ?_)
  unfold part
  by_cases e : i = n
  · subst e; simp [hb]
  · by_cases l : i < n
    · simp [e, l, show i < n + 1 by omega]
    · simp [e, l, show ¬ i < n + 1 by omega]

theorem inB_false {n lo hi : Int} (h : ¬ (lo ≤ n ∧ n ≤ hi)) : inB n lo hi = false := by
  simp only [inB, Bool.and_eq_false_iff, decide_eq_false_iff_not]; omega

set_option maxHeartbeats 2000000 in
theorem imageOf_big (p : Option Addr) (c : Nat) (ss : List ByteArray) (w : World) (hn : ss.length ≤ 1048577) (hs : ∀ s ∈ ss, s.size ≤ 1048576) (hr : Rd w p ss.length (strAt ss)) :
    Calls Try.prog 54 #[.agg #[.slice p ss.length c]] w (ImgOut w ss) := by
  by_cases hn0 : ss.length = 0
  · have hl : ((ss.length : Int) == 0) = true := by rw [beq_iff_eq]; omega
    have HO := Lib.hid (okPic_no1 (ss := ss) (inB_false (by omega)))
    clear hn0
    go_enter Try.func54, Try.ntmps54
    go_wp2
    go_quiet (fail)
    go_wp2
    go_ret2
    exact ⟨by (repeat' (first | exact Below.refl _ _ | assumption | refine Below.drew ?_ | refine below_drewN ?_ _ | refine Below.alloc ?_ ?_ _ | refine Below.setCell ?_ ?_ _ | go_size)), .inl ⟨HO.out, rfl⟩⟩
  · have hl : ((ss.length : Int) == 0) = false := by rw [beq_eq_false_iff_ne]; omega
    have hl0 : 0 < ss.length := by omega
    obtain ⟨b, o, rfl, hb, hc⟩ := hr.at (k := 0) (by omega)
    have hc0 := hc 0 (by omega)
    rw [Nat.add_zero] at hc0
    have hw0 := hs _ (getD_mem (ss := ss) (k := 0) (by omega))
    have HW : Hid (wid ss = (ss.getD 0 ByteArray.empty).size) := rfl
    obtain ⟨s0, es0⟩ : ∃ s0, ss.getD 0 ByteArray.empty = s0 := ⟨_, rfl⟩
    rw [strAt, es0] at hc0
    rw [es0] at hw0 HW
    clear es0 hn0
    have Hc := Lib.hid hc; clear hc
    have Hs := Lib.hid hs; clear hs
    cases h2 : sizeOkB s0.size ss.length
    · have HO : Hid (okPic ss = false) := by
        unfold sizeOkB at h2
        rw [Bool.and_eq_false_iff] at h2
        rcases h2 with h2 | h2
        · exact okPic_no2 (by rw [HW.out]; exact h2)
        · exact okPic_no1 h2
      have hcall := fun (w : World) => (sizeOk_any s0.size ss.length w).mono (fun e w' q => (⟨q.1.trans (by rw [h2]), q.2.symm⟩ : e = .returned (.bool false) ∧ w' = w))
      have Hcall := Lib.hid hcall; clear hcall
      have H2 := Lib.hid h2; clear h2
      go_enter Try.func54, Try.ntmps54
      go_wp2
      go_quiet ((go_at_call 69; exact Calls.quiet_of_same (Hcall.out _)))
      go_wp2
      go_ret2
      exact ⟨by (repeat' (first | exact Below.refl _ _ | assumption | refine Below.drew ?_ | refine below_drewN ?_ _ | refine Below.alloc ?_ ?_ _ | refine Below.setCell ?_ ?_ _ | go_size)), .inl ⟨HO.out, rfl⟩⟩
    · have hd : (1 ≤ s0.size ∧ s0.size ≤ 16) ∧ (1 ≤ ss.length ∧ ss.length ≤ 16) := by
        simp only [sizeOkB, Bool.and_eq_true, inB, decide_eq_true_eq] at h2; omega
      obtain ⟨⟨hw1, hw16⟩, hh1, hh16⟩ := hd
      have hcall := fun (w : World) => (sizeOk_any s0.size ss.length w).mono (fun e w' q => (⟨q.1.trans (by rw [h2]), q.2.symm⟩ : e = .returned (.bool true) ∧ w' = w))
      have Hcall := Lib.hid hcall; clear hcall
      have H2 := Lib.hid h2; clear h2
      go_enter Try.func54, Try.ntmps54
      go_wp2
      go_quiet ((go_at_call 69; exact Calls.quiet_of_same (Hcall.out _)))
      go_wp2
      go_region_held3 (fun w' => w'.cell? ⟨w.heap.size, 0, none⟩ = some (.slice (some ⟨b, o, none⟩) ss.length c) ∧ w'.cell? ⟨b, o, none⟩ = some (.string s0))
        (first
          | go_keep
          | exact ⟨(hb1.cell (p := ⟨w.heap.size, 0, none⟩) (by simp)).trans (by simp), (hb1.cell (p := ⟨b, o, none⟩) (by simp; omega)).trans (by simp [World.cell?_alloc_lt, hb, hc0])⟩)
        ((go_at_call 70; refine (blank_any s0.size ss.length _ hw1 hw16 hh1 hh16).mono ?_; rintro e w1 ⟨m, g, rfl, hI, hm, hg, hb1⟩))
      have hsz0 : ((w.alloc (.cells #[.slice (some ⟨b, o, none⟩) ss.length c] 43)).drewN (nq + 1)).heap.size = w.heap.size + 1 := by simp
      rw [hsz0] at hm hg hb1
      have hbw : Below w.heap.size w w1 := (below_drewN ((Below.refl _ _).alloc (Nat.le_refl _) _) _).trans (hb1.mono (by omega))
      have hc1 : ∀ i, i < ss.length → w1.cell? ⟨b, o + i, none⟩ = some (strAt ss i) := fun i hi => (hbw.cell (p := ⟨b, o + i, none⟩) hb).trans (Hc.out i hi)
      have hbox : w1.cell? ⟨w.heap.size, 0, none⟩ = some (.slice (some ⟨b, o, none⟩) ss.length c) := (hb1.cell (p := ⟨w.heap.size, 0, none⟩) (by simp)).trans (by simp)
      have hI0 := hI.congr (f' := part ss 0) (fun i _ => by simp [part])
      have hbs : b < w.heap.size + 1 := by omega
      clear hb1 hI hsz0 Hcall H2 Hc hr hc0
      have Hc1 := Lib.hid hc1; clear hc1
      have Hbox := Lib.hid hbox; clear hbox
      generalize s0.size = W at *
      go_wp2
      go_loopw [36] (fun i wr => ∃ y : Nat, y ≤ ss.length ∧ i = .int .i64 y ∧ Below (w.heap.size + 1) w1 wr ∧ Img wr m g W ss.length (part ss (y * W)) ∧ (ss.take y).all (okRow W) = true) (fun i _ => ss.length - (intOf i).toNat)
      case atStart => exact ⟨0, Nat.zero_le _, rfl, Below.refl _ _, by rw [Nat.zero_mul]; exact hI0, by simp⟩
      case round =>
        obtain ⟨y, hy, rfl, hby, hIy, hok⟩ := hrel
        have Hok := Lib.hid hok; clear hok
        by_cases hyn : y < ss.length
        · have hcy : wr.cell? ⟨b, o + y, none⟩ = some (strAt ss y) := (hby.cell (p := ⟨b, o + y, none⟩) hbs).trans (Hc1.out y hyn)
          have hsy := Hs.out _ (getD_mem hyn)
          have hst := Lib.hid (rows_stop (okRow W) ss y hyn)
          have hsu := Lib.hid (rows_take_succ (okRow W) ss y hyn)
          rw [strAt] at hcy
          obtain ⟨s, es⟩ : ∃ s, ss.getD y ByteArray.empty = s := ⟨_, rfl⟩
          rw [es] at hcy hsy hst hsu
          have Es := Lib.hid es; clear es
          have d0 := hIy.c0
          by_cases hsz : s.size = W
          · have hz1 : ((s.size : Int) != (W : Int)) = false := by simp; omega
            have hsl1 : s.size ≤ W := by omega
            have hsl2 : W ≤ s.size := by omega
            have HZ := Lib.hid hsz
            clear hsz
            go_wp2
            go_loopw [50] (fun i wi => ∃ j : Nat, j ≤ s.size ∧ i = .int .i64 j ∧ Below (w.heap.size + 1) w1 wi ∧ Img wi m g W ss.length (part ss (y * W + j)) ∧ (s.data.toList.take j).all okB = true) (fun i _ => s.size - (intOf i).toNat)
            case atStart => exact ⟨0, Nat.zero_le _, rfl, hby, hIy, by simp⟩
            case round =>
              obtain ⟨j, hj, rfl, hbj, hIj, hokj⟩ := hrel
              clear hby hIy hcy d0
              have Hokj := Lib.hid hokj; clear hokj
              by_cases hjs : j < s.size
              · have hsj := Lib.hid (all_take_succ okB s j hjs)
                have hxj := Lib.hid (all_of_stop okB s j hjs)
                have hbit : Hid (bits ss (y * W + j) = (s[j] == 35)) := by
                  have h1 : j < wid ss := by rw [HW.out]; omega
                  have h2 := bits_at (ss := ss) (y := y) h1
                  rw [HW.out] at h2
                  rw [Hid, h2]
                  have e := Es.out
                  subst e
                  exact bitAt_byte hjs
                have hset := fun b => set_any m g W ss.length (part ss (y * W + j)) (j : Int) (y : Int) b wr hIj (by omega) (by omega) (by omega) (by omega)
                simp only [Int.toNat_natCast] at hset
                have hstp := fun b hb => img_step (b := b) hIj (by rw [hbit.out]; exact hb)
                have hbel := fun (b : Bool) => (hbj.setCell (p := ⟨g, y * W + j, none⟩) hg (.bool b)).drew
                have Hset := Lib.hid hset; clear hset
                have Hstp := Lib.hid hstp; clear hstp
                have Hbel := Lib.hid hbel; clear hbel
                clear hbit
                by_cases e1 : s[j] = 35
                · have t1 : ((s[j].toNat : Int) != 35) = false := byte_eq e1
                  have t2 : ((s[j].toNat : Int) == 35) = true := by rw [beq_iff_eq, e1]; rfl
                  have hb1 := Hstp.out true (by simp [e1])
                  have hb2 := Hbel.out true
                  have E1 := Lib.hid e1
                  clear e1
                  go_wp2_with (go_at_call 71; refine (Hset.out true).mono ?_; rintro e w' ⟨rfl, rfl⟩)
                  go_roundw
                  case rel => exact ⟨j + 1, by omega, by go_num, hb2, hb1, by rw [hsj.out, Hokj.out, E1.out]; rfl⟩
                  case measure => simp [intOf]; omega
                · have t1 : ((s[j].toNat : Int) != 35) = true := byte_ne e1
                  by_cases e2 : s[j] = 46
                  · have t2 : ((s[j].toNat : Int) != 46) = false := byte_eq e2
                    have t3 : ((s[j].toNat : Int) == 35) = false := by rw [e2]; rfl
                    have hb1 := Hstp.out false (by simp [e1])
                    have hb2 := Hbel.out false
                    have E2 := Lib.hid e2
                    clear e1 e2
                    go_wp2_with (go_at_call 71; refine (Hset.out false).mono ?_; rintro e w' ⟨rfl, rfl⟩)
                    go_roundw
                    case rel => exact ⟨j + 1, by omega, by go_num, hb2, hb1, by rw [hsj.out, Hokj.out, E2.out]; rfl⟩
                    case measure => simp [intOf]; omega
                  · have t2 : ((s[j].toNat : Int) != 46) = true := byte_ne e2
                    have E2 : Hid (okB s[j] = false) := by simp [Hid, okB, e1, e2]
                    have HF := Lib.hid (okPic_no3 (ss := ss) (by rw [HW.out]; exact hst.out (by simp [okRow, hxj.out E2.out])))
                    clear e1 e2
                    go_wp2
                    go_ret2
                    exact ⟨hbw.trans (hbj.mono (by omega)), .inl ⟨HF.out, rfl⟩⟩
              · obtain rfl : j = s.size := by omega
                have hk' : Hid (okRow W s = true) := by
                  have := Hokj.out
                  rw [all_full] at this
                  simp [Hid, okRow, this, HZ.out]
                have hI2 := hIj
                rw [show y * W + s.size = (y + 1) * W by rw [HZ.out, Nat.add_mul, Nat.one_mul]] at hI2
                go_wp2
                go_roundw
                case rel => exact ⟨y + 1, by omega, by go_num, hbj, hI2, by rw [hsu.out, Hok.out, hk'.out]; rfl⟩
                case measure => simp [intOf]; omega
          · have hz1 : ((s.size : Int) != (W : Int)) = true := by simp; omega
            have HF := Lib.hid (okPic_no3 (by rw [HW.out]; exact hst.out (by simp [okRow, hsz])))
            clear hsz
            go_wp2
            go_ret2
            exact ⟨hbw.trans (hby.mono (by omega)), .inl ⟨HF.out, rfl⟩⟩
        · obtain rfl : y = ss.length := by omega
          have HF := Lib.hid (okPic_yes (ss := ss) (inB_mk (by omega) (by omega)) (by rw [HW.out]; exact inB_mk (by omega) (by omega)) (by rw [HW.out, ← rows_full]; exact Hok.out))
          go_wp2
          go_ret2
          refine ⟨hbw.trans (hby.mono (by omega)), .inr ⟨HF.out, m, g, rfl, ?_, by omega, by omega⟩⟩
          rw [HW.out]
          exact hIy.congr (fun i hi => by rw [part, if_pos (by rw [Nat.mul_comm]; exact hi)])
theorem imageOf_any (p : Option Addr) (c : Nat) (ss : List ByteArray) (w : World) (hn : ss.length ≤ 1048576) (hs : ∀ s ∈ ss, s.size ≤ 1048576) (hr : Rd w p ss.length (strAt ss)) :
    Calls Try.prog 54 #[.agg #[.slice p ss.length c]] w (ImgOut w ss) :=
  imageOf_big p c ss w (by omega) hs hr
end Go.Proofs.Ytheakjbbfdcbaaa
