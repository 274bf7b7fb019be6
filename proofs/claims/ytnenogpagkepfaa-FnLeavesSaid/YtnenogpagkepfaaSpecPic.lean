/- Contracts of the reference's functions on pictures. -/
import Derived.Test.YtnenogpagkepfaaBase
set_option linter.unusedVariables false
namespace Go.Proofs.Ytnenogpagkepfaa
open Go.RowKit

set_option maxHeartbeats 1000000 in
theorem l01Is_big (a : Nat) (p : Option Addr) (c : Nat) (ss : List ByteArray) (w : World) (hn : ss.length ≤ 1048577) (hs : ∀ s ∈ ss, s.size ≤ 1048576)
    (ha : w.cell? ⟨a, 0, none⟩ = some (.slice p ss.length c)) (hr : Rd w p ss.length (strAt ss)) :
    Calls Try.prog 72 #[.pointer (some ⟨a, 0, none⟩)] w fun e w' => e = .returned (.bool (okPic ss)) ∧ ∃ n, w' = w.drewN n := by
  cases h1 : inB ss.length 1 16
  · have H := Lib.hid (okPic_no1 h1)
    go_enter Try.func72, Try.ntmps72
    go_wp2_with (go_at_call 101; refine (l01Side_any _ _).mono ?_; rintro e w' ⟨rfl, rfl⟩)
    go_ret
    exact ⟨ret_bool H.out.symm, 0, rfl⟩
  · have hl := inB_true h1
    obtain ⟨b, o, rfl, hb, hc⟩ := hr.at (k := 0) (by omega)
    have hc0 := hc 0 (by omega)
    rw [Nat.add_zero] at hc0
    have hw0 := hs _ (getD_mem (ss := ss) (k := 0) (by omega))
    have HW : Hid (wid ss = (ss.getD 0 ByteArray.empty).size) := rfl
    obtain ⟨s0, es0⟩ : ∃ s0, ss.getD 0 ByteArray.empty = s0 := ⟨_, rfl⟩
    rw [strAt, es0] at hc0
    rw [es0] at hw0 HW
    clear es0
    cases h2 : inB s0.size 1 16
    · have H := Lib.hid (okPic_no2 (ss := ss) (by rw [HW.out]; exact h2))
      clear hc
      go_enter Try.func72, Try.ntmps72
      go_wp2_with (go_at_call 101; refine (l01Side_any _ _).mono ?_; rintro e w' ⟨rfl, rfl⟩)
      go_ret
      exact ⟨ret_bool H.out.symm, 0, rfl⟩
    · have hm := inB_true h2
      have Hc := Lib.hid hc; clear hc
      have Hs := Lib.hid hs; clear hs
      go_enter Try.func72, Try.ntmps72
      go_wp2_with (go_at_call 101; refine (l01Side_any _ _).mono ?_; rintro e w' ⟨rfl, rfl⟩)
      go_loopw [3] (fun i wr => ∃ k : Nat, k ≤ ss.length ∧ i = .int .i64 k ∧ (∃ n, wr = w.drewN n) ∧ (ss.take k).all (okRow s0.size) = true) (fun i _ => ss.length - (intOf i).toNat)
      case atStart => exact ⟨0, Nat.zero_le _, rfl, ⟨0, rfl⟩, by simp⟩
      case round =>
        obtain ⟨k, hk, rfl, ⟨n, rfl⟩, hok⟩ := hrel
        have HO := Lib.hid hok
        clear hok
        by_cases hlt : k < ss.length
        · have hck := Hc.out k hlt
          have hsk := Hs.out _ (getD_mem hlt)
          have hst := Lib.hid (rows_stop (okRow s0.size) ss k hlt)
          have hsu := Lib.hid (rows_take_succ (okRow s0.size) ss k hlt)
          rw [strAt] at hck
          generalize ss.getD k ByteArray.empty = s at *
          by_cases hsz : s.size = s0.size
          · have hz1 : ((s.size : Int) != (s0.size : Int)) = false := by simp; omega
            have HZ := Lib.hid hsz
            clear hsz
            go_wp2
            go_quiet (fail)
            go_wp2
            go_loopw [4] (fun i wr => ∃ j : Nat, j ≤ s.size ∧ i = .int .i64 j ∧ (∃ n, wr = w.drewN n) ∧ (s.data.toList.take j).all okB = true) (fun i _ => s.size - (intOf i).toNat)
            case atStart => exact ⟨0, Nat.zero_le _, rfl, ⟨_, World.drewN_drewN _ _ _⟩, by simp⟩
            case round =>
              obtain ⟨j, hj, rfl, ⟨n2, rfl⟩, hokj⟩ := hrel
              have HJ := Lib.hid hokj
              clear hokj
              by_cases hjs : j < s.size
              · have hsj := Lib.hid (all_take_succ okB s j hjs)
                have hxj := Lib.hid (all_of_stop okB s j hjs)
                by_cases e1 : s[j] = 35
                · have t1 : ((s[j].toNat : Int) != 35) = false := byte_eq e1
                  have E1 := Lib.hid e1
                  clear e1
                  go_wp2
                  go_roundw
                  case rel => exact ⟨j + 1, by omega, by go_num, ⟨_, rfl⟩, by rw [hsj.out, HJ.out, E1.out]; rfl⟩
                  case measure => simp [intOf]; omega
                · have t1 : ((s[j].toNat : Int) != 35) = true := byte_ne e1
                  by_cases e2 : s[j] = 46
                  · have t2 : ((s[j].toNat : Int) != 46) = false := byte_eq e2
                    have E2 := Lib.hid e2
                    clear e1 e2
                    go_wp2
                    go_roundw
                    case rel => exact ⟨j + 1, by omega, by go_num, ⟨_, rfl⟩, by rw [hsj.out, HJ.out, E2.out]; rfl⟩
                    case measure => simp [intOf]; omega
                  · have t2 : ((s[j].toNat : Int) != 46) = true := byte_ne e2
                    have E2 : Hid (okB s[j] = false) := by simp [Hid, okB, e1, e2]
                    clear e1 e2
                    go_wp2
                    go_ret
                    exact ⟨ret_bool (okPic_no3 (by rw [HW.out]; exact hst.out (by simp [okRow, hxj.out E2.out]))).symm, _, rfl⟩
              · obtain rfl : j = s.size := by omega
                have hk' : Hid (okRow s0.size s = true) := by
                  have := HJ.out
                  rw [all_full] at this
                  simp [Hid, okRow, this, HZ.out]
                go_wp2
                go_roundw
                case rel => exact ⟨k + 1, by omega, by go_num, ⟨_, rfl⟩, by rw [hsu.out, HO.out, hk'.out]; rfl⟩
                case measure => simp [intOf]; omega
          · have hz1 : ((s.size : Int) != (s0.size : Int)) = true := by simp; omega
            have HZ := Lib.hid hsz
            clear hsz
            go_wp2
            go_quiet (fail)
            go_wp2
            go_ret
            exact ⟨ret_bool (okPic_no3 (by rw [HW.out]; exact hst.out (by simp [okRow, HZ.out]))).symm, _, World.drewN_drewN _ _ _⟩
        · obtain rfl : k = ss.length := by omega
          go_wp2
          go_ret
          exact ⟨ret_bool (okPic_yes h1 (by rw [HW.out]; exact h2) (by rw [HW.out, ← rows_full]; exact HO.out)).symm, _, rfl⟩
theorem l01Is_any (a : Nat) (p : Option Addr) (c : Nat) (ss : List ByteArray) (w : World) (hn : ss.length ≤ 1048576) (hs : ∀ s ∈ ss, s.size ≤ 1048576)
    (ha : w.cell? ⟨a, 0, none⟩ = some (.slice p ss.length c)) (hr : Rd w p ss.length (strAt ss)) :
    Calls Try.prog 72 #[.pointer (some ⟨a, 0, none⟩)] w fun e w' => e = .returned (.bool (okPic ss)) ∧ ∃ n, w' = w.drewN n :=
  l01Is_big a p c ss w (by omega) hs ha hr
end Go.Proofs.Ytnenogpagkepfaa
