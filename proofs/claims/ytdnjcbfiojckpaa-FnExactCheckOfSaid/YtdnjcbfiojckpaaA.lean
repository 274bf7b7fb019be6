/- Contracts of the small functions on names and check numbers: what spec.IsName, impl.IsName, spec.CheckOf and impl.CheckOf return. -/
import Derived.Test.YtdnjcbfiojckpaaBase
set_option linter.unusedVariables false
namespace Go.Proofs.Ytdnjcbfiojckpaa
open Go.RowKit

def nameB (b : UInt8) : Bool := decide (97 ≤ (b.toNat : Int)) && decide ((b.toNat : Int) ≤ 122)
def isNameB (s : ByteArray) : Bool := s.data.toList.all nameB && decide (1 ≤ s.size) && decide (s.size ≤ 8)

theorem isName_end (s : ByteArray) (h : (s.data.toList.take s.size).all nameB = true) : isNameB s = (decide (1 ≤ s.size) && decide (s.size ≤ 8)) := by
  rw [List.take_of_length_le (by simp)] at h
  simp [isNameB, h]

theorem isName_stop (s : ByteArray) (k : Nat) (h : k < s.size) (hp : nameB s[k] = false) : isNameB s = false := by
  simp [isNameB, all_of_stop nameB s k h hp]

set_option maxHeartbeats 400000 in
theorem isName_any (s : ByteArray) (w : World) (hs : s.size ≤ maxLen) :
    Calls Try.prog 10 #[.string s] w fun e w' => e = .returned (.bool (isNameB s)) ∧ w = w' := by
  unfold maxLen at hs
  go_enter Try.func10, Try.ntmps10
  go_wp2
  go_loop [6] (fun i => ∃ k : Nat, k ≤ s.size ∧ i = .int .i64 k ∧ (s.data.toList.take k).all nameB = true) (fun i => s.size - (intOf i).toNat)
  case atStart => exact ⟨0, Nat.zero_le _, rfl, by simp⟩
  case round =>
    obtain ⟨k, hk, rfl, hall⟩ := hrel
    have HA := Lib.hid hall
    clear hall
    by_cases hlt : k < s.size
    · have hst := Lib.hid (isName_stop s k hlt)
      have hsu := Lib.hid (all_take_succ nameB s k hlt)
      go_wp2
      · go_ret
        exact ⟨ret_bool (hst.out (by simp [nameB]; omega)).symm, rfl⟩
      · go_round
        case rel => exact ⟨k + 1, by omega, by go_num, by rw [hsu.out, HA.out]; simp [nameB]; omega⟩
        case measure => simp [intOf]; omega
      · go_ret
        exact ⟨ret_bool (hst.out (by simp [nameB]; omega)).symm, rfl⟩
    · obtain rfl : k = s.size := by omega
      have hen := Lib.hid (isName_end s HA.out)
      clear hk hlt
      by_cases h1 : 1 ≤ s.size
      · go_wp2
        go_ret
        exact ⟨ret_bool (by rw [hen.out, Bool.eq_iff_iff]; (try simp only [Bool.and_eq_true, decide_eq_true_eq]); (try simp); omega), rfl⟩
      · go_wp2
        go_ret
        exact ⟨ret_bool (by rw [hen.out, Bool.eq_iff_iff]; (try simp only [Bool.and_eq_true, decide_eq_true_eq]); (try simp); omega), rfl⟩
set_option maxHeartbeats 400000 in
theorem sIsName_any (s : ByteArray) (w : World) (hs : s.size ≤ maxLen) :
    Calls Try.prog 9 #[.string s] w fun e w' => e = .returned (.bool (isNameB s)) ∧ w = w' := by
  unfold maxLen at hs
  go_enter Try.func9, Try.ntmps9
  go_wp2
  go_loop [3] (fun i => ∃ k : Nat, k ≤ s.size ∧ i = .int .i64 k ∧ (s.data.toList.take k).all nameB = true) (fun i => s.size - (intOf i).toNat)
  case atStart => exact ⟨0, Nat.zero_le _, rfl, by simp⟩
  case round =>
    obtain ⟨k, hk, rfl, hall⟩ := hrel
    have HA := Lib.hid hall
    clear hall
    by_cases hlt : k < s.size
    · have hst := Lib.hid (isName_stop s k hlt)
      have hsu := Lib.hid (all_take_succ nameB s k hlt)
      go_wp2
      · go_ret
        exact ⟨ret_bool (hst.out (by simp [nameB]; omega)).symm, rfl⟩
      · go_round
        case rel => exact ⟨k + 1, by omega, by go_num, by rw [hsu.out, HA.out]; simp [nameB]; omega⟩
        case measure => simp [intOf]; omega
      · go_ret
        exact ⟨ret_bool (hst.out (by simp [nameB]; omega)).symm, rfl⟩
    · obtain rfl : k = s.size := by omega
      have hen := Lib.hid (isName_end s HA.out)
      clear hk hlt
      by_cases h1 : 1 ≤ s.size
      · go_wp2
        go_ret
        exact ⟨ret_bool (by rw [hen.out, Bool.eq_iff_iff]; (try simp only [Bool.and_eq_true, decide_eq_true_eq]); (try simp); omega), rfl⟩
      · go_wp2
        go_ret
        exact ⟨ret_bool (by rw [hen.out, Bool.eq_iff_iff]; (try simp only [Bool.and_eq_true, decide_eq_true_eq]); (try simp); omega), rfl⟩

def chk (n : Int) (l : List UInt8) : Int := l.foldl (fun a b => (421 * a + (b.toNat : Int) + 19) % 65129) n
theorem chk_bd (n : Int) (l : List UInt8) (h0 : 0 ≤ n) (h1 : n ≤ 65128) : 0 ≤ chk n l ∧ chk n l ≤ 65128 := by
  unfold chk
  induction l generalizing n with
  | nil => exact ⟨h0, h1⟩
  | cons b l ih => exact ih _ (by dsimp only; omega) (by dsimp only; omega)
theorem chk_snoc (n : Int) (l : List UInt8) (b : UInt8) : chk n (l ++ [b]) = (421 * chk n l + (b.toNat : Int) + 19) % 65129 := by simp [chk, List.foldl_append]
theorem chk_take (n : Int) (s : ByteArray) (k : Nat) (h : k < s.size) : chk n (s.data.toList.take (k + 1)) = (421 * chk n (s.data.toList.take k) + (s[k].toNat : Int) + 19) % 65129 := by
  rw [List.take_succ_eq_append_getElem (by simpa using h), chk_snoc]; rfl
theorem chk_full (n : Int) (s : ByteArray) : chk n (s.data.toList.take s.size) = chk n s.data.toList := by rw [List.take_of_length_le (by simp)]

set_option maxHeartbeats 400000 in
theorem l01Check_any (n : Int) (s : ByteArray) (w : World) (hs : s.size ≤ maxLen) (h0 : 0 ≤ n) (h1 : n ≤ 65128) :
    Calls Try.prog 26 #[.int .i64 n, .string s] w fun e w' => e = .returned (.int .i64 (chk n s.data.toList)) ∧ w = w' := by
  unfold maxLen at hs
  go_enter Try.func26, Try.ntmps26
  go_wp2
  go_loop [0, 5] (fun m i => ∃ k : Nat, k ≤ s.size ∧ i = .int .i64 k ∧ m = .int .i64 (chk n (s.data.toList.take k))) (fun _ i => s.size - (intOf i).toNat)
  case atStart => exact ⟨0, Nat.zero_le _, rfl, rfl⟩
  case round =>
    obtain ⟨k, hk, rfl, rfl⟩ := hrel
    by_cases hlt : k < s.size
    · have hb := chk_bd n (s.data.toList.take k) h0 h1
      have ht := chk_take n s k hlt
      generalize chk n (s.data.toList.take k) = c at *
      have HT := Lib.hid ht
      have hbyte := s[k].toNat_lt
      clear ht
      go_wp2
      go_round
      case rel => exact ⟨k + 1, by omega, by go_num, by rw [HT.out]⟩
      case measure => simp [intOf]; omega
    · obtain rfl : k = s.size := by omega
      go_wp2
      go_ret
      exact ⟨ret_int (chk_full n s), rfl⟩
set_option maxHeartbeats 400000 in
theorem sCheckOf_any (n : Int) (s : ByteArray) (w : World) (hs : s.size ≤ maxLen) :
    Calls Try.prog 11 #[.int .i64 n, .string s] w fun e w' => e = .returned (.tuple #[.int .i64 (if inB n 0 65128 then chk n s.data.toList else 0), .bool (inB n 0 65128)]) ∧ w = w' := by
  cases h : inB n 0 65128
  · go_enter Try.func11, Try.ntmps11
    go_wp2_with (go_at_call 25; refine (l00In_any _ _ _ _).mono ?_; rintro e w' ⟨rfl, rfl⟩)
    go_ret2
    exact ⟨rfl, rfl⟩
  · have hh : 0 ≤ n ∧ n ≤ 65128 := by simpa [inB] using h
    obtain ⟨h0, h1⟩ := hh
    go_enter Try.func11, Try.ntmps11
    go_wp2_with (first | (go_at_call 25; refine (l00In_any _ _ _ _).mono ?_; rintro e w' ⟨rfl, rfl⟩) | (go_at_call 26; refine (l01Check_any _ _ _ hs h0 h1).mono ?_; rintro e w' ⟨rfl, rfl⟩))
    go_ret2
    exact ⟨rfl, rfl⟩
set_option maxHeartbeats 400000 in
theorem checkOf_any (n : Int) (s : ByteArray) (w : World) (hs : s.size ≤ maxLen) :
    Calls Try.prog 12 #[.int .i64 n, .string s] w fun e w' => e = .returned (.tuple #[.int .i64 (if inB n 0 65128 then chk n s.data.toList else 0), .bool (inB n 0 65128)]) ∧ w = w' := by
  cases h : inB n 0 65128
  · go_enter Try.func12, Try.ntmps12
    go_wp2_with (go_at_call 27; refine (in_any _ _ _ _).mono ?_; rintro e w' ⟨rfl, rfl⟩)
    go_ret2
    exact ⟨rfl, rfl⟩
  · have hh : 0 ≤ n ∧ n ≤ 65128 := by simpa [inB] using h
    obtain ⟨h0, h1⟩ := hh
    unfold maxLen at hs
    go_enter Try.func12, Try.ntmps12
    go_wp2_with (go_at_call 27; refine (in_any _ _ _ _).mono ?_; rintro e w' ⟨rfl, rfl⟩)
    go_loop [0, 12] (fun m i => ∃ k : Nat, k ≤ s.size ∧ i = .int .i64 k ∧ m = .int .i64 (chk n (s.data.toList.take k))) (fun _ i => s.size - (intOf i).toNat)
    case atStart => exact ⟨0, Nat.zero_le _, rfl, rfl⟩
    case round =>
      obtain ⟨k, hk, rfl, rfl⟩ := hrel
      by_cases hlt : k < s.size
      · have hb := chk_bd n (s.data.toList.take k) h0 h1
        have ht := chk_take n s k hlt
        generalize chk n (s.data.toList.take k) = c at *
        have HT := Lib.hid ht
        have hbyte := s[k].toNat_lt
        clear ht
        go_wp2
        go_round
        case rel => exact ⟨k + 1, by omega, by go_num, by rw [HT.out]⟩
        case measure => simp [intOf]; omega
      · obtain rfl : k = s.size := by omega
        go_wp2
        go_ret2
        exact ⟨by rw [chk_full]; rfl, rfl⟩
end Go.Proofs.Ytdnjcbfiojckpaa
