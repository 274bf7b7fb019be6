/- Contracts of both readings of a numeral. -/
import Derived.Test.YtdjjfgkcheimjaaDoorRdDec
import Derived.Test.YtdjjfgkcheimjaaDoorBase
import Derived.Stop.LaidErr
import Derived.Lib.AtoiErrMem
set_option linter.unusedVariables false
set_option linter.unusedSimpArgs false
namespace Go.Proofs.YtdjjfgkcheimjaaDoor
open Go.RowKit

theorem inB_of {n a b : Int} (h : inB n a b = true) : a ≤ n ∧ n ≤ b := by simpa [inB] using h
theorem inB_not {n a b : Int} (h : inB n a b = false) : ¬ (a ≤ n ∧ n ≤ b) := by
  intro h2
  have : inB n a b = true := by simp [inB, h2]
  rw [this] at h
  cases h
theorem rdOk_out {s : ByteArray} {x : Int} (hx : rdN s.data.toList = x) (h : inB x (-1000000000) 1000000000 = false) : rdOk s = false := by
  rw [rdOk, hx, decide_eq_false]
  rintro ⟨a, b, _⟩
  exact inB_not h ⟨a, b⟩
theorem rdOk_ne {s : ByteArray} {x : Int} (hx : rdN s.data.toList = x) (h : ¬ decS x = s) : rdOk s = false := by
  rw [rdOk, hx, decide_eq_false]
  rintro ⟨_, _, e⟩
  exact h e
theorem rdOk_in {s : ByteArray} {x : Int} (hx : rdN s.data.toList = x) (h0 : -1000000000 ≤ x) (h1 : x ≤ 1000000000) (h2 : decS x = s) : rdOk s = true ∧ rdV s = x := by
  have h : rdOk s = true := by rw [rdOk, hx]; exact decide_eq_true ⟨h0, h1, h2⟩
  exact ⟨h, by rw [rdV, if_pos h, hx]⟩
theorem rd_no {s : ByteArray} (h : rdOk s = false) : Ending.returned (.tuple #[.int .i64 0, .bool false]) = Ending.returned (.tuple #[.int .i64 (rdV s), .bool (rdOk s)]) := by rw [rdV, h]; rfl
theorem rd_short {s : ByteArray} (h : ¬ (1 ≤ s.size ∧ s.size ≤ 11)) : rdOk s = false := by
  cases e : rdOk s
  · rfl
  · exact absurd (rdOk_len e) h
theorem head_at {s : ByteArray} (h : 0 < s.size) : s.data.toList.head? = some s[0] := by
  rw [List.head?_eq_getElem?, List.getElem?_eq_getElem (by rw [Array.length_toList]; exact h)]
  rfl
theorem rdN_neg {s : ByteArray} (h : 0 < s.size) (hb : s[0].toNat = 45) : rdN s.data.toList = -(dVal s.data.toList : Int) := by
  rw [rdN, head_at h, if_pos]
  rw [Option.some.injEq]
  exact UInt8.toNat_inj.1 hb
theorem rdN_pos {s : ByteArray} (h : 0 < s.size) (hb : ¬ s[0].toNat = 45) : rdN s.data.toList = (dVal s.data.toList : Int) := by
  rw [rdN, head_at h, if_neg]
  rw [Option.some.injEq]
  intro e
  exact hb (by rw [e]; rfl)
theorem toList_inj {a b : ByteArray} (h : a.toList = b.toList) : a = b := by
  have : a.data.toList = b.data.toList := by simpa [ByteArray.toList_eq] using h
  exact ByteArray.ext (Array.toList_inj.1 this)
theorem pow_le {k n : Nat} (h : k ≤ n) (hn : n ≤ 11) : 10 ^ k ≤ 100000000000 := by
  have : 10 ^ k ≤ 10 ^ 11 := Nat.pow_le_pow_right (by omega) (by omega)
  exact this
set_option maxRecDepth 100000 in
set_option maxHeartbeats 4000000 in
theorem l01Value_any (s : ByteArray) (w : World) (hs : s.size ≤ maxLen) :
    Calls Tryd.prog 40 #[.string s] w fun e w' => e = .returned (.tuple #[.int .i64 (rdV s), .bool (rdOk s)]) ∧ Below w.heap.size w w' := by
  have S := Since.refl w
  unfold maxLen at hs
  by_cases hlen : 1 ≤ s.size ∧ s.size ≤ 11
  · obtain ⟨l1, l2⟩ := hlen
    go_enter Tryd.func40, Tryd.ntmps40
    go_wp2
    go_loop [4, 5] (fun n i => ∃ k : Nat, k ≤ s.size ∧ i = .int .i64 k ∧ n = .int .i64 (dVal (s.data.toList.take k) : Nat)) (fun _ i => s.size - (intOf i).toNat)
    case atStart => exact ⟨0, Nat.zero_le _, rfl, rfl⟩
    case round =>
      obtain ⟨k, hk, rfl, rfl⟩ := hrel
      have hm := dVal_lt s k hk
      have hp := pow_le hk l2
      by_cases hlt : k < s.size
      · have ht := dVal_take hlt
        generalize dVal (s.data.toList.take k) = m at *
        have hmm : m < 100000000000 := by omega
        have hbyte := s[k].toNat_lt
        clear hm hp
        by_cases c1 : 48 ≤ s[k].toNat
        · by_cases c2 : s[k].toNat ≤ 57
          · rw [dStep, if_pos ⟨c1, c2⟩] at ht
            have Ht := Lib.hid ht; clear ht
            go_wp2
            go_round
            case rel => exact ⟨k + 1, by omega, by go_num, by rw [Ht.out]; go_num⟩
            case measure => simp [intOf]; omega
          · rw [dStep, if_neg (by omega)] at ht
            have Ht := Lib.hid ht; clear ht
            go_wp2
            go_round
            case rel => exact ⟨k + 1, by omega, by go_num, by rw [Ht.out]⟩
            case measure => simp [intOf]; omega
        · rw [dStep, if_neg (by omega)] at ht
          have Ht := Lib.hid ht; clear ht
          go_wp2
          go_round
          case rel => exact ⟨k + 1, by omega, by go_num, by rw [Ht.out]⟩
          case measure => simp [intOf]; omega
      · obtain rfl : k = s.size := by omega
        rw [dVal_full] at hm ⊢
        have hneg := rdN_neg (s := s) (by omega)
        have hpos := rdN_pos (s := s) (by omega)
        generalize dVal s.data.toList = m at *
        have hmm : m < 100000000000 := by omega
        clear hm hp hlt hk
        have hbyte := s[0].toNat_lt
        by_cases c : s[0].toNat = 45
        · have hx := hneg c
          clear hneg hpos
          cases hin : inB (-(m : Int)) (-1000000000) 1000000000
          · have hno : rdOk s = false := rdOk_out hx hin
            have Hx := Lib.hid hx; clear hx
            have Hno := Lib.hid hno; clear hno
            have Hin := Lib.hid hin; clear hin
            go_wp2_with fail
            with_reducible (refine (l00In_any _ _ _ _).mono ?_)
            rintro _ _ ⟨rfl, rfl⟩
            rw [Hin.out]
            go_wp2
            go_ret2
            exact ⟨rd_no Hno.out, S.below⟩
          · have hin2 := inB_of hin
            obtain ⟨i1, i2⟩ := hin2
            obtain ⟨d, hd⟩ : ∃ d, decS (-(m : Int)) = d := ⟨_, rfl⟩
            have cd := l01Dec_any (-(m : Int)) w (by omega) (by omega)
            rw [hd] at cd
            by_cases e : d = s
            · have hok : rdOk s = true ∧ rdV s = -(m : Int) := rdOk_in hx i1 i2 (hd.trans e)
              have Hx := Lib.hid hx; clear hx
              have Hin := Lib.hid hin; clear hin
              have Hd := Lib.hid hd; clear hd
              have Cd := Lib.hid cd; clear cd
              obtain ⟨ho, hv⟩ := hok
              have Ho := Lib.hid ho; clear ho
              have Hv := Lib.hid hv; clear hv
              subst e
              go_wp2_with fail
              with_reducible (refine (l00In_any _ _ _ _).mono ?_)
              rintro _ _ ⟨rfl, rfl⟩
              rw [Hin.out]
              go_wp2_with fail
              with_reducible (refine Cd.out.mono ?_)
              rintro _ w2 ⟨rfl, hb2⟩
              go_wp2
              go_ret2
              exact ⟨by rw [Hv.out, Ho.out]; rfl, hb2⟩
            · have hno : rdOk s = false := rdOk_ne hx (hd ▸ e)
              have hne : (d.toList == s.toList) = false := by rw [beq_eq_false_iff_ne]; exact fun h => e (toList_inj h)
              have Hx := Lib.hid hx; clear hx
              have Hno := Lib.hid hno; clear hno
              have Hin := Lib.hid hin; clear hin
              have Hd := Lib.hid hd; clear hd
              have Cd := Lib.hid cd; clear cd
              clear e
              go_wp2_with fail
              with_reducible (refine (l00In_any _ _ _ _).mono ?_)
              rintro _ _ ⟨rfl, rfl⟩
              rw [Hin.out]
              go_wp2_with fail
              with_reducible (refine Cd.out.mono ?_)
              rintro _ w2 ⟨rfl, hb2⟩
              go_wp2
              go_ret2
              exact ⟨rd_no Hno.out, hb2⟩
        · have hx := hpos c
          clear hneg hpos
          cases hin : inB ((m : Int)) (-1000000000) 1000000000
          · have hno : rdOk s = false := rdOk_out hx hin
            have Hx := Lib.hid hx; clear hx
            have Hno := Lib.hid hno; clear hno
            have Hin := Lib.hid hin; clear hin
            go_wp2_with fail
            with_reducible (refine (l00In_any _ _ _ _).mono ?_)
            rintro _ _ ⟨rfl, rfl⟩
            rw [Hin.out]
            go_wp2
            go_ret2
            exact ⟨rd_no Hno.out, S.below⟩
          · have hin2 := inB_of hin
            obtain ⟨i1, i2⟩ := hin2
            obtain ⟨d, hd⟩ : ∃ d, decS ((m : Int)) = d := ⟨_, rfl⟩
            have cd := l01Dec_any ((m : Int)) w (by omega) (by omega)
            rw [hd] at cd
            by_cases e : d = s
            · have hok : rdOk s = true ∧ rdV s = (m : Int) := rdOk_in hx i1 i2 (hd.trans e)
              have Hx := Lib.hid hx; clear hx
              have Hin := Lib.hid hin; clear hin
              have Hd := Lib.hid hd; clear hd
              have Cd := Lib.hid cd; clear cd
              obtain ⟨ho, hv⟩ := hok
              have Ho := Lib.hid ho; clear ho
              have Hv := Lib.hid hv; clear hv
              subst e
              go_wp2_with fail
              with_reducible (refine (l00In_any _ _ _ _).mono ?_)
              rintro _ _ ⟨rfl, rfl⟩
              rw [Hin.out]
              go_wp2_with fail
              with_reducible (refine Cd.out.mono ?_)
              rintro _ w2 ⟨rfl, hb2⟩
              go_wp2
              go_ret2
              exact ⟨by rw [Hv.out, Ho.out]; rfl, hb2⟩
            · have hno : rdOk s = false := rdOk_ne hx (hd ▸ e)
              have hne : (d.toList == s.toList) = false := by rw [beq_eq_false_iff_ne]; exact fun h => e (toList_inj h)
              have Hx := Lib.hid hx; clear hx
              have Hno := Lib.hid hno; clear hno
              have Hin := Lib.hid hin; clear hin
              have Hd := Lib.hid hd; clear hd
              have Cd := Lib.hid cd; clear cd
              clear e
              go_wp2_with fail
              with_reducible (refine (l00In_any _ _ _ _).mono ?_)
              rintro _ _ ⟨rfl, rfl⟩
              rw [Hin.out]
              go_wp2_with fail
              with_reducible (refine Cd.out.mono ?_)
              rintro _ w2 ⟨rfl, hb2⟩
              go_wp2
              go_ret2
              exact ⟨rd_no Hno.out, hb2⟩
  · have hno := rd_short hlen
    have Hno := Lib.hid hno; clear hno
    by_cases h1 : s.size < 1
    · go_enter Tryd.func40, Tryd.ntmps40
      go_wp2
      go_ret2
      exact ⟨rd_no Hno.out, S.below⟩
    · have h2 : 11 < s.size := by omega
      go_enter Tryd.func40, Tryd.ntmps40
      go_wp2
      go_ret2
      exact ⟨rd_no Hno.out, S.below⟩
theorem specReadDecimal_any (s : ByteArray) (w : World) (hs : s.size ≤ maxLen) :
    Calls Tryd.prog 23 #[.string s] w fun e w' => e = .returned (.tuple #[.int .i64 (rdV s), .bool (rdOk s)]) ∧ Below w.heap.size w w' := by
  have c := l01Value_any s w hs
  have C := Lib.hid c; clear c
  go_enter Tryd.func23, Tryd.ntmps23
  go_wp2_with fail
  with_reducible (refine C.out.mono ?_)
  rintro _ w' ⟨rfl, hb⟩
  go_wp2
  go_ret2
  exact ⟨rfl, hb⟩
end Go.Proofs.YtdjjfgkcheimjaaDoor
