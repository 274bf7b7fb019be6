/- The plain law of reading numerals: what the reference reads and what the library reads. -/
import Derived.Test.YtdjjfgkcheimjaaDoorDec2
import Derived.Lib.ParseIntB
set_option linter.unusedVariables false
set_option linter.unusedSimpArgs false
namespace Go.Proofs.YtdjjfgkcheimjaaDoor
open Go.RowKit

/-- One byte more of a number. -/
def dStep (a : Nat) (b : UInt8) : Nat := if 48 ≤ b.toNat ∧ b.toNat ≤ 57 then 10 * a + (b.toNat - 48) else a
def dVal (l : List UInt8) : Nat := l.foldl dStep 0
theorem dd_small {u : Nat} (h : u < 10) : Lib.decDigits u = [UInt8.ofNat (48 + u)] := by
  rw [Lib.decDigits, dif_pos h]
theorem dd_big {u : Nat} (h : 10 ≤ u) : Lib.decDigits u = Lib.decDigits (u / 10) ++ [UInt8.ofNat (48 + u % 10)] := by
  rw [Lib.decDigits, dif_neg (by omega)]
theorem byte_num {d : Nat} (h : d < 10) : (UInt8.ofNat (48 + d)).toNat = 48 + d := by
  rw [UInt8.toNat_ofNat_of_lt' (by simp [UInt8.size]; omega)]
theorem dd_digit (u : Nat) : ∀ b ∈ Lib.decDigits u, 48 ≤ b.toNat ∧ b.toNat ≤ 57 := by
  induction u using Nat.strongRecOn with
  | ind u ih =>
    intro b hb
    by_cases hu : u < 10
    · rw [dd_small hu] at hb
      simp only [List.mem_singleton] at hb
      subst hb
      rw [byte_num hu]; omega
    · rw [dd_big (by omega)] at hb
      rcases List.mem_append.1 hb with h | h
      · exact ih (u / 10) (by omega) b h
      · simp only [List.mem_singleton] at h
        subst h
        rw [byte_num (by omega)]; omega
theorem dd_ne (u : Nat) : Lib.decDigits u ≠ [] := by
  by_cases hu : u < 10
  · rw [dd_small hu]; simp
  · rw [dd_big (by omega)]; simp
theorem dVal_dd (u : Nat) : dVal (Lib.decDigits u) = u := by
  induction u using Nat.strongRecOn with
  | ind u ih =>
    by_cases hu : u < 10
    · rw [dd_small hu, dVal, List.foldl_cons, List.foldl_nil, dStep, byte_num hu, if_pos (by omega)]
      omega
    · have := ih (u / 10) (by omega)
      rw [dd_big (by omega), dVal, List.foldl_append, List.foldl_cons, List.foldl_nil]
      unfold dVal at this
      rw [this, dStep, byte_num (by omega), if_pos (by omega)]
      omega
theorem parse_dd (u : Nat) : ∀ (r : List UInt8), u ≤ 1000000000 → Lib.parseUintM (2 ^ 64 - 1) 0 (Lib.decDigits u ++ r) = Lib.parseUintM (2 ^ 64 - 1) u r := by
  induction u using Nat.strongRecOn with
  | ind u ih =>
    intro r hb
    by_cases hu : u < 10
    · rw [dd_small hu, List.singleton_append, Lib.parseUintM, byte_num hu, if_pos (by omega), if_neg (by omega), if_neg (by omega)]
      congr 1
      omega
    · rw [dd_big (by omega), List.append_assoc, ih (u / 10) (by omega) _ (by omega), List.singleton_append, Lib.parseUintM, byte_num (by omega), if_pos (by omega), if_neg (by omega), if_neg (by omega)]
      congr 1
      omega
theorem parse_ok (u : Nat) (hb : u ≤ 1000000000) : Lib.parseUintB 64 (Lib.decDigits u) = .ok u := by
  rw [Lib.parseUintB, if_neg (dd_ne u)]
  have := parse_dd u [] hb
  rw [List.append_nil] at this
  rw [this, Lib.parseUintM]
theorem pInt_ok (n : Int) (h0 : -1000000000 ≤ n) (h1 : n ≤ 1000000000) : Lib.parseIntB 64 (Lib.itoa n) = .ok n := by
  by_cases hn : n < 0
  · have hp := parse_ok n.natAbs (by omega)
    rw [Lib.itoa, if_pos hn, Lib.parseIntB]
    simp only [show (45 : UInt8).toNat = 45 from rfl, or_true, if_true]
    rw [hp]
    simp only [not_true_eq_false, false_and, if_false, true_and]
    rw [if_neg (by omega)]
    congr 1
    omega
  · have hp := parse_ok n.toNat (by omega)
    have hd := dd_digit n.toNat
    rw [Lib.itoa, if_neg hn]
    cases e : Lib.decDigits n.toNat with
    | nil => exact absurd e (dd_ne _)
    | cons c r =>
      rw [e] at hp hd
      have := hd c (by simp)
      rw [Lib.parseIntB]
      rw [if_neg (by omega), hp]
      dsimp only
      rw [if_neg (by omega), if_neg (by omega), if_neg (by omega)]
      congr 1
      omega
/-- The number that the reference reads. -/
def rdN (l : List UInt8) : Int := if l.head? = some 45 then -(dVal l : Int) else dVal l
theorem rdN_itoa (n : Int) : rdN (Lib.itoa n) = n := by
  by_cases hn : n < 0
  · have h := dVal_dd n.natAbs
    unfold dVal at h
    rw [Lib.itoa, if_pos hn, rdN, if_pos (by rfl), dVal, List.foldl_cons, show dStep 0 45 = 0 from rfl, h]
    omega
  · rw [Lib.itoa, if_neg hn, rdN, dVal_dd, if_neg]
    · omega
    · intro h
      have := dd_digit n.toNat 45 (List.mem_of_mem_head? h)
      simp at this
theorem dd_len (n : Nat) (h : n ≤ 1000000000) : 1 ≤ (Lib.decDigits n).length ∧ (Lib.decDigits n).length ≤ 10 := by
  refine ⟨List.length_pos_iff.2 (dd_ne n), ?_⟩
  have := decI_len 9 n (by omega)
  rw [decI, List.length_map] at this
  exact this
theorem itoa_len (n : Int) (h0 : -1000000000 ≤ n) (h1 : n ≤ 1000000000) : 1 ≤ (Lib.itoa n).length ∧ (Lib.itoa n).length ≤ 11 := by
  by_cases hn : n < 0
  · have := dd_len n.natAbs (by omega)
    rw [Lib.itoa, if_pos hn, List.length_cons]
    omega
  · have := dd_len n.toNat (by omega)
    rw [Lib.itoa, if_neg hn]
    omega
/-- The texts that are read. -/
def rdOk (s : ByteArray) : Bool := decide (-1000000000 ≤ rdN s.data.toList ∧ rdN s.data.toList ≤ 1000000000 ∧ decS (rdN s.data.toList) = s)
def rdV (s : ByteArray) : Int := if rdOk s then rdN s.data.toList else 0
theorem decS_list (n : Int) : (decS n).data.toList = Lib.itoa n := by simp [decS]
theorem rdOk_len {s : ByteArray} (h : rdOk s = true) : 1 ≤ s.size ∧ s.size ≤ 11 := by
  obtain ⟨h0, h1, h2⟩ := of_decide_eq_true h
  have := itoa_len _ h0 h1
  rw [← h2, ByteArray.size, ← Array.length_toList, decS_list]
  exact this
theorem rdOk_dec {n : Int} (h0 : -1000000000 ≤ n) (h1 : n ≤ 1000000000) : rdOk (decS n) = true ∧ rdN (decS n).data.toList = n := by
  have e : rdN (decS n).data.toList = n := by rw [decS_list, rdN_itoa]
  exact ⟨decide_eq_true (by rw [e]; exact ⟨h0, h1, rfl⟩), e⟩
theorem rdOk_parse {s : ByteArray} (h : rdOk s = true) : Lib.parseIntB 64 s.data.toList = .ok (rdN s.data.toList) := by
  obtain ⟨h0, h1, h2⟩ := of_decide_eq_true h
  have := pInt_ok _ h0 h1
  rw [← decS_list, h2] at this
  exact this
theorem dStep_lt {a : Nat} {b : UInt8} {k : Nat} (h : a < 10 ^ k) : dStep a b < 10 ^ (k + 1) := by
  have e : 10 ^ (k + 1) = 10 * 10 ^ k := by rw [Nat.pow_succ]; omega
  rw [e, dStep]
  split <;> omega
theorem dVal_take {s : ByteArray} {k : Nat} (h : k < s.size) : dVal (s.data.toList.take (k + 1)) = dStep (dVal (s.data.toList.take k)) s[k] := by
  have h' : k < s.data.toList.length := by rw [Array.length_toList]; exact h
  rw [List.take_add_one, List.getElem?_eq_getElem h', dVal, dVal, Option.toList_some, List.foldl_append]
  rfl
theorem dVal_lt (s : ByteArray) : ∀ (k : Nat), k ≤ s.size → dVal (s.data.toList.take k) < 10 ^ k := by
  intro k
  induction k with
  | zero => intro _; simp [dVal]
  | succ k ih =>
    intro h
    rw [dVal_take (by omega)]
    exact dStep_lt (ih (by omega))
theorem dVal_full (s : ByteArray) : dVal (s.data.toList.take s.size) = dVal s.data.toList := by
  rw [List.take_of_length_le (by rw [Array.length_toList]; exact Nat.le_refl _)]
end Go.Proofs.YtdjjfgkcheimjaaDoor
