/- Contracts of the laws' own helpers over slices of strings: size, copy, comparison, marks. -/
import Derived.Test.YtnenogpagkepfaaMem
set_option linter.unusedVariables false
namespace Go.Proofs.Ytnenogpagkepfaa
open Go.RowKit

/-- What szStringS leaves of a bound. -/
def szL : List ByteArray → Int → Int
  | [], left => left
  | s :: ss, left => if left - s.size < 0 then -1 else szL ss (left - s.size)
def szS (ss : List ByteArray) (left : Int) : Int := if left - ss.length < 0 then -1 else szL ss (left - ss.length)

theorem szL_ok (ss : List ByteArray) : ∀ (left : Int), 0 ≤ left → 0 ≤ szL ss left → ∀ s ∈ ss, s.size ≤ left := by
  induction ss with
  | nil => intro _ _ _ s hs; cases hs
  | cons a ss ih =>
    intro left h0 h s hs
    rw [szL] at h
    by_cases e : left - a.size < 0
    · rw [if_pos e] at h; omega
    · rw [if_neg e] at h
      rcases List.mem_cons.1 hs with rfl | hs
      · omega
      · have := ih _ (by omega) h s hs; omega
theorem szS_ok {ss : List ByteArray} {left : Int} (h0 : 0 ≤ left) (h : 0 ≤ szS ss left) : ss.length ≤ left ∧ ∀ s ∈ ss, s.size ≤ left := by
  rw [szS] at h
  by_cases e : left - ss.length < 0
  · rw [if_pos e] at h; omega
  · rw [if_neg e] at h
    exact ⟨by omega, fun s hs => by have := szL_ok ss _ (by omega) h s hs; omega⟩
theorem szL_le (ss : List ByteArray) : ∀ (left : Int), 0 ≤ left → szL ss left ≤ left := by
  induction ss with
  | nil => intro left _; simp [szL]
  | cons a ss ih =>
    intro left h0
    rw [szL]
    by_cases e : left - a.size < 0
    · rw [if_pos e]; omega
    · rw [if_neg e]; have := ih (left - a.size) (by omega); omega
theorem szS_le (ss : List ByteArray) (left : Int) (h0 : 0 ≤ left) : szS ss left ≤ left := by
  rw [szS]
  by_cases e : left - ss.length < 0
  · rw [if_pos e]; omega
  · rw [if_neg e]; have := szL_le ss (left - ss.length) (by omega); omega
theorem getD_mem {ss : List ByteArray} {k : Nat} (h : k < ss.length) : ss.getD k ByteArray.empty ∈ ss := by simp [List.getD, List.getElem?_eq_getElem h]
theorem drop_getD {ss : List ByteArray} {k : Nat} (h : k < ss.length) : ss.drop k = ss.getD k ByteArray.empty :: ss.drop (k + 1) := by
  rw [List.drop_eq_getElem_cons h]; simp [List.getD, List.getElem?_eq_getElem h]

theorem szL_stop {ss : List ByteArray} {left : Int} {k : Nat} {cur : Int} (hk : k < ss.length) (h : szL ss left = szL (ss.drop k) cur) (hs : cur - (ss.getD k ByteArray.empty).size < 0) : szL ss left = -1 := by
  rw [h, drop_getD hk, szL, if_pos hs]
theorem szL_go {ss : List ByteArray} {left : Int} {k : Nat} {cur : Int} (hk : k < ss.length) (h : szL ss left = szL (ss.drop k) cur) (hs : ¬ cur - (ss.getD k ByteArray.empty).size < 0) : szL ss left = szL (ss.drop (k + 1)) (cur - (ss.getD k ByteArray.empty).size) := by
  rw [h, drop_getD hk, szL, if_neg hs]

set_option maxHeartbeats 400000 in
theorem szStringS_any (p : Option Addr) (c : Nat) (ss : List ByteArray) (left : Int) (w : World) (hn : ss.length ≤ maxLen) (hs : ∀ s ∈ ss, s.size ≤ maxLen) (h0 : 0 ≤ left) (h1 : left ≤ 1048576)
    (hr : Rd w p ss.length (fun i => .string (ss.getD i ByteArray.empty))) :
    Calls Try.prog 56 #[.slice p ss.length c, .int .i64 left] w fun e w' => e = .returned (.int .i64 (szS ss left)) ∧ w = w' := by
  unfold maxLen at hn hs
  by_cases hlt : left - ss.length < 0
  · go_enter Try.func56, Try.ntmps56
    go_wp2
    go_ret
    exact ⟨ret_int (by rw [szS, if_pos (by omega)]), rfl⟩
  · go_enter Try.func56, Try.ntmps56
    go_wp2
    go_loop [1, 5] (fun l i => ∃ (k : Nat) (cur : Int), k ≤ ss.length ∧ i = .int .i64 k ∧ l = .int .i64 cur ∧ 0 ≤ cur ∧ cur ≤ 1048576 ∧ szL ss (left - ss.length) = szL (ss.drop k) cur) (fun _ i => ss.length - (intOf i).toNat)
    case atStart => exact ⟨0, _, Nat.zero_le _, rfl, rfl, by omega, by omega, by simp⟩
    case round =>
      obtain ⟨k, cur, hk, rfl, rfl, hc0, hc1, hrel⟩ := hrel
      by_cases hkn : k < ss.length
      · obtain ⟨b, o, rfl, hb, hc⟩ := hr.at hkn
        have hck := hc k hkn
        have hsz := hs _ (getD_mem hkn)
        have hA := Lib.hid (szL_stop hkn hrel)
        have hB := Lib.hid (szL_go hkn hrel)
        clear hrel hc hs hr
        generalize ss.getD k ByteArray.empty = s at *
        by_cases hst : cur - s.size < 0
        · go_wp2
          go_ret
          exact ⟨ret_int (by rw [szS, if_neg (by omega)]; exact (hA.out hst).symm), rfl⟩
        · go_wp2
          go_round
          case rel => exact ⟨k + 1, _, by omega, by go_num, rfl, by omega, by omega, hB.out hst⟩
          case measure => simp [intOf]; omega
      · obtain rfl : k = ss.length := by omega
        have hA := Lib.hid hrel
        clear hrel hc0
        go_wp2
        go_ret
        exact ⟨ret_int (by rw [szS, if_neg (by omega), hA.out]; simp [szL]), rfl⟩

def strAt (ss : List ByteArray) (i : Nat) : Value := .string (ss.getD i ByteArray.empty)

theorem info_string : (Try.prog.info? 9).map (fun i => (i.zero, i.size, i.bytes)) = some (some (.string ByteArray.empty), 1, 16) := by kernel_rfl

set_option maxHeartbeats 400000 in
theorem toStringS_any (p : Option Addr) (c : Nat) (ss : List ByteArray) (w : World) (hn : ss.length ≤ 1048576) (hr : Rd w p ss.length (strAt ss)) :
    Calls Try.prog 59 #[.slice p ss.length c] w fun e w' => ∃ g, e = .returned (.slice (some ⟨g, 0, none⟩) ss.length ss.length) ∧ w.heap.size ≤ g ∧ w'.rowIs g 9 ss.length (strAt ss) ∧ Below w.heap.size w w' := by
  have hmk := run_make_row' (P := Try.prog) 32 9 (.string ByteArray.empty) 16 Try.underlying32 info_string rfl .i64 .i64 ss.length (by omega) (by omega)
  go_enter Try.func59, Try.ntmps59
  go_wp2
  clear hmk
  go_loopw [4] (fun i wr => ∃ k : Nat, k ≤ ss.length ∧ i = .int .i64 k ∧ Fill w wr 9 ss.length k (strAt ss) (.string ByteArray.empty)) (fun i _ => ss.length - (intOf i).toNat)
  case atStart => exact ⟨0, Nat.zero_le _, rfl, Fill.start _ _ _ _ _⟩
  case round =>
    obtain ⟨k, hk, rfl, hF⟩ := hrel
    by_cases hkn : k < ss.length
    · obtain ⟨b, o, rfl, hb, hc⟩ := hr.at hkn
      have hck : wr.cell? ⟨b, o + k, none⟩ = some (strAt ss k) := by rw [hF.below.cell (p := ⟨b, o + k, none⟩) hb]; exact hc k hkn
      have hst := hF.row.cell hkn
      have hfz := hF.row.frozen k
      have hN := hF.step
      obtain ⟨s, es⟩ : ∃ s, strAt ss k = .string s := ⟨_, rfl⟩
      rw [es] at hck hN
      clear hc hr hF es
      go_wp2
      go_roundw
      case rel => exact ⟨k + 1, by omega, by go_num, hN⟩
      case measure => simp [intOf]; omega
    · obtain rfl : k = ss.length := by omega
      go_wp2
      go_ret
      exact ⟨_, rfl, Nat.le_refl _, hF.done, hF.below⟩

set_option maxHeartbeats 400000 in
theorem toPicture_any (p : Option Addr) (c : Nat) (ss : List ByteArray) (w : World) (hn : ss.length ≤ 1048576) (hr : Rd w p ss.length (strAt ss)) :
    Calls Try.prog 22 #[.agg #[.slice p ss.length c]] w fun e w' => ∃ g, e = .returned (.agg #[.slice (some ⟨g, 0, none⟩) ss.length ss.length]) ∧ w.heap.size ≤ g ∧ w'.rowIs g 9 ss.length (strAt ss) ∧ Below w.heap.size w w' := by
  go_enter Try.func22, Try.ntmps22
  go_wp2_with fail
  refine (toStringS_any _ _ _ _ hn (((hr.alloc _).alloc _).alloc _)).mono ?_
  rintro e w1 ⟨g, rfl, hg, hrow, hb⟩
  have hb1 := below_a3 hb
  obtain ⟨hcl, hfr⟩ := bcell hb
  simp only [World.size_alloc] at hg
  go_wp2
  refine bodyPost_ret (v := .agg #[.slice (some ⟨g, 0, none⟩) ss.length ss.length]) (by simp [results, Try.results22, go_sem, hcl]) rfl ⟨g, rfl, by omega, ?_, ?_⟩
  · exact (hrow.setOther (by simp; omega) _).setOther (by simp; omega) _
  · (repeat' (first | exact Below.refl _ _ | assumption | refine Below.drew ?_ | refine below_drewN ?_ _ | refine Below.alloc ?_ ?_ _ | refine Below.setCell ?_ ?_ _ | go_size))

theorem toList_ne {s t : ByteArray} (h : ¬ s = t) : (s.toList == t.toList) = false := by
  rw [beq_eq_false_iff_ne]
  intro e
  apply h
  have : s.data.toList = t.data.toList := by simpa [ByteArray.toList_eq] using e
  cases s; cases t
  simp at this
  simp [this]
theorem take_eq_succ {ss ts : List ByteArray} {k : Nat} (h : ss.take k = ts.take k) (h1 : k < ss.length) (h2 : k < ts.length) (e : ss.getD k ByteArray.empty = ts.getD k ByteArray.empty) : ss.take (k + 1) = ts.take (k + 1) := by
  rw [List.take_succ_eq_append_getElem h1, List.take_succ_eq_append_getElem h2, h]
  simp [List.getD, List.getElem?_eq_getElem h1, List.getElem?_eq_getElem h2] at e
  rw [e]
theorem take_ne (ss ts : List ByteArray) (k : Nat) (e : ss.getD k ByteArray.empty ≠ ts.getD k ByteArray.empty) : ¬ ss = ts := fun h => e (by rw [h])

set_option maxHeartbeats 400000 in
theorem eqStringS_any (p q : Option Addr) (c d : Nat) (ss ts : List ByteArray) (w : World) (hn : ss.length ≤ 1048576) (hm : ts.length ≤ maxLen) (hr : Rd w p ss.length (strAt ss)) (hq : Rd w q ts.length (strAt ts)) :
    Calls Try.prog 63 #[.slice p ss.length c, .slice q ts.length d] w fun e w' => e = .returned (.bool (decide (ss = ts))) ∧ ∃ n, w' = w.drewN n := by
  unfold maxLen at hm
  go_enter Try.func63, Try.ntmps63
  by_cases hl : ss.length = ts.length
  · have hl1 : ss.length ≤ ts.length := by omega
    have hl2 : ts.length ≤ ss.length := by omega
    have hl3 : ((ss.length : Int) != (ts.length : Int)) = false := by simp; omega
    clear hl
    go_wp2
    go_loopw [5] (fun i wr => ∃ k : Nat, k ≤ ss.length ∧ i = .int .i64 k ∧ (∃ n, wr = w.drewN n) ∧ ss.take k = ts.take k) (fun i _ => ss.length - (intOf i).toNat)
    case atStart => exact ⟨0, Nat.zero_le _, rfl, ⟨0, rfl⟩, rfl⟩
    case round =>
      obtain ⟨k, hk, rfl, ⟨n, rfl⟩, ht⟩ := hrel
      by_cases hkn : k < ss.length
      · obtain ⟨b, o, rfl, hb, hc⟩ := hr.at hkn
        obtain ⟨b', o', rfl, hb', hc'⟩ := hq.at (k := k) (by omega)
        have h1 := hc k hkn
        have h2 := hc' k (by omega)
        have hs := Lib.hid (take_eq_succ ht hkn (by omega))
        have hx := Lib.hid (take_ne ss ts k)
        unfold strAt at h1 h2
        clear hc hc' hr hq ht
        generalize ss.getD k ByteArray.empty = s at *
        generalize ts.getD k ByteArray.empty = t at *
        by_cases hst : s = t
        · subst hst
          go_wp2
          go_quiet (fail)
          go_wp2
          go_roundw
          case rel =>
            exact ⟨k + 1, by omega, by go_num, ⟨_, rfl⟩, hs.out trivial⟩
          case measure => simp [intOf]; omega
        · have hx := Lib.hid (hx.out hst)
          have hst' : (s.toList == t.toList) = false := toList_ne hst
          clear hst
          go_wp2
          go_quiet (fail)
          go_wp2
          go_ret
          exact ⟨ret_bool (by simp [hx.out]), _, World.drewN_drewN _ _ _⟩
      · obtain rfl : k = ss.length := by omega
        have he : ss = ts := by rw [List.take_of_length_le (Nat.le_refl _), List.take_of_length_le (by omega)] at ht; exact ht
        have HE := Lib.hid he
        clear he ht
        go_wp2
        go_ret
        exact ⟨ret_bool (by simp [HE.out]), n, rfl⟩
  · have hne : ¬ ss = ts := fun h => hl (by rw [h])
    have HE := Lib.hid hne
    clear hne
    go_wp2
    go_ret
    exact ⟨ret_bool (by simp [HE.out]), 0, rfl⟩
set_option maxHeartbeats 400000 in
theorem eqPicture_any (p q : Option Addr) (c d : Nat) (ss ts : List ByteArray) (w : World) (hn : ss.length ≤ 1048576) (hm : ts.length ≤ maxLen) (hr : Rd w p ss.length (strAt ss)) (hq : Rd w q ts.length (strAt ts)) :
    Calls Try.prog 25 #[.agg #[.slice p ss.length c], .agg #[.slice q ts.length d]] w fun e w' => e = .returned (.bool (decide (ss = ts))) ∧ Below w.heap.size w w' := by
  cases hd : decide (ss = ts)
  all_goals
    go_enter Try.func25, Try.ntmps25
    go_wp2_with fail
    refine (eqStringS_any _ _ _ _ ss ts _ hn hm ((hr.alloc _).alloc _) ((hq.alloc _).alloc _)).mono ?_
    rintro e w1 ⟨rfl, n, rfl⟩
    go_wp2
    go_ret
    exact ⟨rfl, by (repeat' (first | exact Below.refl _ _ | assumption | refine Below.drew ?_ | refine below_drewN ?_ _ | refine Below.alloc ?_ ?_ _ | refine Below.setCell ?_ ?_ _ | go_size))⟩

theorem eqPicture_same (p q : Option Addr) (c d : Nat) (ss : List ByteArray) (w : World) (hn : ss.length ≤ 1048576) (hr : Rd w p ss.length (strAt ss)) (hq : Rd w q ss.length (strAt ss)) :
    Calls Try.prog 25 #[.agg #[.slice p ss.length c], .agg #[.slice q ss.length d]] w fun e w' => e = .returned (.bool true) ∧ Below w.heap.size w w' :=
  (eqPicture_any p q c d ss ss w hn (by unfold maxLen; omega) hr hq).mono fun e w' h => ⟨h.1.trans (by simp), h.2⟩

def mkGo (k : Nat) (acc : ByteArray) : ByteArray := if k = 0 then acc else mkGo (k / 10) (⟨#[UInt8.ofNat (48 + k % 10)]⟩ ++ acc)
termination_by k
decreasing_by omega
def mkText (k : Nat) : ByteArray := ⟨#[109]⟩ ++ mkGo k ByteArray.empty

set_option maxHeartbeats 400000 in
theorem markText_any (k : Nat) (w : World) (h0 : 0 < k) (h1 : k ≤ 1099511627776) :
    Calls Try.prog 113 #[.int .i64 k] w fun e w' => e = .returned (.string (mkText k)) ∧ Below w.heap.size w w' := by
  have hcv := fun (w : World) (x : Int) (t : TypeId) => conv_one (P := Try.prog) 55 9 5 Try.underlying55 Try.underlying5 Try.underlying9 w x t
  go_enter Try.func113, Try.ntmps113
  go_wp2
  go_loopw [0, 3] (fun i o wr => ∃ (j : Nat) (acc : ByteArray), j ≤ k ∧ acc.size + j ≤ k ∧ i = .int .i64 j ∧ o = .string acc ∧ mkGo j acc = mkGo k ByteArray.empty ∧ Below w.heap.size w wr) (fun i _ _ => (intOf i).toNat)
  case atStart => exact ⟨k, _, Nat.le_refl _, Nat.le_of_eq (Nat.zero_add _), rfl, rfl, rfl, Below.refl _ _⟩
  case round =>
    obtain ⟨j, acc, hj, hja, rfl, rfl, hg, hb⟩ := hrel
    by_cases hj0 : 0 < j
    · have hs := mkGo.eq_1 j acc
      rw [if_neg (by omega), hg] at hs
      have HS := Lib.hid hs
      have hsz := hb.size
      have hmem : ((⟨#[UInt8.ofNat (48 + j % 10)]⟩ : ByteArray) ++ acc).size = 1 + acc.size := by rw [ByteArray.size_append]; rfl
      have HM := Lib.hid hmem
      clear hs hg hmem
      go_wp2
      go_roundw
      case rel => exact ⟨j / 10, ⟨#[UInt8.ofNat (48 + j % 10)]⟩ ++ acc, by omega, by rw [HM.out]; omega, by go_num, by simp, HS.out.symm, by (repeat' (first | exact Below.refl _ _ | assumption | refine Below.drew ?_ | refine below_drewN ?_ _ | refine Below.alloc ?_ ?_ _ | refine Below.setCell ?_ ?_ _ | go_size))⟩
      case measure => simp [intOf]; omega
    · obtain rfl : j = 0 := by omega
      have HS := Lib.hid hg
      clear hg
      go_wp2
      go_ret
      refine ⟨?_, hb⟩
      rw [mkText, ← HS.out, mkGo.eq_1 0 acc, if_pos rfl]
      rfl

theorem markText_int (k : Int) (w : World) (h0 : 0 < k) (h1 : k ≤ 1099511627776) :
    Calls Try.prog 113 #[.int .i64 k] w fun e w' => e = .returned (.string (mkText k.toNat)) ∧ Below w.heap.size w w' := by
  obtain ⟨n, rfl⟩ := Int.eq_ofNat_of_zero_le (show 0 ≤ k by omega)
  exact markText_any n w (by omega) (by omega)

set_option maxHeartbeats 400000 in
theorem markStringS_nil (p : Option Addr) (c : Nat) (k : Int) (w : World) :
    Calls Try.prog 90 #[.slice p 0 c, .int .i64 k] w fun e w' => e = .returned (.int .i64 k) ∧ w = w' := by
  go_enter Try.func90, Try.ntmps90
  go_wp2
  refine wp_loop_rounds 1 ?_
  rw [rounds_succ]
  go_wp2
  go_ret
  exact ⟨rfl, rfl⟩

/-- The marks k, k + 1, .. as cells. -/
def mkAt (k : Nat) (i : Nat) : Value := .string (mkText (k + i))

set_option maxHeartbeats 400000 in
theorem markStringS_any (g n c : Nat) (f : Nat → Value) (m : Nat) (t : TypeId) (k : Nat) (w : World) (hn : n ≤ 1048576) (hm : n ≤ m) (h0 : 0 < k) (h1 : k ≤ 1073741824) (hr : w.rowIs g t m f) :
    Calls Try.prog 90 #[.slice (some ⟨g, 0, none⟩) n c, .int .i64 k] w fun e w' => e = .returned (.int .i64 ((k + n : Nat) : Int)) ∧ w'.rowIs g t m (fun i => if i < n then mkAt k i else f i) ∧ w.grownBy w' (some g) := by
  go_enter Try.func90, Try.ntmps90
  go_wp2
  go_loopw [1, 5] (fun kk i wr => ∃ j : Nat, j ≤ n ∧ i = .int .i64 j ∧ kk = .int .i64 ((k + j : Nat) : Int) ∧ wr.rowIs g t m (fun i => if i < j then mkAt k i else f i) ∧ w.grownBy wr (some g)) (fun _ i _ => n - (intOf i).toNat)
  case atStart => exact ⟨0, Nat.zero_le _, rfl, rfl, hr.congr (fun i _ => by simp), ⟨rfl, rfl, rfl, Nat.le_refl _, fun _ _ _ => rfl⟩⟩
  case round =>
    obtain ⟨j, hj, rfl, rfl, hrow, hgr⟩ := hrel
    by_cases hlt : j < n
    · go_wp2_with fail
      refine (markText_int _ _ (by omega) (by omega)).mono ?_
      rintro e w1 ⟨rfl, hb⟩
      have hrow1 := row_below hrow hb hrow.lt
      have hst := hrow1.cell (show j < m by omega)
      have hfz := hrow1.frozen j
      have hgr1 := grown_below hgr hb hgr.size
      have hrow2 := hrow1.set j (mkAt k j)
      have hgr2 := grown_setCell hgr1 j (mkAt k j)
      rw [mkAt] at hrow2 hgr2
      rw [show ((k : Int) + (j : Int)).toNat = k + j by omega]
      clear hrow hrow1 hgr hgr1 hb hr
      go_wp2
      go_roundw
      case rel =>
        refine ⟨j + 1, by omega, by go_num, by go_num, hrow2.congr (fun i _ => ?_), hgr2⟩
        by_cases e : i = j
        · subst e; simp [mkAt]
        · by_cases l : i < j
          · simp [e, l, show i < j + 1 by omega]
          · simp [e, l, show ¬ i < j + 1 by omega]
      case measure => simp [intOf]; omega
    · obtain rfl : j = n := by omega
      go_wp2
      go_ret
      exact ⟨ret_int (by omega), hrow, hgr⟩

set_option maxHeartbeats 400000 in
theorem heldStringS_any (p : Option Addr) (n c : Nat) (k : Nat) (w : World) (hn : n ≤ 1048576) (h0 : 0 < k) (h1 : k ≤ 1073741824) (hr : Rd w p n (mkAt k)) :
    Calls Try.prog 91 #[.slice p n c, .int .i64 k] w fun e w' => e = .returned (.int .i64 ((k + n : Nat) : Int)) ∧ Below w.heap.size w w' := by
  go_enter Try.func91, Try.ntmps91
  go_wp2
  go_loopw [1, 5] (fun kk i wr => ∃ j : Nat, j ≤ n ∧ i = .int .i64 j ∧ kk = .int .i64 ((k + j : Nat) : Int) ∧ Below w.heap.size w wr) (fun _ i _ => n - (intOf i).toNat)
  case atStart => exact ⟨0, Nat.zero_le _, rfl, rfl, Below.refl _ _⟩
  case round =>
    obtain ⟨j, hj, rfl, rfl, hb⟩ := hrel
    by_cases hlt : j < n
    · obtain ⟨b, o, rfl, hbl, hc⟩ := hr.at hlt
      have hck := hc j hlt
      rw [← hb.cell (p := ⟨b, o + j, none⟩) hbl, mkAt] at hck
      have hlt2 : b < wr.heap.size := Nat.lt_of_lt_of_le hbl hb.size
      have hj0 : (0 : Int) ≤ (j : Int) := Int.natCast_nonneg _
      have hj1 : (j : Int) < (n : Int) := by omega
      have et : ((k : Int) + (j : Int)).toNat = k + j := by omega
      have ET := Lib.hid et
      clear hc hr et
      go_wp2_with fail
      go_region_held3 (fun w' => w'.cell? ⟨b, o + j, none⟩ = some (.string (mkText (k + j))) ∧ b < w'.heap.size)
        (first
          | go_keep
          | exact ⟨(hb1.cell (p := ⟨b, o + j, none⟩) (by simpa using hlt2)).trans (by simpa using hck), Nat.lt_of_lt_of_le hlt2 hb1.size⟩)
        ((go_at_call 113; refine (markText_int _ _ (by omega) (by omega)).mono ?_; rintro e w1 ⟨rfl, hb1⟩))
      rw [ET.out]
      simp only [beq_self_eq_true, Bool.not_true]
      have hb2 : Below w.heap.size w w1 := hb.drew.trans (hb1.mono hb.size)
      clear hb hb1
      go_wp2
      go_roundw
      case rel => exact ⟨j + 1, by omega, by go_num, by go_num, hb2⟩
      case measure => simp [intOf]; omega
    · obtain rfl : j = n := by omega
      go_wp2
      go_ret
      exact ⟨ret_int (by omega), hb⟩
set_option maxHeartbeats 400000 in
theorem markPicture_any (g n c : Nat) (f : Nat → Value) (m : Nat) (t : TypeId) (k : Nat) (w : World) (hn : n ≤ 1048576) (hm : n ≤ m) (h0 : 0 < k) (h1 : k ≤ 1073741824) (hr : w.rowIs g t m f) :
    Calls Try.prog 49 #[.agg #[.slice (some ⟨g, 0, none⟩) n c], .int .i64 k] w fun e w' => e = .returned (.int .i64 ((k + n : Nat) : Int)) ∧ w'.rowIs g t m (fun i => if i < n then mkAt k i else f i) ∧ w.grownBy w' (some g) := by
  go_enter Try.func49, Try.ntmps49
  go_wp2_with fail
  refine (markStringS_any g n c f m t k _ hn hm h0 h1 (hr.alloc _)).mono ?_
  rintro e w1 ⟨rfl, hrow, hgr⟩
  go_wp2
  go_ret
  exact ⟨rfl, hrow, grown_trans (World.grownBy_alloc _ _ _) hgr⟩

set_option maxHeartbeats 400000 in
theorem heldPicture_any (p : Option Addr) (n c : Nat) (k : Nat) (w : World) (hn : n ≤ 1048576) (h0 : 0 < k) (h1 : k ≤ 1073741824) (hr : Rd w p n (mkAt k)) :
    Calls Try.prog 50 #[.agg #[.slice p n c], .int .i64 k] w fun e w' => e = .returned (.int .i64 ((k + n : Nat) : Int)) ∧ Below w.heap.size w w' := by
  go_enter Try.func50, Try.ntmps50
  go_wp2_with fail
  refine (heldStringS_any p n c k _ hn h0 h1 (hr.alloc _)).mono ?_
  rintro e w1 ⟨rfl, hb⟩
  have hb1 := below_a1 hb
  go_wp2
  go_ret
  exact ⟨rfl, hb1⟩

set_option maxHeartbeats 400000 in
theorem szPicture_any (p : Option Addr) (c : Nat) (ss : List ByteArray) (left : Int) (w : World) (hn : ss.length ≤ maxLen) (hs : ∀ s ∈ ss, s.size ≤ maxLen) (h0 : 0 ≤ left) (h1 : left ≤ 1048576)
    (hr : Rd w p ss.length (strAt ss)) :
    Calls Try.prog 20 #[.agg #[.slice p ss.length c], .int .i64 left] w fun e w' => e = .returned (.int .i64 (if 0 ≤ szS ss left then szS ss left else -1)) ∧ Below w.heap.size w w' := by
  by_cases hz : 0 ≤ szS ss left
  · rw [if_pos hz]
    go_enter Try.func20, Try.ntmps20
    go_wp2_with fail
    refine (szStringS_any p c ss left _ hn hs h0 h1 (hr.alloc _)).mono ?_
    rintro e w1 ⟨rfl, rfl⟩
    go_wp2
    go_ret
    exact ⟨rfl, by (repeat' (first | exact Below.refl _ _ | assumption | refine Below.drew ?_ | refine below_drewN ?_ _ | refine Below.alloc ?_ ?_ _ | refine Below.setCell ?_ ?_ _ | go_size))⟩
  · rw [if_neg hz]
    go_enter Try.func20, Try.ntmps20
    go_wp2_with fail
    refine (szStringS_any p c ss left _ hn hs h0 h1 (hr.alloc _)).mono ?_
    rintro e w1 ⟨rfl, rfl⟩
    go_wp2
    go_ret
    exact ⟨rfl, by (repeat' (first | exact Below.refl _ _ | assumption | refine Below.drew ?_ | refine below_drewN ?_ _ | refine Below.alloc ?_ ?_ _ | refine Below.setCell ?_ ?_ _ | go_size))⟩
/-- A slice of strings of the call's own, from block B on, below block N. -/
def OwnStrs (B : Nat) (w : World) (v : Value) (ss : List ByteArray) : Prop :=
  ∃ p c, v = .slice p ss.length c ∧ w.ownsRow B 9 1 v ss.length (ss.map Value.string)

theorem OwnStrs.below {B : Nat} {w w' : World} {v : Value} {ss : List ByteArray} (h : OwnStrs B w v ss) {B' : Nat} (hb : Below B' w w') (hB : w.heap.size ≤ B') : OwnStrs B w' v ss := by
  obtain ⟨p, c, hv, ho⟩ := h
  exact ⟨p, c, hv, own_below ho hb hB⟩
theorem OwnStrs.bl {B : Nat} {w w' : World} {v : Value} {ss : List ByteArray} (h : OwnStrs B w v ss) (hb : Below w.heap.size w w') : OwnStrs B w' v ss := h.below hb (Nat.le_refl _)
theorem OwnStrs.mono {B B' : Nat} {w : World} {v : Value} {ss : List ByteArray} (h : OwnStrs B w v ss) (hb : B' ≤ B) : OwnStrs B' w v ss := by
  obtain ⟨p, c, hv, ho⟩ := h
  exact ⟨p, c, hv, own_mono ho hb⟩
theorem OwnStrs.nil (B : Nat) (w : World) : OwnStrs B w (.slice none 0 0) [] := ⟨none, 0, rfl, World.ownsRow_nil _ _ _ _⟩
theorem OwnStrs.form {B : Nat} {w : World} {v : Value} {ss : List ByteArray} (h : OwnStrs B w v ss) : ∃ p c, v = .slice p ss.length c := by
  obtain ⟨p, c, hv, _⟩ := h
  exact ⟨p, c, hv⟩
theorem OwnStrs.ge {B : Nat} {w : World} {v : Value} {ss : List ByteArray} (h : OwnStrs B w v ss) : ∀ k, v.ownBlock = some k → B ≤ k ∧ k < w.heap.size := by
  obtain ⟨p, c, hv, ho⟩ := h
  exact ho.lt

theorem getD_eq {ss : List ByteArray} {k : Nat} (h : k < ss.length) : ss.getD k ByteArray.empty = ss[k] := by simp [List.getD, List.getElem?_eq_getElem h]
theorem strs_cells (ss : List ByteArray) : ∀ i (hi : i < (ss.map Value.string).length), (ss.map Value.string)[i] = strAt ss i := by
  intro i hi
  rw [List.length_map] at hi
  rw [List.getElem_map, strAt, getD_eq hi]
theorem OwnStrs.rd {B : Nat} {w : World} {p : Option Addr} {n c : Nat} {ss : List ByteArray} (h : OwnStrs B w (.slice p n c) ss) : Rd w p ss.length (strAt ss) := by
  obtain ⟨p', c', hv, ho⟩ := h
  simp only [Value.slice.injEq] at hv
  obtain ⟨rfl, rfl, rfl⟩ := hv
  have := Rd.of_own ho (strs_cells ss)
  rwa [List.length_map] at this
theorem OwnStrs.grown {B : Nat} {w w' : World} {v : Value} {ss : List ByteArray} (h : OwnStrs B w v ss) {r : Option Nat} (hg : w.grownBy w' r) (hr : ∀ k, v.ownBlock = some k → some k ≠ r) : OwnStrs B w' v ss := by
  obtain ⟨p, c, hv, ho⟩ := h
  refine ⟨p, c, hv, ho.kept hg ?_⟩
  cases hk : v.ownBlock with
  | none => exact .inl rfl
  | some k => exact .inr (hr k hk)
/-- An owned row of strings is a block of the call's own. -/
theorem OwnStrs.row {B : Nat} {w : World} {p : Option Addr} {n c : Nat} {ss : List ByteArray} (h : OwnStrs B w (.slice p n c) ss) : n = ss.length ∧ (ss = [] ∨ ∃ g m f, p = some ⟨g, 0, none⟩ ∧ B ≤ g ∧ g < w.heap.size ∧ ss.length ≤ m ∧ w.rowIs g 9 m f) := by
  obtain ⟨p', c', hv, ho⟩ := h
  simp only [Value.slice.injEq] at hv
  obtain ⟨rfl, rfl, rfl⟩ := hv
  refine ⟨rfl, ?_⟩
  rcases ho.2 with ⟨_, h0⟩ | ⟨g, cap, cur, hv, hb, hg, hn, hm, hs, _⟩
  · exact .inl (List.length_eq_zero_iff.1 h0)
  · simp only [Value.slice.injEq] at hv
    refine .inr ⟨g, cur.size, fun i => (cur[i]?).getD undef, hv.1, hb, (Array.getElem?_eq_some_iff.1 hg).1, by omega, cur, hg, rfl, fun i hi => by simp [hi]⟩

/-- The marks of a picture's rows: they stand afterwards, and nothing else has turned. -/
theorem markPicture_own {B : Nat} {w : World} {p : Option Addr} {n c : Nat} {ss : List ByteArray} (h : OwnStrs B w (.slice p n c) ss) (hn : ss.length ≤ 1048576) (k : Nat) (h0 : 0 < k) (h1 : k ≤ 1073741824) :
    Calls Try.prog 49 #[.agg #[.slice p n c], .int .i64 k] w fun e w' => e = .returned (.int .i64 ((k + ss.length : Nat) : Int)) ∧ Rd w' p ss.length (mkAt k) ∧ w.grownBy w' (Value.slice p n c).ownBlock := by
  obtain ⟨rfl, hr⟩ := h.row
  rcases hr with rfl | ⟨g, m, f, rfl, hg, hlt, hm, hrow⟩
  · go_enter Try.func49, Try.ntmps49
    go_wp2_with fail
    refine (markStringS_nil _ _ _ _).mono ?_
    rintro e w1 ⟨rfl, rfl⟩
    go_wp2
    go_ret
    exact ⟨rfl, .inl rfl, World.grownBy_alloc _ _ _⟩
  · refine (markPicture_any g ss.length c f m _ k w hn hm h0 h1 hrow).mono fun e w' ⟨he, hr, hgr⟩ => ⟨he, ?_, hgr⟩
    exact (Rd.of_row hr hm).congr (fun i hi => by simp [hi])

/-- What a law on one picture keeps from call to call: its argument in a box of its own, the argument's strings. -/
structure LawP (w wi : World) (a : Nat) (p : Option Addr) (c : Nat) (ss : List ByteArray) : Prop where
  box : wi.cell? ⟨a, 0, none⟩ = some (.slice p ss.length c)
  rd : Rd wi p ss.length (strAt ss)
  below : Below w.heap.size w wi
  lt : a < wi.heap.size

theorem LawP.start {w : World} {p : Option Addr} {c : Nat} {ss : List ByteArray} (hr : Rd w p ss.length (strAt ss)) (t : TypeId) :
    LawP w (w.alloc (.cells #[.slice p ss.length c] t)) w.heap.size p c ss :=
  ⟨by simp, hr.alloc _, (Below.refl _ _).alloc (Nat.le_refl _) _, by simp⟩
theorem LawP.step {w wi wj : World} {a : Nat} {p : Option Addr} {c : Nat} {ss : List ByteArray} (h : LawP w wi a p c ss) (hb : Below wi.heap.size wi wj) : LawP w wj a p c ss :=
  ⟨(hb.cell (p := ⟨a, 0, none⟩) h.lt).trans h.box, h.rd.below hb (Nat.le_refl _), h.below.trans (hb.mono h.below.size), Nat.lt_of_lt_of_le h.lt hb.size⟩
theorem LawP.alloc {w wi : World} {a : Nat} {p : Option Addr} {c : Nat} {ss : List ByteArray} (h : LawP w wi a p c ss) (o : Obj) : LawP w (wi.alloc o) a p c ss :=
  h.step ((Below.refl _ _).alloc (Nat.le_refl _) _)
theorem LawP.drewN {w wi : World} {a : Nat} {p : Option Addr} {c : Nat} {ss : List ByteArray} (h : LawP w wi a p c ss) (n : Nat) : LawP w (wi.drewN n) a p c ss :=
  h.step (below_drewN (Below.refl _ _) _)
end Go.Proofs.Ytnenogpagkepfaa
