/- Contracts of the laws' own helpers over slices of strings: size, copy, comparison, marks. -/
import Derived.Test.YtheakjbbfdcbaaaMem
set_option linter.unusedVariables false
namespace Go.Proofs.Ytheakjbbfdcbaaa
open Go.RowKit

/-- What szStringS leaves of a bound. -/
def szL : List ByteArray → Int → Int
  | [], left => left
  | s :: ss, left => if left - s.size < 0 then -1 else szL ss (left - s.size)
def szS (ss : List ByteArray) (left : Int) : Int := if left - ss.length < 0 then -1 else szL ss (left - ss.length)

theorem szL_ok (ss : List ByteArray) : ∀ (left : Int), 0 ≤ left → 0 ≤ szL ss left → ∀ s ∈ ss, s.size ≤ left := by
  induction ss with
  | nil => intro _ _ _ s hs; cases hs
  | cons a ss ih =>
    intro left h0 h s hs
    rw [szL] at h
    by_cases e : left - a.size < 0
    · rw [if_pos e] at h; omega
    · rw [if_neg e] at h
      rcases List.mem_cons.1 hs with rfl | hs
      · omega
      · have := ih _ (by omega) h s hs; omega
theorem szS_ok {ss : List ByteArray} {left : Int} (h0 : 0 ≤ left) (h : 0 ≤ szS ss left) : ss.length ≤ left ∧ ∀ s ∈ ss, s.size ≤ left := by
  rw [szS] at h
  by_cases e : left - ss.length < 0
  · rw [if_pos e] at h; omega
  · rw [if_neg e] at h
    exact ⟨by omega, fun s hs => by have := szL_ok ss _ (by omega) h s hs; omega⟩
theorem szL_le (ss : List ByteArray) : ∀ (left : Int), 0 ≤ left → szL ss left ≤ left := by
  induction ss with
  | nil => intro left _; simp [szL]
  | cons a ss ih =>
    intro left h0
    rw [szL]
    by_cases e : left - a.size < 0
    · rw [if_pos e]; omega
    · rw [if_neg e]; have := ih (left - a.size) (by omega); omega
theorem szS_le (ss : List ByteArray) (left : Int) (h0 : 0 ≤ left) : szS ss left ≤ left := by
  rw [szS]
  by_cases e : left - ss.length < 0
  · rw [if_pos e]; omega
  · rw [if_neg e]; have := szL_le ss (left - ss.length) (by omega); omega
theorem getD_mem {ss : List ByteArray} {k : Nat} (h : k < ss.length) : ss.getD k ByteArray.empty ∈ ss := by simp [List.getD, List.getElem?_eq_getElem h]
theorem drop_getD {ss : List ByteArray} {k : Nat} (h : k < ss.length) : ss.drop k = ss.getD k ByteArray.empty :: ss.drop (k + 1) := by
  rw [List.drop_eq_getElem_cons h]; simp [List.getD, List.getElem?_eq_getElem h]

theorem szL_stop {ss : List ByteArray} {left : Int} {k : Nat} {cur : Int} (hk : k < ss.length) (h : szL ss left = szL (ss.drop k) cur) (hs : cur - (ss.getD k ByteArray.empty).size < 0) : szL ss left = -1 := by
  rw [h, drop_getD hk, szL, if_pos hs]
theorem szL_go {ss : List ByteArray} {left : Int} {k : Nat} {cur : Int} (hk : k < ss.length) (h : szL ss left = szL (ss.drop k) cur) (hs : ¬ cur - (ss.getD k ByteArray.empty).size < 0) : szL ss left = szL (ss.drop (k + 1)) (cur - (ss.getD k ByteArray.empty).size) := by
  rw [h, drop_getD hk, szL, if_neg hs]

set_option maxHeartbeats 400000 in
theorem szStringS_any (p : Option Addr) (c : Nat) (ss : List ByteArray) (left : Int) (w : World) (hn : ss.length ≤ maxLen) (hs : ∀ s ∈ ss, s.size ≤ maxLen) (h0 : 0 ≤ left) (h1 : left ≤ 1048576)
    (hr : Rd w p ss.length (fun i => .string (ss.getD i ByteArray.empty))) :
    Calls Try.prog 49 #[.slice p ss.length c, .int .i64 left] w fun e w' => e = .returned (.int .i64 (szS ss left)) ∧ w = w' := by
  unfold maxLen at hn hs
  by_cases hlt : left - ss.length < 0
  · go_enter Try.func49, Try.ntmps49
    go_wp2
    go_ret
    exact ⟨ret_int (by rw [szS, if_pos (by omega)]), rfl⟩
  · go_enter Try.func49, Try.ntmps49
    go_wp2
    go_loop [1, 5] (fun l i => ∃ (k : Nat) (cur : Int), k ≤ ss.length ∧ i = .int .i64 k ∧ l = .int .i64 cur ∧ 0 ≤ cur ∧ cur ≤ 1048576 ∧ szL ss (left - ss.length) = szL (ss.drop k) cur) (fun _ i => ss.length - (intOf i).toNat)
    case atStart => exact ⟨0, _, Nat.zero_le _, rfl, rfl, by omega, by omega, by simp⟩
    case round =>
      obtain ⟨k, cur, hk, rfl, rfl, hc0, hc1, hrel⟩ := hrel
      by_cases hkn : k < ss.length
      · obtain ⟨b, o, rfl, hb, hc⟩ := hr.at hkn
        have hck := hc k hkn
        have hsz := hs _ (getD_mem hkn)
        have hA := Lib.hid (szL_stop hkn hrel)
        have hB := Lib.hid (szL_go hkn hrel)
        clear hrel hc hs hr
        generalize ss.getD k ByteArray.empty = s at *
        by_cases hst : cur - s.size < 0
        · go_wp2
          go_ret
          exact ⟨ret_int (by rw [szS, if_neg (by omega)]; exact (hA.out hst).symm), rfl⟩
        · go_wp2
          go_round
          case rel => exact ⟨k + 1, _, by omega, by go_num, rfl, by omega, by omega, hB.out hst⟩
          case measure => simp [intOf]; omega
      · obtain rfl : k = ss.length := by omega
        have hA := Lib.hid hrel
        clear hrel hc0
        go_wp2
        go_ret
        exact ⟨ret_int (by rw [szS, if_neg (by omega), hA.out]; simp [szL]), rfl⟩

def strAt (ss : List ByteArray) (i : Nat) : Value := .string (ss.getD i ByteArray.empty)

theorem info_string : (Try.prog.info? 9).map (fun i => (i.zero, i.size, i.bytes)) = some (some (.string ByteArray.empty), 1, 16) := by kernel_rfl

set_option maxHeartbeats 400000 in
theorem toStringS_any (p : Option Addr) (c : Nat) (ss : List ByteArray) (w : World) (hn : ss.length ≤ 1048576) (hr : Rd w p ss.length (strAt ss)) :
    Calls Try.prog 53 #[.slice p ss.length c] w fun e w' => ∃ g, e = .returned (.slice (some ⟨g, 0, none⟩) ss.length ss.length) ∧ w.heap.size ≤ g ∧ w'.rowIs g 9 ss.length (strAt ss) ∧ Below w.heap.size w w' := by
  have hmk := run_make_row' (P := Try.prog) 36 9 (.string ByteArray.empty) 16 Try.underlying36 info_string rfl .i64 .i64 ss.length (by omega) (by omega)
  go_enter Try.func53, Try.ntmps53
  go_wp2
  clear hmk
  go_loopw [4] (fun i wr => ∃ k : Nat, k ≤ ss.length ∧ i = .int .i64 k ∧ Fill w wr 9 ss.length k (strAt ss) (.string ByteArray.empty)) (fun i _ => ss.length - (intOf i).toNat)
  case atStart => exact ⟨0, Nat.zero_le _, rfl, Fill.start _ _ _ _ _⟩
  case round =>
    obtain ⟨k, hk, rfl, hF⟩ := hrel
    by_cases hkn : k < ss.length
    · obtain ⟨b, o, rfl, hb, hc⟩ := hr.at hkn
      have hck : wr.cell? ⟨b, o + k, none⟩ = some (strAt ss k) := by rw [hF.below.cell (p := ⟨b, o + k, none⟩) hb]; exact hc k hkn
      have hst := hF.row.cell hkn
      have hfz := hF.row.frozen k
      have hN := hF.step
      obtain ⟨s, es⟩ : ∃ s, strAt ss k = .string s := ⟨_, rfl⟩
      rw [es] at hck hN
      clear hc hr hF es
      go_wp2
      go_roundw
      case rel => exact ⟨k + 1, by omega, by go_num, hN⟩
      case measure => simp [intOf]; omega
    · obtain rfl : k = ss.length := by omega
      go_wp2
      go_ret
      exact ⟨_, rfl, Nat.le_refl _, hF.done, hF.below⟩

set_option maxHeartbeats 400000 in
theorem toPicture_any (p : Option Addr) (c : Nat) (ss : List ByteArray) (w : World) (hn : ss.length ≤ 1048576) (hr : Rd w p ss.length (strAt ss)) :
    Calls Try.prog 21 #[.agg #[.slice p ss.length c]] w fun e w' => ∃ g, e = .returned (.agg #[.slice (some ⟨g, 0, none⟩) ss.length ss.length]) ∧ w.heap.size ≤ g ∧ w'.rowIs g 9 ss.length (strAt ss) ∧ Below w.heap.size w w' := by
  go_enter Try.func21, Try.ntmps21
  go_wp2_with fail
  refine (toStringS_any _ _ _ _ hn (((hr.alloc _).alloc _).alloc _)).mono ?_
  rintro e w1 ⟨g, rfl, hg, hrow, hb⟩
  have hb1 := below_a3 hb
  obtain ⟨hcl, hfr⟩ := bcell hb
  simp only [World.size_alloc] at hg
  go_wp2
  refine bodyPost_ret (v := .agg #[.slice (some ⟨g, 0, none⟩) ss.length ss.length]) (by simp [results, Try.results21, go_sem, hcl]) rfl ⟨g, rfl, by omega, ?_, ?_⟩
  · exact (hrow.setOther (by simp; omega) _).setOther (by simp; omega) _
  · (repeat' (first | exact Below.refl _ _ | assumption | refine Below.drew ?_ | refine below_drewN ?_ _ | refine Below.alloc ?_ ?_ _ | refine Below.setCell ?_ ?_ _ | go_size))

theorem toList_ne {s t : ByteArray} (h : ¬ s = t) : (s.toList == t.toList) = false := by
  rw [beq_eq_false_iff_ne]
  intro e
  apply h
  have : s.data.toList = t.data.toList := by simpa [ByteArray.toList_eq] using e
  cases s; cases t
  simp at this
  simp [this]
theorem take_eq_succ {ss ts : List ByteArray} {k : Nat} (h : ss.take k = ts.take k) (h1 : k < ss.length) (h2 : k < ts.length) (e : ss.getD k ByteArray.empty = ts.getD k ByteArray.empty) : ss.take (k + 1) = ts.take (k + 1) := by
  rw [List.take_succ_eq_append_getElem h1, List.take_succ_eq_append_getElem h2, h]
  simp [List.getD, List.getElem?_eq_getElem h1, List.getElem?_eq_getElem h2] at e
  rw [e]
theorem take_ne (ss ts : List ByteArray) (k : Nat) (e : ss.getD k ByteArray.empty ≠ ts.getD k ByteArray.empty) : ¬ ss = ts := fun h => e (by rw [h])

set_option maxHeartbeats 400000 in
theorem eqStringS_any (p q : Option Addr) (c d : Nat) (ss ts : List ByteArray) (w : World) (hn : ss.length ≤ 1048576) (hm : ts.length ≤ maxLen) (hr : Rd w p ss.length (strAt ss)) (hq : Rd w q ts.length (strAt ts)) :
    Calls Try.prog 56 #[.slice p ss.length c, .slice q ts.length d] w fun e w' => e = .returned (.bool (decide (ss = ts))) ∧ ∃ n, w' = w.drewN n := by
  unfold maxLen at hm
  go_enter Try.func56, Try.ntmps56
  by_cases hl : ss.length = ts.length
  · have hl1 : ss.length ≤ ts.length := by omega
    have hl2 : ts.length ≤ ss.length := by omega
    have hl3 : ((ss.length : Int) != (ts.length : Int)) = false := by simp; omega
    clear hl
    go_wp2
    go_loopw [5] (fun i wr => ∃ k : Nat, k ≤ ss.length ∧ i = .int .i64 k ∧ (∃ n, wr = w.drewN n) ∧ ss.take k = ts.take k) (fun i _ => ss.length - (intOf i).toNat)
    case atStart => exact ⟨0, Nat.zero_le _, rfl, ⟨0, rfl⟩, rfl⟩
    case round =>
      obtain ⟨k, hk, rfl, ⟨n, rfl⟩, ht⟩ := hrel
      by_cases hkn : k < ss.length
      · obtain ⟨b, o, rfl, hb, hc⟩ := hr.at hkn
        obtain ⟨b', o', rfl, hb', hc'⟩ := hq.at (k := k) (by omega)
        have h1 := hc k hkn
        have h2 := hc' k (by omega)
        have hs := Lib.hid (take_eq_succ ht hkn (by omega))
        have hx := Lib.hid (take_ne ss ts k)
        unfold strAt at h1 h2
        clear hc hc' hr hq ht
        generalize ss.getD k ByteArray.empty = s at *
        generalize ts.getD k ByteArray.empty = t at *
        by_cases hst : s = t
        · subst hst
          go_wp2
          go_quiet (fail)
          go_wp2
          go_roundw
          case rel =>
            exact ⟨k + 1, by omega, by go_num, ⟨_, rfl⟩, hs.out trivial⟩
          case measure => simp [intOf]; omega
        · have hx := Lib.hid (hx.out hst)
          have hst' : (s.toList == t.toList) = false := toList_ne hst
          clear hst
          go_wp2
          go_quiet (fail)
          go_wp2
          go_ret
          exact ⟨ret_bool (by simp [hx.out]), _, World.drewN_drewN _ _ _⟩
      · obtain rfl : k = ss.length := by omega
        have he : ss = ts := by rw [List.take_of_length_le (Nat.le_refl _), List.take_of_length_le (by omega)] at ht; exact ht
        have HE := Lib.hid he
        clear he ht
        go_wp2
        go_ret
        exact ⟨ret_bool (by simp [HE.out]), n, rfl⟩
  · have hne : ¬ ss = ts := fun h => hl (by rw [h])
    have HE := Lib.hid hne
    clear hne
    go_wp2
    go_ret
    exact ⟨ret_bool (by simp [HE.out]), 0, rfl⟩
set_option maxHeartbeats 400000 in
theorem eqPicture_any (p q : Option Addr) (c d : Nat) (ss ts : List ByteArray) (w : World) (hn : ss.length ≤ 1048576) (hm : ts.length ≤ maxLen) (hr : Rd w p ss.length (strAt ss)) (hq : Rd w q ts.length (strAt ts)) :
    Calls Try.prog 24 #[.agg #[.slice p ss.length c], .agg #[.slice q ts.length d]] w fun e w' => e = .returned (.bool (decide (ss = ts))) ∧ Below w.heap.size w w' := by
  cases hd : decide (ss = ts)
  all_goals
    go_enter Try.func24, Try.ntmps24
    go_wp2_with fail
    refine (eqStringS_any _ _ _ _ ss ts _ hn hm ((hr.alloc _).alloc _) ((hq.alloc _).alloc _)).mono ?_
    rintro e w1 ⟨rfl, n, rfl⟩
    go_wp2
    go_ret
    exact ⟨rfl, by (repeat' (first | exact Below.refl _ _ | assumption | refine Below.drew ?_ | refine below_drewN ?_ _ | refine Below.alloc ?_ ?_ _ | refine Below.setCell ?_ ?_ _ | go_size))⟩

theorem eqPicture_same (p q : Option Addr) (c d : Nat) (ss : List ByteArray) (w : World) (hn : ss.length ≤ 1048576) (hr : Rd w p ss.length (strAt ss)) (hq : Rd w q ss.length (strAt ss)) :
    Calls Try.prog 24 #[.agg #[.slice p ss.length c], .agg #[.slice q ss.length d]] w fun e w' => e = .returned (.bool true) ∧ Below w.heap.size w w' :=
  (eqPicture_any p q c d ss ss w hn (by unfold maxLen; omega) hr hq).mono fun e w' h => ⟨h.1.trans (by simp), h.2⟩





set_option maxHeartbeats 400000 in
theorem szPicture_any (p : Option Addr) (c : Nat) (ss : List ByteArray) (left : Int) (w : World) (hn : ss.length ≤ maxLen) (hs : ∀ s ∈ ss, s.size ≤ maxLen) (h0 : 0 ≤ left) (h1 : left ≤ 1048576)
    (hr : Rd w p ss.length (strAt ss)) :
    Calls Try.prog 19 #[.agg #[.slice p ss.length c], .int .i64 left] w fun e w' => e = .returned (.int .i64 (if 0 ≤ szS ss left then szS ss left else -1)) ∧ Below w.heap.size w w' := by
  by_cases hz : 0 ≤ szS ss left
  · rw [if_pos hz]
    go_enter Try.func19, Try.ntmps19
    go_wp2_with fail
    refine (szStringS_any p c ss left _ hn hs h0 h1 (hr.alloc _)).mono ?_
    rintro e w1 ⟨rfl, rfl⟩
    go_wp2
    go_ret
    exact ⟨rfl, by (repeat' (first | exact Below.refl _ _ | assumption | refine Below.drew ?_ | refine below_drewN ?_ _ | refine Below.alloc ?_ ?_ _ | refine Below.setCell ?_ ?_ _ | go_size))⟩
  · rw [if_neg hz]
    go_enter Try.func19, Try.ntmps19
    go_wp2_with fail
    refine (szStringS_any p c ss left _ hn hs h0 h1 (hr.alloc _)).mono ?_
    rintro e w1 ⟨rfl, rfl⟩
    go_wp2
    go_ret
    exact ⟨rfl, by (repeat' (first | exact Below.refl _ _ | assumption | refine Below.drew ?_ | refine below_drewN ?_ _ | refine Below.alloc ?_ ?_ _ | refine Below.setCell ?_ ?_ _ | go_size))⟩
/-- A slice of strings of the call's own, from block B on, below block N. -/
def OwnStrs (B : Nat) (w : World) (v : Value) (ss : List ByteArray) : Prop :=
  ∃ p c, v = .slice p ss.length c ∧ w.ownsRow B 9 1 v ss.length (ss.map Value.string)

theorem OwnStrs.below {B : Nat} {w w' : World} {v : Value} {ss : List ByteArray} (h : OwnStrs B w v ss) {B' : Nat} (hb : Below B' w w') (hB : w.heap.size ≤ B') : OwnStrs B w' v ss := by
  obtain ⟨p, c, hv, ho⟩ := h
  exact ⟨p, c, hv, own_below ho hb hB⟩
theorem OwnStrs.bl {B : Nat} {w w' : World} {v : Value} {ss : List ByteArray} (h : OwnStrs B w v ss) (hb : Below w.heap.size w w') : OwnStrs B w' v ss := h.below hb (Nat.le_refl _)
theorem OwnStrs.mono {B B' : Nat} {w : World} {v : Value} {ss : List ByteArray} (h : OwnStrs B w v ss) (hb : B' ≤ B) : OwnStrs B' w v ss := by
  obtain ⟨p, c, hv, ho⟩ := h
  exact ⟨p, c, hv, own_mono ho hb⟩
theorem OwnStrs.nil (B : Nat) (w : World) : OwnStrs B w (.slice none 0 0) [] := ⟨none, 0, rfl, World.ownsRow_nil _ _ _ _⟩
theorem OwnStrs.form {B : Nat} {w : World} {v : Value} {ss : List ByteArray} (h : OwnStrs B w v ss) : ∃ p c, v = .slice p ss.length c := by
  obtain ⟨p, c, hv, _⟩ := h
  exact ⟨p, c, hv⟩
theorem OwnStrs.ge {B : Nat} {w : World} {v : Value} {ss : List ByteArray} (h : OwnStrs B w v ss) : ∀ k, v.ownBlock = some k → B ≤ k ∧ k < w.heap.size := by
  obtain ⟨p, c, hv, ho⟩ := h
  exact ho.lt

theorem getD_eq {ss : List ByteArray} {k : Nat} (h : k < ss.length) : ss.getD k ByteArray.empty = ss[k] := by simp [List.getD, List.getElem?_eq_getElem h]
theorem strs_cells (ss : List ByteArray) : ∀ i (hi : i < (ss.map Value.string).length), (ss.map Value.string)[i] = strAt ss i := by
  intro i hi
  rw [List.length_map] at hi
  rw [List.getElem_map, strAt, getD_eq hi]
theorem OwnStrs.rd {B : Nat} {w : World} {p : Option Addr} {n c : Nat} {ss : List ByteArray} (h : OwnStrs B w (.slice p n c) ss) : Rd w p ss.length (strAt ss) := by
  obtain ⟨p', c', hv, ho⟩ := h
  simp only [Value.slice.injEq] at hv
  obtain ⟨rfl, rfl, rfl⟩ := hv
  have := Rd.of_own ho (strs_cells ss)
  rwa [List.length_map] at this
theorem OwnStrs.grown {B : Nat} {w w' : World} {v : Value} {ss : List ByteArray} (h : OwnStrs B w v ss) {r : Option Nat} (hg : w.grownBy w' r) (hr : ∀ k, v.ownBlock = some k → some k ≠ r) : OwnStrs B w' v ss := by
  obtain ⟨p, c, hv, ho⟩ := h
  refine ⟨p, c, hv, ho.kept hg ?_⟩
  cases hk : v.ownBlock with
  | none => exact .inl rfl
  | some k => exact .inr (hr k hk)
/-- An owned row of strings is a block of the call's own. -/
theorem OwnStrs.row {B : Nat} {w : World} {p : Option Addr} {n c : Nat} {ss : List ByteArray} (h : OwnStrs B w (.slice p n c) ss) : n = ss.length ∧ (ss = [] ∨ ∃ g m f, p = some ⟨g, 0, none⟩ ∧ B ≤ g ∧ g < w.heap.size ∧ ss.length ≤ m ∧ w.rowIs g 9 m f) := by
  obtain ⟨p', c', hv, ho⟩ := h
  simp only [Value.slice.injEq] at hv
  obtain ⟨rfl, rfl, rfl⟩ := hv
  refine ⟨rfl, ?_⟩
  rcases ho.2 with ⟨_, h0⟩ | ⟨g, cap, cur, hv, hb, hg, hn, hm, hs, _⟩
  · exact .inl (List.length_eq_zero_iff.1 h0)
  · simp only [Value.slice.injEq] at hv
    refine .inr ⟨g, cur.size, fun i => (cur[i]?).getD undef, hv.1, hb, (Array.getElem?_eq_some_iff.1 hg).1, by omega, cur, hg, rfl, fun i hi => by simp [hi]⟩


/-- What a law on one picture keeps from call to call: its argument in a box of its own, the argument's strings. -/
structure LawP (w wi : World) (a : Nat) (p : Option Addr) (c : Nat) (ss : List ByteArray) : Prop where
  box : wi.cell? ⟨a, 0, none⟩ = some (.slice p ss.length c)
  rd : Rd wi p ss.length (strAt ss)
  below : Below w.heap.size w wi
  lt : a < wi.heap.size

theorem LawP.start {w : World} {p : Option Addr} {c : Nat} {ss : List ByteArray} (hr : Rd w p ss.length (strAt ss)) (t : TypeId) :
    LawP w (w.alloc (.cells #[.slice p ss.length c] t)) w.heap.size p c ss :=
  ⟨by simp, hr.alloc _, (Below.refl _ _).alloc (Nat.le_refl _) _, by simp⟩
theorem LawP.step {w wi wj : World} {a : Nat} {p : Option Addr} {c : Nat} {ss : List ByteArray} (h : LawP w wi a p c ss) (hb : Below wi.heap.size wi wj) : LawP w wj a p c ss :=
  ⟨(hb.cell (p := ⟨a, 0, none⟩) h.lt).trans h.box, h.rd.below hb (Nat.le_refl _), h.below.trans (hb.mono h.below.size), Nat.lt_of_lt_of_le h.lt hb.size⟩
theorem LawP.alloc {w wi : World} {a : Nat} {p : Option Addr} {c : Nat} {ss : List ByteArray} (h : LawP w wi a p c ss) (o : Obj) : LawP w (wi.alloc o) a p c ss :=
  h.step ((Below.refl _ _).alloc (Nat.le_refl _) _)
theorem LawP.drewN {w wi : World} {a : Nat} {p : Option Addr} {c : Nat} {ss : List ByteArray} (h : LawP w wi a p c ss) (n : Nat) : LawP w (wi.drewN n) a p c ss :=
  h.step (below_drewN (Below.refl _ _) _)
end Go.Proofs.Ytheakjbbfdcbaaa
