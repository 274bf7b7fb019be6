/- Contracts of the reference's InvertGrey and of what it calls. -/
import Derived.Test.YtedgjcmimdblgaaGrey
import Derived.Test.YtedgjcmimdblgaaLawGrey
set_option linter.unusedVariables false
set_option linter.unusedSimpArgs false
namespace Go.Proofs.Ytedgjcmimdblgaa
open Go.RowKit

theorem int_one (l : List Int) : ∀ u ∈ intCells l, u.oneCell' = true := by
  intro u hu
  obtain ⟨z, _, rfl⟩ := List.mem_map.1 hu
  rfl
theorem int_news {w : World} {b o : Nat} {l : List Int} (h : ∀ i, i < l.length → w.cell? ⟨b, o + i, none⟩ = some (intAt l i)) : ∀ i u, (intCells l)[i]? = some u → w.cell? ((⟨b, o, none⟩ : Addr).add i) = some u := by
  intro i u hu
  obtain ⟨hi, e⟩ := List.getElem?_eq_some_iff.1 hu
  have hi2 := hi
  rw [intCells_len] at hi2
  rw [Go.WideShapes.add_plain, h i hi2, ← intCells_at l i hi, e]
/-- Where rows have one length: the list of all numbers, by its index. -/
theorem flat_len {L : List (List Int)} {W : Nat} (h : ∀ l ∈ L, l.length = W) : L.flatten.length = L.length * W := by
  induction L with
  | nil => simp
  | cons a L ih =>
    rw [List.flatten_cons, List.length_append, ih (fun l hl => h l (List.mem_cons_of_mem _ hl)), h a (List.mem_cons_self ..), List.length_cons, Nat.add_mul, Nat.one_mul, Nat.add_comm]
theorem flat_at {L : List (List Int)} {W : Nat} (h : ∀ l ∈ L, l.length = W) {x : Nat} (hx : x < W) : ∀ y, L.flatten.getD (y * W + x) 0 = (L.getD y []).getD x 0 := by
  induction L with
  | nil => intro y; simp
  | cons a L ih =>
    intro y
    have ha := h a (List.mem_cons_self ..)
    have ih2 := ih (fun l hl => h l (List.mem_cons_of_mem _ hl))
    cases y with
    | zero =>
      simp only [List.flatten_cons, Nat.zero_mul, Nat.zero_add, List.getD, List.getElem?_cons_zero, Option.getD_some]
      rw [List.getElem?_append_left (by omega)]
    | succ y =>
      have := ih2 y
      simp only [List.getD, List.getElem?_cons_succ] at this ⊢
      rw [List.flatten_cons, List.getElem?_append_right (by rw [Nat.add_mul]; omega), ha, ← this, show (y + 1) * W + x - W = y * W + x by rw [Nat.add_mul]; omega]
set_option maxHeartbeats 1000000 in
theorem l00OwnI_any (p : Option Addr) (c : Nat) (l : List Int) (w : World) (h0 : 0 < l.length) (hn : l.length ≤ 1048576) (hr : Rd w p l.length (intAt l)) :
    Calls Try.prog 37 #[.slice p l.length c] w fun e w' => ∃ v, e = .returned v ∧ OwnInts w.heap.size w' v l ∧ Below w.heap.size w w' := by
  obtain ⟨b, o, rfl, hb, hc⟩ := (hr.bl (bl_alloc w (.cells #[] 2))).at h0
  have hown0 := World.ownsRow_made (base := w.heap.size) (e := 2) (size := 1) w #[] 0 (Nat.le_refl _) (by decide) rfl
  have hlen : (intCells l).length = l.length * 1 := by rw [intCells_len, Nat.mul_one]
  have hnews := int_news hc
  have hone := int_one l
  obtain ⟨i0, hi0, hz0, hz1, hz2⟩ := info_parts info_i64
  have Hnews := Lib.hid hnews; clear hnews
  have Hlen := Lib.hid hlen; clear hlen
  have Hone := Lib.hid hone; clear hone
  have Hc := Lib.hid hc; clear hc
  clear hr
  go_enter Try.func37, Try.ntmps37
  go_wp2_with (at_builtin; refine wpList_append_lies _ rfl _ _ 40 rfl w.heap.size 2 i0 _ 1 8 Try.underlying40 hi0 hz0 hz1 hz2 rfl (by decide) (.slice (some ⟨w.heap.size, 0, none⟩) 0 0) 0 [] rfl hown0 ⟨b, o, none⟩ l.length c (intCells l) rfl Hlen.out Hnews.out Hone.out (by omega) (by unfold maxLen; omega) (by omega) (by simp) (w.heap.size + 1) (by simp) ?_; intro g1 c1 w2 hown1 hgr1 hat1 hlt1)
  rw [Nat.zero_add, List.nil_append] at hown1
  have hwc : Below w.heap.size w w2 := below_grown ((Below.refl _ _).alloc (Nat.le_refl _) _) hgr1 (by simp) (Nat.le_refl _)
  have o1 : OwnInts w.heap.size w2 (.slice (some ⟨g1, 0, none⟩) l.length c1) l := ⟨_, _, rfl, hown1⟩
  have O1 := Lib.hid o1; clear o1
  have Hwc := Lib.hid hwc; clear hwc
  clear hown1 hgr1
  go_wp2
  go_ret
  exact ⟨_, rfl, O1.out, Hwc.out⟩
set_option maxHeartbeats 1000000 in
theorem l07Width_any (a : Nat) (p : Option Addr) (c : Nat) (L : List (List Int)) (w : World) (h0 : 0 < L.length) (hn : L.length ≤ 1048576) (hi : ∀ l ∈ L, l.length ≤ 1048576) (hb : w.cell? ⟨a, 0, none⟩ = some (.slice p L.length c)) (hr : RdSS w p L) :
    Calls Try.prog 21 #[.pointer (some ⟨a, 0, none⟩)] w fun e w' => e = .returned (.int .i64 ((L.getD 0 []).length : Nat)) ∧ w = w' := by
  obtain ⟨vs, hrv, hri⟩ := hr
  obtain ⟨b, o, rfl, hb2, hc⟩ := hrv.at (k := 0) (by omega)
  obtain ⟨q0, c0, e0, r0⟩ := hri 0 (by omega)
  have x0 := hc 0 (by omega)
  rw [e0, Nat.add_zero] at x0
  have hW := hi _ (getD_memL (l := L) (k := 0) (by omega))
  generalize (L.getD 0 []).length = W at *
  have hl1 : (0 : Int) < (L.length : Int) := by omega
  have Hc := Lib.hid hc; clear hc
  have Hri := Lib.hid hri; clear hri
  have Hrv := Lib.hid hrv; clear hrv
  have E0 := Lib.hid e0; clear e0
  have Hi := Lib.hid hi; clear hi
  clear r0
  go_enter Try.func21, Try.ntmps21
  go_wp2
  go_ret
  exact ⟨rfl, rfl⟩
theorem OwnInts.cap {B : Nat} {w : World} {p : Option Addr} {n c : Nat} {l : List Int} (h : OwnInts B w (.slice p n c) l) : n ≤ c ∧ c ≤ maxLen := by
  obtain ⟨p', c', hv, ho⟩ := h
  simp only [Value.slice.injEq] at hv
  obtain ⟨rfl, rfl, rfl⟩ := hv
  rcases ho.2 with ⟨h1, h0⟩ | ⟨g, cap, cur, hv, hb, hg, hn, hm, _⟩
  · simp only [Value.slice.injEq] at h1
    obtain ⟨_, h1, h2⟩ := h1
    subst h2
    omega
  · simp only [Value.slice.injEq] at hv
    obtain ⟨_, _, rfl⟩ := hv
    exact ⟨hn, hm⟩
set_option maxRecDepth 100000 in
set_option maxHeartbeats 2000000 in
theorem l07List_any (p : Option Addr) (c W : Nat) (L : List (List Int)) (w : World) (hW0 : 0 < W) (hW : W ≤ 16) (hH : L.length ≤ 16) (hl : ∀ l ∈ L, l.length = W) (hr : RdSS w p L) :
    Calls Try.prog 19 #[.slice p L.length c] w fun e w' => ∃ v, e = .returned v ∧ OwnInts w.heap.size w' v L.flatten ∧ Below w.heap.size w w' := by
  have hown0 : OwnInts w.heap.size (w.alloc (.cells #[] 2)) (.slice (some ⟨w.heap.size, 0, none⟩) 0 0) [] := ⟨_, _, rfl, World.ownsRow_made (base := w.heap.size) (e := 2) (size := 1) w #[] 0 (Nat.le_refl _) (by decide) rfl⟩
  have S0 := (Since.refl w).alloc (.cells #[] 2)
  obtain ⟨i0, hi0, hz0, hz1, hz2⟩ := info_parts info_i64
  have Hl := Lib.hid hl; clear hl
  go_enter Try.func19, Try.ntmps19
  go_wp2
  go_loopw [3, 4] (fun v i wr => ∃ y : Nat, y ≤ L.length ∧ i = .int .i64 y ∧ OwnInts w.heap.size wr v ((L.take y).flatten) ∧ Since w wr) (fun _ i _ => L.length - (intOf i).toNat)
  case atStart => exact ⟨0, Nat.zero_le _, rfl, by simpa using hown0, S0⟩
  case round =>
    clear hown0 S0
    obtain ⟨y, hy, rfl, O, S⟩ := hrel
    obtain ⟨q, d, rfl⟩ := O.form
    by_cases hlt : y < L.length
    · obtain ⟨vs, hrv, hri⟩ := hr.bl S.below
      obtain ⟨b, o, rfl, hb, hc⟩ := hrv.at (k := y) hlt
      obtain ⟨q1, c1, e1, r1⟩ := hri y hlt
      have a0 := hc y hlt
      rw [e1] at a0
      have hrow := Hl.out _ (getD_memL hlt)
      have hfl : (L.take (y + 1)).flatten = (L.take y).flatten ++ L.getD y [] := by rw [lists_take hlt]; simp
      have hfn : ((L.take y).flatten).length = y * W := by
        rw [flat_len (fun l h => Hl.out l (List.mem_of_mem_take h)), List.length_take, Nat.min_eq_left (by omega)]
      have hyW : y * W ≤ 256 := Nat.le_trans (Nat.mul_le_mul (by omega : y ≤ 16) hW) (by omega)
      obtain ⟨_, _, hv, hown⟩ := O
      simp only [Value.slice.injEq] at hv
      obtain ⟨rfl, _, rfl⟩ := hv
      generalize (L.take y).flatten = l0 at *
      generalize L.getD y [] = row at *
      obtain ⟨b1, o1, rfl, hb1, hc1⟩ := r1.at (k := 0) (by omega)
      have hn0 : l0.length ≤ 256 := by omega
      have hlen : (intCells row).length = row.length * 1 := by rw [intCells_len, Nat.mul_one]
      have hnews := int_news hc1
      have hone := int_one row
      have hbs := S.size
      have hy0 : (0 : Int) ≤ (y : Int) := Int.natCast_nonneg _
      have hy1 : (y : Int) < (L.length : Int) := by omega
      have hr16 : row.length ≤ 16 := by omega
      have hr1 : 0 < row.length := by omega
      have hge := own_ge hown
      have Hc := Lib.hid hc; clear hc
      have Hri := Lib.hid hri; clear hri
      have Hrv := Lib.hid hrv; clear hrv
      have E1 := Lib.hid e1; clear e1
      have Hfl := Lib.hid hfl; clear hfl
      have Hfn := Lib.hid hfn; clear hfn
      have HyW := Lib.hid hyW; clear hyW
      have Hnews := Lib.hid hnews; clear hnews
      have Hlen := Lib.hid hlen; clear hlen
      have Hone := Lib.hid hone; clear hone
      have Hc1 := Lib.hid hc1; clear hc1
      have Hge := Lib.hid hge; clear hge
      clear r1 hrow
      go_wp2_with (at_builtin; refine wpList_append_lies _ rfl _ _ 40 rfl w.heap.size 2 i0 _ 1 8 Try.underlying40 hi0 hz0 hz1 hz2 rfl (by decide) (.slice q l0.length d) l0.length (intCells l0) rfl hown ⟨b1, o1, none⟩ row.length c1 (intCells row) rfl Hlen.out Hnews.out Hone.out (by omega) (by unfold maxLen; omega) (by omega) hbs wr.heap.size rfl ?_; intro g2 c2 w2 hown2 hgr2 hat2 hlt2)
      have o2 : OwnInts w.heap.size w2 (.slice (some ⟨g2, 0, none⟩) (l0.length + row.length) c2) (l0 ++ row) := ⟨_, _, by rw [List.length_append], by rw [List.length_append, show intCells (l0 ++ row) = intCells l0 ++ intCells row by simp [intCells]]; exact hown2⟩
      have s2 : Since w w2 := ⟨below_own S.below hgr2 Hge.out hbs⟩
      rw [← Hfl.out] at o2
      have O2 := Lib.hid o2; clear o2
      have S2 := Lib.hid s2; clear s2
      clear hown hown2 hgr2 S
      go_wp2
      go_roundw
      case rel => exact ⟨y + 1, by omega, by go_num, O2.out, S2.out⟩
      case measure => simp [intOf]; omega
    · obtain rfl : y = L.length := by omega
      have hfl : (L.take L.length).flatten = L.flatten := by rw [List.take_of_length_le (Nat.le_refl _)]
      have Hfl := Lib.hid hfl; clear hfl
      go_wp2
      go_ret
      exact ⟨_, rfl, by rw [← Hfl.out]; exact O, S.below⟩
end Go.Proofs.Ytedgjcmimdblgaa
