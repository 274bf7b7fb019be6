/- Contracts of the making of an element of offsets in order. -/
import Derived.Test.YtheakjbbfdcbaaaElemSort
set_option linter.unusedVariables false
set_option linter.unusedSimpArgs false
namespace Go.Proofs.Ytheakjbbfdcbaaa
open Go.RowKit

theorem Rising.ne {l : List (Int × Int)} (h : Rising l) {k : Nat} (h0 : 0 < k) (hk : k < l.length) : ¬ ((l.getD k (0, 0)).1 = (l.getD (k - 1) (0, 0)).1 ∧ (l.getD k (0, 0)).2 = (l.getD (k - 1) (0, 0)).2) := by
  have h1 := List.pairwise_iff_getElem.1 h (k - 1) k (by omega) hk (by omega)
  have e1 : l.getD k (0, 0) = l[k] := by simp [List.getD, List.getElem?_eq_getElem hk]
  have e2 : l.getD (k - 1) (0, 0) = l[k - 1] := by simp [List.getD, List.getElem?_eq_getElem (show k - 1 < l.length by omega)]
  rw [e1, e2]
  rw [befB_iff] at h1
  omega
set_option maxRecDepth 100000 in
set_option maxHeartbeats 4000000 in
theorem compact_rising (p : Option Addr) (c : Nat) (l : List (Int × Int)) (w : World) (hl : l.length ≤ 1048576) (hr : Rising l) (R : Rd w p (l.length * 2) (spotAt l)) :
    Calls Try.prog 78 #[.slice p l.length c] w fun e w' => e = .returned (.slice p l.length c) ∧ Below w.heap.size w w' := by
  have S := Since.refl w
  by_cases h2 : l.length < 2
  · go_enter Try.func78, Try.ntmps78
    go_wp2
    go_ret
    exact ⟨rfl, S.below⟩
  · obtain ⟨b, o, rfl, hlt, _⟩ := R.at (k := 0) (by omega)
    have Hr := Lib.hid hr; clear hr
    go_enter Try.func78, Try.ntmps78
    go_wp2
    go_loopw [3] (fun i wr => ∃ k : Nat, 1 ≤ k ∧ k ≤ l.length ∧ i = .int .i64 k ∧ Rd wr (some ⟨b, o, none⟩) (l.length * 2) (spotAt l) ∧ Since w wr) (fun i _ => l.length - (intOf i).toNat)
    case atStart => exact ⟨1, Nat.le_refl _, by omega, rfl, R, S⟩
    case round =>
      clear R S
      obtain ⟨k, hk1, hk, rfl, R, S⟩ := hrel
      by_cases hlt : k < l.length
      · obtain ⟨j, hj⟩ : ∃ j, j + 1 = k := ⟨k - 1, by omega⟩
        have hne := Hr.out.ne (k := k) (by omega) hlt
        rw [show k - 1 = j by omega] at hne
        obtain ⟨b', o', hq, hlt', hc⟩ := R.at (k := 0) (by omega)
        cases hq
        have a0 := hc (j * 2) (by omega)
        have a1 := hc (j * 2 + 1) (by omega)
        have b0 := hc (k * 2) (by omega)
        have b1 := hc (k * 2 + 1) (by omega)
        rw [spotAt_x] at a0 b0
        rw [spotAt_y, ← Nat.add_assoc] at a1 b1
        clear hc
        generalize (l.getD j (0, 0)).1 = x1 at *
        generalize (l.getD j (0, 0)).2 = y1 at *
        generalize (l.getD k (0, 0)).1 = x2 at *
        generalize (l.getD k (0, 0)).2 = y2 at *
        have hw1 : IntKind.i64.wrap ((k : Int) - 1) = (j : Int) := by rw [IntWalk.i64_in _ (by omega)]; omega
        have hj0 : (0 : Int) ≤ (j : Int) := Int.natCast_nonneg _
        have hj2 : (j : Int) < (l.length : Int) := by omega
        have hk0 : (0 : Int) ≤ (k : Int) := Int.natCast_nonneg _
        have hk2 : (k : Int) < (l.length : Int) := by omega
        have R2 := fun n => R.bl (bl_drewN wr n)
        have S2 := fun n => S.bl (bl_drewN wr n)
        have Hj := Lib.hid hj; clear hj
        by_cases hx : x2 = x1
        · subst hx
          have hy : ¬ y2 = y1 := fun e => hne ⟨rfl, e⟩
          clear hne
          go_wp2_with fail
          go_quiet (fail)
          go_wp2
          go_roundw
          case rel => exact ⟨k + 1, by omega, by omega, by go_num, R2 _, S2 _⟩
          case measure => simp [intOf]; omega
        · clear hne
          go_wp2_with fail
          go_quiet (fail)
          go_wp2
          go_roundw
          case rel => exact ⟨k + 1, by omega, by omega, by go_num, R2 _, S2 _⟩
          case measure => simp [intOf]; omega
      · obtain rfl : k = l.length := by omega
        go_wp2
        go_ret
        exact ⟨rfl, S.below⟩
theorem befB_trans {a b c : Int × Int} (h1 : befB a b = true) (h2 : befB b c = true) : befB a c = true := by
  rw [befB_iff] at *
  omega
theorem okEl_rising {l : List (Int × Int)} (h : okEl l = true) : Rising l := by
  have h1 : ∀ i, i < l.length → elB l i = true := by
    intro i hi
    simp only [okEl, Bool.and_eq_true, List.all_eq_true] at h
    exact h.1 i (List.mem_range.2 hi)
  have h2 : ∀ i (hi : i + 1 < l.length), befB l[i] l[i + 1] = true := by
    intro i hi
    have := h1 (i + 1) hi
    simp only [elB, Bool.and_eq_true, Bool.or_eq_true, decide_eq_true_eq, Nat.add_sub_cancel] at this
    have h3 := this.2.resolve_left (by omega)
    simpa [List.getD, List.getElem?_eq_getElem hi, List.getElem?_eq_getElem (show i < l.length by omega)] using h3
  refine List.pairwise_iff_getElem.2 fun i j hi hj hij => ?_
  obtain ⟨d, rfl⟩ : ∃ d, j = i + 1 + d := ⟨j - i - 1, by omega⟩
  clear hij
  induction d with
  | zero => exact h2 i hj
  | succ d ih => exact befB_trans (ih (by omega)) (h2 (i + 1 + d) hj)
theorem OwnSpots.at {B : Nat} {w : World} {v : Value} {l : List (Int × Int)} (h : OwnSpots B w v l) (hl : 0 < l.length) : ∃ g c, v = .slice (some ⟨g, 0, none⟩) l.length c ∧ B ≤ g := by
  obtain ⟨p, c, hv, ho⟩ := h
  rcases ho.2 with ⟨_, h0⟩ | ⟨g, cap, cur, hv2, hb, _⟩
  · omega
  · exact ⟨g, cap, hv2, hb⟩
set_option maxRecDepth 100000 in
set_option maxHeartbeats 4000000 in
theorem elementOf_ok (B g c : Nat) (l : List (Int × Int)) (w : World) (hl : l.length ≤ 1048576) (hr : Rising l) (O : OwnSpots B w (.slice (some ⟨g, 0, none⟩) l.length c) l) :
    Calls Try.prog 65 #[.slice (some ⟨g, 0, none⟩) l.length c] w fun e w' => e = .returned (.agg #[.slice (some ⟨g, 0, none⟩) l.length c]) ∧ Below w.heap.size w w' := by
  have S := (Since.refl w).alloc (.cells #[.slice none 0 0] 28)
  have B0 := Box.new w (.slice none 0 0) 28
  have O1 := O.bl (bl_alloc w (.cells #[.slice none 0 0] 28))
  have c1 := sort_rising O1 rfl hl hr
  have c2 := fun w' R => compact_rising (some ⟨g, 0, none⟩) c l w' hl hr R
  have C1 := Lib.hid c1; clear c1
  have C2 := Lib.hid c2; clear c2
  go_enter Try.func65, Try.ntmps65
  go_wp2_with fail
  refine C1.out.mono ?_
  rintro e w1 ⟨rfl, hb⟩
  have O2 := O1.bl hb
  replace S := S.bl hb
  replace B0 := B0.bl hb
  go_wp2_with fail
  refine (C2.out _ O2.rd).mono ?_
  rintro e w2 ⟨rfl, hb2⟩
  replace S := S.bl hb2
  replace B0 := B0.bl hb2
  have f0 := B0.frozen
  have f1 := B0.cell
  have e0 := (B0.set (.slice (some ⟨g, 0, none⟩) l.length c)).cell
  go_wp2
  exact bodyPost_ret (v := .agg #[.slice (some ⟨g, 0, none⟩) l.length c]) (by simp [results, Try.results65, go_sem, e0]) rfl ⟨rfl, S.below.setCell (by simp) _⟩
set_option maxRecDepth 100000 in
set_option maxHeartbeats 4000000 in
theorem toldElement_ok (B g c : Nat) (l : List (Int × Int)) (w : World) (hl : l.length ≤ 1048576) (hok : okEl l = true) (O : OwnSpots B w (.slice (some ⟨g, 0, none⟩) l.length c) l) :
    Calls Try.prog 58 #[.slice (some ⟨g, 0, none⟩) l.length c] w fun e w' => e = .returned (.tuple #[.agg #[.slice (some ⟨g, 0, none⟩) l.length c], .bool true]) ∧ Below w.heap.size w w' := by
  have S := (Since.refl w).alloc (.cells #[.slice none 0 0] 28)
  have B0 := Box.new w (.slice none 0 0) 28
  have O1 := O.bl (bl_alloc w (.cells #[.slice none 0 0] 28))
  have c1 := elementOf_ok B g c l _ hl (okEl_rising hok) O1
  have c2 := fun w' R => validElement_any (some ⟨g, 0, none⟩) c l w' hl R
  rw [hok] at c2
  have C1 := Lib.hid c1; clear c1
  have C2 := Lib.hid c2; clear c2
  have Hok := Lib.hid hok; clear hok
  go_enter Try.func58, Try.ntmps58
  go_wp2_with fail
  refine C1.out.mono ?_
  rintro e w1 ⟨rfl, hb⟩
  have O2 := (O1.bl hb).bl (bl_alloc w1 (.cells #[.slice (some ⟨g, 0, none⟩) l.length c] 28))
  replace S := (S.bl hb).alloc (.cells #[.slice (some ⟨g, 0, none⟩) l.length c] 28)
  replace B0 := (B0.bl hb).alloc (.cells #[.slice (some ⟨g, 0, none⟩) l.length c] 28)
  have B1 := Box.new w1 (.slice (some ⟨g, 0, none⟩) l.length c) 28
  have hsz := hb.size
  rw [World.size_alloc] at hsz
  go_wp2_with fail
  refine (C2.out _ O2.rd).mono ?_
  rintro e w2 ⟨rfl, hb2⟩
  replace S := S.bl hb2
  replace B0 := B0.bl hb2
  replace B1 := B1.bl hb2
  have f0 := B0.frozen
  have f1 := B0.cell
  have f2 := B1.cell
  have e0 := (B0.set (.slice (some ⟨g, 0, none⟩) l.length c)).cell
  go_wp2
  exact bodyPost_ret (v := .tuple #[.agg #[.slice (some ⟨g, 0, none⟩) l.length c], .bool true]) (by simp [results, Try.results58, go_sem, e0]) rfl ⟨rfl, S.below.setCell (by simp) _⟩
end Go.Proofs.Ytheakjbbfdcbaaa
