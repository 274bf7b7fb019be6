/- Contract of slices.Compact over spots: those that equal the one before are left out. -/
import Derived.Test.YtjplikkehhpomaaSpots
import Derived.Test.YtjplikkehhpomaaLawSpots
import Derived.Test.YtjplikkehhpomaaCmpL
import Derived.IntWalk
import Derived.Laws.IdiomCopy
set_option linter.unusedVariables false
set_option linter.unusedSimpArgs false
namespace Go.Proofs.Ytjplikkehhpomaa
open Go.RowKit

theorem row_setCells {g : Nat} {T : TypeId} {m : Nat} : ∀ (vs : List Value) (o : Nat) (w : World) (f : Nat → Value), w.rowIs g T m f → ∃ f', (w.setCells g o vs).rowIs g T m f' ∧ ∀ i, i < o → f' i = f i
  | [], o, w, f, h => ⟨f, h, fun _ _ => rfl⟩
  | v :: r, o, w, f, h => by
    obtain ⟨f', h1, h2⟩ := row_setCells r (o + 1) (w.setCell ⟨g, o, none⟩ v) _ (h.set o v)
    refine ⟨f', h1, fun i hi => ?_⟩
    rw [h2 i (by omega), if_neg (by omega)]
theorem grown_setCells {w : World} {g : Nat} : ∀ (vs : List Value) (o : Nat) (a : World), w.grownBy a (some g) → w.grownBy (a.setCells g o vs) (some g)
  | [], _, _, h => h
  | v :: r, o, a, h => grown_setCells r (o + 1) _ (grown_setCell h o v)
/-- 'clear(s)', s a slice of spots. -/
theorem run_clear_spots (w : World) (t e ty : TypeId) (ht : Try.prog.underlying t = some (.slice e)) (hv : ∀ w, (zeroValue e).run Try.prog w = .ok (.agg #[.int .i64 0, .int .i64 0]) w) (b o n c : Nat) (hn : 0 < n)
    (hc : ∀ j, j < n * 2 → (w.cell? ⟨b, o + j, none⟩).isSome = true) (hf : ∀ j, j < n * 2 → w.frozen? ⟨b, o + j, none⟩ = false) :
    ∃ vs, (Builtin.clear_ #[t] ty #[.slice (some ⟨b, o, none⟩) n c]).run Try.prog w = .ok (.tuple #[]) (w.setCells b o vs) := by
  obtain ⟨zs, ez⟩ : ∃ zs, (Builtin.zeroCells (Value.agg #[.int .i64 0, .int .i64 0]).cells n).toList = zs := ⟨_, rfl⟩
  have hlen : zs.length = n * 2 := by
    rw [← ez]
    simp [Builtin.zeroCells, Value.cells]
  have hone : ∀ v ∈ zs, v.oneCell' = true := by
    intro v hv
    rw [← ez] at hv
    simp only [Builtin.zeroCells, Value.cells, Array.toList_map, List.mem_map] at hv
    obtain ⟨i, _, rfl⟩ := hv
    have : i % 2 = 0 ∨ i % 2 = 1 := by omega
    rcases this with h | h <;> simp [h, Value.oneCell']
  have hst := run_storeCells_cells (P := Try.prog) b o zs 0 w (by rw [hlen]; simpa using hc) (by rw [hlen]; simpa using hf) hone
  simp only [Nat.add_zero] at hst
  refine ⟨zs, ?_⟩
  obtain ⟨m, rfl⟩ : ∃ m, n = m + 1 := ⟨n - 1, by omega⟩
  simp [Builtin.clear_, run_underlying ht, hv, ez, hst]
theorem OwnSpots.cells {B g c n : Nat} {w : World} {l : List (Int × Int)} (h : OwnSpots B w (.slice (some ⟨g, 0, none⟩) n c) l) :
    n = l.length ∧ B ≤ g ∧ n ≤ c ∧ c ≤ maxLen ∧ ∃ f, w.rowIs g 28 (c * 2) f ∧ ∀ i, i < l.length * 2 → f i = spotAt l i := by
  obtain ⟨p', c', hv, ho⟩ := h
  simp only [Value.slice.injEq] at hv
  obtain ⟨rfl, rfl, rfl⟩ := hv
  rcases ho.2 with ⟨hv, _⟩ | ⟨g', cap, cur, hv, hb, hg, h1, h2, h3, h4⟩
  · cases hv
  · simp only [Value.slice.injEq, Option.some.injEq, Addr.mk.injEq] at hv
    obtain ⟨⟨rfl, _⟩, _, rfl⟩ := hv
    refine ⟨rfl, hb, h1, h2, fun i => (cur[i]?).getD undef, ⟨cur, hg, h3, fun i hi => by simp [h3, hi]⟩, fun i hi => ?_⟩
    have h5 : i < (spotCells l).length := by rw [spotCells_len]; exact hi
    rw [← spotCells_at l i h5]
    have h6 : (cur.toList.take (l.length * 2))[i]? = (spotCells l)[i]? := by rw [h4]
    rw [List.getElem?_take, if_pos hi, Array.getElem?_toList, List.getElem?_eq_getElem h5] at h6
    show (cur[i]?).getD undef = _
    rw [h6]
    rfl
theorem OwnSpots.of_cells {B g c : Nat} {w : World} {l : List (Int × Int)} {f : Nat → Value} (hB : B ≤ g) (hn : l.length ≤ c) (hc : c ≤ maxLen) (hr : w.rowIs g 28 (c * 2) f) (hf : ∀ i, i < l.length * 2 → f i = spotAt l i) :
    OwnSpots B w (.slice (some ⟨g, 0, none⟩) l.length c) l := by
  obtain ⟨cur, hg, hs, hx⟩ := hr
  refine ⟨_, _, rfl, by rw [spotCells_len], .inr ⟨g, c, cur, rfl, hB, hg, hn, hc, hs, ?_⟩⟩
  apply List.ext_getElem?
  intro i
  by_cases hi : i < l.length * 2
  · have h5 : i < (spotCells l).length := by rw [spotCells_len]; exact hi
    rw [List.getElem?_take, if_pos hi, Array.getElem?_toList, hx i (by omega), List.getElem?_eq_getElem h5, spotCells_at l i h5, hf i hi]
  · rw [List.getElem?_eq_none (by simp; omega), List.getElem?_eq_none (by rw [spotCells_len]; omega)]
theorem ddN_succ_eq {l : List (Int × Int)} {k : Nat} (h0 : 0 < k) (h : l.getD k (0, 0) = l.getD (k - 1) (0, 0)) : ddN l (k + 1) = ddN l k := by
  rw [ddN, if_pos ⟨by omega, h⟩, List.append_nil]
theorem ddN_succ_ne {l : List (Int × Int)} {k : Nat} (h : ¬ l.getD k (0, 0) = l.getD (k - 1) (0, 0)) : ddN l (k + 1) = ddN l k ++ [l.getD k (0, 0)] := by
  rw [ddN, if_neg (fun h2 => h h2.2)]
theorem ddN_one {l : List (Int × Int)} (h : 0 < l.length) : ddN l 1 = l.take 1 := by
  obtain ⟨a, r, rfl⟩ := List.exists_cons_of_length_pos h
  simp [ddN]
theorem take_snoc_spot {l : List (Int × Int)} {k : Nat} (h : k < l.length) : l.take (k + 1) = l.take k ++ [l.getD k (0, 0)] := by
  rw [List.take_succ_eq_append_getElem h]; simp [List.getD, List.getElem?_eq_getElem h]
theorem spotAt_app (l m : List (Int × Int)) {i : Nat} (h : i < l.length * 2) : spotAt (l ++ m) i = spotAt l i := by
  unfold spotAt
  have : (l ++ m).getD (i / 2) (0, 0) = l.getD (i / 2) (0, 0) := by simp [List.getD, List.getElem?_append_left (show i / 2 < l.length by omega)]
  rw [this]
theorem spotAt_last (l : List (Int × Int)) (s : Int × Int) : spotAt (l ++ [s]) (l.length * 2) = .int .i64 s.1 ∧ spotAt (l ++ [s]) (l.length * 2 + 1) = .int .i64 s.2 := by
  rw [spotAt_x, spotAt_y]
  simp [List.getD]
theorem spotAt_take (l : List (Int × Int)) {k i : Nat} (h : i < k * 2) : spotAt (l.take k) i = spotAt l i := by
  unfold spotAt
  have : (l.take k).getD (i / 2) (0, 0) = l.getD (i / 2) (0, 0) := by simp [List.getD, List.getElem?_take, show i / 2 < k by omega]
  rw [this]
/-- While it writes: the first n of the list are done. -/
structure CpRel (l : List (Int × Int)) (g c n K : Nat) (w wr : World) : Prop where
  row : ∃ f, wr.rowIs g 28 (c * 2) f ∧ (∀ i, i < K * 2 → f i = spotAt (ddN l n) i) ∧ ∀ i, (n - 1) * 2 ≤ i → i < l.length * 2 → f i = spotAt l i
  len : (ddN l n).length = K
  lt : K < n
  gr : w.grownBy wr (some g)
theorem CpRel.draw {l : List (Int × Int)} {g c n K : Nat} {w wr : World} (h : CpRel l g c n K w wr) (hw : w.heap.size ≤ wr.heap.size) (k : Nat) : CpRel l g c n K w (wr.drewN k) := by
  obtain ⟨f, h1, h2, h3⟩ := h.row
  exact ⟨⟨f, row_below h1 (bl_drewN _ _) h1.lt, h2, h3⟩, h.len, h.lt, grown_below h.gr (bl_drewN _ _) hw⟩
theorem CpRel.pass {l : List (Int × Int)} {g c n K : Nat} {w wr : World} (h : CpRel l g c n K w wr) (h0 : 0 < n) (he : l.getD n (0, 0) = l.getD (n - 1) (0, 0)) : CpRel l g c (n + 1) K w wr := by
  obtain ⟨f, h1, h2, h3⟩ := h.row
  have e := ddN_succ_eq h0 he
  exact ⟨⟨f, h1, by rw [e]; exact h2, fun i hi => h3 i (by omega)⟩, by rw [e]; exact h.len, by have := h.lt; omega, h.gr⟩
theorem CpRel.put {l : List (Int × Int)} {g c n K : Nat} {w wr : World} (h : CpRel l g c n K w wr) (hn : n < l.length) (hne : ¬ l.getD n (0, 0) = l.getD (n - 1) (0, 0)) :
    CpRel l g c (n + 1) (K + 1) w ((wr.setCell ⟨g, K * 2, none⟩ (.int .i64 (l.getD n (0, 0)).1)).setCell ⟨g, K * 2 + 1, none⟩ (.int .i64 (l.getD n (0, 0)).2)) := by
  obtain ⟨f, h1, h2, h3⟩ := h.row
  have e := ddN_succ_ne hne
  have hl := h.len
  have hlt := h.lt
  refine ⟨⟨_, (h1.set (K * 2) _).set (K * 2 + 1) _, fun i hi => ?_, fun i hi hi2 => ?_⟩, by rw [e, List.length_append, hl]; rfl, by omega, grown_setCell (grown_setCell h.gr _ _) _ _⟩
  · rw [e]
    obtain ⟨l0, l1⟩ := spotAt_last (ddN l n) (l.getD n (0, 0))
    rw [hl] at l0 l1
    by_cases e1 : i = K * 2 + 1
    · subst e1; rw [if_pos rfl, l1]
    · by_cases e0 : i = K * 2
      · subst e0; rw [if_neg (by omega), if_pos rfl, l0]
      · simp only [e1, e0, if_false]
        rw [h2 i (by omega), spotAt_app _ _ (by rw [hl]; omega)]
  · rw [if_neg (by omega), if_neg (by omega)]
    exact h3 i (by omega) hi2
set_option maxRecDepth 100000 in
set_option maxHeartbeats 8000000 in
theorem compact_any {B : Nat} (g c : Nat) (l : List (Int × Int)) (w : World) (hl : l.length ≤ 1048576) (O : OwnSpots B w (.slice (some ⟨g, 0, none⟩) l.length c) l) :
    Calls Try.prog 41 #[.slice (some ⟨g, 0, none⟩) l.length c] w fun e w' => e = .returned (.slice (some ⟨g, 0, none⟩) (cmpL l).length c) ∧ OwnSpots B w' (.slice (some ⟨g, 0, none⟩) (cmpL l).length c) (cmpL l) ∧ w.grownBy w' (some g) := by
  obtain ⟨-, hB, hlc, hc, f0, R0, hf0⟩ := O.cells
  have hc2 := hc
  unfold maxLen at hc2
  have hcm : cmpL l = ddN l l.length := rfl
  obtain ⟨C, eC⟩ : ∃ C, cmpL l = C := ⟨_, rfl⟩
  rw [eC] at hcm ⊢
  by_cases h2 : l.length < 2
  · have hC : C = l := by
      rw [hcm]
      have : l.length = 0 ∨ l.length = 1 := by omega
      rcases this with h | h
      · rw [h]
        exact (List.length_eq_zero_iff.1 h).symm
      · rw [h, ddN_one (by omega), List.take_of_length_le (by omega)]
    subst hC
    have EC := Lib.hid eC; clear eC
    have Hcm := Lib.hid hcm; clear hcm
    have Hc := Lib.hid hc; clear hc
    go_enter Try.func41, Try.ntmps41
    go_wp2
    go_ret
    exact ⟨rfl, O, grown_refl _ _⟩
  · have EC := Lib.hid eC; clear eC
    have Hcm := Lib.hid hcm; clear hcm
    have Hc := Lib.hid hc; clear hc
    have Hf0 := Lib.hid hf0; clear hf0
    go_enter Try.func41, Try.ntmps41
    go_wp2
    go_loopw [3] (fun i wr => ∃ k : Nat, 1 ≤ k ∧ k ≤ l.length ∧ i = .int .i64 k ∧ ddN l k = l.take k ∧ ∃ q, wr = w.drewN q) (fun i _ => l.length - (intOf i).toNat)
    case atStart => exact ⟨1, Nat.le_refl _, by omega, rfl, ddN_one (by omega), 0, rfl⟩
    case round =>
      obtain ⟨k, hk1, hk, rfl, hdd, q, rfl⟩ := hrel
      by_cases hlt : k < l.length
      · obtain ⟨j, hj⟩ : ∃ j, j + 1 = k := ⟨k - 1, by omega⟩
        have a0 := R0.cell (i := j * 2) (by omega)
        have a1 := R0.cell (i := j * 2 + 1) (by omega)
        have b0 := R0.cell (i := k * 2) (by omega)
        have b1 := R0.cell (i := k * 2 + 1) (by omega)
        rw [Hf0.out _ (by omega), spotAt_x] at a0 b0
        rw [Hf0.out _ (by omega), spotAt_y] at a1 b1
        have hes := ddN_succ_eq (l := l) (k := k) (by omega)
        have hns := ddN_succ_ne (l := l) (k := k)
        have hts := take_snoc_spot hlt
        rw [show k - 1 = j by omega] at hes hns
        obtain ⟨⟨x1, y1⟩, e1⟩ : ∃ s, l.getD j (0, 0) = s := ⟨_, rfl⟩
        obtain ⟨⟨x2, y2⟩, e2⟩ : ∃ s, l.getD k (0, 0) = s := ⟨_, rfl⟩
        rw [e1] at a0 a1 hes hns
        rw [e2] at b0 b1 hes hns hts
        dsimp only at a0 a1 b0 b1
        have hw1 : IntKind.i64.wrap ((k : Int) - 1) = (j : Int) := by rw [IntWalk.i64_in _ (by omega)]; omega
        have hj0 : (0 : Int) ≤ (j : Int) := Int.natCast_nonneg _
        have hj2 : (j : Int) < (l.length : Int) := by omega
        have hk0 : (0 : Int) ≤ (k : Int) := Int.natCast_nonneg _
        have hk2 : (k : Int) < (l.length : Int) := by omega
        by_cases hxy : x2 = x1 ∧ y2 = y1
        · obtain ⟨rfl, rfl⟩ := hxy
          have hdd2 := hes rfl
          have Hj := Lib.hid hj; clear hj
          have E1 := Lib.hid e1; clear e1
          have E2 := Lib.hid e2; clear e2
          have Hdd := Lib.hid hdd; clear hdd
          have Hdd2 := Lib.hid hdd2; clear hdd2
          have Hts := Lib.hid hts; clear hts
          have Hns := Lib.hid hns; clear hns
          clear hes
          go_wp2_with fail
          go_quiet (fail)
          have r00 : CpRel l g c (k + 1) k w (w.drewN (q + nq)) := by
            refine ⟨⟨f0, row_below R0 (bl_drewN _ _) R0.lt, fun i hi => ?_, fun i hi hi2 => Hf0.out i hi2⟩, ?_, Nat.lt_succ_self k, grown_below (grown_refl _ _) (bl_drewN _ _) (Nat.le_refl _)⟩
            · rw [Hdd2.out, Hdd.out, spotAt_take _ hi]
              exact Hf0.out i (by omega)
            · rw [Hdd2.out, Hdd.out, List.length_take]
              omega
          have hkc : k < c := by omega
          have hkc2 : (k : Int) < (c : Int) := by omega
          have R00 := Lib.hid r00; clear r00
          clear a0 a1 b0 b1 hw1
          go_wp2
          go_loopw [3, 5] (fun s3 s5 wr => ∃ K k2 : Nat, 1 ≤ k2 ∧ k + k2 ≤ l.length ∧ s3 = .int .i64 K ∧ s5 = .int .i64 k2 ∧ CpRel l g c (k + k2) K w wr) (fun _ s5 _ => l.length - (intOf s5).toNat)
          case atStart => exact ⟨k, 1, Nat.le_refl _, by omega, rfl, rfl, R00.out⟩
          case round =>
            clear R00
            obtain ⟨K, k2, hk21, hk22, rfl, rfl, r⟩ := hrel
            have hsz := r.gr.size
            have hKn := r.lt
            obtain ⟨f, R, hf1, hf2⟩ := r.row
            by_cases hlt2 : k + k2 < l.length
            · obtain ⟨j2, hj2⟩ : ∃ j, j + 1 = k2 := ⟨k2 - 1, by omega⟩
              have a0 := R.cell (i := k * 2 + j2 * 2) (by omega)
              have a1 := R.cell (i := k * 2 + j2 * 2 + 1) (by omega)
              have b0 := R.cell (i := k * 2 + k2 * 2) (by omega)
              have b1 := R.cell (i := k * 2 + k2 * 2 + 1) (by omega)
              rw [hf2 _ (by omega) (by omega), show k * 2 + j2 * 2 = (k + j2) * 2 by omega, spotAt_x, show (k + j2) * 2 = k * 2 + j2 * 2 by omega] at a0
              rw [hf2 _ (by omega) (by omega), show k * 2 + j2 * 2 + 1 = (k + j2) * 2 + 1 by omega, spotAt_y, show (k + j2) * 2 + 1 = k * 2 + j2 * 2 + 1 by omega] at a1
              rw [hf2 _ (by omega) (by omega), show k * 2 + k2 * 2 = (k + k2) * 2 by omega, spotAt_x, show (k + k2) * 2 = k * 2 + k2 * 2 by omega] at b0
              rw [hf2 _ (by omega) (by omega), show k * 2 + k2 * 2 + 1 = (k + k2) * 2 + 1 by omega, spotAt_y, show (k + k2) * 2 + 1 = k * 2 + k2 * 2 + 1 by omega] at b1
              have hps := fun q => (r.draw hsz q).pass (by omega)
              have hpt := fun q => (r.draw hsz q).put hlt2
              rw [show k + k2 - 1 = k + j2 by omega] at hps hpt
              obtain ⟨⟨x1, y1⟩, e1⟩ : ∃ s, l.getD (k + j2) (0, 0) = s := ⟨_, rfl⟩
              obtain ⟨⟨x2, y2⟩, e2⟩ : ∃ s, l.getD (k + k2) (0, 0) = s := ⟨_, rfl⟩
              simp only [e1] at a0 a1 hps hpt
              simp only [e2] at b0 b1 hps hpt
              have hw1 : IntKind.i64.wrap ((k2 : Int) - 1) = (j2 : Int) := by rw [IntWalk.i64_in _ (by omega)]; omega
              have hj0 : (0 : Int) ≤ (j2 : Int) := Int.natCast_nonneg _
              have hj3 : (j2 : Int) < (l.length : Int) - (k : Int) := by omega
              have hk20 : (0 : Int) ≤ (k2 : Int) := Int.natCast_nonneg _
              have hk23 : (k2 : Int) < (l.length : Int) - (k : Int) := by omega
              have hK0 : (0 : Int) ≤ (K : Int) := Int.natCast_nonneg _
              have hK1 : (K : Int) < (l.length : Int) := by omega
              have hnat : k2 < l.length - k := by omega
              have hnat2 : j2 < l.length - k := by omega
              by_cases hxy : x2 = x1 ∧ y2 = y1
              · obtain ⟨rfl, rfl⟩ := hxy
                have hr := fun q => hps q rfl
                have Hj2 := Lib.hid hj2; clear hj2
                have E1 := Lib.hid e1; clear e1
                have E2 := Lib.hid e2; clear e2
                have Hr := Lib.hid hr; clear hr
                have Hf1 := Lib.hid hf1; clear hf1
                have Hf2 := Lib.hid hf2; clear hf2
                clear hps hpt r R
                go_wp2_with fail
                go_quiet (fail)
                go_wp2
                go_roundw
                case rel => exact ⟨K, k2 + 1, by omega, by omega, rfl, by go_num, Hr.out _⟩
                case measure => simp [intOf]; omega
              · have hr := fun q => hpt q (fun e => hxy ⟨congrArg Prod.fst e, congrArg Prod.snd e⟩)
                have hcase : ¬ x2 = x1 ∨ (x2 = x1 ∧ ¬ y2 = y1) := by
                  by_cases h : x2 = x1
                  · exact .inr ⟨h, fun h2 => hxy ⟨h, h2⟩⟩
                  · exact .inl h
                have c0 := R.cell (i := K * 2) (by omega)
                have c1 := R.cell (i := K * 2 + 1) (by omega)
                have d0 := R.frozen (K * 2)
                have d1 := R.frozen (K * 2 + 1)
                generalize f (K * 2) = v0 at c0
                generalize f (K * 2 + 1) = v1 at c1
                have Hj2 := Lib.hid hj2; clear hj2
                have E1 := Lib.hid e1; clear e1
                have E2 := Lib.hid e2; clear e2
                have Hr := Lib.hid hr; clear hr
                have Hf1 := Lib.hid hf1; clear hf1
                have Hf2 := Lib.hid hf2; clear hf2
                clear hps hpt r R hxy
                rcases hcase with hx | ⟨rfl, hy⟩
                all_goals
                  go_wp2_with fail
                  go_quiet (fail)
                  go_wp2
                  go_roundw
                  case rel => exact ⟨K + 1, k2 + 1, by omega, by omega, by go_num, by go_num, Hr.out _⟩
                  case measure => simp [intOf]; omega
            · have hend : k + k2 = l.length := by omega
              have hlen := r.len
              rw [hend] at hlen hf1
              have hgr := r.gr
              have hKc : K < c := by omega
              obtain ⟨vs, hcl⟩ := run_clear_spots wr 33 28 0 Try.underlying33 (fun w => by kernel_rfl) g (K * 2) (l.length - K) (c - K) (by omega) (fun j hj => by rw [R.cell (i := K * 2 + j) (by omega)]; rfl) (fun j hj => R.frozen _)
              obtain ⟨f', R2, hf'⟩ := row_setCells vs (K * 2) wr f R
              have hO : OwnSpots B (wr.setCells g (K * 2) vs) (.slice (some ⟨g, 0, none⟩) K c) (ddN l l.length) := by
                have := OwnSpots.of_cells (B := B) (c := c) (l := ddN l l.length) hB (by omega) Hc.out R2 (fun i hi => by rw [hlen] at hi; rw [hf' i hi, hf1 i hi])
                rw [hlen] at this
                exact this
              have hG := grown_setCells vs (K * 2) wr hgr
              have hK0 : (0 : Int) ≤ (K : Int) := Int.natCast_nonneg _
              have hK1 : (K : Int) < (c : Int) := by omega
              have hK2 : (K : Int) ≤ (l.length : Int) := by omega
              have HO := Lib.hid hO; clear hO
              have HG := Lib.hid hG; clear hG
              have Hlen := Lib.hid hlen; clear hlen
              have Hf1 := Lib.hid hf1; clear hf1
              have Hf2 := Lib.hid hf2; clear hf2
              have Hf' := Lib.hid hf'; clear hf'
              have Hend := Lib.hid hend; clear hend
              have Hgr := Lib.hid hgr; clear hgr
              clear r R R2
              go_wp2
              go_ret
              have hcl2 : C.length = K := by rw [Hcm.out]; exact Hlen.out
              refine ⟨by rw [hcl2]; rfl, ?_, HG.out⟩
              rw [hcl2, Hcm.out]
              exact HO.out
        · have hdd2 : ddN l (k + 1) = l.take (k + 1) := by
            rw [hns (fun e => hxy ⟨congrArg Prod.fst e, congrArg Prod.snd e⟩), hts, hdd]
          have hcase : ¬ x2 = x1 ∨ (x2 = x1 ∧ ¬ y2 = y1) := by
            by_cases h : x2 = x1
            · exact .inr ⟨h, fun h2 => hxy ⟨h, h2⟩⟩
            · exact .inl h
          have Hj := Lib.hid hj; clear hj
          have E1 := Lib.hid e1; clear e1
          have E2 := Lib.hid e2; clear e2
          have Hdd := Lib.hid hdd; clear hdd
          have Hdd2 := Lib.hid hdd2; clear hdd2
          have Hts := Lib.hid hts; clear hts
          have Hns := Lib.hid hns; clear hns
          clear hes hxy
          rcases hcase with hx | ⟨rfl, hy⟩
          all_goals
            go_wp2_with fail
            go_quiet (fail)
            go_wp2
            go_roundw
            case rel => exact ⟨k + 1, by omega, by omega, by go_num, Hdd2.out, q + nq, rfl⟩
            case measure => simp [intOf]; omega
      · obtain rfl : k = l.length := by omega
        have hC : C = l := by rw [Hcm.out, hdd, List.take_of_length_le (Nat.le_refl _)]
        have hO := O.bl (bl_drewN w q)
        have hG := grown_below (grown_refl w (some g)) (bl_drewN w q) (Nat.le_refl _)
        have HC := Lib.hid hC; clear hC
        have Hdd := Lib.hid hdd; clear hdd
        have HO := Lib.hid hO; clear hO
        have HG := Lib.hid hG; clear hG
        clear O
        go_wp2
        go_ret
        exact ⟨by rw [HC.out]; rfl, by rw [HC.out]; exact HO.out, HG.out⟩
end Go.Proofs.Ytjplikkehhpomaa
