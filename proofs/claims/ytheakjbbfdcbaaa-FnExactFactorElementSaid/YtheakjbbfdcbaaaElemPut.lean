/- Contract of the reference's putting of an offset into its place. -/
import Derived.Test.YtheakjbbfdcbaaaElemSrt
import Derived.Deep.RegionLaw
import Derived.Deep.AppendLies
import Derived.Deep.DeepCutAuto
set_option linter.unusedVariables false
set_option linter.unusedSimpArgs false
namespace Go.Proofs.Ytheakjbbfdcbaaa
open Go.RowKit

/-- How many of the first offsets stand before o. -/
def befN (o : Int × Int) : List (Int × Int) → Nat
  | [] => 0
  | a :: m => if befB a o then befN o m + 1 else 0
theorem befN_le (o : Int × Int) : ∀ m, befN o m ≤ m.length
  | [] => Nat.le_refl _
  | a :: m => by
    have := befN_le o m
    unfold befN
    split <;> simp <;> omega
theorem befN_yes (o : Int × Int) : ∀ (m : List (Int × Int)) (j : Nat), j < befN o m → befB (m.getD j (0, 0)) o = true
  | [], j, h => by simp [befN] at h
  | a :: m, j, h => by
    unfold befN at h
    by_cases ha : befB a o = true
    · rw [if_pos ha] at h
      cases j with
      | zero => simpa using ha
      | succ j => simpa using befN_yes o m j (by omega)
    · rw [if_neg ha] at h
      omega
theorem befN_no (o : Int × Int) : ∀ (m : List (Int × Int)), befN o m < m.length → befB (m.getD (befN o m) (0, 0)) o = false
  | [], h => by simp [befN] at h
  | a :: m, h => by
    unfold befN at h ⊢
    by_cases ha : befB a o = true
    · rw [if_pos ha] at h ⊢
      simpa using befN_no o m (by simpa using h)
    · rw [if_neg ha]
      simpa using ha
/-- An offset put into its place. -/
def putS (m : List (Int × Int)) (o : Int × Int) : List (Int × Int) :=
  if befN o m < m.length ∧ m.getD (befN o m) (0, 0) = o then m else m.take (befN o m) ++ o :: m.drop (befN o m)
theorem spotAt_drop (m : List (Int × Int)) (j i : Nat) : spotAt (m.drop j) i = spotAt m (j * 2 + i) := by
  unfold spotAt
  have e1 : (j * 2 + i) % 2 = i % 2 := by omega
  have e2 : (j * 2 + i) / 2 = j + i / 2 := by omega
  rw [e1, e2]
  simp [List.getD, List.getElem?_drop]
theorem spotCells_take (m : List (Int × Int)) : ∀ j, (spotCells m).take (j * 2) = spotCells (m.take j) := by
  induction m with
  | nil => intro j; simp [spotCells]
  | cons a m ih =>
    intro j
    cases j with
    | zero => simp [spotCells]
    | succ j =>
      have e : ∀ l : List (Int × Int), spotCells (a :: l) = .int .i64 a.1 :: .int .i64 a.2 :: spotCells l := fun l => by simp [spotCells]
      rw [List.take_succ_cons, e, e, show (j + 1) * 2 = j * 2 + 1 + 1 by omega, List.take_succ_cons, List.take_succ_cons, ih]
theorem own_take {B g c n : Nat} {m : List (Int × Int)} {w : World} {T : TypeId} (h : w.ownsRow B T 2 (.slice (some ⟨g, 0, none⟩) n c) n (spotCells m)) (hn : n = m.length) {j : Nat} (hj : j ≤ n) : w.ownsRow B T 2 (.slice (some ⟨g, 0, none⟩) j c) j (spotCells (m.take j)) := by
  refine ⟨by rw [spotCells_len, List.length_take]; omega, ?_⟩
  rcases h.2 with ⟨hv, _⟩ | ⟨g', cap, cur, hv, hb, hg, h2, h3, h4, h5⟩
  · cases hv
  · simp only [Value.slice.injEq, Option.some.injEq, Addr.mk.injEq] at hv
    obtain ⟨⟨rfl, _⟩, _, rfl⟩ := hv
    refine .inr ⟨g, c, cur, rfl, hb, hg, by omega, h3, h4, ?_⟩
    rw [← spotCells_take, ← h5, List.take_take, show min (j * 2) (n * 2) = j * 2 by omega]
theorem own_cap {B g c n : Nat} {xs : List Value} {w : World} {T : TypeId} {k : Nat} (h : w.ownsRow B T k (.slice (some ⟨g, 0, none⟩) n c) n xs) : n ≤ c := by
  rcases h.2 with ⟨hv, _⟩ | ⟨g', cap, cur, hv, hb, hg, h2, _⟩
  · cases hv
  · simp only [Value.slice.injEq] at hv
    omega
theorem grown_more {w a b : World} {r : Option Nat} {k : Nat} (h : w.grownBy a r) (h2 : a.grownBy b (some k)) (hk : some k = r ∨ w.heap.size ≤ k) : w.grownBy b r := by
  rcases hk with rfl | hk
  · exact grown_trans h h2
  · refine ⟨h2.os.trans h.os, h2.tape.trans h.tape, h2.output.trans h.output, Nat.le_trans h.size h2.size, fun i hi hne => ?_⟩
    rw [h2.block i (Nat.lt_of_lt_of_le hi h.size) (fun e => by cases e; omega)]
    exact h.block i hi hne
/-- Where the putting stands. -/
structure PuRel (B g c : Nat) (m : List (Int × Int)) (x y : Int) (w wr : World) : Prop where
  own : OwnSpots B wr (.slice (some ⟨g, 0, none⟩) m.length c) m
  box : Blk wr w.heap.size #[.int .i64 x, .int .i64 y] 45
  since : Since w wr
theorem PuRel.bl {B g c : Nat} {m : List (Int × Int)} {x y : Int} {w wr w' : World} (r : PuRel B g c m x y w wr) (hb : Below wr.heap.size wr w') : PuRel B g c m x y w w' := ⟨r.own.bl hb, r.box.bl hb, r.since.bl hb⟩
theorem PuRel.cap {B g c : Nat} {m : List (Int × Int)} {x y : Int} {w wr : World} (r : PuRel B g c m x y w wr) : m.length ≤ c ∧ c ≤ 9223372036854775807 ∧ B ≤ g ∧ g < wr.heap.size := by
  have h1 := r.own.ge g rfl
  obtain ⟨p', c', hv, ho⟩ := r.own
  simp only [Value.slice.injEq] at hv
  obtain ⟨rfl, _, rfl⟩ := hv
  rcases ho.2 with ⟨hv, _⟩ | ⟨g', cap, cur, hv, hb, hg, h2, h3, _⟩
  · cases hv
  · simp only [Value.slice.injEq, Option.some.injEq, Addr.mk.injEq] at hv
    obtain ⟨⟨rfl, _⟩, _, rfl⟩ := hv
    exact ⟨h2, by unfold maxLen at h3; omega, h1.1, h1.2⟩
theorem PuRel.cells {B g c : Nat} {m : List (Int × Int)} {x y : Int} {w wr : World} (r : PuRel B g c m x y w wr) {j : Nat} (hj : j < m.length) :
    CellAt wr g (j * 2) (.int .i64 (m.getD j (0, 0)).1) ∧ CellAt wr g (j * 2 + 1) (.int .i64 (m.getD j (0, 0)).2) := by
  rcases r.own.rd with h | ⟨b, o, hq, hc⟩
  · omega
  · cases hq
    have a0 := hc (j * 2) (by omega)
    have a1 := hc (j * 2 + 1) (by omega)
    rw [spotAt_x, Nat.zero_add] at a0
    rw [spotAt_y, Nat.zero_add] at a1
    exact ⟨a0, a1⟩
set_option maxRecDepth 100000 in
set_option maxHeartbeats 8000000 in
theorem l03Put_any (B g c : Nat) (m : List (Int × Int)) (x y : Int) (w : World) (hm : m.length ≤ 100000) (O : OwnSpots B w (.slice (some ⟨g, 0, none⟩) m.length c) m) (hB : B ≤ w.heap.size) :
    Calls Try.prog 61 #[.slice (some ⟨g, 0, none⟩) m.length c, .agg #[.int .i64 x, .int .i64 y]] w fun e w' =>
      ∃ g' c', e = .returned (.slice (some ⟨g', 0, none⟩) (putS m (x, y)).length c') ∧ OwnSpots B w' (.slice (some ⟨g', 0, none⟩) (putS m (x, y)).length c') (putS m (x, y)) ∧ w.grownBy w' (some g) ∧ (g' = g ∨ w.heap.size ≤ g') := by
  have r0 : PuRel B g c m x y w (w.alloc (.cells #[.int .i64 x, .int .i64 y] 45)) := ⟨O.bl (bl_alloc _ _), Blk.new w _ _, (Since.refl w).alloc _⟩
  have hN := befN_le (x, y) m
  have hyes := befN_yes (x, y) m
  have hno := befN_no (x, y) m
  have hput : putS m (x, y) = if befN (x, y) m < m.length ∧ m.getD (befN (x, y) m) (0, 0) = (x, y) then m else m.take (befN (x, y) m) ++ (x, y) :: m.drop (befN (x, y) m) := rfl
  obtain ⟨R, eR⟩ : ∃ R, putS m (x, y) = R := ⟨_, rfl⟩
  rw [eR] at hput ⊢
  obtain ⟨K, eK⟩ : ∃ K, befN (x, y) m = K := ⟨_, rfl⟩
  rw [eK] at hN hyes hno hput
  have R0 := Lib.hid r0; clear r0
  have Hyes := Lib.hid hyes; clear hyes
  have Hno := Lib.hid hno; clear hno
  have Hput := Lib.hid hput; clear hput
  have ER := Lib.hid eR; clear eR
  have EK := Lib.hid eK; clear eK
  go_enter Try.func61, Try.ntmps61
  go_wp2
  go_loopw [5] (fun i wr => ∃ j : Nat, j ≤ K ∧ i = .int .i64 j ∧ PuRel B g c m x y w wr) (fun i _ => K - (intOf i).toNat)
  case atStart => exact ⟨0, Nat.zero_le _, rfl, R0.out⟩
  case round =>
    clear R0
    obtain ⟨j, hj, rfl, r⟩ := hrel
    have hj0 : (0 : Int) ≤ (j : Int) := Int.natCast_nonneg _
    have xb0 := r.box.cell 0 rfl
    have xb1 := r.box.cell 1 rfl
    have hbe := r.box.lt
    by_cases hjm : j < m.length
    · have hj2 : (j : Int) < (m.length : Int) := by omega
      obtain ⟨a0, a1⟩ := r.cells hjm
      by_cases hjK : j < K
      · have hb := Hyes.out j hjK
        obtain ⟨⟨u, v⟩, eu⟩ : ∃ s, m.getD j (0, 0) = s := ⟨_, rfl⟩
        rw [eu] at a0 a1 hb
        have cb := fun w => l03Before_any u v x y w
        rw [hb] at cb
        have A0 := a0.out
        have A1 := a1.out
        have C1 := a0
        have C2 := a1
        have C3 := r.box.cat 0 rfl
        have C4 := r.box.cat 1 rfl
        clear a0 a1
        have Sx := Since.refl wr
        have Hb := Lib.hid hb; clear hb
        have Cb := Lib.hid cb; clear cb
        have Eu := Lib.hid eu; clear eu
        go_upto_region 2 with (fail)
        go_region_held3 (fun w' => w'.cell? ⟨g, j * 2, none⟩ = some (.int .i64 u) ∧ w'.cell? ⟨g, j * 2 + 1, none⟩ = some (.int .i64 v) ∧ w'.cell? ⟨w.heap.size, 0, none⟩ = some (.int .i64 x) ∧ w'.cell? ⟨w.heap.size, 1, none⟩ = some (.int .i64 y))
          (first | ((repeat' (apply And.intro)) <;> (refine CellAt.out ?_; (repeat (first | assumption | exact Blk.cat (Blk.new _ _ _) _ rfl | refine CellAt.bl ?_ (bl_alloc _ _) | refine CellAt.bl ?_ (bl_drew _) | refine CellAt.bl ?_ (bl_drewN _ _) | refine CellAt.bl ?_ (by assumption) | refine CellAt.other ?_ (by intro e; injection e; omega) _)))))
          ((first | (go_at_call 35; refine (Cb.out _).mono ?_; rintro e w1 ⟨rfl, hb1⟩)))
        have S2 : Since wr w1 := by (repeat (first | assumption | exact Blk.new _ _ _ | exact Since.refl _ | refine ArgRd.bl ?_ (bl_alloc _ _) | refine ArgRd.bl ?_ (bl_drew _) | refine ArgRd.bl ?_ (by assumption) | refine Copy.bl ?_ (bl_alloc _ _) | refine Copy.bl ?_ (bl_drew _) | refine Copy.bl ?_ (by assumption) | refine OwnStrs.bl ?_ (bl_alloc _ _) | refine OwnStrs.bl ?_ (bl_drew _) | refine OwnStrs.bl ?_ (by assumption) | refine Blk.bl ?_ (bl_alloc _ _) | refine Blk.bl ?_ (bl_drew _) | refine Blk.bl ?_ (by assumption) | refine Since.bl ?_ (bl_alloc _ _) | refine Since.bl ?_ (bl_drew _) | refine Since.bl ?_ (by assumption) | refine Blk.other ?_ (by (try dsimp only); (try simp only [World.size_alloc, World.size_setCell, szDrew]); omega) _))
        have r2 := r.bl S2.below
        go_wp2
        go_roundw
        case rel => exact ⟨j + 1, by omega, by go_num, r2⟩
        case measure => simp [intOf]; omega
      · obtain rfl : j = K := by omega
        have hb := Hno.out hjm
        obtain ⟨⟨u, v⟩, eu⟩ : ∃ s, m.getD j (0, 0) = s := ⟨_, rfl⟩
        rw [eu] at a0 a1 hb
        have hput := Hput.out
        rw [eu] at hput
        have cb := fun w => l03Before_any u v x y w
        rw [hb] at cb
        have A0 := a0.out
        have A1 := a1.out
        have C1 := a0
        have C2 := a1
        have C3 := r.box.cat 0 rfl
        have C4 := r.box.cat 1 rfl
        have Sx := Since.refl wr
        clear a0 a1
        have Hb := Lib.hid hb; clear hb
        have Cb := Lib.hid cb; clear cb
        have Eu := Lib.hid eu; clear eu
        have Hput := Lib.hid hput; clear hput
        go_upto_region 2 with (fail)
        go_region_held3 (fun w' => w'.cell? ⟨g, j * 2, none⟩ = some (.int .i64 u) ∧ w'.cell? ⟨g, j * 2 + 1, none⟩ = some (.int .i64 v) ∧ w'.cell? ⟨w.heap.size, 0, none⟩ = some (.int .i64 x) ∧ w'.cell? ⟨w.heap.size, 1, none⟩ = some (.int .i64 y))
          (first | ((repeat' (apply And.intro)) <;> (refine CellAt.out ?_; (repeat (first | assumption | exact Blk.cat (Blk.new _ _ _) _ rfl | refine CellAt.bl ?_ (bl_alloc _ _) | refine CellAt.bl ?_ (bl_drew _) | refine CellAt.bl ?_ (bl_drewN _ _) | refine CellAt.bl ?_ (by assumption) | refine CellAt.other ?_ (by intro e; injection e; omega) _)))))
          ((first | (go_at_call 35; refine (Cb.out _).mono ?_; rintro e w1 ⟨rfl, hb1⟩)))
        have S2 : Since wr w1 := by (repeat (first | assumption | exact Blk.new _ _ _ | exact Since.refl _ | refine ArgRd.bl ?_ (bl_alloc _ _) | refine ArgRd.bl ?_ (bl_drew _) | refine ArgRd.bl ?_ (by assumption) | refine Copy.bl ?_ (bl_alloc _ _) | refine Copy.bl ?_ (bl_drew _) | refine Copy.bl ?_ (by assumption) | refine OwnStrs.bl ?_ (bl_alloc _ _) | refine OwnStrs.bl ?_ (bl_drew _) | refine OwnStrs.bl ?_ (by assumption) | refine Blk.bl ?_ (bl_alloc _ _) | refine Blk.bl ?_ (bl_drew _) | refine Blk.bl ?_ (by assumption) | refine Since.bl ?_ (bl_alloc _ _) | refine Since.bl ?_ (bl_drew _) | refine Since.bl ?_ (by assumption) | refine Blk.other ?_ (by (try dsimp only); (try simp only [World.size_alloc, World.size_setCell, szDrew]); omega) _))
        have r2 := r.bl S2.below
        have D1 := C1.bl S2.below
        have D2 := C2.bl S2.below
        have D3 := C3.bl S2.below
        have D4 := C4.bl S2.below
        clear C1 C2 C3 C4 A0 A1 xb0 xb1 r
        have A0 := D1.out
        have A1 := D2.out
        have A2 := D3.out
        have A3 := D4.out
        clear D1 D2 D3 D4
        go_upto_region 4 with (fail)
        by_cases he : u = x ∧ v = y
        · obtain ⟨rfl, rfl⟩ := he
          have hR : R = m := by rw [Hput.out, if_pos ⟨hjm, rfl⟩]
          have R2 := Lib.hid r2; clear r2
          subst hR
          go_quiet (fail)
          have r3 := R2.out.bl (bl_drewN _ nq)
          go_wp2
          go_ret
          exact ⟨g, c, rfl, r3.own, grown_below (grown_refl w _) r3.since.below (Nat.le_refl _), .inl rfl⟩
        · have hR : R = m.take j ++ (x, y) :: m.drop j := by
            rw [Hput.out, if_neg]
            rintro ⟨_, e⟩
            exact he ⟨congrArg Prod.fst e, congrArg Prod.snd e⟩
          have hxy : ¬ u = x ∨ (u = x ∧ ¬ v = y) := by
            by_cases h : u = x
            · exact .inr ⟨h, fun h2 => he ⟨h, h2⟩⟩
            · exact .inl h
          clear he
          have R2 := Lib.hid r2; clear r2
          have HR := Lib.hid hR; clear hR
          go_cut [32] (fun s32 wx => s32 = .bool false ∧ PuRel B g c m x y w wx)
          case first =>
            rcases hxy with hx | ⟨hx, hy⟩
            · go_quiet (fail)
              go_wp2_with fail
              go_meet
              exact ⟨rfl, R2.out.bl (bl_drewN _ _)⟩
            · subst hx
              go_quiet (fail)
              go_wp2_with fail
              go_meet
              exact ⟨rfl, R2.out.bl (bl_drewN _ _)⟩
          case rest =>
          obtain ⟨rfl, r3⟩ := hcut
          clear A0 A1 A2 A3 hxy R2 S2
          obtain ⟨hcap, hc63, hBg, hgl⟩ := r3.cap
          have hown0 := World.ownsRow_made (base := wc.heap.size) (e := 45) (size := 2) wc #[] 0 (Nat.le_refl _) (by decide) rfl
          have hr3 := r3.bl (bl_alloc wc (.cells #[] 45))
          have hnews : ∀ i u, (spotCells (m.drop j))[i]? = some u → (wc.alloc (.cells #[] 45)).cell? ((⟨g, j * 2, none⟩ : Addr).add i) = some u := by
            intro i u hu
            obtain ⟨hi, e⟩ := List.getElem?_eq_some_iff.1 hu
            have hi2 := hi
            rw [spotCells_len, List.length_drop] at hi2
            rw [spotCells_at _ i hi, spotAt_drop] at e
            rcases hr3.own.rd with h | ⟨b, o, hq, hc⟩
            · omega
            · cases hq
              have := hc (j * 2 + i) (by omega)
              rw [e, Nat.zero_add] at this
              rw [Go.WideShapes.add_plain]
              exact this
          have hlen : (spotCells (m.drop j)).length = (m.length - j) * 2 := by rw [spotCells_len, List.length_drop]
          have hone : ∀ u ∈ spotCells (m.drop j), u.oneCell' = true := by
            intro u hu
            obtain ⟨s, _, h⟩ := List.mem_flatMap.1 hu
            simp only [List.mem_cons, List.not_mem_nil, or_false] at h
            rcases h with rfl | rfl <;> rfl
          obtain ⟨i0, hi0, hz0, hz1, hz2⟩ := info_parts info_spot
          have R3 := Lib.hid r3; clear r3
          have Hnews := Lib.hid hnews; clear hnews
          have Hlen := Lib.hid hlen; clear hlen
          have Hone := Lib.hid hone; clear hone
          go_wp2_with (at_builtin; refine wpList_append_lies _ rfl _ _ 26 rfl wc.heap.size 45 i0 _ 2 16 Try.underlying26 hi0 hz0 hz1 hz2 rfl (by decide) (.slice (some ⟨wc.heap.size, 0, none⟩) 0 0) 0 [] rfl hown0 ⟨g, j * 2, none⟩ (m.length - j) (c - j) (spotCells (m.drop j)) rfl Hlen.out Hnews.out Hone.out (by omega) (by unfold maxLen; omega) (by omega) (by simp) (wc.heap.size + 1) (by simp) ?_; intro g1 c1 w2 hown1 hgr1 hat1 hlt1)
          have hO1 := hown1
          rw [Nat.zero_add, List.nil_append] at hO1
          have hg1 : wc.heap.size ≤ g1 := by
            rcases hat1 with h | h
            · simp only [Value.ownBlock, Option.some.injEq] at h
              omega
            · omega
          have hs1 := hgr1.size
          rw [World.size_alloc] at hs1
          have hwc : Below wc.heap.size wc w2 := below_grown ((Below.refl _ _).alloc (Nat.le_refl _) _) hgr1 (by simp) (Nat.le_refl _)
          have r4 := R3.out.bl hwc
          clear hown1 hgr1 hat1 hr3 hown0
          have x0 := r4.box.cell 0 rfl
          have x1 := r4.box.cell 1 rfl
          obtain ⟨p', c', hv, hq⟩ := r4.own
          simp only [Value.slice.injEq] at hv
          obtain ⟨rfl, _, rfl⟩ := hv
          have htk := own_take hq rfl (j := j) (by omega)
          have hblk : ((w2.alloc (.cells #[.int .i64 x, .int .i64 y] 45)).drew).heap[w2.heap.size]? = some (.cells #[.int .i64 x, .int .i64 y] 45 (0, 0)) := heap_alloc_new w2 _
          have htk2 : ((w2.alloc (.cells #[.int .i64 x, .int .i64 y] 45)).drew).ownsRow B 45 2 (.slice (some ⟨g, 0, none⟩) j c) j (spotCells (m.take j)) := own_below htk ((bl_alloc _ _).trans ((bl_drew _).mono (by simp))) (Nat.le_refl _)
          have hO2 := own_below hO1 ((bl_alloc w2 (.cells #[.int .i64 x, .int .i64 y] 45)).trans ((bl_drew _).mono (by simp))) (Nat.le_refl _)
          have hBw : B ≤ w2.heap.size := by have := r4.since.size; omega
          have hjc1 : j ≤ c := by omega
          have hjc2 : (j : Int) ≤ (c : Int) := by omega
          have hjc3 : ¬ (c : Int) < (j : Int) := by omega
          have hmx : j + 1 ≤ maxLen := by unfold maxLen; omega
          have hmy : j + 1 + (m.length - j) ≤ maxLen := by unfold maxLen; omega
          have hB2 : B ≤ ((w2.alloc (.cells #[.int .i64 x, .int .i64 y] 45)).drew).heap.size := by simp; omega
          have hgg : ¬ g1 = g := by omega
          have hj3 : 0 < m.length - j := by omega
          have hjb : (j + 1) * 16 ≤ 140737488355328 := by omega
          have hjb2 : (j + 1 + (m.length - j)) * 16 ≤ 140737488355328 := by omega
          have R4 := Lib.hid r4; clear r4
          have Hq := Lib.hid hq; clear hq
          go_upto_region 7 with (fail)
          go_region_law
            ((first
              | (refine step_append_lies _ (by rfl) _ _ _ (by rfl) B 45 i0 _ 2 16 Try.underlying26 hi0 hz0 hz1 hz2 rfl (by decide) (.slice (some ⟨g, 0, none⟩) j c) j _ (by rfl) htk2 ⟨w2.heap.size, 0, none⟩ 1 1 [.int .i64 x, .int .i64 y] (by rfl) (by rfl) (World.news_of_block (cs := #[.int .i64 x, .int .i64 y]) (t := 45) (fr := (0, 0)) hblk) (one_spot _ _) (by decide) hmx hjb hB2 (w2.heap.size + 1) (by simp) ?_; intro g2 c2 w3 hown3 hgr3 hat3 hlt3; have hO3 := hO2.kept hgr3 (.inr (by simp [Value.ownBlock]; omega)); have hB3 := Nat.le_trans hB2 hgr3.size)
              | (refine step_append_lies _ (by rfl) _ _ _ (by rfl) B 45 i0 _ 2 16 Try.underlying26 hi0 hz0 hz1 hz2 rfl (by decide) (.slice (some ⟨g2, 0, none⟩) (j + 1) c2) (j + 1) _ (by rfl) hown3 ⟨g1, 0, none⟩ (m.length - j) c1 (spotCells (m.drop j)) (by rfl) Hlen.out (fun i u hu => hO3.cells (g := g1) rfl i u hu) Hone.out hj3 hmy hjb2 hB3 w3.heap.size rfl ?_; intro g3 c3 w4 hown4 hgr4 hat4 hlt4)))
          have hRl : R.length = j + 1 + (m.length - j) := by
            rw [HR.out, List.length_append, List.length_cons, List.length_take, List.length_drop]
            omega
          have hRc : spotCells R = spotCells (m.take j) ++ [.int .i64 x, .int .i64 y] ++ spotCells (m.drop j) := by
            rw [HR.out]
            simp [spotCells]
          have G0 : w.grownBy w2 (some g) := grown_below (grown_refl w _) R4.out.since.below (Nat.le_refl _)
          have G1 : w.grownBy w3 (some g) := grown_trans (grown_below G0 ((bl_alloc w2 (.cells #[.int .i64 x, .int .i64 y] 45)).trans ((bl_drew _).mono (by simp))) G0.size) hgr3
          have hg2 : g2 = g ∨ w.heap.size ≤ g2 := by
            rcases hat3 with h | h
            · simp only [Value.ownBlock, Option.some.injEq] at h
              exact .inl h.symm
            · have := G0.size
              exact .inr (by omega)
          have hk2 : some g2 = some g ∨ w.heap.size ≤ g2 := hg2.imp (fun h => by rw [h]) id
          have G2 : w.grownBy w4 (some g) := grown_more G1 hgr4 hk2
          have hg3 : g3 = g ∨ w.heap.size ≤ g3 := by
            rcases hat4 with h | h
            · simp only [Value.ownBlock, Option.some.injEq] at h
              rw [← h]
              exact hg2
            · have := G1.size
              exact .inr (by omega)
          have hO4 : OwnSpots B w4 (.slice (some ⟨g3, 0, none⟩) R.length c3) R := ⟨_, _, rfl, by rw [hRl, hRc]; exact hown4⟩
          clear hown3 hgr3 hat3 hown4 hgr4 hat4 hO3 hO2 htk2 hblk
          have HRl := Lib.hid hRl; clear hRl
          have HRc := Lib.hid hRc; clear hRc
          go_wp2
          go_ret
          refine ⟨g3, c3, ?_, hO4, G2, hg3⟩
          rw [HRl.out]
          try rfl
    · obtain rfl : j = m.length := by omega
      obtain rfl : K = m.length := by omega
      have hR : R = m ++ [(x, y)] := by
        rw [Hput.out, if_neg (by omega), List.take_of_length_le (Nat.le_refl _), List.drop_of_length_le (Nat.le_refl _)]
      have hj2 : ¬ (m.length : Int) < (m.length : Int) := by omega
      obtain ⟨hcap, hc63, hBg, hgl⟩ := r.cap
      have R := Lib.hid r; clear r
      have HR := Lib.hid hR; clear hR
      clear hjm hj0 Hyes Hno Hput
      go_upto_region 2 with (fail)
      go_quiet (fail)
      have r2 := R.out.bl (bl_drewN _ nq)
      clear xb0 xb1 hbe R
      generalize wr.drewN nq = wq at *
      go_upto_region 4 with (fail)
      go_quiet (fail)
      have r3 := r2.bl (bl_drewN _ nq)
      clear r2
      generalize wq.drewN nq = wc at *
      by_cases hcn : c = m.length
      · subst hcn
        have r4 := r3.bl (bl_alloc wc (.cells #[] 45))
        have hBw : B ≤ (wc.alloc (.cells #[] 45)).heap.size := by have := r4.since.size; omega
        have R3 := Lib.hid r3; clear r3
        go_upto_region 7 with (fail)
        generalize wc.alloc (.cells #[] 45) = w2 at *
        have x0 := r4.box.cell 0 rfl
        have x1 := r4.box.cell 1 rfl
        obtain ⟨p', c', hv, hq⟩ := r4.own
        simp only [Value.slice.injEq] at hv
        obtain ⟨rfl, _, rfl⟩ := hv
        have hblk : ((w2.alloc (.cells #[.int .i64 x, .int .i64 y] 45)).drew).heap[w2.heap.size]? = some (.cells #[.int .i64 x, .int .i64 y] 45 (0, 0)) := heap_alloc_new w2 _
        have htk2 := own_below hq ((bl_alloc w2 (.cells #[.int .i64 x, .int .i64 y] 45)).trans ((bl_drew _).mono (by simp))) (Nat.le_refl _)
        have hmx : m.length + 1 ≤ maxLen := by unfold maxLen; omega
        have hB2 : B ≤ ((w2.alloc (.cells #[.int .i64 x, .int .i64 y] 45)).drew).heap.size := by simp; omega
        have hjb : (m.length + 1) * 16 ≤ 140737488355328 := by omega
        obtain ⟨i0, hi0, hz0, hz1, hz2⟩ := info_parts info_spot
        have R4 := Lib.hid r4; clear r4
        have Hq := Lib.hid hq; clear hq
        go_region_law
          ((refine step_append_lies _ (by rfl) _ _ _ (by rfl) B 45 i0 _ 2 16 Try.underlying26 hi0 hz0 hz1 hz2 rfl (by decide) (.slice (some ⟨g, 0, none⟩) m.length _) m.length _ (by rfl) htk2 ⟨w2.heap.size, 0, none⟩ 1 1 [.int .i64 x, .int .i64 y] (by rfl) (by rfl) (World.news_of_block (cs := #[.int .i64 x, .int .i64 y]) (t := 45) (fr := (0, 0)) hblk) (one_spot _ _) (by decide) hmx hjb hB2 (w2.heap.size + 1) (by simp) ?_; intro g2 c2 w3 hown3 hgr3 hat3 hlt3; have hcp := own_cap hown3; have hcq : ¬ c2 < m.length + 1 := by omega))
        have hRl : R.length = m.length + 1 := by rw [HR.out]; simp
        have hRc : spotCells R = spotCells m ++ [.int .i64 x, .int .i64 y] := by rw [HR.out, spotCells_snoc]
        have G0 : w.grownBy w2 (some g) := grown_below (grown_refl w _) R4.out.since.below (Nat.le_refl _)
        have G1 : w.grownBy w3 (some g) := grown_trans (grown_below G0 ((bl_alloc w2 (.cells #[.int .i64 x, .int .i64 y] 45)).trans ((bl_drew _).mono (by simp))) G0.size) hgr3
        have hg2 : g2 = g ∨ w.heap.size ≤ g2 := by
          rcases hat3 with h | h
          · simp only [Value.ownBlock, Option.some.injEq] at h
            exact .inl h.symm
          · have := G0.size
            exact .inr (by omega)
        have hO4 : OwnSpots B w3 (.slice (some ⟨g2, 0, none⟩) R.length c2) R := ⟨_, _, rfl, by rw [hRl, hRc]; exact hown3⟩
        clear hown3 hgr3 hat3 htk2 hblk
        have HRl := Lib.hid hRl; clear hRl
        have HRc := Lib.hid hRc; clear hRc
        go_wp2
        go_ret
        refine ⟨g2, c2, ?_, hO4, G1, hg2⟩
        rw [HRl.out]
        try rfl
      · have hcn2 : ¬ m.length = c := fun e => hcn e.symm
        have r4 := r3.bl (bl_alloc wc (.cells #[] 45))
        have hBw : B ≤ (wc.alloc (.cells #[] 45)).heap.size := by have := r4.since.size; omega
        have R3 := Lib.hid r3; clear r3
        go_upto_region 7 with (fail)
        generalize wc.alloc (.cells #[] 45) = w2 at *
        have x0 := r4.box.cell 0 rfl
        have x1 := r4.box.cell 1 rfl
        obtain ⟨p', c', hv, hq⟩ := r4.own
        simp only [Value.slice.injEq] at hv
        obtain ⟨rfl, _, rfl⟩ := hv
        have hblk : ((w2.alloc (.cells #[.int .i64 x, .int .i64 y] 45)).drew).heap[w2.heap.size]? = some (.cells #[.int .i64 x, .int .i64 y] 45 (0, 0)) := heap_alloc_new w2 _
        have htk2 := own_below hq ((bl_alloc w2 (.cells #[.int .i64 x, .int .i64 y] 45)).trans ((bl_drew _).mono (by simp))) (Nat.le_refl _)
        have hmx : m.length + 1 ≤ maxLen := by unfold maxLen; omega
        have hB2 : B ≤ ((w2.alloc (.cells #[.int .i64 x, .int .i64 y] 45)).drew).heap.size := by simp; omega
        have hjb : (m.length + 1) * 16 ≤ 140737488355328 := by omega
        obtain ⟨i0, hi0, hz0, hz1, hz2⟩ := info_parts info_spot
        have R4 := Lib.hid r4; clear r4
        have Hq := Lib.hid hq; clear hq
        go_region_law
          ((refine step_append_lies _ (by rfl) _ _ _ (by rfl) B 45 i0 _ 2 16 Try.underlying26 hi0 hz0 hz1 hz2 rfl (by decide) (.slice (some ⟨g, 0, none⟩) m.length _) m.length _ (by rfl) htk2 ⟨w2.heap.size, 0, none⟩ 1 1 [.int .i64 x, .int .i64 y] (by rfl) (by rfl) (World.news_of_block (cs := #[.int .i64 x, .int .i64 y]) (t := 45) (fr := (0, 0)) hblk) (one_spot _ _) (by decide) hmx hjb hB2 (w2.heap.size + 1) (by simp) ?_; intro g2 c2 w3 hown3 hgr3 hat3 hlt3; have hcp := own_cap hown3; have hcq : ¬ c2 < m.length + 1 := by omega))
        have hRl : R.length = m.length + 1 := by rw [HR.out]; simp
        have hRc : spotCells R = spotCells m ++ [.int .i64 x, .int .i64 y] := by rw [HR.out, spotCells_snoc]
        have G0 : w.grownBy w2 (some g) := grown_below (grown_refl w _) R4.out.since.below (Nat.le_refl _)
        have G1 : w.grownBy w3 (some g) := grown_trans (grown_below G0 ((bl_alloc w2 (.cells #[.int .i64 x, .int .i64 y] 45)).trans ((bl_drew _).mono (by simp))) G0.size) hgr3
        have hg2 : g2 = g ∨ w.heap.size ≤ g2 := by
          rcases hat3 with h | h
          · simp only [Value.ownBlock, Option.some.injEq] at h
            exact .inl h.symm
          · have := G0.size
            exact .inr (by omega)
        have hO4 : OwnSpots B w3 (.slice (some ⟨g2, 0, none⟩) R.length c2) R := ⟨_, _, rfl, by rw [hRl, hRc]; exact hown3⟩
        clear hown3 hgr3 hat3 htk2 hblk
        have HRl := Lib.hid hRl; clear hRl
        have HRc := Lib.hid hRc; clear hRc
        go_wp2
        go_ret
        refine ⟨g2, c2, ?_, hO4, G1, hg2⟩
        rw [HRl.out]
        try rfl
end Go.Proofs.Ytheakjbbfdcbaaa
