/- Contract of the program's SumElements. -/
import Derived.Test.YtheakjbbfdcbaaaElemSum
set_option linter.unusedVariables false
set_option linter.unusedSimpArgs false
namespace Go.Proofs.Ytheakjbbfdcbaaa
open Go.RowKit Go.Sort

theorem Small.at {l : List (Int × Int)} (h : Small l) {i : Nat} (hi : i < l.length) : (-100 ≤ (l.getD i (0, 0)).1 ∧ (l.getD i (0, 0)).1 ≤ 100) ∧ -100 ≤ (l.getD i (0, 0)).2 ∧ (l.getD i (0, 0)).2 ≤ 100 :=
  h _ (by simp [List.getD, List.getElem?_eq_getElem hi])
theorem okEl_small {l : List (Int × Int)} (h : okEl l = true) : Small l ∧ l.length ≤ 50 := by
  obtain ⟨h1, h2, h3⟩ := okEl_in h
  refine ⟨fun s hs => ?_, by omega⟩
  have := h1 s hs
  omega
/-- The sums that are there: a slice that is never nil. -/
structure SmRel (gb : Nat) (n : Nat) (xs : List (Int × Int)) (w : World) (v : Value) (wr : World) : Prop where
  own : ∃ g d, v = .slice (some ⟨g, 0, none⟩) n d ∧ wr.ownsRow gb 45 2 v n (spotCells xs)
  box : Box wr w.heap.size (.slice none 0 0) 28
  since : Since w wr
  ge : gb ≤ wr.heap.size
  le : w.heap.size < gb
theorem SmRel.bl {gb n : Nat} {xs : List (Int × Int)} {w : World} {v : Value} {wr w' : World} (h : SmRel gb n xs w v wr) (hb : Below wr.heap.size wr w') : SmRel gb n xs w v w' := by
  obtain ⟨g, d, hv, ho⟩ := h.own
  exact ⟨⟨g, d, hv, own_below ho hb (Nat.le_refl _)⟩, h.box.bl hb, h.since.bl hb, Nat.le_trans h.ge hb.size, h.le⟩
set_option maxRecDepth 100000 in
set_option maxHeartbeats 8000000 in
theorem sums_any (p q : Option Addr) (c d : Nat) (a b : List (Int × Int)) (w : World) (ha : a.length ≤ 100) (hb : b.length ≤ 100) (sa : Small a) (sb : Small b) (hr : Rd w p (a.length * 2) (spotAt a)) (hq : Rd w q (b.length * 2) (spotAt b)) :
    Calls Try.prog 44 #[.slice p a.length c, .slice q b.length d] w fun e w' => ∃ g f, e = .returned (.agg #[.slice (some ⟨g, 0, none⟩) (setL (sumL a b)).length f]) ∧ OwnSpots w.heap.size w' (.slice (some ⟨g, 0, none⟩) (setL (sumL a b)).length f) (setL (sumL a b)) ∧ Below w.heap.size w w' := by
  have hy := bl_alloc w (.cells #[.slice none 0 0] 28)
  have r0 : SmRel (w.heap.size + 1) 0 (sumN a b 0 0) w (.slice (some ⟨w.heap.size + 1, 0, none⟩) 0 0) ((w.alloc (.cells #[.slice none 0 0] 28)).alloc (.cells #[] 45)) := by
    have h1 := World.ownsRow_made (base := w.heap.size + 1) (e := 45) (size := 2) (w.alloc (.cells #[.slice none 0 0] 28)) #[] 0 (by simp) (by decide) rfl
    rw [World.size_alloc] at h1
    exact ⟨⟨_, _, rfl, by rw [sumN_start]; exact h1⟩, (Box.new w _ _).alloc _, ((Since.refl w).alloc _).alloc _, by simp, by omega⟩
  have hlen := fun i j (h1 : i ≤ a.length) (h2 : j ≤ b.length) => sumN_len (a := a) (b := b) h1 h2
  have hsucc := fun i j (h : j < b.length) => sumN_succ (a := a) (b := b) (i := i) h
  have hnext := fun i (h : i < a.length) => sumN_next (a := a) (b := b) h
  have hend := sumN_end a b
  have hm : ∀ i j, i ≤ a.length → j ≤ b.length → i * b.length + j ≤ 10100 := fun i j h1 h2 => by
    have := Nat.mul_le_mul (show i ≤ 100 by omega) (show b.length ≤ 100 from hb)
    omega
  have R0 := Lib.hid r0; clear r0
  have Sa := Lib.hid sa; clear sa
  have Sb := Lib.hid sb; clear sb
  have Hlen := Lib.hid hlen; clear hlen
  have Hsucc := Lib.hid hsucc; clear hsucc
  have Hnext := Lib.hid hnext; clear hnext
  have Hend := Lib.hid hend; clear hend
  have Hm := Lib.hid hm; clear hm
  clear hy
  go_enter Try.func44, Try.ntmps44
  go_wp2
  go_loopw [5, 13] (fun v i wr => ∃ k n : Nat, k ≤ a.length ∧ i = .int .i64 k ∧ Hid (n = k * b.length) ∧ SmRel (w.heap.size + 1) n (sumN a b k 0) w v wr) (fun _ i _ => a.length - (intOf i).toNat)
  case atStart => exact ⟨0, 0, Nat.zero_le _, rfl, Lib.hid (by simp), R0.out⟩
  case round =>
    clear R0
    obtain ⟨k, n, hk, rfl, HN, r⟩ := hrel
    obtain ⟨wo, ewo⟩ : ∃ wo : World, wo = wr := ⟨_, rfl⟩
    subst ewo
    by_cases hka : k < a.length
    · obtain ⟨pb, po, rfl, hpb, hpc⟩ := (hr.bl r.since.below).at (k := k * 2) (by omega)
      have a0 := hpc (k * 2) (by omega)
      have a1 := hpc (k * 2 + 1) (by omega)
      rw [spotAt_x] at a0
      rw [spotAt_y, ← Nat.add_assoc] at a1
      have hsa := Sa.out.at hka
      have hsk := fun j h => Hsucc.out k j h
      obtain ⟨⟨u, v⟩, eu⟩ : ∃ s, a.getD k (0, 0) = s := ⟨_, rfl⟩
      rw [eu] at a0 a1 hsa
      simp only [eu] at hsk
      dsimp only at a0 a1 hsa
      obtain ⟨hsa1, hsa2⟩ := hsa
      have hk0 : (0 : Int) ≤ (k : Int) := Int.natCast_nonneg _
      have hk1 : (k : Int) < (a.length : Int) := by omega
      have hnk : n ≤ 10000 := by
        have h1 := HN.out
        have := Nat.mul_le_mul (show k ≤ 100 by omega) (show b.length ≤ 100 from hb)
        omega
      have hyk := bl_alloc wo (.cells #[.int .i64 u, .int .i64 v] 45)
      have A := Blk.new wo #[.int .i64 u, .int .i64 v] 45
      have r1 := r.bl hyk
      obtain ⟨g0, d0, rfl, ho0⟩ := r.own
      have hg0 := (ho0.lt g0 rfl).2
      clear ho0
      have hge := r.ge
      have Eu := Lib.hid eu; clear eu
      have Hsk := Lib.hid hsk; clear hsk
      have Hpc := Lib.hid hpc; clear hpc
      clear r hyk
      go_wp2_with fail
      clear a0 a1
      go_loopw [5, 19] (fun v' i wx => ∃ j m : Nat, j ≤ b.length ∧ i = .int .i64 j ∧ Hid (m = n + j) ∧ SmRel (w.heap.size + 1) m (sumN a b k j) w v' wx ∧ Blk wx wo.heap.size #[.int .i64 u, .int .i64 v] 45 ∧ ∀ g, v'.ownBlock = some g → g ≠ wo.heap.size) (fun _ i _ => b.length - (intOf i).toNat)
      case atStart => exact ⟨0, n, Nat.zero_le _, rfl, Lib.hid (by simp), r1, A, fun g e => by have e2 : g0 = g := Option.some.inj e; omega⟩
      case round =>
        clear r1 A
        obtain ⟨j, m, hj, rfl, HM, r, A, hne⟩ := hrel
        by_cases hjb : j < b.length
        · obtain ⟨qb, qo, rfl, hqb, hqc⟩ := (hq.bl r.since.below).at (k := j * 2) (by omega)
          have b0 := hqc (j * 2) (by omega)
          have b1 := hqc (j * 2 + 1) (by omega)
          rw [spotAt_x] at b0
          rw [spotAt_y, ← Nat.add_assoc] at b1
          have hsb := Sb.out.at hjb
          have hsu := Hsk.out j hjb
          obtain ⟨⟨x, y⟩, ex⟩ : ∃ s, b.getD j (0, 0) = s := ⟨_, rfl⟩
          rw [ex] at b0 b1 hsb hsu
          dsimp only at b0 b1 hsb
          obtain ⟨hsb1, hsb2⟩ := hsb
          have hj0 : (0 : Int) ≤ (j : Int) := Int.natCast_nonneg _
          have hj1 : (j : Int) < (b.length : Int) := by omega
          have hmb : m ≤ 10100 := by have := HM.out; omega
          have hyj := bl_alloc wr (.cells #[.int .i64 x, .int .i64 y] 45)
          have B := Blk.new wr #[.int .i64 x, .int .i64 y] 45
          have r1 := r.bl hyj
          have A1 := A.bl hyj
          have a0 := A1.cell 0 rfl
          have a1 := A1.cell 1 rfl
          have c0 := B.cell 0 rfl
          have c1 := B.cell 1 rfl
          have cp := fun w => plus_any u v x y w hsa1 hsa2 hsb1 hsb2
          have hml := Hlen.out k j (by omega) (by omega)
          obtain ⟨g1, d1, rfl, -⟩ := r.own
          have hn1 := hne g1 rfl
          clear hne
          have es : addS (u, v) (x, y) = (u + x, v + y) := rfl
          rw [es] at hsu
          have Ex := Lib.hid ex; clear ex
          have Hqc := Lib.hid hqc; clear hqc
          have Hsu := Lib.hid hsu; clear hsu
          have Cp := Lib.hid cp; clear cp
          have R1 := Lib.hid r1; clear r1
          have Hml := Lib.hid hml; clear hml
          have Es := Lib.hid es; clear es
          clear r A hyj B
          go_wp2_with fail
          with_reducible (refine (Cp.out _).mono ?_)
          rintro e w2 ⟨rfl, hb2⟩
          have r2 := R1.out.bl hb2
          have A2 := A1.bl hb2
          obtain ⟨g2, d2, hv2, ho⟩ := r2.own
          simp only [Value.slice.injEq, Option.some.injEq, Addr.mk.injEq, and_true, true_and] at hv2
          obtain ⟨rfl, rfl⟩ := hv2
          have hge2 := r2.ge
          have R2 := Lib.hid r2; clear r2
          clear b0 b1 a0 a1 c0 c1 A1 hb2
          go_wp2_with (at_builtin; refine wpList_push rfl _ _ 26 rfl (w.heap.size + 1) 45 (.agg #[.int .i64 0, .int .i64 0]) 2 16 Try.underlying26 info_spot rfl (by decide) (.slice (some ⟨g1, 0, none⟩) m d1) m _ rfl ho _ 1 rfl rfl (one_spot _ _) (by omega) (by simp [maxLen]; omega) hge2 ?_; intro g' cap w3 hown2 hgr hat hlt2)
          have hgq := own_ge ho
          have r3 : SmRel (w.heap.size + 1) (m + 1) (sumN a b k (j + 1)) w (.slice (some ⟨g', 0, none⟩) (m + 1) cap) w3 := by
            have h1 := R2.out.le
            refine ⟨⟨g', cap, rfl, ?_⟩, R2.out.box.grown hgr (fun e => by have := hgq _ e.symm; omega), ⟨below_own R2.out.since.below hgr (fun i hi => by have := hgq i hi; omega) R2.out.since.size⟩, Nat.le_trans hge2 hgr.size, h1⟩
            rw [Hsu.out, spotCells_snoc]
            exact hown2
          have hlA := A2.lt
          have A3 := A2.grown hgr (fun e => by have e3 : wo.heap.size = g1 := Option.some.inj e; omega)
          have hn3 : ∀ g, (Value.slice (some ⟨g', 0, none⟩) (m + 1) cap).ownBlock = some g → g ≠ wo.heap.size := by
            intro g e
            have e2 : g' = g := Option.some.inj e
            rcases hat with h | h
            · have e3 : g1 = g' := Option.some.inj h
              omega
            · omega
          have R3 := Lib.hid r3; clear r3
          have Hn3 := Lib.hid hn3; clear hn3
          clear hown2 hgr hat ho A2
          go_roundw
          case rel => exact ⟨j + 1, m + 1, by omega, by go_num, Lib.hid (by have := HM.out; omega), R3.out, A3, Hn3.out⟩
          case measure => simp [intOf]; omega
        · obtain rfl : j = b.length := by omega
          have hnx := Hnext.out k hka
          rw [hnx] at r
          have Hnx := Lib.hid hnx; clear hnx
          obtain ⟨g1, d1, rfl, -⟩ := r.own
          clear A hne
          go_wp2
          go_roundw
          case rel => exact ⟨k + 1, m, by omega, by go_num, Lib.hid (by have h1 := HM.out; have h2 := HN.out; rw [Nat.add_mul, Nat.one_mul]; omega), r⟩
          case measure => simp [intOf]; omega
    · obtain rfl : k = a.length := by omega
      have hE := Hend.out
      rw [hE] at r
      obtain ⟨g1, d1, rfl, ho⟩ := r.own
      have hlenS := ho.1
      rw [spotCells_len] at hlenS
      have hn2 : n = (sumL a b).length := by omega
      have O : OwnSpots (w.heap.size + 1) wo (.slice (some ⟨g1, 0, none⟩) (sumL a b).length d1) (sumL a b) := ⟨_, _, rfl, by rw [← hn2]; exact ho⟩
      have hlb : (sumL a b).length ≤ 1048576 := by
        have h1 := HN.out
        have := Nat.mul_le_mul (show a.length ≤ 100 from ha) (show b.length ≤ 100 from hb)
        omega
      have ce := elementOf_g (w.heap.size + 1) g1 d1 (sumL a b) wo hlb O
      have hgg := (O.ge g1 rfl).1
      have hbx := r.box
      have hS := r.since
      rw [← hn2] at ce
      obtain ⟨M, eM⟩ : ∃ M, setL (sumL a b) = M := ⟨_, rfl⟩
      rw [eM] at ce
      have HE := Lib.hid hE; clear hE
      have Ce := Lib.hid ce; clear ce
      have EM := Lib.hid eM; clear eM
      have Hn2 := Lib.hid hn2; clear hn2
      have HlenS := Lib.hid hlenS; clear hlenS
      clear r ho O
      go_wp2_with fail
      with_reducible (refine Ce.out.mono ?_)
      rintro e w2 ⟨rfl, O, hg⟩
      have B := hbx.grown hg (by intro e; cases e; omega)
      have S := hS.grown hg (by omega)
      have f0 := B.frozen
      have f1 := B.cell
      have e0 := (B.set (.slice (some ⟨g1, 0, none⟩) M.length d1)).cell
      have o4 : OwnSpots w.heap.size (w2.setCell ⟨w.heap.size, 0, none⟩ (.slice (some ⟨g1, 0, none⟩) M.length d1)) (.slice (some ⟨g1, 0, none⟩) M.length d1) M := by
        obtain ⟨p', c', hv, ho⟩ := O
        exact ⟨p', c', hv, own_mono (own_other ho (by simp [Value.ownBlock]; omega) _) (by omega)⟩
      have s4 : Below w.heap.size w (w2.setCell ⟨w.heap.size, 0, none⟩ (.slice (some ⟨g1, 0, none⟩) M.length d1)) := S.below.setCell (by simp) _
      have O4 := Lib.hid o4; clear o4
      have S4 := Lib.hid s4; clear s4
      clear O B S hbx hS hg Ce
      go_wp2
      exact bodyPost_ret (v := .agg #[.slice (some ⟨g1, 0, none⟩) M.length d1]) (by simp [results, Try.results44, go_sem, e0]) rfl ⟨g1, d1, by rw [EM.out], by rw [EM.out]; exact O4.out, S4.out⟩
end Go.Proofs.Ytheakjbbfdcbaaa
