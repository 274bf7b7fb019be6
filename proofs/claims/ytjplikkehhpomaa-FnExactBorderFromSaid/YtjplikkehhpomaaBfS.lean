/- Contract of the reference's BorderFrom: at every list of corners it answers the same. -/
import Derived.Test.YtjplikkehhpomaaBfW
import Derived.Test.YtjplikkehhpomaaRegSt
set_option linter.unusedVariables false
set_option linter.unusedSimpArgs false
namespace Go.Proofs.Ytjplikkehhpomaa
open Go.RowKit

theorem Since.setd {w a : World} (h : Since w a) {p : Addr} (hb : w.heap.size ≤ p.block) (v : Value) : Since w (a.setCell p v) := ⟨h.below.setCell hb _⟩
/-- The letters that are there: a slice that is never nil. -/
structure ByRel (s : ByteArray) (n : Nat) (w5 : World) (v : Value) (wr : World) : Prop where
  own : ∃ g d, v = .slice (some ⟨g, 0, none⟩) n d ∧ wr.ownsRow w5.heap.size 5 1 v n (byteCs s)
  since : Since w5 wr
theorem ByRel.bl {s : ByteArray} {n : Nat} {w5 : World} {v : Value} {wr w' : World} (h : ByRel s n w5 v wr) (hb : Below wr.heap.size wr w') : ByRel s n w5 v w' := by
  obtain ⟨g, d, hv, ho⟩ := h.own
  exact ⟨⟨g, d, hv, own_below ho hb (Nat.le_refl _)⟩, h.since.bl hb⟩
theorem ByRel.other {s : ByteArray} {n : Nat} {w5 : World} {v : Value} {wr : World} (h : ByRel s n w5 v wr) {a : Addr} (ha : ∀ g, v.ownBlock = some g → g ≠ a.block) (hw : w5.heap.size ≤ a.block) (u : Value) : ByRel s n w5 v (wr.setCell a u) := by
  obtain ⟨g, d, hv, ho⟩ := h.own
  exact ⟨⟨g, d, hv, own_other ho (fun e => ha _ e.symm rfl) u⟩, h.since.setd hw u⟩
theorem ByRel.start (w5 : World) : ByRel ⟨#[]⟩ 0 w5 (.slice (some ⟨w5.heap.size, 0, none⟩) 0 0) (w5.alloc (.cells #[] 5)) :=
  ⟨⟨_, _, rfl, World.ownsRow_made w5 #[] 0 (Nat.le_refl _) (by decide) rfl⟩, (Since.refl w5).alloc _⟩
theorem byte_back' (b : UInt8) : UInt8.ofNat ((b.toNat : Int).toNat) = b := by simp
theorem by_conv {s : ByteArray} {n g d : Nat} {w5 wr : World} (h : ByRel s n w5 (.slice (some ⟨g, 0, none⟩) n d) wr) (hn : n = s.size) : (convert 76 9 (.slice (some ⟨g, 0, none⟩) n d)).run Try.prog wr = .ok (.string s) wr := by
  obtain ⟨g0, d0, hv, ho⟩ := h.own
  have hl : (s.data.toList.map fun c : UInt8 => (c.toNat : Int)).length = n := by rw [hn, List.length_map, Array.length_toList]; rfl
  have he : strOfNums (s.data.toList.map fun c : UInt8 => (c.toNat : Int)) = s := by
    unfold strOfNums
    rw [List.map_map, show ((fun n : Int => UInt8.ofNat n.toNat) ∘ fun b : UInt8 => (b.toNat : Int)) = id from funext byte_back', List.map_id]
  have := run_convert_bytes_arg (P := Try.prog) wr 76 5 Try.underlying76 Try.underlying5 g 0 n d _ hl (fun i hi => ?_) 9 Try.underlying9
  · rw [he] at this
    exact this
  · rcases ho.2 with ⟨_, h0⟩ | ⟨g', cap, cur, hv', hb, hg, _⟩
    · omega
    · have h1 := ho.cells rfl i (.int .u8 ((s.data.toList.map fun c : UInt8 => (c.toNat : Int)).getD i 0)) (by
        have hi' : i < s.data.toList.length := by rw [List.length_map] at hl; omega
        simp [byteCs, List.getD, List.getElem?_eq_getElem hi'])
      rwa [Go.WideShapes.add_plain] at h1
theorem info_u8b : (Try.prog.info? 5).map (fun i => (i.zero, i.size, i.bytes)) = some (some (.int .u8 0), 1, 1) := by kernel_rfl
/-- On the way from corner to corner: s steps are done. -/
structure WkRel (ax ay dx dy bx bz : Int) (ta tb : Nat) (B : ByteArray) (n v : Nat) (w5 wr : World) (sv : Value) (s : Nat) : Prop where
  rel : ByRel (B ++ wayT v s) (n + s) w5 sv wr
  atA : Blk wr ta #[.int .i64 (ax + (s : Int) * dx), .int .i64 (ay + (s : Int) * dy)] 28
  atB : Blk wr tb #[.int .i64 bx, .int .i64 bz] 28
  ne : ∀ g, sv.ownBlock = some g → g ≠ ta ∧ g ≠ tb
set_option maxRecDepth 100000 in
set_option maxHeartbeats 16000000 in
theorem sBorderFrom_any (p : Option Addr) (c : Nat) (l : List (Int × Int)) (w : World) (hl : l.length ≤ 1048576) (hr : Rd w p (l.length * 2) (spotAt l)) :
    Calls Try.prog 25 #[.slice p l.length c] w fun e w' => e = .returned (.tuple #[.agg #[.int .i64 (bfX l), .int .i64 (bfY l), .string (bfS l)], .bool (bfOk l)]) ∧ Below w.heap.size w w' := by
  have S := (Since.refl w).alloc (.cells #[.int .i64 0, .int .i64 0, .string ⟨#[]⟩] 30)
  have B := Blk.new w #[.int .i64 0, .int .i64 0, .string ⟨#[]⟩] 30
  have D := hr.alloc (.cells #[.int .i64 0, .int .i64 0, .string ⟨#[]⟩] 30)
  by_cases h4 : l.length < 4
  ·
    as_aux_lemma =>
      have b0 := B.cell 0 rfl
      have b1 := B.cell 1 rfl
      have b2 := B.cell 2 rfl
      have hk : bfOk l = false := by rw [bfOk, decide_eq_false (by omega)]; rfl
      obtain ⟨k1, k2, k3⟩ := bf_no hk
      have h5 : (l.length : Int) < 4 := by omega
      have Hk := Lib.hid hk; clear hk
      have K1 := Lib.hid k1; clear k1
      have K2 := Lib.hid k2; clear k2
      have K3 := Lib.hid k3; clear k3
      go_enter Try.func25, Try.ntmps25
      go_wp2_with (with_reducible change bodyPost _ _ _ _ _ _; exact bodyPost_ret (v := .tuple #[.agg #[.int .i64 0, .int .i64 0, .string ⟨#[]⟩], .bool false]) (by simp [results, Try.results25, go_sem, b0, b1, b2]) rfl ⟨by rw [K1.out, K2.out, K3.out, Hk.out], S.below⟩)
  · have hn4 : (4 : Int) ≤ (l.length : Int) := by omega
    by_cases h6 : 600 < l.length
    ·
      as_aux_lemma =>
        have b0 := B.cell 0 rfl
        have b1 := B.cell 1 rfl
        have b2 := B.cell 2 rfl
        have hk : bfOk l = false := by rw [bfOk, decide_eq_false (show ¬ l.length ≤ 600 by omega), Bool.false_and, Bool.and_false]
        obtain ⟨k1, k2, k3⟩ := bf_no hk
        have h5 : 600 < (l.length : Int) := by omega
        have Hk := Lib.hid hk; clear hk
        have K1 := Lib.hid k1; clear k1
        have K2 := Lib.hid k2; clear k2
        have K3 := Lib.hid k3; clear k3
        go_enter Try.func25, Try.ntmps25
        go_wp2_with (with_reducible change bodyPost _ _ _ _ _ _; exact bodyPost_ret (v := .tuple #[.agg #[.int .i64 0, .int .i64 0, .string ⟨#[]⟩], .bool false]) (by simp [results, Try.results25, go_sem, b0, b1, b2]) rfl ⟨by rw [K1.out, K2.out, K3.out, Hk.out], S.below⟩)
    · have hn6 : (l.length : Int) ≤ 600 := by omega
      have hl0 : (0 : Int) < (l.length : Int) := by omega
      have hk0 : ∀ b, (cornB (l.getD 0 (0, 0)) && (rfA l l.length && (bdB (l.getD 0 (0, 0)).1 (l.getD 0 (0, 0)).2 (rfN l l.length) && decide (cornN (l.getD 0 (0, 0)).1 (l.getD 0 (0, 0)).2 (rfN l l.length) (rfN l l.length).size = l)))) = b → bfOk l = b := fun b h => by
        rw [← rf_eq, rfOk, decide_eq_true (show 4 ≤ l.length by omega), decide_eq_true (show l.length ≤ 600 by omega), h]; rfl
      obtain ⟨pb, po, rfl, hpb, hpc⟩ := D.at (k := 0) (by omega)
      have a0 := hpc (0 * 2) (by omega)
      have a1 := hpc (0 * 2 + 1) (by omega)
      rw [spotAt_x] at a0
      rw [spotAt_y] at a1
      simp only [Nat.zero_mul, Nat.add_zero, Nat.zero_add] at a0 a1
      obtain ⟨⟨x0, y0⟩, ez⟩ : ∃ s, l.getD 0 (0, 0) = s := ⟨_, rfl⟩
      rw [ez] at a0 a1 hk0
      dsimp only at a0 a1
      have co := fun w => l04Corner_any x0 y0 w
      cases hc0 : cornB (x0, y0)
      ·
        as_aux_lemma =>
          have hk := hk0 false (by rw [hc0]; rfl)
          obtain ⟨k1, k2, k3⟩ := bf_no hk
          simp only [hc0] at co
          have Hk := Lib.hid hk; clear hk
          have K1 := Lib.hid k1; clear k1
          have K2 := Lib.hid k2; clear k2
          have K3 := Lib.hid k3; clear k3
          have Co := Lib.hid co; clear co
          have Hk0 := Lib.hid hk0; clear hk0
          have Hpc := Lib.hid hpc; clear hpc
          have Ez := Lib.hid ez; clear ez
          have Hc0 := Lib.hid hc0; clear hc0
          go_enter Try.func25, Try.ntmps25
          go_wp2_with fail
          refine (Co.out _).mono ?_
          rintro e w1 ⟨rfl, hb⟩
          replace S := S.bl hb
          replace B := B.bl hb
          have b0 := B.cell 0 rfl
          have b1 := B.cell 1 rfl
          have b2 := B.cell 2 rfl
          have f0 := B.frozen 0
          have f1 := B.frozen 1
          have f2 := B.frozen 2
          have BZ := ((B.set 0 (.int .i64 0)).set 1 (.int .i64 0)).set 2 (.string ⟨#[]⟩)
          have s5 := (((S.setd (p := ⟨w.heap.size, 0, none⟩) (by simp) (.int .i64 0)).setd (p := ⟨w.heap.size, 1, none⟩) (by simp) (.int .i64 0)).setd (p := ⟨w.heap.size, 2, none⟩) (by simp) (.string ⟨#[]⟩)).below
          have e0 := BZ.cell 0 rfl
          have e1 := BZ.cell 1 rfl
          have e2 := BZ.cell 2 rfl
          have S5 := Lib.hid s5; clear s5
          clear BZ S B D hb a0 a1
          go_wp2_with (with_reducible change bodyPost _ _ _ _ _ _; exact bodyPost_ret (v := .tuple #[.agg #[.int .i64 0, .int .i64 0, .string ⟨#[]⟩], .bool false]) (by simp [results, Try.results25, go_sem, e0, e1, e2]) rfl ⟨by rw [K1.out, K2.out, K3.out, Hk.out], S5.out⟩)
      · have hk1 : ∀ b, (rfA l l.length && (bdB x0 y0 (rfN l l.length) && decide (cornN x0 y0 (rfN l l.length) (rfN l l.length).size = l))) = b → bfOk l = b := fun b h => hk0 b (by rw [hc0, Bool.true_and]; exact h)
        have hz := cornB_in hc0
        dsimp only at hz
        obtain ⟨⟨hx1, hx2⟩, hy1, hy2⟩ := hz
        simp only [hc0] at co
        have Co := Lib.hid co; clear co
        have Hk0 := Lib.hid hk0; clear hk0
        have Hk1 := Lib.hid hk1; clear hk1
        have Hpc := Lib.hid hpc; clear hpc
        have Ez := Lib.hid ez; clear ez
        have Hc0 := Lib.hid hc0; clear hc0
        go_enter Try.func25, Try.ntmps25
        go_wp2_with fail
        refine (Co.out _).mono ?_
        rintro e w1 ⟨rfl, hb⟩
        replace S := S.bl hb
        replace B := B.bl hb
        replace D := D.bl hb
        replace a0 := (CellAt.bl (show CellAt _ pb po _ from a0) hb).out
        replace a1 := (CellAt.bl (show CellAt _ pb (po + 1) _ from a1) hb).out
        clear hb Co
        have r0 := Blk.new w1 #[.int .i64 x0, .int .i64 y0, .string ⟨#[]⟩] 30
        have U0 := (Since.refl w1).alloc (.cells #[.int .i64 x0, .int .i64 y0, .string ⟨#[]⟩] 30)
        have hs5 : (w1.alloc (.cells #[.int .i64 x0, .int .i64 y0, .string ⟨#[]⟩] 30)).heap.size = w1.heap.size + 1 := World.size_alloc _ _
        go_wp2
        generalize w1.alloc (.cells #[.int .i64 x0, .int .i64 y0, .string ⟨#[]⟩] 30) = w5 at *
        have by0 := ByRel.start w5
        have hA0 : rfA l 0 = true := rfl
        have By0 := Lib.hid by0; clear by0
        have HA0 := Lib.hid hA0; clear hA0
        clear a0 a1
        go_loopw [5, 6] (fun v i wr => ∃ k n : Nat, k ≤ l.length ∧ n ≤ 16 * k ∧ i = .int .i64 k ∧ Hid (rfA l k = true) ∧ Hid (n = (rfN l k).size) ∧ ByRel (rfN l k) n w5 v wr) (fun _ i _ => l.length - (intOf i).toNat)
        case atStart => exact ⟨0, 0, Nat.zero_le _, Nat.zero_le _, rfl, HA0, Lib.hid rfl, by have h := By0.out; rw [hs5] at h; exact h⟩
        case round =>
          clear By0
          obtain ⟨k, n, hk, hn16, rfl, hA, HN, r⟩ := hrel
          have hk00 : (0 : Int) ≤ (k : Int) := Int.natCast_nonneg _
          have U := (U0.bl r.since.below)
          by_cases hlt : k < l.length
          · have hkl : (k : Int) < (l.length : Int) := by omega
            obtain ⟨m, em⟩ : ∃ m, (k + 1) % l.length = m := ⟨_, rfl⟩
            have hm : m < l.length := em ▸ Nat.mod_lt _ (by omega)
            have hm1 : ((k : Int) + 1) % (l.length : Int) = (m : Int) := by show ((k + 1 : Nat) : Int) % (l.length : Int) = _; rw [← em]; rfl
            have hm2 : Int.tmod ((k : Int) + 1) (l.length : Int) = (m : Int) := by show Int.tmod ((k + 1 : Nat) : Int) (l.length : Int) = _; rw [← em, Int.ofNat_tmod]
            have hm0 : (0 : Int) ≤ (m : Int) := Int.natCast_nonneg _
            have hml : (m : Int) < (l.length : Int) := by omega
            have hln : ¬ (l.length : Int) = 0 := by omega
            have hwm : IntKind.i64.wrap (m : Int) = (m : Int) := IntWalk.i64_in _ (by omega)
            have hwk : IntKind.i64.wrap ((k : Int) + 1) = (k : Int) + 1 := IntWalk.i64_in _ (by omega)
            have hln2 : ¬ l = [] := fun h => by rw [h] at hln; exact hln rfl
            have hln3 : ((l.length : Int) == 0) = false := by rw [beq_eq_false_iff_ne]; exact hln
            obtain ⟨_, _, eP, -, hc⟩ := (D.bl U.below).at (k := 0) (by omega)
            cases eP
            have a0 := hc (k * 2) (by omega)
            have a1 := hc (k * 2 + 1) (by omega)
            have c0 := hc (m * 2) (by omega)
            have c1 := hc (m * 2 + 1) (by omega)
            rw [spotAt_x] at a0 c0
            rw [spotAt_y, ← Nat.add_assoc] at a1 c1
            have hsu : rfN l (k + 1) = rfN l k ++ stepT (l.getD k (0, 0)) (l.getD m (0, 0)) := by rw [rfN, nxS, em]
            have hAs : rfA l (k + 1) = (rfA l k && (cornB (l.getD m (0, 0)) && alB (l.getD k (0, 0)) (l.getD m (0, 0)))) := by rw [rfA_succ, nxS, em]
            have hAn : (cornB (l.getD m (0, 0)) && alB (l.getD k (0, 0)) (l.getD m (0, 0))) = false → rfA l l.length = false := fun h => rfA_no hlt (by rw [nxS, em]; exact h)
            have hca : cornB (l.getD k (0, 0)) = true := by
              by_cases h0 : k = 0
              · subst h0; rw [Ez.out]; exact Hc0.out
              · have h8 := (rfA_at hA.out (show k - 1 < k by omega)).1
                rw [nxS, show k - 1 + 1 = k by omega, Nat.mod_eq_of_lt hlt] at h8
                exact h8
            obtain ⟨⟨ax, ay⟩, ea⟩ : ∃ s, l.getD k (0, 0) = s := ⟨_, rfl⟩
            obtain ⟨⟨bx, bz⟩, eb⟩ : ∃ s, l.getD m (0, 0) = s := ⟨_, rfl⟩
            rw [ea] at a0 a1 hsu hAs hAn hca
            rw [eb] at c0 c1 hsu hAs hAn
            dsimp only at a0 a1 c0 c1
            have hra := cornB_in hca
            dsimp only at hra
            obtain ⟨⟨hax1, hax2⟩, hay1, hay2⟩ := hra
            have cq := fun w => l04Corner_any bx bz w
            obtain ⟨g1, d1, rfl, ho1⟩ := r.own
            have hg1 : g1 < wr.heap.size := (ho1.lt g1 rfl).2
            have hta5 : w5.heap.size ≤ wr.heap.size := r.since.size
            clear ho1
            have q0 := (CellAt.bl (show CellAt wr pb (po + m * 2) _ from c0) (bl_alloc wr (.cells #[.int .i64 ax, .int .i64 ay] 28))).out
            have q1 := (CellAt.bl (show CellAt wr pb (po + m * 2 + 1) _ from c1) (bl_alloc wr (.cells #[.int .i64 ax, .int .i64 ay] 28))).out
            have A := (Blk.new wr #[.int .i64 ax, .int .i64 ay] 28).alloc (.cells #[.int .i64 bx, .int .i64 bz] 28)
            have Bb := Blk.new (wr.alloc (.cells #[.int .i64 ax, .int .i64 ay] 28)) #[.int .i64 bx, .int .i64 bz] 28
            rw [World.size_alloc] at Bb
            have r1 := (r.bl (bl_alloc wr (.cells #[.int .i64 ax, .int .i64 ay] 28))).bl (bl_alloc _ (.cells #[.int .i64 bx, .int .i64 bz] 28))
            have b0 := Bb.cell 0 rfl
            have b1 := Bb.cell 1 rfl
            cases hcb : cornB (bx, bz)
            ·
              as_aux_lemma =>
                rw [hcb] at hAn
                have hk := Hk1.out false (by rw [hAn rfl]; rfl)
                obtain ⟨k1, k2, k3⟩ := bf_no hk
                simp only [hcb] at cq
                have Cq := Lib.hid cq; clear cq
                have Em := Lib.hid em; clear em
                have Ea := Lib.hid ea; clear ea
                have Eb := Lib.hid eb; clear eb
                have Hsu := Lib.hid hsu; clear hsu
                have HAs := Lib.hid hAs; clear hAs
                have HAn := Lib.hid hAn; clear hAn
                have Hc := Lib.hid hc; clear hc
                have Hca := Lib.hid hca; clear hca
                have Hcb := Lib.hid hcb; clear hcb
                have Hk := Lib.hid hk; clear hk
                have K1 := Lib.hid k1; clear k1
                have K2 := Lib.hid k2; clear k2
                have K3 := Lib.hid k3; clear k3
                clear r U
                go_wp2_with fail
                refine (Cq.out _).mono ?_
                rintro e w2 ⟨rfl, hb⟩
                have U3 := U0.bl (r1.bl hb).since.below
                have S3 := S.bl U3.below
                have B3 := B.bl U3.below
                clear b0 b1
                have b0 := B3.cell 0 rfl
                have b1 := B3.cell 1 rfl
                have b2 := B3.cell 2 rfl
                have f0 := B3.frozen 0
                have f1 := B3.frozen 1
                have f2 := B3.frozen 2
                have BZ := ((B3.set 0 (.int .i64 0)).set 1 (.int .i64 0)).set 2 (.string ⟨#[]⟩)
                have s5 := (((S3.setd (p := ⟨w.heap.size, 0, none⟩) (by simp) (.int .i64 0)).setd (p := ⟨w.heap.size, 1, none⟩) (by simp) (.int .i64 0)).setd (p := ⟨w.heap.size, 2, none⟩) (by simp) (.string ⟨#[]⟩)).below
                have e0 := BZ.cell 0 rfl
                have e1 := BZ.cell 1 rfl
                have e2 := BZ.cell 2 rfl
                have S5 := Lib.hid s5; clear s5
                clear BZ S3 B3 U3 S B D hb a0 a1 c0 c1 q0 q1 A Bb r1
                go_wp2_with (with_reducible change bodyPost _ _ _ _ _ _; exact bodyPost_ret (v := .tuple #[.agg #[.int .i64 0, .int .i64 0, .string ⟨#[]⟩], .bool false]) (by simp [results, Try.results25, go_sem, e0, e1, e2]) rfl ⟨by rw [K1.out, K2.out, K3.out, Hk.out], S5.out⟩)
            · rw [hcb, Bool.true_and] at hAs hAn
              simp only [hcb] at cq
              have Cq := Lib.hid cq; clear cq
              have Em := Lib.hid em; clear em
              have Ea := Lib.hid ea; clear ea
              have Eb := Lib.hid eb; clear eb
              have Hsu := Lib.hid hsu; clear hsu
              have HAs := Lib.hid hAs; clear hAs
              have HAn := Lib.hid hAn; clear hAn
              have Hc := Lib.hid hc; clear hc
              have Hca := Lib.hid hca; clear hca
              have Hcb := Lib.hid hcb; clear hcb
              clear r U
              go_wp2_with fail
              refine (Cq.out _).mono ?_
              rintro e w2 ⟨rfl, hb⟩
              replace r1 := r1.bl hb
              replace A := A.bl hb
              replace Bb := Bb.bl hb
              clear hb b0 b1 a0 a1 c0 c1 q0 q1 Cq
              have hrb := cornB_in Hcb.out
              dsimp only at hrb
              obtain ⟨⟨hbx1, hbx2⟩, hbz1, hbz2⟩ := hrb
              obtain ⟨ta, eta⟩ : ∃ t, wr.heap.size = t := ⟨_, rfl⟩
              obtain ⟨tb, etb⟩ : ∃ t, wr.heap.size + 1 = t := ⟨_, rfl⟩
              go_wp2
              simp only [eta] at A ⊢
              rw [etb] at Bb
              try simp only [etb]
              rw [eta] at etb
              try simp only [etb]
              have ht : ¬ ta = tb := by omega
              rw [eta] at hg1 hta5
              clear eta
              have v0 : ∀ u : Nat, u < 0 → okW (ax, ay) (bx, bz) u = false := fun u h => absurd h (by omega)
              have V0 := Lib.hid v0; clear v0
              go_loopw [9] (fun s9 wx => ∃ v : Nat, v ≤ 4 ∧ s9 = .int .i64 v ∧ Hid (∀ u : Nat, u < v → okW (ax, ay) (bx, bz) u = false) ∧ ByRel (rfN l k) n w5 (.slice (some ⟨g1, 0, none⟩) n d1) wx ∧ Blk wx ta #[.int .i64 ax, .int .i64 ay] 28 ∧ Blk wx tb #[.int .i64 bx, .int .i64 bz] 28) (fun s9 _ => 4 - (intOf s9).toNat)
              case atStart => exact ⟨0, by omega, rfl, V0, r1, A, Bb⟩
              case round =>
                clear V0 r1 A Bb
                obtain ⟨v, hv, rfl, hno, r1, A, Bb⟩ := hrel
                have hv0 : (0 : Int) ≤ (v : Int) := Int.natCast_nonneg _
                by_cases hv4 : v < 4
                · have hv5 : (v : Int) < 4 := by omega
                  have A2 := A.bl (bl_drew _)
                  have Bb2 := Bb.bl (bl_drew _)
                  have b0 := A2.cell 0 rfl
                  have b1 := A2.cell 1 rfl
                  have d0 := Bb2.cell 0 rfl
                  have d1' := Bb2.cell 1 rfl
                  have cb0 := A2.cat 0 rfl
                  have cb1 := A2.cat 1 rfl
                  have cd0 := Bb2.cat 0 rfl
                  have cd1 := Bb2.cat 1 rfl
                  have cx : ∀ w, Calls Try.prog 49 #[.int .i64 (v : Int)] w fun e w' => e = .returned (.int .i64 (dX v)) ∧ w' = w := fun w => (l04X_any (v : Int) w).mono fun e w' h => ⟨h.1, h.2.symm⟩
                  have cy : ∀ w, Calls Try.prog 48 #[.int .i64 (v : Int)] w fun e w' => e = .returned (.int .i64 (dY v)) ∧ w' = w := fun w => (l04Y_any (v : Int) w).mono fun e w' h => ⟨h.1, h.2.symm⟩
                  have cm := fun w => l00Max_any (ax - bx) (bx - ax) w
                  have cn := fun w => l00Max_any (ay - bz) (bz - ay) w
                  simp only [max_abs] at cm cn
                  obtain ⟨mx, emx⟩ : ∃ m, (ax - bx).natAbs = m := ⟨_, rfl⟩
                  obtain ⟨my, emy⟩ : ∃ m, (ay - bz).natAbs = m := ⟨_, rfl⟩
                  simp only [emx] at cm
                  simp only [emy] at cn
                  have hdx : dX (v : Int) = -1 ∨ dX (v : Int) = 0 ∨ dX (v : Int) = 1 := by unfold dX; split <;> (try split) <;> simp
                  have hdy : dY (v : Int) = -1 ∨ dY (v : Int) = 0 ∨ dY (v : Int) = 1 := by unfold dY; split <;> (try split) <;> simp
                  have hok : okW (ax, ay) (bx, bz) v = (decide (ax + dX v * (mx : Int) = bx) && decide (ay + dY v * (my : Int) = bz)) := by rw [okW, emx, emy]
                  obtain ⟨dx, edx⟩ : ∃ d, dX (v : Int) = d := ⟨_, rfl⟩
                  obtain ⟨dy, edy⟩ : ∃ d, dY (v : Int) = d := ⟨_, rfl⟩
                  simp only [edx] at cx hdx hok
                  simp only [edy] at cy hdy hok
                  obtain ⟨px, epx⟩ : ∃ p, dx * (mx : Int) = p := ⟨_, rfl⟩
                  obtain ⟨py, epy⟩ : ∃ p, dy * (my : Int) = p := ⟨_, rfl⟩
                  have hpx : -16 ≤ px ∧ px ≤ 16 := by rw [← epx]; rcases hdx with h | h | h <;> rw [h] <;> omega
                  have hpy : -16 ≤ py ∧ py ≤ 16 := by rw [← epy]; rcases hdy with h | h | h <;> rw [h] <;> omega
                  rw [epx, epy] at hok
                  have hw1 : IntKind.i64.wrap (ax - bx) = ax - bx := IntWalk.i64_in _ (by omega)
                  have hw2 : IntKind.i64.wrap (bx - ax) = bx - ax := IntWalk.i64_in _ (by omega)
                  have hw3 : IntKind.i64.wrap (ay - bz) = ay - bz := IntWalk.i64_in _ (by omega)
                  have hw4 : IntKind.i64.wrap (bz - ay) = bz - ay := IntWalk.i64_in _ (by omega)
                  have hw5 : IntKind.i64.wrap px = px := IntWalk.i64_in _ (by omega)
                  have hw6 : IntKind.i64.wrap py = py := IntWalk.i64_in _ (by omega)
                  have hw7 : IntKind.i64.wrap (ax + px) = ax + px := IntWalk.i64_in _ (by omega)
                  have hw8 : IntKind.i64.wrap (ay + py) = ay + py := IntWalk.i64_in _ (by omega)
                  have r2 := r1.bl (bl_drew _)
                  by_cases hx : ax + px = bx
                  · by_cases hy : ay + py = bz
                    ·
                      as_aux_lemma =>
                        have hf : okW (ax, ay) (bx, bz) v = true := by rw [hok, decide_eq_true hx, decide_eq_true hy]; rfl
                        have hx2 : ((ax + px : Int) == bx) = true := by rw [beq_iff_eq]; exact hx
                        have hx3 : ((ax + px : Int) != bx) = false := by rw [bne, hx2]; rfl
                        have hx4 : decide (ax + px = bx) = true := decide_eq_true hx
                        have hy2 : ((ay + py : Int) == bz) = true := by rw [beq_iff_eq]; exact hy
                        have hy3 : ((ay + py : Int) != bz) = false := by rw [bne, hy2]; rfl
                        have hy4 : decide (ay + py = bz) = true := decide_eq_true hy
                        have hvn : ¬ (v : Int) = 4 := by omega
                        obtain ⟨hal, hbx, hbz, hwc⟩ := okW_found hv4 hf hno.out
                        have Cx := Lib.hid cx; clear cx
                        have Cy := Lib.hid cy; clear cy
                        have Cm := Lib.hid cm; clear cm
                        have Cn := Lib.hid cn; clear cn
                        have Hok := Lib.hid hok; clear hok
                        have Emx := Lib.hid emx; clear emx
                        have Emy := Lib.hid emy; clear emy
                        have Edx := Lib.hid edx; clear edx
                        have Edy := Lib.hid edy; clear edy
                        have Hf := Lib.hid hf; clear hf
                        have Hx := Lib.hid hx; clear hx
                        have Hy := Lib.hid hy; clear hy
                        have Hal := Lib.hid hal; clear hal
                        have Hbx := Lib.hid hbx; clear hbx
                        have Hbz := Lib.hid hbz; clear hbz
                        have Hwc := Lib.hid hwc; clear hwc
                        clear r1 A Bb hdx hdy
                        go_upto_region 13 with (fail)
                        refine wp_region_l (S := StillS (wr.drew)) 46 rfl (by kernel_rfl) rfl ?_
                        intro HC HS
                        refine wpAnyL_stay (i := 0) (v := ?_) rfl (by kernel_rfl) 12 (by kernel_rfl) (by kernel_rfl) (fun _ _ _ h => h) (fun l w => stillS_at l w) (fun w h => stillS_w h) HC (Or.inl (Or.inl ⟨by rfl, ?_⟩)) HS ?_
                        rotate_left
                        · intro wx hx; subst hx
                          go_simp
                          try with_reducible rfl
                        clear HC HS
                        intro HC HS
                        try simp only [Act.put, List.setIfInBounds_toArray, List.set_cons_zero, List.set_cons_succ]
                        refine wpAnyL_stay (i := 1) (v := ?_) rfl (by kernel_rfl) 12 (by kernel_rfl) (by kernel_rfl) (fun _ _ _ h => h) (fun l w => stillS_at l w) (fun w h => stillS_w h) HC (Or.inl (Or.inl ⟨by rfl, ?_⟩)) HS ?_
                        rotate_left
                        · intro wx hx; subst hx
                          go_simp
                          try with_reducible rfl
                        clear HC HS
                        intro HC HS
                        try simp only [Act.put, List.setIfInBounds_toArray, List.set_cons_zero, List.set_cons_succ]
                        refine wpAnyL_stay (i := 2) (v := ?_) rfl (by kernel_rfl) 12 (by kernel_rfl) (by kernel_rfl) (fun _ _ _ h => h) (fun l w => stillS_at l w) (fun w h => stillS_w h) HC (Or.inl (Or.inl ⟨by rfl, ?_⟩)) HS ?_
                        rotate_left
                        · intro wx hx; subst hx
                          go_simp
                          try with_reducible rfl
                        clear HC HS
                        intro HC HS
                        try simp only [Act.put, List.setIfInBounds_toArray, List.set_cons_zero, List.set_cons_succ]
                        refine wpAnyL_stay (i := 3) (v := ?_) rfl (by kernel_rfl) 12 (by kernel_rfl) (by kernel_rfl) (fun _ _ _ h => h) (fun l w => stillS_at l w) (fun w h => stillS_w h) HC (Or.inl (Or.inl ⟨by rfl, ?_⟩)) HS ?_
                        rotate_left
                        · intro wx hx; subst hx
                          go_simp
                          try with_reducible rfl
                        clear HC HS
                        intro HC HS
                        try simp only [Act.put, List.setIfInBounds_toArray, List.set_cons_zero, List.set_cons_succ]
                        refine wpAnyL_stay (i := 4) (v := ?_) rfl (by kernel_rfl) 12 (by kernel_rfl) (by kernel_rfl) (fun _ _ _ h => h) (fun l w => stillS_at l w) (fun w h => stillS_w h) HC (Or.inl (Or.inl ⟨by rfl, ?_⟩)) HS ?_
                        rotate_left
                        · intro wx hx; subst hx
                          go_simp
                          try with_reducible rfl
                        clear HC HS
                        intro HC HS
                        try simp only [Act.put, List.setIfInBounds_toArray, List.set_cons_zero, List.set_cons_succ]
                        refine wpAnyL_stay (i := 5) (v := ?_) rfl (by kernel_rfl) 12 (by kernel_rfl) (by kernel_rfl) (fun _ _ _ h => h) (fun l w => stillS_at l w) (fun w h => stillS_w h) HC (Or.inl (Or.inl ⟨by rfl, ?_⟩)) HS ?_
                        rotate_left
                        · intro wx hx; subst hx
                          go_simp
                          try with_reducible rfl
                        clear HC HS
                        intro HC HS
                        try simp only [Act.put, List.setIfInBounds_toArray, List.set_cons_zero, List.set_cons_succ]
                        refine wpAnyL_stay (i := 6) (v := _) rfl (by kernel_rfl) 12 (by kernel_rfl) (by kernel_rfl) (fun _ _ _ h => h) (fun l w => stillS_at l w) (fun w h => stillS_w h) HC (Or.inr ⟨by rfl, 49, #[.int .i64 (v : Int)], ?_, by with_reducible exact (Cx.out _)⟩) HS ?_
                        · go_simp
                          try with_reducible rfl
                        clear HC HS
                        intro HC HS
                        try simp only [Act.put, List.setIfInBounds_toArray, List.set_cons_zero, List.set_cons_succ]
                        refine wpAnyL_stay (i := 7) (v := ?_) rfl (by kernel_rfl) 12 (by kernel_rfl) (by kernel_rfl) (fun _ _ _ h => h) (fun l w => stillS_at l w) (fun w h => stillS_w h) HC (Or.inl (Or.inl ⟨by rfl, ?_⟩)) HS ?_
                        rotate_left
                        · intro wx hx; subst hx
                          go_simp
                          try with_reducible rfl
                        clear HC HS
                        intro HC HS
                        try simp only [Act.put, List.setIfInBounds_toArray, List.set_cons_zero, List.set_cons_succ]
                        refine wpAnyL_stay (i := 8) (v := ?_) rfl (by kernel_rfl) 12 (by kernel_rfl) (by kernel_rfl) (fun _ _ _ h => h) (fun l w => stillS_at l w) (fun w h => stillS_w h) HC (Or.inl (Or.inl ⟨by rfl, ?_⟩)) HS ?_
                        rotate_left
                        · intro wx hx; subst hx
                          go_simp
                          try with_reducible rfl
                        clear HC HS
                        intro HC HS
                        try simp only [Act.put, List.setIfInBounds_toArray, List.set_cons_zero, List.set_cons_succ]
                        refine wpAnyL_stay (i := 9) (v := ?_) rfl (by kernel_rfl) 12 (by kernel_rfl) (by kernel_rfl) (fun _ _ _ h => h) (fun l w => stillS_at l w) (fun w h => stillS_w h) HC (Or.inl (Or.inl ⟨by rfl, ?_⟩)) HS ?_
                        rotate_left
                        · intro wx hx; subst hx
                          go_simp
                          try with_reducible rfl
                        clear HC HS
                        intro HC HS
                        try simp only [Act.put, List.setIfInBounds_toArray, List.set_cons_zero, List.set_cons_succ]
                        refine wpAnyL_stay (i := 10) (v := ?_) rfl (by kernel_rfl) 12 (by kernel_rfl) (by kernel_rfl) (fun _ _ _ h => h) (fun l w => stillS_at l w) (fun w h => stillS_w h) HC (Or.inl (Or.inl ⟨by rfl, ?_⟩)) HS ?_
                        rotate_left
                        · intro wx hx; subst hx
                          go_simp
                          try with_reducible rfl
                        clear HC HS
                        intro HC HS
                        try simp only [Act.put, List.setIfInBounds_toArray, List.set_cons_zero, List.set_cons_succ]
                        refine wpAnyL_stay (i := 11) (v := ?_) rfl (by kernel_rfl) 12 (by kernel_rfl) (by kernel_rfl) (fun _ _ _ h => h) (fun l w => stillS_at l w) (fun w h => stillS_w h) HC (Or.inl (Or.inl ⟨by rfl, ?_⟩)) HS ?_
                        rotate_left
                        · intro wx hx; subst hx
                          go_simp
                          try with_reducible rfl
                        clear HC HS
                        intro HC HS
                        try simp only [Act.put, List.setIfInBounds_toArray, List.set_cons_zero, List.set_cons_succ]
                        refine wpAnyL_stay (i := 12) (v := ?_) rfl (by kernel_rfl) 12 (by kernel_rfl) (by kernel_rfl) (fun _ _ _ h => h) (fun l w => stillS_at l w) (fun w h => stillS_w h) HC (Or.inl (Or.inl ⟨by rfl, ?_⟩)) HS ?_
                        rotate_left
                        · intro wx hx; subst hx
                          go_simp
                          try with_reducible rfl
                        clear HC HS
                        intro HC HS
                        try simp only [Act.put, List.setIfInBounds_toArray, List.set_cons_zero, List.set_cons_succ]
                        refine wpAnyL_stay (i := 13) (v := ?_) rfl (by kernel_rfl) 12 (by kernel_rfl) (by kernel_rfl) (fun _ _ _ h => h) (fun l w => stillS_at l w) (fun w h => stillS_w h) HC (Or.inl (Or.inl ⟨by rfl, ?_⟩)) HS ?_
                        rotate_left
                        · intro wx hx; subst hx
                          go_simp
                          try with_reducible rfl
                        clear HC HS
                        intro HC HS
                        try simp only [Act.put, List.setIfInBounds_toArray, List.set_cons_zero, List.set_cons_succ]
                        refine wpAnyL_stay (i := 14) (v := ?_) rfl (by kernel_rfl) 12 (by kernel_rfl) (by kernel_rfl) (fun _ _ _ h => h) (fun l w => stillS_at l w) (fun w h => stillS_w h) HC (Or.inl (Or.inl ⟨by rfl, ?_⟩)) HS ?_
                        rotate_left
                        · intro wx hx; subst hx
                          go_simp
                          try with_reducible rfl
                        clear HC HS
                        intro HC HS
                        try simp only [Act.put, List.setIfInBounds_toArray, List.set_cons_zero, List.set_cons_succ]
                        refine wpAnyL_stay (i := 15) (v := ?_) rfl (by kernel_rfl) 12 (by kernel_rfl) (by kernel_rfl) (fun _ _ _ h => h) (fun l w => stillS_at l w) (fun w h => stillS_w h) HC (Or.inl (Or.inl ⟨by rfl, ?_⟩)) HS ?_
                        rotate_left
                        · intro wx hx; subst hx
                          go_simp
                          try with_reducible rfl
                        clear HC HS
                        intro HC HS
                        try simp only [Act.put, List.setIfInBounds_toArray, List.set_cons_zero, List.set_cons_succ]
                        refine wpAnyL_stay (i := 16) (v := ?_) rfl (by kernel_rfl) 12 (by kernel_rfl) (by kernel_rfl) (fun _ _ _ h => h) (fun l w => stillS_at l w) (fun w h => stillS_w h) HC (Or.inl (Or.inl ⟨by rfl, ?_⟩)) HS ?_
                        rotate_left
                        · intro wx hx; subst hx
                          go_simp
                          try with_reducible rfl
                        clear HC HS
                        intro HC HS
                        try simp only [Act.put, List.setIfInBounds_toArray, List.set_cons_zero, List.set_cons_succ]
                        refine wpAnyL_stay (i := 17) (v := _) rfl (by kernel_rfl) 12 (by kernel_rfl) (by kernel_rfl) (fun _ _ _ h => h) (fun l w => stillS_at l w) (fun w h => stillS_w h) HC (Or.inr ⟨by rfl, 54, #[.int .i64 (ax - bx), .int .i64 (bx - ax)], ?_, by with_reducible exact (Cm.out _)⟩) HS ?_
                        · go_simp
                          try with_reducible rfl
                        clear HC HS
                        intro HC HS
                        try simp only [Act.put, List.setIfInBounds_toArray, List.set_cons_zero, List.set_cons_succ]
                        refine wpAnyL_stay (i := 18) (v := ?_) rfl (by kernel_rfl) 12 (by kernel_rfl) (by kernel_rfl) (fun _ _ _ h => h) (fun l w => stillS_at l w) (fun w h => stillS_w h) HC (Or.inl (Or.inl ⟨by rfl, ?_⟩)) HS ?_
                        rotate_left
                        · intro wx hx; subst hx
                          go_simp
                          try with_reducible rfl
                        clear HC HS
                        intro HC HS
                        try simp only [Act.put, List.setIfInBounds_toArray, List.set_cons_zero, List.set_cons_succ]
                        refine wpAnyL_stay (i := 19) (v := ?_) rfl (by kernel_rfl) 12 (by kernel_rfl) (by kernel_rfl) (fun _ _ _ h => h) (fun l w => stillS_at l w) (fun w h => stillS_w h) HC (Or.inl (Or.inl ⟨by rfl, ?_⟩)) HS ?_
                        rotate_left
                        · intro wx hx; subst hx
                          go_simp
                          try with_reducible rfl
                        clear HC HS
                        intro HC HS
                        try simp only [Act.put, List.setIfInBounds_toArray, List.set_cons_zero, List.set_cons_succ]
                        refine wpAnyL_stay (i := 20) (v := ?_) rfl (by kernel_rfl) 12 (by kernel_rfl) (by kernel_rfl) (fun _ _ _ h => h) (fun l w => stillS_at l w) (fun w h => stillS_w h) HC (Or.inl (Or.inl ⟨by rfl, ?_⟩)) HS ?_
                        rotate_left
                        · intro wx hx; subst hx
                          go_simp
                          try with_reducible rfl
                        clear HC HS
                        intro HC HS
                        try simp only [Act.put, List.setIfInBounds_toArray, List.set_cons_zero, List.set_cons_succ]
                        refine wpAnyL_stay (i := 21) (v := ?_) rfl (by kernel_rfl) 12 (by kernel_rfl) (by kernel_rfl) (fun _ _ _ h => h) (fun l w => stillS_at l w) (fun w h => stillS_w h) HC (Or.inl (Or.inl ⟨by rfl, ?_⟩)) HS ?_
                        rotate_left
                        · intro wx hx; subst hx
                          go_simp
                          try with_reducible rfl
                        clear HC HS
                        intro HC HS
                        try simp only [Act.put, List.setIfInBounds_toArray, List.set_cons_zero, List.set_cons_succ]
                        refine wpAnyL_stay (i := 22) (v := ?_) rfl (by kernel_rfl) 12 (by kernel_rfl) (by kernel_rfl) (fun _ _ _ h => h) (fun l w => stillS_at l w) (fun w h => stillS_w h) HC (Or.inl (Or.inl ⟨by rfl, ?_⟩)) HS ?_
                        rotate_left
                        · intro wx hx; subst hx
                          go_simp
                          try with_reducible rfl
                        clear HC HS
                        intro HC HS
                        try simp only [Act.put, List.setIfInBounds_toArray, List.set_cons_zero, List.set_cons_succ]
                        refine wpAnyL_stay (i := 23) (v := ?_) rfl (by kernel_rfl) 12 (by kernel_rfl) (by kernel_rfl) (fun _ _ _ h => h) (fun l w => stillS_at l w) (fun w h => stillS_w h) HC (Or.inl (Or.inl ⟨by rfl, ?_⟩)) HS ?_
                        rotate_left
                        · intro wx hx; subst hx
                          go_simp
                          try with_reducible rfl
                        clear HC HS
                        intro HC HS
                        try simp only [Act.put, List.setIfInBounds_toArray, List.set_cons_zero, List.set_cons_succ]
                        refine wpAnyL_stay (i := 24) (v := ?_) rfl (by kernel_rfl) 12 (by kernel_rfl) (by kernel_rfl) (fun _ _ _ h => h) (fun l w => stillS_at l w) (fun w h => stillS_w h) HC (Or.inl (Or.inl ⟨by rfl, ?_⟩)) HS ?_
                        rotate_left
                        · intro wx hx; subst hx
                          go_simp
                          try with_reducible rfl
                        clear HC HS
                        intro HC HS
                        try simp only [Act.put, List.setIfInBounds_toArray, List.set_cons_zero, List.set_cons_succ]
                        refine wpAnyL_stay (i := 25) (v := ?_) rfl (by kernel_rfl) 12 (by kernel_rfl) (by kernel_rfl) (fun _ _ _ h => h) (fun l w => stillS_at l w) (fun w h => stillS_w h) HC (Or.inl (Or.inl ⟨by rfl, ?_⟩)) HS ?_
                        rotate_left
                        · intro wx hx; subst hx
                          go_simp
                          try with_reducible rfl
                        clear HC HS
                        intro HC HS
                        try simp only [Act.put, List.setIfInBounds_toArray, List.set_cons_zero, List.set_cons_succ]
                        refine wpAnyL_stay (i := 26) (v := ?_) rfl (by kernel_rfl) 12 (by kernel_rfl) (by kernel_rfl) (fun _ _ _ h => h) (fun l w => stillS_at l w) (fun w h => stillS_w h) HC (Or.inl (Or.inl ⟨by rfl, ?_⟩)) HS ?_
                        rotate_left
                        · intro wx hx; subst hx
                          go_simp
                          try with_reducible rfl
                        clear HC HS
                        intro HC HS
                        try simp only [Act.put, List.setIfInBounds_toArray, List.set_cons_zero, List.set_cons_succ]
                        refine wpAnyL_stay (i := 27) (v := _) rfl (by kernel_rfl) 12 (by kernel_rfl) (by kernel_rfl) (fun _ _ _ h => h) (fun l w => stillS_at l w) (fun w h => stillS_w h) HC (Or.inr ⟨by rfl, 48, #[.int .i64 (v : Int)], ?_, by with_reducible exact (Cy.out _)⟩) HS ?_
                        · go_simp
                          try with_reducible rfl
                        clear HC HS
                        intro HC HS
                        try simp only [Act.put, List.setIfInBounds_toArray, List.set_cons_zero, List.set_cons_succ]
                        refine wpAnyL_stay (i := 28) (v := ?_) rfl (by kernel_rfl) 12 (by kernel_rfl) (by kernel_rfl) (fun _ _ _ h => h) (fun l w => stillS_at l w) (fun w h => stillS_w h) HC (Or.inl (Or.inl ⟨by rfl, ?_⟩)) HS ?_
                        rotate_left
                        · intro wx hx; subst hx
                          go_simp
                          try with_reducible rfl
                        clear HC HS
                        intro HC HS
                        try simp only [Act.put, List.setIfInBounds_toArray, List.set_cons_zero, List.set_cons_succ]
                        refine wpAnyL_stay (i := 29) (v := ?_) rfl (by kernel_rfl) 12 (by kernel_rfl) (by kernel_rfl) (fun _ _ _ h => h) (fun l w => stillS_at l w) (fun w h => stillS_w h) HC (Or.inl (Or.inl ⟨by rfl, ?_⟩)) HS ?_
                        rotate_left
                        · intro wx hx; subst hx
                          go_simp
                          try with_reducible rfl
                        clear HC HS
                        intro HC HS
                        try simp only [Act.put, List.setIfInBounds_toArray, List.set_cons_zero, List.set_cons_succ]
                        refine wpAnyL_stay (i := 30) (v := ?_) rfl (by kernel_rfl) 12 (by kernel_rfl) (by kernel_rfl) (fun _ _ _ h => h) (fun l w => stillS_at l w) (fun w h => stillS_w h) HC (Or.inl (Or.inl ⟨by rfl, ?_⟩)) HS ?_
                        rotate_left
                        · intro wx hx; subst hx
                          go_simp
                          try with_reducible rfl
                        clear HC HS
                        intro HC HS
                        try simp only [Act.put, List.setIfInBounds_toArray, List.set_cons_zero, List.set_cons_succ]
                        refine wpAnyL_stay (i := 31) (v := ?_) rfl (by kernel_rfl) 12 (by kernel_rfl) (by kernel_rfl) (fun _ _ _ h => h) (fun l w => stillS_at l w) (fun w h => stillS_w h) HC (Or.inl (Or.inl ⟨by rfl, ?_⟩)) HS ?_
                        rotate_left
                        · intro wx hx; subst hx
                          go_simp
                          try with_reducible rfl
                        clear HC HS
                        intro HC HS
                        try simp only [Act.put, List.setIfInBounds_toArray, List.set_cons_zero, List.set_cons_succ]
                        refine wpAnyL_stay (i := 32) (v := ?_) rfl (by kernel_rfl) 12 (by kernel_rfl) (by kernel_rfl) (fun _ _ _ h => h) (fun l w => stillS_at l w) (fun w h => stillS_w h) HC (Or.inl (Or.inl ⟨by rfl, ?_⟩)) HS ?_
                        rotate_left
                        · intro wx hx; subst hx
                          go_simp
                          try with_reducible rfl
                        clear HC HS
                        intro HC HS
                        try simp only [Act.put, List.setIfInBounds_toArray, List.set_cons_zero, List.set_cons_succ]
                        refine wpAnyL_stay (i := 33) (v := ?_) rfl (by kernel_rfl) 12 (by kernel_rfl) (by kernel_rfl) (fun _ _ _ h => h) (fun l w => stillS_at l w) (fun w h => stillS_w h) HC (Or.inl (Or.inl ⟨by rfl, ?_⟩)) HS ?_
                        rotate_left
                        · intro wx hx; subst hx
                          go_simp
                          try with_reducible rfl
                        clear HC HS
                        intro HC HS
                        try simp only [Act.put, List.setIfInBounds_toArray, List.set_cons_zero, List.set_cons_succ]
                        refine wpAnyL_stay (i := 34) (v := ?_) rfl (by kernel_rfl) 12 (by kernel_rfl) (by kernel_rfl) (fun _ _ _ h => h) (fun l w => stillS_at l w) (fun w h => stillS_w h) HC (Or.inl (Or.inl ⟨by rfl, ?_⟩)) HS ?_
                        rotate_left
                        · intro wx hx; subst hx
                          go_simp
                          try with_reducible rfl
                        clear HC HS
                        intro HC HS
                        try simp only [Act.put, List.setIfInBounds_toArray, List.set_cons_zero, List.set_cons_succ]
                        refine wpAnyL_stay (i := 35) (v := ?_) rfl (by kernel_rfl) 12 (by kernel_rfl) (by kernel_rfl) (fun _ _ _ h => h) (fun l w => stillS_at l w) (fun w h => stillS_w h) HC (Or.inl (Or.inl ⟨by rfl, ?_⟩)) HS ?_
                        rotate_left
                        · intro wx hx; subst hx
                          go_simp
                          try with_reducible rfl
                        clear HC HS
                        intro HC HS
                        try simp only [Act.put, List.setIfInBounds_toArray, List.set_cons_zero, List.set_cons_succ]
                        refine wpAnyL_stay (i := 36) (v := ?_) rfl (by kernel_rfl) 12 (by kernel_rfl) (by kernel_rfl) (fun _ _ _ h => h) (fun l w => stillS_at l w) (fun w h => stillS_w h) HC (Or.inl (Or.inl ⟨by rfl, ?_⟩)) HS ?_
                        rotate_left
                        · intro wx hx; subst hx
                          go_simp
                          try with_reducible rfl
                        clear HC HS
                        intro HC HS
                        try simp only [Act.put, List.setIfInBounds_toArray, List.set_cons_zero, List.set_cons_succ]
                        refine wpAnyL_stay (i := 37) (v := ?_) rfl (by kernel_rfl) 12 (by kernel_rfl) (by kernel_rfl) (fun _ _ _ h => h) (fun l w => stillS_at l w) (fun w h => stillS_w h) HC (Or.inl (Or.inl ⟨by rfl, ?_⟩)) HS ?_
                        rotate_left
                        · intro wx hx; subst hx
                          go_simp
                          try with_reducible rfl
                        clear HC HS
                        intro HC HS
                        try simp only [Act.put, List.setIfInBounds_toArray, List.set_cons_zero, List.set_cons_succ]
                        refine wpAnyL_stay (i := 38) (v := _) rfl (by kernel_rfl) 12 (by kernel_rfl) (by kernel_rfl) (fun _ _ _ h => h) (fun l w => stillS_at l w) (fun w h => stillS_w h) HC (Or.inr ⟨by rfl, 54, #[.int .i64 (ay - bz), .int .i64 (bz - ay)], ?_, by with_reducible exact (Cn.out _)⟩) HS ?_
                        · go_simp
                          try with_reducible rfl
                        clear HC HS
                        intro HC HS
                        try simp only [Act.put, List.setIfInBounds_toArray, List.set_cons_zero, List.set_cons_succ]
                        refine wpAnyL_stay (i := 39) (v := ?_) rfl (by kernel_rfl) 12 (by kernel_rfl) (by kernel_rfl) (fun _ _ _ h => h) (fun l w => stillS_at l w) (fun w h => stillS_w h) HC (Or.inl (Or.inl ⟨by rfl, ?_⟩)) HS ?_
                        rotate_left
                        · intro wx hx; subst hx
                          go_simp
                          try with_reducible rfl
                        clear HC HS
                        intro HC HS
                        try simp only [Act.put, List.setIfInBounds_toArray, List.set_cons_zero, List.set_cons_succ]
                        refine wpAnyL_stay (i := 40) (v := ?_) rfl (by kernel_rfl) 12 (by kernel_rfl) (by kernel_rfl) (fun _ _ _ h => h) (fun l w => stillS_at l w) (fun w h => stillS_w h) HC (Or.inl (Or.inl ⟨by rfl, ?_⟩)) HS ?_
                        rotate_left
                        · intro wx hx; subst hx
                          go_simp
                          try with_reducible rfl
                        clear HC HS
                        intro HC HS
                        try simp only [Act.put, List.setIfInBounds_toArray, List.set_cons_zero, List.set_cons_succ]
                        refine wpAnyL_stay (i := 41) (v := ?_) rfl (by kernel_rfl) 12 (by kernel_rfl) (by kernel_rfl) (fun _ _ _ h => h) (fun l w => stillS_at l w) (fun w h => stillS_w h) HC (Or.inl (Or.inl ⟨by rfl, ?_⟩)) HS ?_
                        rotate_left
                        · intro wx hx; subst hx
                          go_simp
                          try with_reducible rfl
                        clear HC HS
                        intro HC HS
                        try simp only [Act.put, List.setIfInBounds_toArray, List.set_cons_zero, List.set_cons_succ]
                        refine wpAnyL_stay (i := 42) (v := ?_) rfl (by kernel_rfl) 12 (by kernel_rfl) (by kernel_rfl) (fun _ _ _ h => h) (fun l w => stillS_at l w) (fun w h => stillS_w h) HC (Or.inl (Or.inl ⟨by rfl, ?_⟩)) HS ?_
                        rotate_left
                        · intro wx hx; subst hx
                          go_simp
                          try with_reducible rfl
                        clear HC HS
                        intro HC HS
                        try simp only [Act.put, List.setIfInBounds_toArray, List.set_cons_zero, List.set_cons_succ]
                        refine wpAnyL_stay (i := 43) (v := ?_) rfl (by kernel_rfl) 12 (by kernel_rfl) (by kernel_rfl) (fun _ _ _ h => h) (fun l w => stillS_at l w) (fun w h => stillS_w h) HC (Or.inl (Or.inl ⟨by rfl, ?_⟩)) HS ?_
                        rotate_left
                        · intro wx hx; subst hx
                          go_simp
                          try with_reducible rfl
                        clear HC HS
                        intro HC HS
                        try simp only [Act.put, List.setIfInBounds_toArray, List.set_cons_zero, List.set_cons_succ]
                        refine wpAnyL_stay (i := 44) (v := ?_) rfl (by kernel_rfl) 12 (by kernel_rfl) (by kernel_rfl) (fun _ _ _ h => h) (fun l w => stillS_at l w) (fun w h => stillS_w h) HC (Or.inl (Or.inl ⟨by rfl, ?_⟩)) HS ?_
                        rotate_left
                        · intro wx hx; subst hx
                          go_simp
                          try with_reducible rfl
                        clear HC HS
                        intro HC HS
                        try simp only [Act.put, List.setIfInBounds_toArray, List.set_cons_zero, List.set_cons_succ]
                        refine wpAnyL_stay (i := 45) (v := ?_) rfl (by kernel_rfl) 12 (by kernel_rfl) (by kernel_rfl) (fun _ _ _ h => h) (fun l w => stillS_at l w) (fun w h => stillS_w h) HC (Or.inl (Or.inl ⟨by rfl, ?_⟩)) HS ?_
                        rotate_left
                        · intro wx hx; subst hx
                          go_simp
                          try with_reducible rfl
                        clear HC HS
                        intro HC HS
                        try simp only [Act.put, List.setIfInBounds_toArray, List.set_cons_zero, List.set_cons_succ]
                        refine wpAnyL_done (by kernel_rfl) ?_
                        clear HC HS
                        clear b0 b1 d0 d1' cb0 cb1 cd0 cd1
                        go_wp2_with fail
                        generalize wr.drew = wa at *
                        obtain ⟨N, eN⟩ : ∃ N, stepN (ax, ay) (bx, bz) = N := ⟨_, rfl⟩
                        have hN16 : N ≤ 16 := eN ▸ stepN_le Hca.out Hcb.out
                        have hb1 := Hbx.out
                        have hb2 := Hbz.out
                        rw [eN, Edx.out] at hb1
                        rw [eN, Edy.out] at hb2
                        have hst : wayT v N = stepT (ax, ay) (bx, bz) := eN ▸ wayT_stepT Hwc.out
                        have hnx : ∀ s : Nat, s < N → ¬ (ax + (s : Int) * dx = bx ∧ ay + (s : Int) * dy = bz) := fun s h e => walk_ne hv4 h ax ay (by rw [Edx.out, Edy.out, ← hb1, ← hb2]; exact e)
                        have hin : ∀ s : Nat, s ≤ N → (-16 ≤ (s : Int) * dx ∧ (s : Int) * dx ≤ 16) ∧ -16 ≤ (s : Int) * dy ∧ (s : Int) * dy ≤ 16 := fun s h => by
                          have := walk_in hv4 h hN16
                          rwa [Edx.out, Edy.out] at this
                        obtain ⟨B0, eB⟩ : ∃ B, rfN l k = B := ⟨_, rfl⟩
                        rw [eB] at r2
                        have rr0 : WkRel ax ay dx dy bx bz ta tb B0 n v w5 wa (.slice (some ⟨g1, 0, none⟩) n d1) 0 := ⟨by rw [wayT_zero]; exact r2, by simpa using A2, Bb2, fun g e => by have e2 : g1 = g := Option.some.inj e; exact ⟨by omega, by omega⟩⟩
                        clear r2 A2 Bb2 epx epy hpx hpy hw1 hw2 hw3 hw4 hw5 hw6 hw7 hw8 hx2 hx3 hx4 hy2 hy3 hy4
                        clear Hx Hy Cm Cn Hok Emx Emy
                        have Rr0 := Lib.hid rr0; clear rr0
                        have Hst := Lib.hid hst; clear hst
                        have Hnx := Lib.hid hnx; clear hnx
                        have Hin := Lib.hid hin; clear hin
                        have EB := Lib.hid eB; clear eB
                        have EN := Lib.hid eN; clear eN
                        have Hb1 := Lib.hid hb1; clear hb1
                        have Hb2 := Lib.hid hb2; clear hb2
                        have hws : ∃ h : v < (⟨#[114, 100, 108, 117]⟩ : ByteArray).size, (⟨#[114, 100, 108, 117]⟩ : ByteArray)[v] = wayC v := wayC_at hv4
                        generalize (⟨#[114, 100, 108, 117]⟩ : ByteArray) = ws at *
                        obtain ⟨hws, hwv⟩ := hws
                        have Hwv := Lib.hid hwv; clear hwv
                        go_loopw [5] (fun sv wr => ∃ s : Nat, s ≤ N ∧ WkRel ax ay dx dy bx bz ta tb B0 n v w5 wr sv s) (fun sv _ => n + N - lenOfV sv)
                        case atStart => exact ⟨0, Nat.zero_le _, Rr0.out⟩
                        case round =>
                          clear Rr0
                          obtain ⟨s, hs, r⟩ := hrel
                          obtain ⟨g, d, rfl, ho⟩ := r.rel.own
                          obtain ⟨hg2, hg3⟩ := r.ne g rfl
                          have A := r.atA
                          have Bb := r.atB
                          have hi1 := Hin.out s hs
                          have hwx : ((s + 1 : Nat) : Int) * dx = (s : Int) * dx + dx := walk_next s dx
                          have hwy : ((s + 1 : Nat) : Int) * dy = (s : Int) * dy + dy := walk_next s dy
                          have hd1 : dx = -1 ∨ dx = 0 ∨ dx = 1 := by rw [← Edx.out]; unfold dX; split <;> (try split) <;> simp
                          have hd2 : dy = -1 ∨ dy = 0 ∨ dy = 1 := by rw [← Edy.out]; unfold dY; split <;> (try split) <;> simp
                          have hnx2 := Hnx.out s
                          have hrl := r.rel
                          clear r
                          obtain ⟨qx, eqx⟩ : ∃ q, (s : Int) * dx = q := ⟨_, rfl⟩
                          obtain ⟨qy, eqy⟩ : ∃ q, (s : Int) * dy = q := ⟨_, rfl⟩
                          rw [eqx] at A hi1 hwx hnx2
                          rw [eqy] at A hi1 hwy hnx2
                          have a0 := A.cell 0 rfl
                          have a1 := A.cell 1 rfl
                          have c0 := Bb.cell 0 rfl
                          have c1 := Bb.cell 1 rfl
                          by_cases hlt : s < N
                          ·
                            as_aux_lemma =>
                              have hnx3 := hnx2 hlt
                              have hnx4 : (decide (ax + qx = bx) && decide (ay + qy = bz)) = false := by rw [Bool.and_eq_false_iff, decide_eq_false_iff_not, decide_eq_false_iff_not]; omega
                              have hnx5 : ((ax + qx == bx) && (ay + qy == bz)) = false := by rw [Bool.and_eq_false_iff, beq_eq_false_iff_ne, beq_eq_false_iff_ne]; omega
                              have hsz := hrl.since.size
                              have hx1 : IntKind.i64.wrap (ax + qx + dx) = ax + qx + dx := IntWalk.i64_in _ (by omega)
                              have hy1 : IntKind.i64.wrap (ay + qy + dy) = ay + qy + dy := IntWalk.i64_in _ (by omega)
                              have hax : ax + ((s + 1 : Nat) : Int) * dx = ax + qx + dx := by rw [hwx]; omega
                              have hay : ay + ((s + 1 : Nat) : Int) * dy = ay + qy + dy := by rw [hwy]; omega
                              have hg5 := own_ge ho g rfl
                              clear hd1 hd2 hnx2
                              have Hwx := Lib.hid hwx; clear hwx
                              have Hwy := Lib.hid hwy; clear hwy
                              have Eqx := Lib.hid eqx; clear eqx
                              have Eqy := Lib.hid eqy; clear eqy
                              have Hax := Lib.hid hax; clear hax
                              have Hay := Lib.hid hay; clear hay
                              have hyx : ax + qx = bx → ¬ ay + qy = bz := fun h h' => hnx3 ⟨h, h'⟩
                              by_cases hxx : ax + qx = bx
                              all_goals (try have hyy := hyx hxx)
                              all_goals clear hyx
                              all_goals go_wp2_with (at_builtin; refine wpList_push rfl _ _ 76 rfl w5.heap.size 5 (.int .u8 0) 1 1 Try.underlying76 info_u8b rfl (by decide) (.slice (some ⟨g, 0, none⟩) (n + s) d) (n + s) _ rfl ho _ 1 rfl rfl (one_int _ _) (by omega) (by simp [maxLen]; omega) hsz ?_; intro g' cap w2 O1 hgr hat hlt2)
                              all_goals
                                first | clear hxx hyy | clear hxx
                                have A1 := A.grown hgr (fun e => hg2 (Option.some.inj e).symm)
                                have B1 := Bb.grown hgr (fun e => hg3 (Option.some.inj e).symm)
                                have hg4 : g' ≠ ta ∧ g' ≠ tb := by
                                  have h1 := A.lt
                                  have h2 := Bb.lt
                                  rcases hat with h | h
                                  · have h3 : g = g' := Option.some.inj h
                                    exact ⟨by omega, by omega⟩
                                  · exact ⟨by omega, by omega⟩
                                have rl1 : ByRel (B0 ++ wayT v (s + 1)) (n + s + 1) w5 (.slice (some ⟨g', 0, none⟩) (n + s + 1) cap) w2 := ⟨⟨g', cap, rfl, by rw [byteCs_push, ← Hwv.out]; exact O1⟩, hrl.since.grown hgr hg5⟩
                                clear a0 a1 c0 c1 O1 hgr hat hlt2 A Bb hrl ho hsz
                                obtain ⟨hg6, hg7⟩ := hg4
                                have Q0 := A1.cell 0 rfl
                                have F0 := A1.frozen 0
                                have Rl1 := Lib.hid rl1; clear rl1
                                go_still_tail 6, (by kernel_rfl)
                                still_call (Cx.out _)
                                repeat still_step
                                refine wpStill_nil ?_
                                change wpList _ _ _ _ _ w2.drew
                                have A2 : Blk ((w2.setCell ⟨ta, 0, none⟩ (.int .i64 (ax + qx + dx))).drew) ta #[.int .i64 (ax + qx + dx), .int .i64 (ay + qy)] 28 := (A1.set 0 _).bl (bl_drew _)
                                have B2 : Blk ((w2.setCell ⟨ta, 0, none⟩ (.int .i64 (ax + qx + dx))).drew) tb #[.int .i64 bx, .int .i64 bz] 28 := (B1.other (a := ⟨ta, 0, none⟩) (by simp; omega) _).bl (bl_drew _)
                                have rl2 : ByRel (B0 ++ wayT v (s + 1)) (n + s + 1) w5 (.slice (some ⟨g', 0, none⟩) (n + s + 1) cap) ((w2.setCell ⟨ta, 0, none⟩ (.int .i64 (ax + qx + dx))).drew) :=
                                  (Rl1.out.other (a := ⟨ta, 0, none⟩) (fun g e => by have e2 : g' = g := Option.some.inj e; exact e2 ▸ hg6) hta5 _).bl (bl_drew _)
                                have Rl2 := Lib.hid rl2; clear rl2
                                go_upto_region 20 with (fail)
                                clear Q0 F0
                                generalize (w2.setCell ⟨ta, 0, none⟩ (.int .i64 (ax + qx + dx))).drew = wb at *
                                clear A1 B1 Rl1
                                have Q0 := A2.cell 1 rfl
                                have F0 := A2.frozen 1
                                go_still_tail 6, (by kernel_rfl)
                                still_call (Cy.out _)
                                repeat still_step
                                refine wpStill_nil ?_
                                change wpList _ _ _ _ _ wb.drew
                                have A3 : Blk ((wb.setCell ⟨ta, 1, none⟩ (.int .i64 (ay + qy + dy))).drew) ta #[.int .i64 (ax + qx + dx), .int .i64 (ay + qy + dy)] 28 := (A2.set 1 _).bl (bl_drew _)
                                have B3 : Blk ((wb.setCell ⟨ta, 1, none⟩ (.int .i64 (ay + qy + dy))).drew) tb #[.int .i64 bx, .int .i64 bz] 28 := (B2.other (a := ⟨ta, 1, none⟩) (by simp; omega) _).bl (bl_drew _)
                                have rl3 : ByRel (B0 ++ wayT v (s + 1)) (n + s + 1) w5 (.slice (some ⟨g', 0, none⟩) (n + s + 1) cap) ((wb.setCell ⟨ta, 1, none⟩ (.int .i64 (ay + qy + dy))).drew) :=
                                  (Rl2.out.other (a := ⟨ta, 1, none⟩) (fun g e => by have e2 : g' = g := Option.some.inj e; exact e2 ▸ hg6) hta5 _).bl (bl_drew _)
                                have r4 : WkRel ax ay dx dy bx bz ta tb B0 n v w5 ((wb.setCell ⟨ta, 1, none⟩ (.int .i64 (ay + qy + dy))).drew) (.slice (some ⟨g', 0, none⟩) (n + s + 1) cap) (s + 1) :=
                                  ⟨rl3, by rw [Hax.out, Hay.out]; exact A3, B3, fun g e => by have e2 : g' = g := Option.some.inj e; exact e2 ▸ ⟨hg6, hg7⟩⟩
                                have R4 := Lib.hid r4; clear r4
                                clear rl3 A3 B3 A2 B2
                                go_wp2
                                go_roundw
                                case rel => exact ⟨s + 1, hlt, R4.out⟩
                                case measure => simp [lenOfV]; omega
                          ·
                            as_aux_lemma =>
                              obtain rfl : s = N := by omega
                              have hb1 := Hb1.out
                              have hb2 := Hb2.out
                              rw [eqx] at hb1
                              rw [eqy] at hb2
                              have hrA : rfA l (k + 1) = true := by rw [HAs.out, hA.out, Hal.out]; rfl
                              have hrN : rfN l (k + 1) = B0 ++ wayT v s := by rw [Hsu.out, EB.out, Hst.out]
                              have hrS : n + s = (rfN l (k + 1)).size := by rw [hrN, ByteArray.size_append, wayT_size, ← EB.out, ← HN.out]
                              subst hb1 hb2
                              have Hwx := Lib.hid hwx; clear hwx
                              have Hwy := Lib.hid hwy; clear hwy
                              have Eqx := Lib.hid eqx; clear eqx
                              have Eqy := Lib.hid eqy; clear eqy
                              have HrA := Lib.hid hrA; clear hrA
                              have HrN := Lib.hid hrN; clear hrN
                              have HrS := Lib.hid hrS; clear hrS
                              have Hrl := Lib.hid hrl; clear hrl
                              clear hnx2
                              go_wp2
                              go_roundw
                              case rel => exact ⟨k + 1, n + s, by omega, by omega, by go_num, Lib.hid HrA.out, Lib.hid HrS.out, by rw [HrN.out]; exact Hrl.out⟩
                              case measure => simp [intOf]; omega
                    ·
                      as_aux_lemma =>
                        have hf : okW (ax, ay) (bx, bz) v = false := by rw [hok, decide_eq_true hx, decide_eq_false hy]; rfl
                        have hx2 : ((ax + px : Int) == bx) = true := by rw [beq_iff_eq]; exact hx
                        have hx3 : ((ax + px : Int) != bx) = false := by rw [bne, hx2]; rfl
                        have hx4 : decide (ax + px = bx) = true := decide_eq_true hx
                        have hy2 : ((ay + py : Int) == bz) = false := by rw [beq_eq_false_iff_ne]; exact hy
                        have hy3 : ((ay + py : Int) != bz) = true := by rw [bne, hy2]; rfl
                        have hy4 : decide (ay + py = bz) = false := decide_eq_false hy
                        have hn2 : ∀ u : Nat, u < v + 1 → okW (ax, ay) (bx, bz) u = false := fun u h => by
                          by_cases e : u = v
                          · rw [e]; exact hf
                          · exact hno.out u (by omega)
                        have Cx := Lib.hid cx; clear cx
                        have Cy := Lib.hid cy; clear cy
                        have Cm := Lib.hid cm; clear cm
                        have Cn := Lib.hid cn; clear cn
                        have Hok := Lib.hid hok; clear hok
                        have Hn2 := Lib.hid hn2; clear hn2
                        have Emx := Lib.hid emx; clear emx
                        have Emy := Lib.hid emy; clear emy
                        have Edx := Lib.hid edx; clear edx
                        have Edy := Lib.hid edy; clear edy
                        have Hf := Lib.hid hf; clear hf
                        have Hx := Lib.hid hx; clear hx
                        clear r1 A Bb hdx hdy
                        go_upto_region 13 with (fail)
                        refine wp_region_l (S := StillS (wr.drew)) 46 rfl (by kernel_rfl) rfl ?_
                        intro HC HS
                        refine wpAnyL_stay (i := 0) (v := ?_) rfl (by kernel_rfl) 12 (by kernel_rfl) (by kernel_rfl) (fun _ _ _ h => h) (fun l w => stillS_at l w) (fun w h => stillS_w h) HC (Or.inl (Or.inl ⟨by rfl, ?_⟩)) HS ?_
                        rotate_left
                        · intro wx hx; subst hx
                          go_simp
                          try with_reducible rfl
                        clear HC HS
                        intro HC HS
                        try simp only [Act.put, List.setIfInBounds_toArray, List.set_cons_zero, List.set_cons_succ]
                        refine wpAnyL_stay (i := 1) (v := ?_) rfl (by kernel_rfl) 12 (by kernel_rfl) (by kernel_rfl) (fun _ _ _ h => h) (fun l w => stillS_at l w) (fun w h => stillS_w h) HC (Or.inl (Or.inl ⟨by rfl, ?_⟩)) HS ?_
                        rotate_left
                        · intro wx hx; subst hx
                          go_simp
                          try with_reducible rfl
                        clear HC HS
                        intro HC HS
                        try simp only [Act.put, List.setIfInBounds_toArray, List.set_cons_zero, List.set_cons_succ]
                        refine wpAnyL_stay (i := 2) (v := ?_) rfl (by kernel_rfl) 12 (by kernel_rfl) (by kernel_rfl) (fun _ _ _ h => h) (fun l w => stillS_at l w) (fun w h => stillS_w h) HC (Or.inl (Or.inl ⟨by rfl, ?_⟩)) HS ?_
                        rotate_left
                        · intro wx hx; subst hx
                          go_simp
                          try with_reducible rfl
                        clear HC HS
                        intro HC HS
                        try simp only [Act.put, List.setIfInBounds_toArray, List.set_cons_zero, List.set_cons_succ]
                        refine wpAnyL_stay (i := 3) (v := ?_) rfl (by kernel_rfl) 12 (by kernel_rfl) (by kernel_rfl) (fun _ _ _ h => h) (fun l w => stillS_at l w) (fun w h => stillS_w h) HC (Or.inl (Or.inl ⟨by rfl, ?_⟩)) HS ?_
                        rotate_left
                        · intro wx hx; subst hx
                          go_simp
                          try with_reducible rfl
                        clear HC HS
                        intro HC HS
                        try simp only [Act.put, List.setIfInBounds_toArray, List.set_cons_zero, List.set_cons_succ]
                        refine wpAnyL_stay (i := 4) (v := ?_) rfl (by kernel_rfl) 12 (by kernel_rfl) (by kernel_rfl) (fun _ _ _ h => h) (fun l w => stillS_at l w) (fun w h => stillS_w h) HC (Or.inl (Or.inl ⟨by rfl, ?_⟩)) HS ?_
                        rotate_left
                        · intro wx hx; subst hx
                          go_simp
                          try with_reducible rfl
                        clear HC HS
                        intro HC HS
                        try simp only [Act.put, List.setIfInBounds_toArray, List.set_cons_zero, List.set_cons_succ]
                        refine wpAnyL_stay (i := 5) (v := ?_) rfl (by kernel_rfl) 12 (by kernel_rfl) (by kernel_rfl) (fun _ _ _ h => h) (fun l w => stillS_at l w) (fun w h => stillS_w h) HC (Or.inl (Or.inl ⟨by rfl, ?_⟩)) HS ?_
                        rotate_left
                        · intro wx hx; subst hx
                          go_simp
                          try with_reducible rfl
                        clear HC HS
                        intro HC HS
                        try simp only [Act.put, List.setIfInBounds_toArray, List.set_cons_zero, List.set_cons_succ]
                        refine wpAnyL_stay (i := 6) (v := _) rfl (by kernel_rfl) 12 (by kernel_rfl) (by kernel_rfl) (fun _ _ _ h => h) (fun l w => stillS_at l w) (fun w h => stillS_w h) HC (Or.inr ⟨by rfl, 49, #[.int .i64 (v : Int)], ?_, by with_reducible exact (Cx.out _)⟩) HS ?_
                        · go_simp
                          try with_reducible rfl
                        clear HC HS
                        intro HC HS
                        try simp only [Act.put, List.setIfInBounds_toArray, List.set_cons_zero, List.set_cons_succ]
                        refine wpAnyL_stay (i := 7) (v := ?_) rfl (by kernel_rfl) 12 (by kernel_rfl) (by kernel_rfl) (fun _ _ _ h => h) (fun l w => stillS_at l w) (fun w h => stillS_w h) HC (Or.inl (Or.inl ⟨by rfl, ?_⟩)) HS ?_
                        rotate_left
                        · intro wx hx; subst hx
                          go_simp
                          try with_reducible rfl
                        clear HC HS
                        intro HC HS
                        try simp only [Act.put, List.setIfInBounds_toArray, List.set_cons_zero, List.set_cons_succ]
                        refine wpAnyL_stay (i := 8) (v := ?_) rfl (by kernel_rfl) 12 (by kernel_rfl) (by kernel_rfl) (fun _ _ _ h => h) (fun l w => stillS_at l w) (fun w h => stillS_w h) HC (Or.inl (Or.inl ⟨by rfl, ?_⟩)) HS ?_
                        rotate_left
                        · intro wx hx; subst hx
                          go_simp
                          try with_reducible rfl
                        clear HC HS
                        intro HC HS
                        try simp only [Act.put, List.setIfInBounds_toArray, List.set_cons_zero, List.set_cons_succ]
                        refine wpAnyL_stay (i := 9) (v := ?_) rfl (by kernel_rfl) 12 (by kernel_rfl) (by kernel_rfl) (fun _ _ _ h => h) (fun l w => stillS_at l w) (fun w h => stillS_w h) HC (Or.inl (Or.inl ⟨by rfl, ?_⟩)) HS ?_
                        rotate_left
                        · intro wx hx; subst hx
                          go_simp
                          try with_reducible rfl
                        clear HC HS
                        intro HC HS
                        try simp only [Act.put, List.setIfInBounds_toArray, List.set_cons_zero, List.set_cons_succ]
                        refine wpAnyL_stay (i := 10) (v := ?_) rfl (by kernel_rfl) 12 (by kernel_rfl) (by kernel_rfl) (fun _ _ _ h => h) (fun l w => stillS_at l w) (fun w h => stillS_w h) HC (Or.inl (Or.inl ⟨by rfl, ?_⟩)) HS ?_
                        rotate_left
                        · intro wx hx; subst hx
                          go_simp
                          try with_reducible rfl
                        clear HC HS
                        intro HC HS
                        try simp only [Act.put, List.setIfInBounds_toArray, List.set_cons_zero, List.set_cons_succ]
                        refine wpAnyL_stay (i := 11) (v := ?_) rfl (by kernel_rfl) 12 (by kernel_rfl) (by kernel_rfl) (fun _ _ _ h => h) (fun l w => stillS_at l w) (fun w h => stillS_w h) HC (Or.inl (Or.inl ⟨by rfl, ?_⟩)) HS ?_
                        rotate_left
                        · intro wx hx; subst hx
                          go_simp
                          try with_reducible rfl
                        clear HC HS
                        intro HC HS
                        try simp only [Act.put, List.setIfInBounds_toArray, List.set_cons_zero, List.set_cons_succ]
                        refine wpAnyL_stay (i := 12) (v := ?_) rfl (by kernel_rfl) 12 (by kernel_rfl) (by kernel_rfl) (fun _ _ _ h => h) (fun l w => stillS_at l w) (fun w h => stillS_w h) HC (Or.inl (Or.inl ⟨by rfl, ?_⟩)) HS ?_
                        rotate_left
                        · intro wx hx; subst hx
                          go_simp
                          try with_reducible rfl
                        clear HC HS
                        intro HC HS
                        try simp only [Act.put, List.setIfInBounds_toArray, List.set_cons_zero, List.set_cons_succ]
                        refine wpAnyL_stay (i := 13) (v := ?_) rfl (by kernel_rfl) 12 (by kernel_rfl) (by kernel_rfl) (fun _ _ _ h => h) (fun l w => stillS_at l w) (fun w h => stillS_w h) HC (Or.inl (Or.inl ⟨by rfl, ?_⟩)) HS ?_
                        rotate_left
                        · intro wx hx; subst hx
                          go_simp
                          try with_reducible rfl
                        clear HC HS
                        intro HC HS
                        try simp only [Act.put, List.setIfInBounds_toArray, List.set_cons_zero, List.set_cons_succ]
                        refine wpAnyL_stay (i := 14) (v := ?_) rfl (by kernel_rfl) 12 (by kernel_rfl) (by kernel_rfl) (fun _ _ _ h => h) (fun l w => stillS_at l w) (fun w h => stillS_w h) HC (Or.inl (Or.inl ⟨by rfl, ?_⟩)) HS ?_
                        rotate_left
                        · intro wx hx; subst hx
                          go_simp
                          try with_reducible rfl
                        clear HC HS
                        intro HC HS
                        try simp only [Act.put, List.setIfInBounds_toArray, List.set_cons_zero, List.set_cons_succ]
                        refine wpAnyL_stay (i := 15) (v := ?_) rfl (by kernel_rfl) 12 (by kernel_rfl) (by kernel_rfl) (fun _ _ _ h => h) (fun l w => stillS_at l w) (fun w h => stillS_w h) HC (Or.inl (Or.inl ⟨by rfl, ?_⟩)) HS ?_
                        rotate_left
                        · intro wx hx; subst hx
                          go_simp
                          try with_reducible rfl
                        clear HC HS
                        intro HC HS
                        try simp only [Act.put, List.setIfInBounds_toArray, List.set_cons_zero, List.set_cons_succ]
                        refine wpAnyL_stay (i := 16) (v := ?_) rfl (by kernel_rfl) 12 (by kernel_rfl) (by kernel_rfl) (fun _ _ _ h => h) (fun l w => stillS_at l w) (fun w h => stillS_w h) HC (Or.inl (Or.inl ⟨by rfl, ?_⟩)) HS ?_
                        rotate_left
                        · intro wx hx; subst hx
                          go_simp
                          try with_reducible rfl
                        clear HC HS
                        intro HC HS
                        try simp only [Act.put, List.setIfInBounds_toArray, List.set_cons_zero, List.set_cons_succ]
                        refine wpAnyL_stay (i := 17) (v := _) rfl (by kernel_rfl) 12 (by kernel_rfl) (by kernel_rfl) (fun _ _ _ h => h) (fun l w => stillS_at l w) (fun w h => stillS_w h) HC (Or.inr ⟨by rfl, 54, #[.int .i64 (ax - bx), .int .i64 (bx - ax)], ?_, by with_reducible exact (Cm.out _)⟩) HS ?_
                        · go_simp
                          try with_reducible rfl
                        clear HC HS
                        intro HC HS
                        try simp only [Act.put, List.setIfInBounds_toArray, List.set_cons_zero, List.set_cons_succ]
                        refine wpAnyL_stay (i := 18) (v := ?_) rfl (by kernel_rfl) 12 (by kernel_rfl) (by kernel_rfl) (fun _ _ _ h => h) (fun l w => stillS_at l w) (fun w h => stillS_w h) HC (Or.inl (Or.inl ⟨by rfl, ?_⟩)) HS ?_
                        rotate_left
                        · intro wx hx; subst hx
                          go_simp
                          try with_reducible rfl
                        clear HC HS
                        intro HC HS
                        try simp only [Act.put, List.setIfInBounds_toArray, List.set_cons_zero, List.set_cons_succ]
                        refine wpAnyL_stay (i := 19) (v := ?_) rfl (by kernel_rfl) 12 (by kernel_rfl) (by kernel_rfl) (fun _ _ _ h => h) (fun l w => stillS_at l w) (fun w h => stillS_w h) HC (Or.inl (Or.inl ⟨by rfl, ?_⟩)) HS ?_
                        rotate_left
                        · intro wx hx; subst hx
                          go_simp
                          try with_reducible rfl
                        clear HC HS
                        intro HC HS
                        try simp only [Act.put, List.setIfInBounds_toArray, List.set_cons_zero, List.set_cons_succ]
                        refine wpAnyL_stay (i := 20) (v := ?_) rfl (by kernel_rfl) 12 (by kernel_rfl) (by kernel_rfl) (fun _ _ _ h => h) (fun l w => stillS_at l w) (fun w h => stillS_w h) HC (Or.inl (Or.inl ⟨by rfl, ?_⟩)) HS ?_
                        rotate_left
                        · intro wx hx; subst hx
                          go_simp
                          try with_reducible rfl
                        clear HC HS
                        intro HC HS
                        try simp only [Act.put, List.setIfInBounds_toArray, List.set_cons_zero, List.set_cons_succ]
                        refine wpAnyL_stay (i := 21) (v := ?_) rfl (by kernel_rfl) 12 (by kernel_rfl) (by kernel_rfl) (fun _ _ _ h => h) (fun l w => stillS_at l w) (fun w h => stillS_w h) HC (Or.inl (Or.inl ⟨by rfl, ?_⟩)) HS ?_
                        rotate_left
                        · intro wx hx; subst hx
                          go_simp
                          try with_reducible rfl
                        clear HC HS
                        intro HC HS
                        try simp only [Act.put, List.setIfInBounds_toArray, List.set_cons_zero, List.set_cons_succ]
                        refine wpAnyL_stay (i := 22) (v := ?_) rfl (by kernel_rfl) 12 (by kernel_rfl) (by kernel_rfl) (fun _ _ _ h => h) (fun l w => stillS_at l w) (fun w h => stillS_w h) HC (Or.inl (Or.inl ⟨by rfl, ?_⟩)) HS ?_
                        rotate_left
                        · intro wx hx; subst hx
                          go_simp
                          try with_reducible rfl
                        clear HC HS
                        intro HC HS
                        try simp only [Act.put, List.setIfInBounds_toArray, List.set_cons_zero, List.set_cons_succ]
                        refine wpAnyL_stay (i := 23) (v := ?_) rfl (by kernel_rfl) 12 (by kernel_rfl) (by kernel_rfl) (fun _ _ _ h => h) (fun l w => stillS_at l w) (fun w h => stillS_w h) HC (Or.inl (Or.inl ⟨by rfl, ?_⟩)) HS ?_
                        rotate_left
                        · intro wx hx; subst hx
                          go_simp
                          try with_reducible rfl
                        clear HC HS
                        intro HC HS
                        try simp only [Act.put, List.setIfInBounds_toArray, List.set_cons_zero, List.set_cons_succ]
                        refine wpAnyL_stay (i := 24) (v := ?_) rfl (by kernel_rfl) 12 (by kernel_rfl) (by kernel_rfl) (fun _ _ _ h => h) (fun l w => stillS_at l w) (fun w h => stillS_w h) HC (Or.inl (Or.inl ⟨by rfl, ?_⟩)) HS ?_
                        rotate_left
                        · intro wx hx; subst hx
                          go_simp
                          try with_reducible rfl
                        clear HC HS
                        intro HC HS
                        try simp only [Act.put, List.setIfInBounds_toArray, List.set_cons_zero, List.set_cons_succ]
                        refine wpAnyL_stay (i := 25) (v := ?_) rfl (by kernel_rfl) 12 (by kernel_rfl) (by kernel_rfl) (fun _ _ _ h => h) (fun l w => stillS_at l w) (fun w h => stillS_w h) HC (Or.inl (Or.inl ⟨by rfl, ?_⟩)) HS ?_
                        rotate_left
                        · intro wx hx; subst hx
                          go_simp
                          try with_reducible rfl
                        clear HC HS
                        intro HC HS
                        try simp only [Act.put, List.setIfInBounds_toArray, List.set_cons_zero, List.set_cons_succ]
                        refine wpAnyL_stay (i := 26) (v := ?_) rfl (by kernel_rfl) 12 (by kernel_rfl) (by kernel_rfl) (fun _ _ _ h => h) (fun l w => stillS_at l w) (fun w h => stillS_w h) HC (Or.inl (Or.inl ⟨by rfl, ?_⟩)) HS ?_
                        rotate_left
                        · intro wx hx; subst hx
                          go_simp
                          try with_reducible rfl
                        clear HC HS
                        intro HC HS
                        try simp only [Act.put, List.setIfInBounds_toArray, List.set_cons_zero, List.set_cons_succ]
                        refine wpAnyL_stay (i := 27) (v := _) rfl (by kernel_rfl) 12 (by kernel_rfl) (by kernel_rfl) (fun _ _ _ h => h) (fun l w => stillS_at l w) (fun w h => stillS_w h) HC (Or.inr ⟨by rfl, 48, #[.int .i64 (v : Int)], ?_, by with_reducible exact (Cy.out _)⟩) HS ?_
                        · go_simp
                          try with_reducible rfl
                        clear HC HS
                        intro HC HS
                        try simp only [Act.put, List.setIfInBounds_toArray, List.set_cons_zero, List.set_cons_succ]
                        refine wpAnyL_stay (i := 28) (v := ?_) rfl (by kernel_rfl) 12 (by kernel_rfl) (by kernel_rfl) (fun _ _ _ h => h) (fun l w => stillS_at l w) (fun w h => stillS_w h) HC (Or.inl (Or.inl ⟨by rfl, ?_⟩)) HS ?_
                        rotate_left
                        · intro wx hx; subst hx
                          go_simp
                          try with_reducible rfl
                        clear HC HS
                        intro HC HS
                        try simp only [Act.put, List.setIfInBounds_toArray, List.set_cons_zero, List.set_cons_succ]
                        refine wpAnyL_stay (i := 29) (v := ?_) rfl (by kernel_rfl) 12 (by kernel_rfl) (by kernel_rfl) (fun _ _ _ h => h) (fun l w => stillS_at l w) (fun w h => stillS_w h) HC (Or.inl (Or.inl ⟨by rfl, ?_⟩)) HS ?_
                        rotate_left
                        · intro wx hx; subst hx
                          go_simp
                          try with_reducible rfl
                        clear HC HS
                        intro HC HS
                        try simp only [Act.put, List.setIfInBounds_toArray, List.set_cons_zero, List.set_cons_succ]
                        refine wpAnyL_stay (i := 30) (v := ?_) rfl (by kernel_rfl) 12 (by kernel_rfl) (by kernel_rfl) (fun _ _ _ h => h) (fun l w => stillS_at l w) (fun w h => stillS_w h) HC (Or.inl (Or.inl ⟨by rfl, ?_⟩)) HS ?_
                        rotate_left
                        · intro wx hx; subst hx
                          go_simp
                          try with_reducible rfl
                        clear HC HS
                        intro HC HS
                        try simp only [Act.put, List.setIfInBounds_toArray, List.set_cons_zero, List.set_cons_succ]
                        refine wpAnyL_stay (i := 31) (v := ?_) rfl (by kernel_rfl) 12 (by kernel_rfl) (by kernel_rfl) (fun _ _ _ h => h) (fun l w => stillS_at l w) (fun w h => stillS_w h) HC (Or.inl (Or.inl ⟨by rfl, ?_⟩)) HS ?_
                        rotate_left
                        · intro wx hx; subst hx
                          go_simp
                          try with_reducible rfl
                        clear HC HS
                        intro HC HS
                        try simp only [Act.put, List.setIfInBounds_toArray, List.set_cons_zero, List.set_cons_succ]
                        refine wpAnyL_stay (i := 32) (v := ?_) rfl (by kernel_rfl) 12 (by kernel_rfl) (by kernel_rfl) (fun _ _ _ h => h) (fun l w => stillS_at l w) (fun w h => stillS_w h) HC (Or.inl (Or.inl ⟨by rfl, ?_⟩)) HS ?_
                        rotate_left
                        · intro wx hx; subst hx
                          go_simp
                          try with_reducible rfl
                        clear HC HS
                        intro HC HS
                        try simp only [Act.put, List.setIfInBounds_toArray, List.set_cons_zero, List.set_cons_succ]
                        refine wpAnyL_stay (i := 33) (v := ?_) rfl (by kernel_rfl) 12 (by kernel_rfl) (by kernel_rfl) (fun _ _ _ h => h) (fun l w => stillS_at l w) (fun w h => stillS_w h) HC (Or.inl (Or.inl ⟨by rfl, ?_⟩)) HS ?_
                        rotate_left
                        · intro wx hx; subst hx
                          go_simp
                          try with_reducible rfl
                        clear HC HS
                        intro HC HS
                        try simp only [Act.put, List.setIfInBounds_toArray, List.set_cons_zero, List.set_cons_succ]
                        refine wpAnyL_stay (i := 34) (v := ?_) rfl (by kernel_rfl) 12 (by kernel_rfl) (by kernel_rfl) (fun _ _ _ h => h) (fun l w => stillS_at l w) (fun w h => stillS_w h) HC (Or.inl (Or.inl ⟨by rfl, ?_⟩)) HS ?_
                        rotate_left
                        · intro wx hx; subst hx
                          go_simp
                          try with_reducible rfl
                        clear HC HS
                        intro HC HS
                        try simp only [Act.put, List.setIfInBounds_toArray, List.set_cons_zero, List.set_cons_succ]
                        refine wpAnyL_stay (i := 35) (v := ?_) rfl (by kernel_rfl) 12 (by kernel_rfl) (by kernel_rfl) (fun _ _ _ h => h) (fun l w => stillS_at l w) (fun w h => stillS_w h) HC (Or.inl (Or.inl ⟨by rfl, ?_⟩)) HS ?_
                        rotate_left
                        · intro wx hx; subst hx
                          go_simp
                          try with_reducible rfl
                        clear HC HS
                        intro HC HS
                        try simp only [Act.put, List.setIfInBounds_toArray, List.set_cons_zero, List.set_cons_succ]
                        refine wpAnyL_stay (i := 36) (v := ?_) rfl (by kernel_rfl) 12 (by kernel_rfl) (by kernel_rfl) (fun _ _ _ h => h) (fun l w => stillS_at l w) (fun w h => stillS_w h) HC (Or.inl (Or.inl ⟨by rfl, ?_⟩)) HS ?_
                        rotate_left
                        · intro wx hx; subst hx
                          go_simp
                          try with_reducible rfl
                        clear HC HS
                        intro HC HS
                        try simp only [Act.put, List.setIfInBounds_toArray, List.set_cons_zero, List.set_cons_succ]
                        refine wpAnyL_stay (i := 37) (v := ?_) rfl (by kernel_rfl) 12 (by kernel_rfl) (by kernel_rfl) (fun _ _ _ h => h) (fun l w => stillS_at l w) (fun w h => stillS_w h) HC (Or.inl (Or.inl ⟨by rfl, ?_⟩)) HS ?_
                        rotate_left
                        · intro wx hx; subst hx
                          go_simp
                          try with_reducible rfl
                        clear HC HS
                        intro HC HS
                        try simp only [Act.put, List.setIfInBounds_toArray, List.set_cons_zero, List.set_cons_succ]
                        refine wpAnyL_stay (i := 38) (v := _) rfl (by kernel_rfl) 12 (by kernel_rfl) (by kernel_rfl) (fun _ _ _ h => h) (fun l w => stillS_at l w) (fun w h => stillS_w h) HC (Or.inr ⟨by rfl, 54, #[.int .i64 (ay - bz), .int .i64 (bz - ay)], ?_, by with_reducible exact (Cn.out _)⟩) HS ?_
                        · go_simp
                          try with_reducible rfl
                        clear HC HS
                        intro HC HS
                        try simp only [Act.put, List.setIfInBounds_toArray, List.set_cons_zero, List.set_cons_succ]
                        refine wpAnyL_stay (i := 39) (v := ?_) rfl (by kernel_rfl) 12 (by kernel_rfl) (by kernel_rfl) (fun _ _ _ h => h) (fun l w => stillS_at l w) (fun w h => stillS_w h) HC (Or.inl (Or.inl ⟨by rfl, ?_⟩)) HS ?_
                        rotate_left
                        · intro wx hx; subst hx
                          go_simp
                          try with_reducible rfl
                        clear HC HS
                        intro HC HS
                        try simp only [Act.put, List.setIfInBounds_toArray, List.set_cons_zero, List.set_cons_succ]
                        refine wpAnyL_stay (i := 40) (v := ?_) rfl (by kernel_rfl) 12 (by kernel_rfl) (by kernel_rfl) (fun _ _ _ h => h) (fun l w => stillS_at l w) (fun w h => stillS_w h) HC (Or.inl (Or.inl ⟨by rfl, ?_⟩)) HS ?_
                        rotate_left
                        · intro wx hx; subst hx
                          go_simp
                          try with_reducible rfl
                        clear HC HS
                        intro HC HS
                        try simp only [Act.put, List.setIfInBounds_toArray, List.set_cons_zero, List.set_cons_succ]
                        refine wpAnyL_stay (i := 41) (v := ?_) rfl (by kernel_rfl) 12 (by kernel_rfl) (by kernel_rfl) (fun _ _ _ h => h) (fun l w => stillS_at l w) (fun w h => stillS_w h) HC (Or.inl (Or.inl ⟨by rfl, ?_⟩)) HS ?_
                        rotate_left
                        · intro wx hx; subst hx
                          go_simp
                          try with_reducible rfl
                        clear HC HS
                        intro HC HS
                        try simp only [Act.put, List.setIfInBounds_toArray, List.set_cons_zero, List.set_cons_succ]
                        refine wpAnyL_stay (i := 42) (v := ?_) rfl (by kernel_rfl) 12 (by kernel_rfl) (by kernel_rfl) (fun _ _ _ h => h) (fun l w => stillS_at l w) (fun w h => stillS_w h) HC (Or.inl (Or.inl ⟨by rfl, ?_⟩)) HS ?_
                        rotate_left
                        · intro wx hx; subst hx
                          go_simp
                          try with_reducible rfl
                        clear HC HS
                        intro HC HS
                        try simp only [Act.put, List.setIfInBounds_toArray, List.set_cons_zero, List.set_cons_succ]
                        refine wpAnyL_stay (i := 43) (v := ?_) rfl (by kernel_rfl) 12 (by kernel_rfl) (by kernel_rfl) (fun _ _ _ h => h) (fun l w => stillS_at l w) (fun w h => stillS_w h) HC (Or.inl (Or.inl ⟨by rfl, ?_⟩)) HS ?_
                        rotate_left
                        · intro wx hx; subst hx
                          go_simp
                          try with_reducible rfl
                        clear HC HS
                        intro HC HS
                        try simp only [Act.put, List.setIfInBounds_toArray, List.set_cons_zero, List.set_cons_succ]
                        refine wpAnyL_stay (i := 44) (v := ?_) rfl (by kernel_rfl) 12 (by kernel_rfl) (by kernel_rfl) (fun _ _ _ h => h) (fun l w => stillS_at l w) (fun w h => stillS_w h) HC (Or.inl (Or.inl ⟨by rfl, ?_⟩)) HS ?_
                        rotate_left
                        · intro wx hx; subst hx
                          go_simp
                          try with_reducible rfl
                        clear HC HS
                        intro HC HS
                        try simp only [Act.put, List.setIfInBounds_toArray, List.set_cons_zero, List.set_cons_succ]
                        refine wpAnyL_stay (i := 45) (v := ?_) rfl (by kernel_rfl) 12 (by kernel_rfl) (by kernel_rfl) (fun _ _ _ h => h) (fun l w => stillS_at l w) (fun w h => stillS_w h) HC (Or.inl (Or.inl ⟨by rfl, ?_⟩)) HS ?_
                        rotate_left
                        · intro wx hx; subst hx
                          go_simp
                          try with_reducible rfl
                        clear HC HS
                        intro HC HS
                        try simp only [Act.put, List.setIfInBounds_toArray, List.set_cons_zero, List.set_cons_succ]
                        refine wpAnyL_done (by kernel_rfl) ?_
                        clear HC HS
                        clear b0 b1 d0 d1' cb0 cb1 cd0 cd1
                        go_wp2
                        go_roundw
                        case rel => exact ⟨v + 1, by omega, by go_num, Lib.hid Hn2.out, r2, A2, Bb2⟩
                        case measure => simp [intOf]; omega
                  ·
                    as_aux_lemma =>
                      have hf : okW (ax, ay) (bx, bz) v = false := by rw [hok, decide_eq_false hx]; rfl
                      have hx2 : ((ax + px : Int) == bx) = false := by rw [beq_eq_false_iff_ne]; exact hx
                      have hx3 : ((ax + px : Int) != bx) = true := by rw [bne, hx2]; rfl
                      have hx4 : decide (ax + px = bx) = false := decide_eq_false hx
                      have hn2 : ∀ u : Nat, u < v + 1 → okW (ax, ay) (bx, bz) u = false := fun u h => by
                        by_cases e : u = v
                        · rw [e]; exact hf
                        · exact hno.out u (by omega)
                      have Cx := Lib.hid cx; clear cx
                      have Cy := Lib.hid cy; clear cy
                      have Cm := Lib.hid cm; clear cm
                      have Cn := Lib.hid cn; clear cn
                      have Hok := Lib.hid hok; clear hok
                      have Hn2 := Lib.hid hn2; clear hn2
                      have Emx := Lib.hid emx; clear emx
                      have Emy := Lib.hid emy; clear emy
                      have Edx := Lib.hid edx; clear edx
                      have Edy := Lib.hid edy; clear edy
                      have Hf := Lib.hid hf; clear hf
                      clear r1 A Bb hdx hdy
                      go_upto_region 13 with (fail)
                      refine wp_region_l (S := StillS (wr.drew)) 46 rfl (by kernel_rfl) rfl ?_
                      intro HC HS
                      refine wpAnyL_stay (i := 0) (v := ?_) rfl (by kernel_rfl) 12 (by kernel_rfl) (by kernel_rfl) (fun _ _ _ h => h) (fun l w => stillS_at l w) (fun w h => stillS_w h) HC (Or.inl (Or.inl ⟨by rfl, ?_⟩)) HS ?_
                      rotate_left
                      · intro wx hx; subst hx
                        go_simp
                        try with_reducible rfl
                      clear HC HS
                      intro HC HS
                      try simp only [Act.put, List.setIfInBounds_toArray, List.set_cons_zero, List.set_cons_succ]
                      refine wpAnyL_stay (i := 1) (v := ?_) rfl (by kernel_rfl) 12 (by kernel_rfl) (by kernel_rfl) (fun _ _ _ h => h) (fun l w => stillS_at l w) (fun w h => stillS_w h) HC (Or.inl (Or.inl ⟨by rfl, ?_⟩)) HS ?_
                      rotate_left
                      · intro wx hx; subst hx
                        go_simp
                        try with_reducible rfl
                      clear HC HS
                      intro HC HS
                      try simp only [Act.put, List.setIfInBounds_toArray, List.set_cons_zero, List.set_cons_succ]
                      refine wpAnyL_stay (i := 2) (v := ?_) rfl (by kernel_rfl) 12 (by kernel_rfl) (by kernel_rfl) (fun _ _ _ h => h) (fun l w => stillS_at l w) (fun w h => stillS_w h) HC (Or.inl (Or.inl ⟨by rfl, ?_⟩)) HS ?_
                      rotate_left
                      · intro wx hx; subst hx
                        go_simp
                        try with_reducible rfl
                      clear HC HS
                      intro HC HS
                      try simp only [Act.put, List.setIfInBounds_toArray, List.set_cons_zero, List.set_cons_succ]
                      refine wpAnyL_stay (i := 3) (v := ?_) rfl (by kernel_rfl) 12 (by kernel_rfl) (by kernel_rfl) (fun _ _ _ h => h) (fun l w => stillS_at l w) (fun w h => stillS_w h) HC (Or.inl (Or.inl ⟨by rfl, ?_⟩)) HS ?_
                      rotate_left
                      · intro wx hx; subst hx
                        go_simp
                        try with_reducible rfl
                      clear HC HS
                      intro HC HS
                      try simp only [Act.put, List.setIfInBounds_toArray, List.set_cons_zero, List.set_cons_succ]
                      refine wpAnyL_stay (i := 4) (v := ?_) rfl (by kernel_rfl) 12 (by kernel_rfl) (by kernel_rfl) (fun _ _ _ h => h) (fun l w => stillS_at l w) (fun w h => stillS_w h) HC (Or.inl (Or.inl ⟨by rfl, ?_⟩)) HS ?_
                      rotate_left
                      · intro wx hx; subst hx
                        go_simp
                        try with_reducible rfl
                      clear HC HS
                      intro HC HS
                      try simp only [Act.put, List.setIfInBounds_toArray, List.set_cons_zero, List.set_cons_succ]
                      refine wpAnyL_stay (i := 5) (v := ?_) rfl (by kernel_rfl) 12 (by kernel_rfl) (by kernel_rfl) (fun _ _ _ h => h) (fun l w => stillS_at l w) (fun w h => stillS_w h) HC (Or.inl (Or.inl ⟨by rfl, ?_⟩)) HS ?_
                      rotate_left
                      · intro wx hx; subst hx
                        go_simp
                        try with_reducible rfl
                      clear HC HS
                      intro HC HS
                      try simp only [Act.put, List.setIfInBounds_toArray, List.set_cons_zero, List.set_cons_succ]
                      refine wpAnyL_stay (i := 6) (v := _) rfl (by kernel_rfl) 12 (by kernel_rfl) (by kernel_rfl) (fun _ _ _ h => h) (fun l w => stillS_at l w) (fun w h => stillS_w h) HC (Or.inr ⟨by rfl, 49, #[.int .i64 (v : Int)], ?_, by with_reducible exact (Cx.out _)⟩) HS ?_
                      · go_simp
                        try with_reducible rfl
                      clear HC HS
                      intro HC HS
                      try simp only [Act.put, List.setIfInBounds_toArray, List.set_cons_zero, List.set_cons_succ]
                      refine wpAnyL_stay (i := 7) (v := ?_) rfl (by kernel_rfl) 12 (by kernel_rfl) (by kernel_rfl) (fun _ _ _ h => h) (fun l w => stillS_at l w) (fun w h => stillS_w h) HC (Or.inl (Or.inl ⟨by rfl, ?_⟩)) HS ?_
                      rotate_left
                      · intro wx hx; subst hx
                        go_simp
                        try with_reducible rfl
                      clear HC HS
                      intro HC HS
                      try simp only [Act.put, List.setIfInBounds_toArray, List.set_cons_zero, List.set_cons_succ]
                      refine wpAnyL_stay (i := 8) (v := ?_) rfl (by kernel_rfl) 12 (by kernel_rfl) (by kernel_rfl) (fun _ _ _ h => h) (fun l w => stillS_at l w) (fun w h => stillS_w h) HC (Or.inl (Or.inl ⟨by rfl, ?_⟩)) HS ?_
                      rotate_left
                      · intro wx hx; subst hx
                        go_simp
                        try with_reducible rfl
                      clear HC HS
                      intro HC HS
                      try simp only [Act.put, List.setIfInBounds_toArray, List.set_cons_zero, List.set_cons_succ]
                      refine wpAnyL_stay (i := 9) (v := ?_) rfl (by kernel_rfl) 12 (by kernel_rfl) (by kernel_rfl) (fun _ _ _ h => h) (fun l w => stillS_at l w) (fun w h => stillS_w h) HC (Or.inl (Or.inl ⟨by rfl, ?_⟩)) HS ?_
                      rotate_left
                      · intro wx hx; subst hx
                        go_simp
                        try with_reducible rfl
                      clear HC HS
                      intro HC HS
                      try simp only [Act.put, List.setIfInBounds_toArray, List.set_cons_zero, List.set_cons_succ]
                      refine wpAnyL_stay (i := 10) (v := ?_) rfl (by kernel_rfl) 12 (by kernel_rfl) (by kernel_rfl) (fun _ _ _ h => h) (fun l w => stillS_at l w) (fun w h => stillS_w h) HC (Or.inl (Or.inl ⟨by rfl, ?_⟩)) HS ?_
                      rotate_left
                      · intro wx hx; subst hx
                        go_simp
                        try with_reducible rfl
                      clear HC HS
                      intro HC HS
                      try simp only [Act.put, List.setIfInBounds_toArray, List.set_cons_zero, List.set_cons_succ]
                      refine wpAnyL_stay (i := 11) (v := ?_) rfl (by kernel_rfl) 12 (by kernel_rfl) (by kernel_rfl) (fun _ _ _ h => h) (fun l w => stillS_at l w) (fun w h => stillS_w h) HC (Or.inl (Or.inl ⟨by rfl, ?_⟩)) HS ?_
                      rotate_left
                      · intro wx hx; subst hx
                        go_simp
                        try with_reducible rfl
                      clear HC HS
                      intro HC HS
                      try simp only [Act.put, List.setIfInBounds_toArray, List.set_cons_zero, List.set_cons_succ]
                      refine wpAnyL_stay (i := 12) (v := ?_) rfl (by kernel_rfl) 12 (by kernel_rfl) (by kernel_rfl) (fun _ _ _ h => h) (fun l w => stillS_at l w) (fun w h => stillS_w h) HC (Or.inl (Or.inl ⟨by rfl, ?_⟩)) HS ?_
                      rotate_left
                      · intro wx hx; subst hx
                        go_simp
                        try with_reducible rfl
                      clear HC HS
                      intro HC HS
                      try simp only [Act.put, List.setIfInBounds_toArray, List.set_cons_zero, List.set_cons_succ]
                      refine wpAnyL_stay (i := 13) (v := ?_) rfl (by kernel_rfl) 12 (by kernel_rfl) (by kernel_rfl) (fun _ _ _ h => h) (fun l w => stillS_at l w) (fun w h => stillS_w h) HC (Or.inl (Or.inl ⟨by rfl, ?_⟩)) HS ?_
                      rotate_left
                      · intro wx hx; subst hx
                        go_simp
                        try with_reducible rfl
                      clear HC HS
                      intro HC HS
                      try simp only [Act.put, List.setIfInBounds_toArray, List.set_cons_zero, List.set_cons_succ]
                      refine wpAnyL_stay (i := 14) (v := ?_) rfl (by kernel_rfl) 12 (by kernel_rfl) (by kernel_rfl) (fun _ _ _ h => h) (fun l w => stillS_at l w) (fun w h => stillS_w h) HC (Or.inl (Or.inl ⟨by rfl, ?_⟩)) HS ?_
                      rotate_left
                      · intro wx hx; subst hx
                        go_simp
                        try with_reducible rfl
                      clear HC HS
                      intro HC HS
                      try simp only [Act.put, List.setIfInBounds_toArray, List.set_cons_zero, List.set_cons_succ]
                      refine wpAnyL_stay (i := 15) (v := ?_) rfl (by kernel_rfl) 12 (by kernel_rfl) (by kernel_rfl) (fun _ _ _ h => h) (fun l w => stillS_at l w) (fun w h => stillS_w h) HC (Or.inl (Or.inl ⟨by rfl, ?_⟩)) HS ?_
                      rotate_left
                      · intro wx hx; subst hx
                        go_simp
                        try with_reducible rfl
                      clear HC HS
                      intro HC HS
                      try simp only [Act.put, List.setIfInBounds_toArray, List.set_cons_zero, List.set_cons_succ]
                      refine wpAnyL_stay (i := 16) (v := ?_) rfl (by kernel_rfl) 12 (by kernel_rfl) (by kernel_rfl) (fun _ _ _ h => h) (fun l w => stillS_at l w) (fun w h => stillS_w h) HC (Or.inl (Or.inl ⟨by rfl, ?_⟩)) HS ?_
                      rotate_left
                      · intro wx hx; subst hx
                        go_simp
                        try with_reducible rfl
                      clear HC HS
                      intro HC HS
                      try simp only [Act.put, List.setIfInBounds_toArray, List.set_cons_zero, List.set_cons_succ]
                      refine wpAnyL_stay (i := 17) (v := _) rfl (by kernel_rfl) 12 (by kernel_rfl) (by kernel_rfl) (fun _ _ _ h => h) (fun l w => stillS_at l w) (fun w h => stillS_w h) HC (Or.inr ⟨by rfl, 54, #[.int .i64 (ax - bx), .int .i64 (bx - ax)], ?_, by with_reducible exact (Cm.out _)⟩) HS ?_
                      · go_simp
                        try with_reducible rfl
                      clear HC HS
                      intro HC HS
                      try simp only [Act.put, List.setIfInBounds_toArray, List.set_cons_zero, List.set_cons_succ]
                      refine wpAnyL_stay (i := 18) (v := ?_) rfl (by kernel_rfl) 12 (by kernel_rfl) (by kernel_rfl) (fun _ _ _ h => h) (fun l w => stillS_at l w) (fun w h => stillS_w h) HC (Or.inl (Or.inl ⟨by rfl, ?_⟩)) HS ?_
                      rotate_left
                      · intro wx hx; subst hx
                        go_simp
                        try with_reducible rfl
                      clear HC HS
                      intro HC HS
                      try simp only [Act.put, List.setIfInBounds_toArray, List.set_cons_zero, List.set_cons_succ]
                      refine wpAnyL_stay (i := 19) (v := ?_) rfl (by kernel_rfl) 12 (by kernel_rfl) (by kernel_rfl) (fun _ _ _ h => h) (fun l w => stillS_at l w) (fun w h => stillS_w h) HC (Or.inl (Or.inl ⟨by rfl, ?_⟩)) HS ?_
                      rotate_left
                      · intro wx hx; subst hx
                        go_simp
                        try with_reducible rfl
                      clear HC HS
                      intro HC HS
                      try simp only [Act.put, List.setIfInBounds_toArray, List.set_cons_zero, List.set_cons_succ]
                      refine wpAnyL_stay (i := 20) (v := ?_) rfl (by kernel_rfl) 12 (by kernel_rfl) (by kernel_rfl) (fun _ _ _ h => h) (fun l w => stillS_at l w) (fun w h => stillS_w h) HC (Or.inl (Or.inl ⟨by rfl, ?_⟩)) HS ?_
                      rotate_left
                      · intro wx hx; subst hx
                        go_simp
                        try with_reducible rfl
                      clear HC HS
                      intro HC HS
                      try simp only [Act.put, List.setIfInBounds_toArray, List.set_cons_zero, List.set_cons_succ]
                      refine wpAnyL_stay (i := 21) (v := ?_) rfl (by kernel_rfl) 12 (by kernel_rfl) (by kernel_rfl) (fun _ _ _ h => h) (fun l w => stillS_at l w) (fun w h => stillS_w h) HC (Or.inl (Or.inl ⟨by rfl, ?_⟩)) HS ?_
                      rotate_left
                      · intro wx hx; subst hx
                        go_simp
                        try with_reducible rfl
                      clear HC HS
                      intro HC HS
                      try simp only [Act.put, List.setIfInBounds_toArray, List.set_cons_zero, List.set_cons_succ]
                      refine wpAnyL_stay (i := 22) (v := ?_) rfl (by kernel_rfl) 12 (by kernel_rfl) (by kernel_rfl) (fun _ _ _ h => h) (fun l w => stillS_at l w) (fun w h => stillS_w h) HC (Or.inl (Or.inl ⟨by rfl, ?_⟩)) HS ?_
                      rotate_left
                      · intro wx hx; subst hx
                        go_simp
                        try with_reducible rfl
                      clear HC HS
                      intro HC HS
                      try simp only [Act.put, List.setIfInBounds_toArray, List.set_cons_zero, List.set_cons_succ]
                      refine wpAnyL_stay (i := 23) (v := ?_) rfl (by kernel_rfl) 12 (by kernel_rfl) (by kernel_rfl) (fun _ _ _ h => h) (fun l w => stillS_at l w) (fun w h => stillS_w h) HC (Or.inl (Or.inl ⟨by rfl, ?_⟩)) HS ?_
                      rotate_left
                      · intro wx hx; subst hx
                        go_simp
                        try with_reducible rfl
                      clear HC HS
                      intro HC HS
                      try simp only [Act.put, List.setIfInBounds_toArray, List.set_cons_zero, List.set_cons_succ]
                      refine wpAnyL_stay (i := 24) rfl (by kernel_rfl) 12 (by kernel_rfl) (by kernel_rfl) (fun _ _ _ h => h) (fun l w => stillS_at l w) (fun w h => stillS_w h) HC (Or.inl (Or.inr ⟨by rfl, rfl⟩)) HS ?_
                      clear HC HS
                      intro HC HS
                      try simp only [Act.put, List.setIfInBounds_toArray, List.set_cons_zero, List.set_cons_succ]
                      refine wpAnyL_stay (i := 25) rfl (by kernel_rfl) 12 (by kernel_rfl) (by kernel_rfl) (fun _ _ _ h => h) (fun l w => stillS_at l w) (fun w h => stillS_w h) HC (Or.inl (Or.inr ⟨by rfl, rfl⟩)) HS ?_
                      clear HC HS
                      intro HC HS
                      try simp only [Act.put, List.setIfInBounds_toArray, List.set_cons_zero, List.set_cons_succ]
                      refine wpAnyL_stay (i := 26) rfl (by kernel_rfl) 12 (by kernel_rfl) (by kernel_rfl) (fun _ _ _ h => h) (fun l w => stillS_at l w) (fun w h => stillS_w h) HC (Or.inl (Or.inr ⟨by rfl, rfl⟩)) HS ?_
                      clear HC HS
                      intro HC HS
                      try simp only [Act.put, List.setIfInBounds_toArray, List.set_cons_zero, List.set_cons_succ]
                      refine wpAnyL_stay (i := 27) rfl (by kernel_rfl) 12 (by kernel_rfl) (by kernel_rfl) (fun _ _ _ h => h) (fun l w => stillS_at l w) (fun w h => stillS_w h) HC (Or.inl (Or.inr ⟨by rfl, rfl⟩)) HS ?_
                      clear HC HS
                      intro HC HS
                      try simp only [Act.put, List.setIfInBounds_toArray, List.set_cons_zero, List.set_cons_succ]
                      refine wpAnyL_stay (i := 28) rfl (by kernel_rfl) 12 (by kernel_rfl) (by kernel_rfl) (fun _ _ _ h => h) (fun l w => stillS_at l w) (fun w h => stillS_w h) HC (Or.inl (Or.inr ⟨by rfl, rfl⟩)) HS ?_
                      clear HC HS
                      intro HC HS
                      try simp only [Act.put, List.setIfInBounds_toArray, List.set_cons_zero, List.set_cons_succ]
                      refine wpAnyL_stay (i := 29) rfl (by kernel_rfl) 12 (by kernel_rfl) (by kernel_rfl) (fun _ _ _ h => h) (fun l w => stillS_at l w) (fun w h => stillS_w h) HC (Or.inl (Or.inr ⟨by rfl, rfl⟩)) HS ?_
                      clear HC HS
                      intro HC HS
                      try simp only [Act.put, List.setIfInBounds_toArray, List.set_cons_zero, List.set_cons_succ]
                      refine wpAnyL_stay (i := 30) rfl (by kernel_rfl) 12 (by kernel_rfl) (by kernel_rfl) (fun _ _ _ h => h) (fun l w => stillS_at l w) (fun w h => stillS_w h) HC (Or.inl (Or.inr ⟨by rfl, rfl⟩)) HS ?_
                      clear HC HS
                      intro HC HS
                      try simp only [Act.put, List.setIfInBounds_toArray, List.set_cons_zero, List.set_cons_succ]
                      refine wpAnyL_stay (i := 31) rfl (by kernel_rfl) 12 (by kernel_rfl) (by kernel_rfl) (fun _ _ _ h => h) (fun l w => stillS_at l w) (fun w h => stillS_w h) HC (Or.inl (Or.inr ⟨by rfl, rfl⟩)) HS ?_
                      clear HC HS
                      intro HC HS
                      try simp only [Act.put, List.setIfInBounds_toArray, List.set_cons_zero, List.set_cons_succ]
                      refine wpAnyL_stay (i := 32) rfl (by kernel_rfl) 12 (by kernel_rfl) (by kernel_rfl) (fun _ _ _ h => h) (fun l w => stillS_at l w) (fun w h => stillS_w h) HC (Or.inl (Or.inr ⟨by rfl, rfl⟩)) HS ?_
                      clear HC HS
                      intro HC HS
                      try simp only [Act.put, List.setIfInBounds_toArray, List.set_cons_zero, List.set_cons_succ]
                      refine wpAnyL_stay (i := 33) rfl (by kernel_rfl) 12 (by kernel_rfl) (by kernel_rfl) (fun _ _ _ h => h) (fun l w => stillS_at l w) (fun w h => stillS_w h) HC (Or.inl (Or.inr ⟨by rfl, rfl⟩)) HS ?_
                      clear HC HS
                      intro HC HS
                      try simp only [Act.put, List.setIfInBounds_toArray, List.set_cons_zero, List.set_cons_succ]
                      refine wpAnyL_stay (i := 34) rfl (by kernel_rfl) 12 (by kernel_rfl) (by kernel_rfl) (fun _ _ _ h => h) (fun l w => stillS_at l w) (fun w h => stillS_w h) HC (Or.inl (Or.inr ⟨by rfl, rfl⟩)) HS ?_
                      clear HC HS
                      intro HC HS
                      try simp only [Act.put, List.setIfInBounds_toArray, List.set_cons_zero, List.set_cons_succ]
                      refine wpAnyL_stay (i := 35) rfl (by kernel_rfl) 12 (by kernel_rfl) (by kernel_rfl) (fun _ _ _ h => h) (fun l w => stillS_at l w) (fun w h => stillS_w h) HC (Or.inl (Or.inr ⟨by rfl, rfl⟩)) HS ?_
                      clear HC HS
                      intro HC HS
                      try simp only [Act.put, List.setIfInBounds_toArray, List.set_cons_zero, List.set_cons_succ]
                      refine wpAnyL_stay (i := 36) rfl (by kernel_rfl) 12 (by kernel_rfl) (by kernel_rfl) (fun _ _ _ h => h) (fun l w => stillS_at l w) (fun w h => stillS_w h) HC (Or.inl (Or.inr ⟨by rfl, rfl⟩)) HS ?_
                      clear HC HS
                      intro HC HS
                      try simp only [Act.put, List.setIfInBounds_toArray, List.set_cons_zero, List.set_cons_succ]
                      refine wpAnyL_stay (i := 37) rfl (by kernel_rfl) 12 (by kernel_rfl) (by kernel_rfl) (fun _ _ _ h => h) (fun l w => stillS_at l w) (fun w h => stillS_w h) HC (Or.inl (Or.inr ⟨by rfl, rfl⟩)) HS ?_
                      clear HC HS
                      intro HC HS
                      try simp only [Act.put, List.setIfInBounds_toArray, List.set_cons_zero, List.set_cons_succ]
                      refine wpAnyL_stay (i := 38) rfl (by kernel_rfl) 12 (by kernel_rfl) (by kernel_rfl) (fun _ _ _ h => h) (fun l w => stillS_at l w) (fun w h => stillS_w h) HC (Or.inl (Or.inr ⟨by rfl, rfl⟩)) HS ?_
                      clear HC HS
                      intro HC HS
                      try simp only [Act.put, List.setIfInBounds_toArray, List.set_cons_zero, List.set_cons_succ]
                      refine wpAnyL_stay (i := 39) rfl (by kernel_rfl) 12 (by kernel_rfl) (by kernel_rfl) (fun _ _ _ h => h) (fun l w => stillS_at l w) (fun w h => stillS_w h) HC (Or.inl (Or.inr ⟨by rfl, rfl⟩)) HS ?_
                      clear HC HS
                      intro HC HS
                      try simp only [Act.put, List.setIfInBounds_toArray, List.set_cons_zero, List.set_cons_succ]
                      refine wpAnyL_stay (i := 40) rfl (by kernel_rfl) 12 (by kernel_rfl) (by kernel_rfl) (fun _ _ _ h => h) (fun l w => stillS_at l w) (fun w h => stillS_w h) HC (Or.inl (Or.inr ⟨by rfl, rfl⟩)) HS ?_
                      clear HC HS
                      intro HC HS
                      try simp only [Act.put, List.setIfInBounds_toArray, List.set_cons_zero, List.set_cons_succ]
                      refine wpAnyL_stay (i := 41) rfl (by kernel_rfl) 12 (by kernel_rfl) (by kernel_rfl) (fun _ _ _ h => h) (fun l w => stillS_at l w) (fun w h => stillS_w h) HC (Or.inl (Or.inr ⟨by rfl, rfl⟩)) HS ?_
                      clear HC HS
                      intro HC HS
                      try simp only [Act.put, List.setIfInBounds_toArray, List.set_cons_zero, List.set_cons_succ]
                      refine wpAnyL_stay (i := 42) rfl (by kernel_rfl) 12 (by kernel_rfl) (by kernel_rfl) (fun _ _ _ h => h) (fun l w => stillS_at l w) (fun w h => stillS_w h) HC (Or.inl (Or.inr ⟨by rfl, rfl⟩)) HS ?_
                      clear HC HS
                      intro HC HS
                      try simp only [Act.put, List.setIfInBounds_toArray, List.set_cons_zero, List.set_cons_succ]
                      refine wpAnyL_stay (i := 43) rfl (by kernel_rfl) 12 (by kernel_rfl) (by kernel_rfl) (fun _ _ _ h => h) (fun l w => stillS_at l w) (fun w h => stillS_w h) HC (Or.inl (Or.inr ⟨by rfl, rfl⟩)) HS ?_
                      clear HC HS
                      intro HC HS
                      try simp only [Act.put, List.setIfInBounds_toArray, List.set_cons_zero, List.set_cons_succ]
                      refine wpAnyL_stay (i := 44) (v := ?_) rfl (by kernel_rfl) 12 (by kernel_rfl) (by kernel_rfl) (fun _ _ _ h => h) (fun l w => stillS_at l w) (fun w h => stillS_w h) HC (Or.inl (Or.inl ⟨by rfl, ?_⟩)) HS ?_
                      rotate_left
                      · intro wx hx; subst hx
                        go_simp
                        try with_reducible rfl
                      clear HC HS
                      intro HC HS
                      try simp only [Act.put, List.setIfInBounds_toArray, List.set_cons_zero, List.set_cons_succ]
                      refine wpAnyL_stay (i := 45) (v := ?_) rfl (by kernel_rfl) 12 (by kernel_rfl) (by kernel_rfl) (fun _ _ _ h => h) (fun l w => stillS_at l w) (fun w h => stillS_w h) HC (Or.inl (Or.inl ⟨by rfl, ?_⟩)) HS ?_
                      rotate_left
                      · intro wx hx; subst hx
                        go_simp
                        try with_reducible rfl
                      clear HC HS
                      intro HC HS
                      try simp only [Act.put, List.setIfInBounds_toArray, List.set_cons_zero, List.set_cons_succ]
                      refine wpAnyL_done (by kernel_rfl) ?_
                      clear HC HS
                      clear b0 b1 d0 d1' cb0 cb1 cd0 cd1
                      go_wp2
                      go_roundw
                      case rel => exact ⟨v + 1, by omega, by go_num, Lib.hid Hn2.out, r2, A2, Bb2⟩
                      case measure => simp [intOf]; omega
                ·
                  as_aux_lemma =>
                    obtain rfl : v = 4 := by omega
                    have hal := okW_all hno.out
                    have hk := Hk1.out false (by rw [HAn.out hal]; rfl)
                    obtain ⟨k1, k2, k3⟩ := bf_no hk
                    have r2 := r1.bl (bl_drew wr)
                    have U3 := U0.bl r2.since.below
                    have S3 := S.bl U3.below
                    have B3 := B.bl U3.below
                    clear r1 A Bb r2
                    have Hk := Lib.hid hk; clear hk
                    have K1 := Lib.hid k1; clear k1
                    have K2 := Lib.hid k2; clear k2
                    have K3 := Lib.hid k3; clear k3
                    have Hal := Lib.hid hal; clear hal
                    go_upto_region 13 with (fail)
                    refine wp_region_l (S := StillS (wr.drew)) 46 rfl (by kernel_rfl) rfl ?_
                    intro HC HS
                    refine wpAnyL_stay (i := 0) (v := ?_) rfl (by kernel_rfl) 12 (by kernel_rfl) (by kernel_rfl) (fun _ _ _ h => h) (fun l w => stillS_at l w) (fun w h => stillS_w h) HC (Or.inl (Or.inl ⟨by rfl, ?_⟩)) HS ?_
                    rotate_left
                    · intro wx hx; subst hx
                      go_simp
                      try with_reducible rfl
                    clear HC HS
                    intro HC HS
                    try simp only [Act.put, List.setIfInBounds_toArray, List.set_cons_zero, List.set_cons_succ]
                    refine wpAnyL_stay (i := 1) (v := ?_) rfl (by kernel_rfl) 12 (by kernel_rfl) (by kernel_rfl) (fun _ _ _ h => h) (fun l w => stillS_at l w) (fun w h => stillS_w h) HC (Or.inl (Or.inl ⟨by rfl, ?_⟩)) HS ?_
                    rotate_left
                    · intro wx hx; subst hx
                      go_simp
                      try with_reducible rfl
                    clear HC HS
                    intro HC HS
                    try simp only [Act.put, List.setIfInBounds_toArray, List.set_cons_zero, List.set_cons_succ]
                    refine wpAnyL_stay (i := 2) (v := ?_) rfl (by kernel_rfl) 12 (by kernel_rfl) (by kernel_rfl) (fun _ _ _ h => h) (fun l w => stillS_at l w) (fun w h => stillS_w h) HC (Or.inl (Or.inl ⟨by rfl, ?_⟩)) HS ?_
                    rotate_left
                    · intro wx hx; subst hx
                      go_simp
                      try with_reducible rfl
                    clear HC HS
                    intro HC HS
                    try simp only [Act.put, List.setIfInBounds_toArray, List.set_cons_zero, List.set_cons_succ]
                    refine wpAnyL_stay (i := 3) rfl (by kernel_rfl) 12 (by kernel_rfl) (by kernel_rfl) (fun _ _ _ h => h) (fun l w => stillS_at l w) (fun w h => stillS_w h) HC (Or.inl (Or.inr ⟨by rfl, rfl⟩)) HS ?_
                    clear HC HS
                    intro HC HS
                    try simp only [Act.put, List.setIfInBounds_toArray, List.set_cons_zero, List.set_cons_succ]
                    refine wpAnyL_stay (i := 4) rfl (by kernel_rfl) 12 (by kernel_rfl) (by kernel_rfl) (fun _ _ _ h => h) (fun l w => stillS_at l w) (fun w h => stillS_w h) HC (Or.inl (Or.inr ⟨by rfl, rfl⟩)) HS ?_
                    clear HC HS
                    intro HC HS
                    try simp only [Act.put, List.setIfInBounds_toArray, List.set_cons_zero, List.set_cons_succ]
                    refine wpAnyL_stay (i := 5) rfl (by kernel_rfl) 12 (by kernel_rfl) (by kernel_rfl) (fun _ _ _ h => h) (fun l w => stillS_at l w) (fun w h => stillS_w h) HC (Or.inl (Or.inr ⟨by rfl, rfl⟩)) HS ?_
                    clear HC HS
                    intro HC HS
                    try simp only [Act.put, List.setIfInBounds_toArray, List.set_cons_zero, List.set_cons_succ]
                    refine wpAnyL_stay (i := 6) rfl (by kernel_rfl) 12 (by kernel_rfl) (by kernel_rfl) (fun _ _ _ h => h) (fun l w => stillS_at l w) (fun w h => stillS_w h) HC (Or.inl (Or.inr ⟨by rfl, rfl⟩)) HS ?_
                    clear HC HS
                    intro HC HS
                    try simp only [Act.put, List.setIfInBounds_toArray, List.set_cons_zero, List.set_cons_succ]
                    refine wpAnyL_stay (i := 7) rfl (by kernel_rfl) 12 (by kernel_rfl) (by kernel_rfl) (fun _ _ _ h => h) (fun l w => stillS_at l w) (fun w h => stillS_w h) HC (Or.inl (Or.inr ⟨by rfl, rfl⟩)) HS ?_
                    clear HC HS
                    intro HC HS
                    try simp only [Act.put, List.setIfInBounds_toArray, List.set_cons_zero, List.set_cons_succ]
                    refine wpAnyL_stay (i := 8) rfl (by kernel_rfl) 12 (by kernel_rfl) (by kernel_rfl) (fun _ _ _ h => h) (fun l w => stillS_at l w) (fun w h => stillS_w h) HC (Or.inl (Or.inr ⟨by rfl, rfl⟩)) HS ?_
                    clear HC HS
                    intro HC HS
                    try simp only [Act.put, List.setIfInBounds_toArray, List.set_cons_zero, List.set_cons_succ]
                    refine wpAnyL_stay (i := 9) rfl (by kernel_rfl) 12 (by kernel_rfl) (by kernel_rfl) (fun _ _ _ h => h) (fun l w => stillS_at l w) (fun w h => stillS_w h) HC (Or.inl (Or.inr ⟨by rfl, rfl⟩)) HS ?_
                    clear HC HS
                    intro HC HS
                    try simp only [Act.put, List.setIfInBounds_toArray, List.set_cons_zero, List.set_cons_succ]
                    refine wpAnyL_stay (i := 10) rfl (by kernel_rfl) 12 (by kernel_rfl) (by kernel_rfl) (fun _ _ _ h => h) (fun l w => stillS_at l w) (fun w h => stillS_w h) HC (Or.inl (Or.inr ⟨by rfl, rfl⟩)) HS ?_
                    clear HC HS
                    intro HC HS
                    try simp only [Act.put, List.setIfInBounds_toArray, List.set_cons_zero, List.set_cons_succ]
                    refine wpAnyL_stay (i := 11) rfl (by kernel_rfl) 12 (by kernel_rfl) (by kernel_rfl) (fun _ _ _ h => h) (fun l w => stillS_at l w) (fun w h => stillS_w h) HC (Or.inl (Or.inr ⟨by rfl, rfl⟩)) HS ?_
                    clear HC HS
                    intro HC HS
                    try simp only [Act.put, List.setIfInBounds_toArray, List.set_cons_zero, List.set_cons_succ]
                    refine wpAnyL_stay (i := 12) rfl (by kernel_rfl) 12 (by kernel_rfl) (by kernel_rfl) (fun _ _ _ h => h) (fun l w => stillS_at l w) (fun w h => stillS_w h) HC (Or.inl (Or.inr ⟨by rfl, rfl⟩)) HS ?_
                    clear HC HS
                    intro HC HS
                    try simp only [Act.put, List.setIfInBounds_toArray, List.set_cons_zero, List.set_cons_succ]
                    refine wpAnyL_stay (i := 13) rfl (by kernel_rfl) 12 (by kernel_rfl) (by kernel_rfl) (fun _ _ _ h => h) (fun l w => stillS_at l w) (fun w h => stillS_w h) HC (Or.inl (Or.inr ⟨by rfl, rfl⟩)) HS ?_
                    clear HC HS
                    intro HC HS
                    try simp only [Act.put, List.setIfInBounds_toArray, List.set_cons_zero, List.set_cons_succ]
                    refine wpAnyL_stay (i := 14) rfl (by kernel_rfl) 12 (by kernel_rfl) (by kernel_rfl) (fun _ _ _ h => h) (fun l w => stillS_at l w) (fun w h => stillS_w h) HC (Or.inl (Or.inr ⟨by rfl, rfl⟩)) HS ?_
                    clear HC HS
                    intro HC HS
                    try simp only [Act.put, List.setIfInBounds_toArray, List.set_cons_zero, List.set_cons_succ]
                    refine wpAnyL_stay (i := 15) rfl (by kernel_rfl) 12 (by kernel_rfl) (by kernel_rfl) (fun _ _ _ h => h) (fun l w => stillS_at l w) (fun w h => stillS_w h) HC (Or.inl (Or.inr ⟨by rfl, rfl⟩)) HS ?_
                    clear HC HS
                    intro HC HS
                    try simp only [Act.put, List.setIfInBounds_toArray, List.set_cons_zero, List.set_cons_succ]
                    refine wpAnyL_stay (i := 16) rfl (by kernel_rfl) 12 (by kernel_rfl) (by kernel_rfl) (fun _ _ _ h => h) (fun l w => stillS_at l w) (fun w h => stillS_w h) HC (Or.inl (Or.inr ⟨by rfl, rfl⟩)) HS ?_
                    clear HC HS
                    intro HC HS
                    try simp only [Act.put, List.setIfInBounds_toArray, List.set_cons_zero, List.set_cons_succ]
                    refine wpAnyL_stay (i := 17) rfl (by kernel_rfl) 12 (by kernel_rfl) (by kernel_rfl) (fun _ _ _ h => h) (fun l w => stillS_at l w) (fun w h => stillS_w h) HC (Or.inl (Or.inr ⟨by rfl, rfl⟩)) HS ?_
                    clear HC HS
                    intro HC HS
                    try simp only [Act.put, List.setIfInBounds_toArray, List.set_cons_zero, List.set_cons_succ]
                    refine wpAnyL_stay (i := 18) rfl (by kernel_rfl) 12 (by kernel_rfl) (by kernel_rfl) (fun _ _ _ h => h) (fun l w => stillS_at l w) (fun w h => stillS_w h) HC (Or.inl (Or.inr ⟨by rfl, rfl⟩)) HS ?_
                    clear HC HS
                    intro HC HS
                    try simp only [Act.put, List.setIfInBounds_toArray, List.set_cons_zero, List.set_cons_succ]
                    refine wpAnyL_stay (i := 19) rfl (by kernel_rfl) 12 (by kernel_rfl) (by kernel_rfl) (fun _ _ _ h => h) (fun l w => stillS_at l w) (fun w h => stillS_w h) HC (Or.inl (Or.inr ⟨by rfl, rfl⟩)) HS ?_
                    clear HC HS
                    intro HC HS
                    try simp only [Act.put, List.setIfInBounds_toArray, List.set_cons_zero, List.set_cons_succ]
                    refine wpAnyL_stay (i := 20) rfl (by kernel_rfl) 12 (by kernel_rfl) (by kernel_rfl) (fun _ _ _ h => h) (fun l w => stillS_at l w) (fun w h => stillS_w h) HC (Or.inl (Or.inr ⟨by rfl, rfl⟩)) HS ?_
                    clear HC HS
                    intro HC HS
                    try simp only [Act.put, List.setIfInBounds_toArray, List.set_cons_zero, List.set_cons_succ]
                    refine wpAnyL_stay (i := 21) rfl (by kernel_rfl) 12 (by kernel_rfl) (by kernel_rfl) (fun _ _ _ h => h) (fun l w => stillS_at l w) (fun w h => stillS_w h) HC (Or.inl (Or.inr ⟨by rfl, rfl⟩)) HS ?_
                    clear HC HS
                    intro HC HS
                    try simp only [Act.put, List.setIfInBounds_toArray, List.set_cons_zero, List.set_cons_succ]
                    refine wpAnyL_stay (i := 22) rfl (by kernel_rfl) 12 (by kernel_rfl) (by kernel_rfl) (fun _ _ _ h => h) (fun l w => stillS_at l w) (fun w h => stillS_w h) HC (Or.inl (Or.inr ⟨by rfl, rfl⟩)) HS ?_
                    clear HC HS
                    intro HC HS
                    try simp only [Act.put, List.setIfInBounds_toArray, List.set_cons_zero, List.set_cons_succ]
                    refine wpAnyL_stay (i := 23) rfl (by kernel_rfl) 12 (by kernel_rfl) (by kernel_rfl) (fun _ _ _ h => h) (fun l w => stillS_at l w) (fun w h => stillS_w h) HC (Or.inl (Or.inr ⟨by rfl, rfl⟩)) HS ?_
                    clear HC HS
                    intro HC HS
                    try simp only [Act.put, List.setIfInBounds_toArray, List.set_cons_zero, List.set_cons_succ]
                    refine wpAnyL_stay (i := 24) rfl (by kernel_rfl) 12 (by kernel_rfl) (by kernel_rfl) (fun _ _ _ h => h) (fun l w => stillS_at l w) (fun w h => stillS_w h) HC (Or.inl (Or.inr ⟨by rfl, rfl⟩)) HS ?_
                    clear HC HS
                    intro HC HS
                    try simp only [Act.put, List.setIfInBounds_toArray, List.set_cons_zero, List.set_cons_succ]
                    refine wpAnyL_stay (i := 25) rfl (by kernel_rfl) 12 (by kernel_rfl) (by kernel_rfl) (fun _ _ _ h => h) (fun l w => stillS_at l w) (fun w h => stillS_w h) HC (Or.inl (Or.inr ⟨by rfl, rfl⟩)) HS ?_
                    clear HC HS
                    intro HC HS
                    try simp only [Act.put, List.setIfInBounds_toArray, List.set_cons_zero, List.set_cons_succ]
                    refine wpAnyL_stay (i := 26) rfl (by kernel_rfl) 12 (by kernel_rfl) (by kernel_rfl) (fun _ _ _ h => h) (fun l w => stillS_at l w) (fun w h => stillS_w h) HC (Or.inl (Or.inr ⟨by rfl, rfl⟩)) HS ?_
                    clear HC HS
                    intro HC HS
                    try simp only [Act.put, List.setIfInBounds_toArray, List.set_cons_zero, List.set_cons_succ]
                    refine wpAnyL_stay (i := 27) rfl (by kernel_rfl) 12 (by kernel_rfl) (by kernel_rfl) (fun _ _ _ h => h) (fun l w => stillS_at l w) (fun w h => stillS_w h) HC (Or.inl (Or.inr ⟨by rfl, rfl⟩)) HS ?_
                    clear HC HS
                    intro HC HS
                    try simp only [Act.put, List.setIfInBounds_toArray, List.set_cons_zero, List.set_cons_succ]
                    refine wpAnyL_stay (i := 28) rfl (by kernel_rfl) 12 (by kernel_rfl) (by kernel_rfl) (fun _ _ _ h => h) (fun l w => stillS_at l w) (fun w h => stillS_w h) HC (Or.inl (Or.inr ⟨by rfl, rfl⟩)) HS ?_
                    clear HC HS
                    intro HC HS
                    try simp only [Act.put, List.setIfInBounds_toArray, List.set_cons_zero, List.set_cons_succ]
                    refine wpAnyL_stay (i := 29) rfl (by kernel_rfl) 12 (by kernel_rfl) (by kernel_rfl) (fun _ _ _ h => h) (fun l w => stillS_at l w) (fun w h => stillS_w h) HC (Or.inl (Or.inr ⟨by rfl, rfl⟩)) HS ?_
                    clear HC HS
                    intro HC HS
                    try simp only [Act.put, List.setIfInBounds_toArray, List.set_cons_zero, List.set_cons_succ]
                    refine wpAnyL_stay (i := 30) rfl (by kernel_rfl) 12 (by kernel_rfl) (by kernel_rfl) (fun _ _ _ h => h) (fun l w => stillS_at l w) (fun w h => stillS_w h) HC (Or.inl (Or.inr ⟨by rfl, rfl⟩)) HS ?_
                    clear HC HS
                    intro HC HS
                    try simp only [Act.put, List.setIfInBounds_toArray, List.set_cons_zero, List.set_cons_succ]
                    refine wpAnyL_stay (i := 31) rfl (by kernel_rfl) 12 (by kernel_rfl) (by kernel_rfl) (fun _ _ _ h => h) (fun l w => stillS_at l w) (fun w h => stillS_w h) HC (Or.inl (Or.inr ⟨by rfl, rfl⟩)) HS ?_
                    clear HC HS
                    intro HC HS
                    try simp only [Act.put, List.setIfInBounds_toArray, List.set_cons_zero, List.set_cons_succ]
                    refine wpAnyL_stay (i := 32) rfl (by kernel_rfl) 12 (by kernel_rfl) (by kernel_rfl) (fun _ _ _ h => h) (fun l w => stillS_at l w) (fun w h => stillS_w h) HC (Or.inl (Or.inr ⟨by rfl, rfl⟩)) HS ?_
                    clear HC HS
                    intro HC HS
                    try simp only [Act.put, List.setIfInBounds_toArray, List.set_cons_zero, List.set_cons_succ]
                    refine wpAnyL_stay (i := 33) rfl (by kernel_rfl) 12 (by kernel_rfl) (by kernel_rfl) (fun _ _ _ h => h) (fun l w => stillS_at l w) (fun w h => stillS_w h) HC (Or.inl (Or.inr ⟨by rfl, rfl⟩)) HS ?_
                    clear HC HS
                    intro HC HS
                    try simp only [Act.put, List.setIfInBounds_toArray, List.set_cons_zero, List.set_cons_succ]
                    refine wpAnyL_stay (i := 34) rfl (by kernel_rfl) 12 (by kernel_rfl) (by kernel_rfl) (fun _ _ _ h => h) (fun l w => stillS_at l w) (fun w h => stillS_w h) HC (Or.inl (Or.inr ⟨by rfl, rfl⟩)) HS ?_
                    clear HC HS
                    intro HC HS
                    try simp only [Act.put, List.setIfInBounds_toArray, List.set_cons_zero, List.set_cons_succ]
                    refine wpAnyL_stay (i := 35) rfl (by kernel_rfl) 12 (by kernel_rfl) (by kernel_rfl) (fun _ _ _ h => h) (fun l w => stillS_at l w) (fun w h => stillS_w h) HC (Or.inl (Or.inr ⟨by rfl, rfl⟩)) HS ?_
                    clear HC HS
                    intro HC HS
                    try simp only [Act.put, List.setIfInBounds_toArray, List.set_cons_zero, List.set_cons_succ]
                    refine wpAnyL_stay (i := 36) rfl (by kernel_rfl) 12 (by kernel_rfl) (by kernel_rfl) (fun _ _ _ h => h) (fun l w => stillS_at l w) (fun w h => stillS_w h) HC (Or.inl (Or.inr ⟨by rfl, rfl⟩)) HS ?_
                    clear HC HS
                    intro HC HS
                    try simp only [Act.put, List.setIfInBounds_toArray, List.set_cons_zero, List.set_cons_succ]
                    refine wpAnyL_stay (i := 37) rfl (by kernel_rfl) 12 (by kernel_rfl) (by kernel_rfl) (fun _ _ _ h => h) (fun l w => stillS_at l w) (fun w h => stillS_w h) HC (Or.inl (Or.inr ⟨by rfl, rfl⟩)) HS ?_
                    clear HC HS
                    intro HC HS
                    try simp only [Act.put, List.setIfInBounds_toArray, List.set_cons_zero, List.set_cons_succ]
                    refine wpAnyL_stay (i := 38) rfl (by kernel_rfl) 12 (by kernel_rfl) (by kernel_rfl) (fun _ _ _ h => h) (fun l w => stillS_at l w) (fun w h => stillS_w h) HC (Or.inl (Or.inr ⟨by rfl, rfl⟩)) HS ?_
                    clear HC HS
                    intro HC HS
                    try simp only [Act.put, List.setIfInBounds_toArray, List.set_cons_zero, List.set_cons_succ]
                    refine wpAnyL_stay (i := 39) rfl (by kernel_rfl) 12 (by kernel_rfl) (by kernel_rfl) (fun _ _ _ h => h) (fun l w => stillS_at l w) (fun w h => stillS_w h) HC (Or.inl (Or.inr ⟨by rfl, rfl⟩)) HS ?_
                    clear HC HS
                    intro HC HS
                    try simp only [Act.put, List.setIfInBounds_toArray, List.set_cons_zero, List.set_cons_succ]
                    refine wpAnyL_stay (i := 40) rfl (by kernel_rfl) 12 (by kernel_rfl) (by kernel_rfl) (fun _ _ _ h => h) (fun l w => stillS_at l w) (fun w h => stillS_w h) HC (Or.inl (Or.inr ⟨by rfl, rfl⟩)) HS ?_
                    clear HC HS
                    intro HC HS
                    try simp only [Act.put, List.setIfInBounds_toArray, List.set_cons_zero, List.set_cons_succ]
                    refine wpAnyL_stay (i := 41) rfl (by kernel_rfl) 12 (by kernel_rfl) (by kernel_rfl) (fun _ _ _ h => h) (fun l w => stillS_at l w) (fun w h => stillS_w h) HC (Or.inl (Or.inr ⟨by rfl, rfl⟩)) HS ?_
                    clear HC HS
                    intro HC HS
                    try simp only [Act.put, List.setIfInBounds_toArray, List.set_cons_zero, List.set_cons_succ]
                    refine wpAnyL_stay (i := 42) rfl (by kernel_rfl) 12 (by kernel_rfl) (by kernel_rfl) (fun _ _ _ h => h) (fun l w => stillS_at l w) (fun w h => stillS_w h) HC (Or.inl (Or.inr ⟨by rfl, rfl⟩)) HS ?_
                    clear HC HS
                    intro HC HS
                    try simp only [Act.put, List.setIfInBounds_toArray, List.set_cons_zero, List.set_cons_succ]
                    refine wpAnyL_stay (i := 43) rfl (by kernel_rfl) 12 (by kernel_rfl) (by kernel_rfl) (fun _ _ _ h => h) (fun l w => stillS_at l w) (fun w h => stillS_w h) HC (Or.inl (Or.inr ⟨by rfl, rfl⟩)) HS ?_
                    clear HC HS
                    intro HC HS
                    try simp only [Act.put, List.setIfInBounds_toArray, List.set_cons_zero, List.set_cons_succ]
                    refine wpAnyL_stay (i := 44) rfl (by kernel_rfl) 12 (by kernel_rfl) (by kernel_rfl) (fun _ _ _ h => h) (fun l w => stillS_at l w) (fun w h => stillS_w h) HC (Or.inl (Or.inr ⟨by rfl, rfl⟩)) HS ?_
                    clear HC HS
                    intro HC HS
                    try simp only [Act.put, List.setIfInBounds_toArray, List.set_cons_zero, List.set_cons_succ]
                    refine wpAnyL_stay (i := 45) (v := ?_) rfl (by kernel_rfl) 12 (by kernel_rfl) (by kernel_rfl) (fun _ _ _ h => h) (fun l w => stillS_at l w) (fun w h => stillS_w h) HC (Or.inl (Or.inl ⟨by rfl, ?_⟩)) HS ?_
                    rotate_left
                    · intro wx hx; subst hx
                      go_simp
                      try with_reducible rfl
                    clear HC HS
                    intro HC HS
                    try simp only [Act.put, List.setIfInBounds_toArray, List.set_cons_zero, List.set_cons_succ]
                    refine wpAnyL_done (by kernel_rfl) ?_
                    clear HC HS
                    generalize wr.drew = wa at *
                    have b0 := B3.cell 0 rfl
                    have b1 := B3.cell 1 rfl
                    have b2 := B3.cell 2 rfl
                    have f0 := B3.frozen 0
                    have f1 := B3.frozen 1
                    have f2 := B3.frozen 2
                    have BZ := ((B3.set 0 (.int .i64 0)).set 1 (.int .i64 0)).set 2 (.string ⟨#[]⟩)
                    have s5 := (((S3.setd (p := ⟨w.heap.size, 0, none⟩) (by simp) (.int .i64 0)).setd (p := ⟨w.heap.size, 1, none⟩) (by simp) (.int .i64 0)).setd (p := ⟨w.heap.size, 2, none⟩) (by simp) (.string ⟨#[]⟩)).below
                    have e0 := BZ.cell 0 rfl
                    have e1 := BZ.cell 1 rfl
                    have e2 := BZ.cell 2 rfl
                    have S5 := Lib.hid s5; clear s5
                    clear BZ S3 B3 U3 S B D
                    go_wp2_with (with_reducible change bodyPost _ _ _ _ _ _; exact bodyPost_ret (v := .tuple #[.agg #[.int .i64 0, .int .i64 0, .string ⟨#[]⟩], .bool false]) (by simp [results, Try.results25, go_sem, e0, e1, e2]) rfl ⟨by rw [K1.out, K2.out, K3.out, Hk.out], S5.out⟩)
          ·
            as_aux_lemma =>
              obtain rfl : k = l.length := by omega
              have hA1 := hA.out
              have hn := HN.out
              have hk2 := fun b h => Hk1.out b (by rw [hA1, Bool.true_and]; exact h)
              have hyes : bfOk l = true → bfX l = x0 ∧ bfY l = y0 ∧ bfS l = rfN l l.length := fun h => by
                obtain ⟨h1, h2, h3⟩ := bf_yes h
                rw [Ez.out] at h1 h2
                exact ⟨h1, h2, h3.trans (bf_rf h).2.symm⟩
              obtain ⟨st, est⟩ : ∃ st, rfN l l.length = st := ⟨_, rfl⟩
              rw [est] at r hk2 hn hyes
              obtain ⟨g, d, rfl, ho⟩ := r.own
              have hcv := by_conv r hn
              subst hn
              have hsmall : small (x0, y0) := ⟨⟨by dsimp only; omega, by dsimp only; omega⟩, by dsimp only; omega, by dsimp only; omega⟩
              have cb := fun w B => l04Is_any w1.heap.size x0 y0 st w (by unfold maxLen; omega) hsmall B
              have R := r0.bl r.since.below
              have h5 : w1.heap.size ≤ w1.heap.size := Nat.le_refl _
              have U1 := U.setd (p := ⟨w1.heap.size, 2, none⟩) h5 (.string st)
              have R1 : Blk (wr.setCell ⟨w1.heap.size, 2, none⟩ (.string st)) w1.heap.size #[.int .i64 x0, .int .i64 y0, .string st] 30 := R.set 2 (.string st)
              have q2 := R.cell 2 rfl
              have p2 := R.frozen 2
              cases hbd : bdB x0 y0 st
              ·
                as_aux_lemma =>
                  simp only [hbd] at cb
                  have hk := hk2 false (by rw [hbd]; rfl)
                  obtain ⟨k1, k2, k3⟩ := bf_no hk
                  have Cb := Lib.hid cb; clear cb
                  have Hk := Lib.hid hk; clear hk
                  have K1 := Lib.hid k1; clear k1
                  have K2 := Lib.hid k2; clear k2
                  have K3 := Lib.hid k3; clear k3
                  have Hk2 := Lib.hid hk2; clear hk2
                  have Est := Lib.hid est; clear est
                  have HA1 := Lib.hid hA1; clear hA1
                  have Hyes := Lib.hid hyes; clear hyes
                  have Hbd := Lib.hid hbd; clear hbd
                  have Hsmall := Lib.hid hsmall; clear hsmall
                  clear ho
                  go_wp2_with fail
                  refine (Cb.out _ R1).mono ?_
                  rintro e w2 ⟨rfl, hb⟩
                  have U3 := U1.bl hb
                  have S3 := S.bl U3.below
                  have B3 := B.bl U3.below
                  clear hb q2 p2 R R1 U U1
                  have b0 := B3.cell 0 rfl
                  have b1 := B3.cell 1 rfl
                  have b2 := B3.cell 2 rfl
                  have f0 := B3.frozen 0
                  have f1 := B3.frozen 1
                  have f2 := B3.frozen 2
                  have BZ := ((B3.set 0 (.int .i64 0)).set 1 (.int .i64 0)).set 2 (.string ⟨#[]⟩)
                  have s5 := (((S3.setd (p := ⟨w.heap.size, 0, none⟩) (by simp) (.int .i64 0)).setd (p := ⟨w.heap.size, 1, none⟩) (by simp) (.int .i64 0)).setd (p := ⟨w.heap.size, 2, none⟩) (by simp) (.string ⟨#[]⟩)).below
                  have e0 := BZ.cell 0 rfl
                  have e1 := BZ.cell 1 rfl
                  have e2 := BZ.cell 2 rfl
                  have S5 := Lib.hid s5; clear s5
                  clear BZ S3 B3 U3 S B D
                  go_wp2_with (with_reducible change bodyPost _ _ _ _ _ _; exact bodyPost_ret (v := .tuple #[.agg #[.int .i64 0, .int .i64 0, .string ⟨#[]⟩], .bool false]) (by simp [results, Try.results25, go_sem, e0, e1, e2]) rfl ⟨by rw [K1.out, K2.out, K3.out, Hk.out], S5.out⟩)
              ·
                as_aux_lemma =>
                  have bd := bdB_iff.1 hbd
                  simp only [hbd] at cb
                  rw [hbd] at hk2
                  have cc := fun w B => l04Corners_any w1.heap.size x0 y0 st w bd B
                  have hcl := cornN_len x0 y0 st st.size
                  obtain ⟨C, eC⟩ : ∃ C, cornN x0 y0 st st.size = C := ⟨_, rfl⟩
                  simp only [eC] at cc hcl hk2
                  have Cb := Lib.hid cb; clear cb
                  have Cc := Lib.hid cc; clear cc
                  have Hk2 := Lib.hid hk2; clear hk2
                  have Est := Lib.hid est; clear est
                  have HA1 := Lib.hid hA1; clear hA1
                  have Hyes := Lib.hid hyes; clear hyes
                  have Hbd := Lib.hid hbd; clear hbd
                  have Hsmall := Lib.hid hsmall; clear hsmall
                  have Bd := Lib.hid bd; clear bd
                  have EC := Lib.hid eC; clear eC
                  clear ho
                  go_wp2_with fail
                  refine (Cb.out _ R1).mono ?_
                  rintro e w2 ⟨rfl, hb⟩
                  have U2 := U1.bl hb
                  have R2 := R1.bl hb
                  clear hb q2 p2 R R1 U U1 hcv r
                  go_wp2_with fail
                  refine (Cc.out _ R2).mono ?_
                  rintro e w3 ⟨vc, rfl, O, hb⟩
                  have U3 := U2.bl hb
                  have R3 := R2.bl hb
                  obtain ⟨pv, cv, rfl⟩ := O.form
                  have Or := O.rd
                  clear hb U2 R2 O
                  by_cases hcn : C.length = l.length
                  ·
                    as_aux_lemma =>
                      have hcn2 : (C.length : Int) = (l.length : Int) := by omega
                      have hcn3 : ((C.length : Int) == (l.length : Int)) = true := by rw [beq_iff_eq]; exact hcn2
                      have hj0 : ∀ u : Nat, u < 0 → C.getD u (0, 0) = l.getD u (0, 0) := fun u h => absurd h (by omega)
                      have Hj0 := Lib.hid hj0; clear hj0
                      go_wp2_with fail
                      go_loopw [11] (fun i wr => ∃ j : Nat, j ≤ l.length ∧ i = .int .i64 j ∧ Hid (∀ u : Nat, u < j → C.getD u (0, 0) = l.getD u (0, 0)) ∧ Since w3 wr) (fun i _ => l.length - (intOf i).toNat)
                      case atStart => exact ⟨0, Nat.zero_le _, rfl, Hj0, Since.refl w3⟩
                      case round =>
                        clear Hj0
                        obtain ⟨j, hj, rfl, hall, V⟩ := hrel
                        have hj00 : (0 : Int) ≤ (j : Int) := Int.natCast_nonneg _
                        have V1 := U3.bl V.below
                        by_cases hlt : j < l.length
                        · have hjl : (j : Int) < (l.length : Int) := by omega
                          have hjc : (j : Int) < (C.length : Int) := by omega
                          have hwj : IntKind.i64.wrap ((j : Int) + 1) = (j : Int) + 1 := IntWalk.i64_in _ (by omega)
                          have S2 := fun q => S.bl (V1.bl (bl_drewN wr q)).below
                          have B2 := fun q => B.bl (V1.bl (bl_drewN wr q)).below
                          have V2 := fun q => V.bl (bl_drewN wr q)
                          obtain ⟨qb, qo, eQ, -, hcq⟩ := (Or.bl V.below).at (k := 0) (by omega)
                          subst eQ
                          obtain ⟨_, _, eP, -, hcp⟩ := (D.bl V1.below).at (k := 0) (by omega)
                          cases eP
                          have a0 := hcq (j * 2) (by omega)
                          have a1 := hcq (j * 2 + 1) (by omega)
                          have c0 := hcp (j * 2) (by omega)
                          have c1 := hcp (j * 2 + 1) (by omega)
                          rw [spotAt_x] at a0 c0
                          rw [spotAt_y, ← Nat.add_assoc] at a1 c1
                          obtain ⟨⟨cx, cy⟩, ec⟩ : ∃ s, C.getD j (0, 0) = s := ⟨_, rfl⟩
                          obtain ⟨⟨lx, ly⟩, el⟩ : ∃ s, l.getD j (0, 0) = s := ⟨_, rfl⟩
                          rw [ec] at a0 a1
                          rw [el] at c0 c1
                          dsimp only at a0 a1 c0 c1
                          have hxy : C = l → cx = lx ∧ cy = ly := fun e => by
                            have h := ec.symm.trans ((congrArg (fun L => L.getD j (0, 0)) e).trans el)
                            exact Prod.mk.inj h
                          by_cases h1 : cx = lx
                          · by_cases h2 : cy = ly
                            ·
                              as_aux_lemma =>
                                subst h1 h2
                                have hall2 : ∀ u : Nat, u < j + 1 → C.getD u (0, 0) = l.getD u (0, 0) := fun u h => by
                                  by_cases e : u = j
                                  · rw [e, ec, el]
                                  · exact hall.out u (by omega)
                                have Hall2 := Lib.hid hall2; clear hall2
                                have Ec := Lib.hid ec; clear ec
                                have El := Lib.hid el; clear el
                                have Hcq := Lib.hid hcq; clear hcq
                                have Hcp := Lib.hid hcp; clear hcp
                                have Hxy := Lib.hid hxy; clear hxy
                                clear V1 S2 B2
                                go_wp2_with fail
                                go_quiet (fail)
                                go_wp2
                                go_roundw
                                case rel => exact ⟨j + 1, by omega, by go_num, Hall2, V2 _⟩
                                case measure => simp [intOf]; omega
                            ·
                              as_aux_lemma =>
                                have hk := Hk2.out false (by rw [decide_eq_false (fun e : C = l => h2 (hxy e).2)]; rfl)
                                obtain ⟨k1, k2, k3⟩ := bf_no hk
                                have Hk := Lib.hid hk; clear hk
                                have K1 := Lib.hid k1; clear k1
                                have K2 := Lib.hid k2; clear k2
                                have K3 := Lib.hid k3; clear k3
                                have Hcq := Lib.hid hcq; clear hcq
                                have Hcp := Lib.hid hcp; clear hcp
                                have Ec := Lib.hid ec; clear ec
                                have El := Lib.hid el; clear el
                                have Hxy := Lib.hid hxy; clear hxy
                                clear V1
                                go_wp2_with fail
                                go_quiet (fail)
                                have S3 := S2 nq
                                have B3 := B2 nq
                                generalize wr.drewN nq = wq at *
                                clear S2 B2 a0 a1 c0 c1 R3 U3 Or B S D
                                have b0 := B3.cell 0 rfl
                                have b1 := B3.cell 1 rfl
                                have b2 := B3.cell 2 rfl
                                have f0 := B3.frozen 0
                                have f1 := B3.frozen 1
                                have f2 := B3.frozen 2
                                have BZ := ((B3.set 0 (.int .i64 0)).set 1 (.int .i64 0)).set 2 (.string ⟨#[]⟩)
                                have s5 := (((S3.setd (p := ⟨w.heap.size, 0, none⟩) (by simp) (.int .i64 0)).setd (p := ⟨w.heap.size, 1, none⟩) (by simp) (.int .i64 0)).setd (p := ⟨w.heap.size, 2, none⟩) (by simp) (.string ⟨#[]⟩)).below
                                have e0 := BZ.cell 0 rfl
                                have e1 := BZ.cell 1 rfl
                                have e2 := BZ.cell 2 rfl
                                have S5 := Lib.hid s5; clear s5
                                clear BZ S3 B3
                                go_wp2_with (with_reducible change bodyPost _ _ _ _ _ _; exact bodyPost_ret (v := .tuple #[.agg #[.int .i64 0, .int .i64 0, .string ⟨#[]⟩], .bool false]) (by simp [results, Try.results25, go_sem, e0, e1, e2]) rfl ⟨by rw [K1.out, K2.out, K3.out, Hk.out], S5.out⟩)
                          ·
                            as_aux_lemma =>
                              have hk := Hk2.out false (by rw [decide_eq_false (fun e : C = l => h1 (hxy e).1)]; rfl)
                              obtain ⟨k1, k2, k3⟩ := bf_no hk
                              have Hk := Lib.hid hk; clear hk
                              have K1 := Lib.hid k1; clear k1
                              have K2 := Lib.hid k2; clear k2
                              have K3 := Lib.hid k3; clear k3
                              have Hcq := Lib.hid hcq; clear hcq
                              have Hcp := Lib.hid hcp; clear hcp
                              have Ec := Lib.hid ec; clear ec
                              have El := Lib.hid el; clear el
                              have Hxy := Lib.hid hxy; clear hxy
                              clear V1
                              go_wp2_with fail
                              go_quiet (fail)
                              have S3 := S2 nq
                              have B3 := B2 nq
                              generalize wr.drewN nq = wq at *
                              clear S2 B2 a0 a1 c0 c1 R3 U3 Or B S D
                              have b0 := B3.cell 0 rfl
                              have b1 := B3.cell 1 rfl
                              have b2 := B3.cell 2 rfl
                              have f0 := B3.frozen 0
                              have f1 := B3.frozen 1
                              have f2 := B3.frozen 2
                              have BZ := ((B3.set 0 (.int .i64 0)).set 1 (.int .i64 0)).set 2 (.string ⟨#[]⟩)
                              have s5 := (((S3.setd (p := ⟨w.heap.size, 0, none⟩) (by simp) (.int .i64 0)).setd (p := ⟨w.heap.size, 1, none⟩) (by simp) (.int .i64 0)).setd (p := ⟨w.heap.size, 2, none⟩) (by simp) (.string ⟨#[]⟩)).below
                              have e0 := BZ.cell 0 rfl
                              have e1 := BZ.cell 1 rfl
                              have e2 := BZ.cell 2 rfl
                              have S5 := Lib.hid s5; clear s5
                              clear BZ S3 B3
                              go_wp2_with (with_reducible change bodyPost _ _ _ _ _ _; exact bodyPost_ret (v := .tuple #[.agg #[.int .i64 0, .int .i64 0, .string ⟨#[]⟩], .bool false]) (by simp [results, Try.results25, go_sem, e0, e1, e2]) rfl ⟨by rw [K1.out, K2.out, K3.out, Hk.out], S5.out⟩)
                        ·
                          as_aux_lemma =>
                            obtain rfl : j = l.length := by omega
                            have hCl : C = l := by
                              refine List.ext_getElem hcn (fun i h1 h2 => ?_)
                              have := hall.out i h2
                              simpa [List.getD, List.getElem?_eq_getElem h1, List.getElem?_eq_getElem h2] using this
                            have hk := Hk2.out true (by rw [decide_eq_true hCl]; rfl)
                            obtain ⟨k1, k2, k3⟩ := Hyes.out hk
                            have R4 := R3.bl V.below
                            have S3 := S.bl V1.below
                            have B3 := B.bl V1.below
                            have c0 := R4.cell 0 rfl
                            have c1 := R4.cell 1 rfl
                            have c2 := R4.cell 2 rfl
                            have hne9 : ¬ (l.length : Int) < (C.length : Int) := by omega
                            have Hk := Lib.hid hk; clear hk
                            have K1 := Lib.hid k1; clear k1
                            have K2 := Lib.hid k2; clear k2
                            have K3 := Lib.hid k3; clear k3
                            have HCl := Lib.hid hCl; clear hCl
                            have b0 := B3.cell 0 rfl
                            have b1 := B3.cell 1 rfl
                            have b2 := B3.cell 2 rfl
                            have f0 := B3.frozen 0
                            have f1 := B3.frozen 1
                            have f2 := B3.frozen 2
                            have BZ := ((B3.set 0 (.int .i64 x0)).set 1 (.int .i64 y0)).set 2 (.string st)
                            have s5 := (((S3.setd (p := ⟨w.heap.size, 0, none⟩) (by simp) (.int .i64 x0)).setd (p := ⟨w.heap.size, 1, none⟩) (by simp) (.int .i64 y0)).setd (p := ⟨w.heap.size, 2, none⟩) (by simp) (.string st)).below
                            have e0 := BZ.cell 0 rfl
                            have e1 := BZ.cell 1 rfl
                            have e2 := BZ.cell 2 rfl
                            have S5 := Lib.hid s5; clear s5
                            clear BZ S3 B3 S B D R3 R4 U3 V V1 Or
                            go_wp2_with (with_reducible change bodyPost _ _ _ _ _ _; exact bodyPost_ret (v := .tuple #[.agg #[.int .i64 x0, .int .i64 y0, .string st], .bool true]) (by simp [results, Try.results25, go_sem, e0, e1, e2]) rfl ⟨by rw [K1.out, K2.out, K3.out, Hk.out], S5.out⟩)
                  ·
                    as_aux_lemma =>
                      have hcn2 : ¬ (C.length : Int) = (l.length : Int) := by omega
                      have hcn3 : ((C.length : Int) == (l.length : Int)) = false := by rw [beq_eq_false_iff_ne]; exact hcn2
                      have hk := Hk2.out false (by rw [decide_eq_false (fun e : C = l => hcn (by rw [e]))]; rfl)
                      obtain ⟨k1, k2, k3⟩ := bf_no hk
                      have S3 := S.bl U3.below
                      have B3 := B.bl U3.below
                      have Hk := Lib.hid hk; clear hk
                      have K1 := Lib.hid k1; clear k1
                      have K2 := Lib.hid k2; clear k2
                      have K3 := Lib.hid k3; clear k3
                      clear R3 U3 Or
                      have b0 := B3.cell 0 rfl
                      have b1 := B3.cell 1 rfl
                      have b2 := B3.cell 2 rfl
                      have f0 := B3.frozen 0
                      have f1 := B3.frozen 1
                      have f2 := B3.frozen 2
                      have BZ := ((B3.set 0 (.int .i64 0)).set 1 (.int .i64 0)).set 2 (.string ⟨#[]⟩)
                      have s5 := (((S3.setd (p := ⟨w.heap.size, 0, none⟩) (by simp) (.int .i64 0)).setd (p := ⟨w.heap.size, 1, none⟩) (by simp) (.int .i64 0)).setd (p := ⟨w.heap.size, 2, none⟩) (by simp) (.string ⟨#[]⟩)).below
                      have e0 := BZ.cell 0 rfl
                      have e1 := BZ.cell 1 rfl
                      have e2 := BZ.cell 2 rfl
                      have S5 := Lib.hid s5; clear s5
                      clear BZ S3 B3 S B D
                      go_wp2_with (with_reducible change bodyPost _ _ _ _ _ _; exact bodyPost_ret (v := .tuple #[.agg #[.int .i64 0, .int .i64 0, .string ⟨#[]⟩], .bool false]) (by simp [results, Try.results25, go_sem, e0, e1, e2]) rfl ⟨by rw [K1.out, K2.out, K3.out, Hk.out], S5.out⟩)
end Go.Proofs.Ytjplikkehhpomaa
