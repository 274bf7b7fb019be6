/- Contract of the program's BorderFrom. -/
import Derived.Test.YtjplikkehhpomaaBfL
set_option linter.unusedVariables false
set_option linter.unusedSimpArgs false
namespace Go.Proofs.Ytjplikkehhpomaa
open Go.RowKit

theorem Since.setc {w a : World} (h : Since w a) {p : Addr} (hb : w.heap.size ≤ p.block) (v : Value) : Since w (a.setCell p v) := ⟨h.below.setCell hb _⟩
theorem callFunc_cornerOk : ∀ args w, (callFunc 56 args).run Try.prog w = .ok (.enter 56 args) w := fun args w => by kernel_rfl
set_option maxRecDepth 100000 in
set_option maxHeartbeats 16000000 in
theorem borderFrom_any (p : Option Addr) (c : Nat) (l : List (Int × Int)) (w : World) (hl : l.length ≤ 1048576) (hr : Rd w p (l.length * 2) (spotAt l)) :
    Calls Try.prog 27 #[.slice p l.length c] w fun e w' => e = .returned (.tuple #[.agg #[.int .i64 (bfX l), .int .i64 (bfY l), .string (bfS l)], .bool (bfOk l)]) ∧ Below w.heap.size w w' := by
  have S := (Since.refl w).alloc (.cells #[.int .i64 0, .int .i64 0, .string ⟨#[]⟩] 30)
  have B := Blk.new w #[.int .i64 0, .int .i64 0, .string ⟨#[]⟩] 30
  have D := hr.alloc (.cells #[.int .i64 0, .int .i64 0, .string ⟨#[]⟩] 30)
  have ca := all_any 56 #[] p c l cornB _ hl D callFunc_cornerOk (fun s w' _ _ => cornerOk_any s.1 s.2 w')
  have b0 := B.cell 0 rfl
  have b1 := B.cell 1 rfl
  have b2 := B.cell 2 rfl
  by_cases h4 : l.length < 4
  · have hk : bfOk l = false := by rw [bfOk, decide_eq_false (by omega)]; rfl
    obtain ⟨k1, k2, k3⟩ := bf_no hk
    have h5 : (l.length : Int) < 4 := by omega
    have Hk := Lib.hid hk; clear hk
    have K1 := Lib.hid k1; clear k1
    have K2 := Lib.hid k2; clear k2
    have K3 := Lib.hid k3; clear k3
    clear ca
    go_enter Try.func27, Try.ntmps27
    go_wp2
    exact bodyPost_ret (v := .tuple #[.agg #[.int .i64 0, .int .i64 0, .string ⟨#[]⟩], .bool false]) (by simp [results, Try.results27, go_sem, b0, b1, b2]) rfl ⟨by rw [K1.out, K2.out, K3.out, Hk.out], S.below⟩
  · have hn4 : (4 : Int) ≤ (l.length : Int) := by omega
    by_cases h6 : 600 < l.length
    · have hk : bfOk l = false := by rw [bfOk, decide_eq_false (show ¬ l.length ≤ 600 by omega), Bool.false_and, Bool.and_false]
      obtain ⟨k1, k2, k3⟩ := bf_no hk
      have h5 : 600 < (l.length : Int) := by omega
      have Hk := Lib.hid hk; clear hk
      have K1 := Lib.hid k1; clear k1
      have K2 := Lib.hid k2; clear k2
      have K3 := Lib.hid k3; clear k3
      clear ca
      go_enter Try.func27, Try.ntmps27
      go_wp2
      exact bodyPost_ret (v := .tuple #[.agg #[.int .i64 0, .int .i64 0, .string ⟨#[]⟩], .bool false]) (by simp [results, Try.results27, go_sem, b0, b1, b2]) rfl ⟨by rw [K1.out, K2.out, K3.out, Hk.out], S.below⟩
    · have hn6 : (l.length : Int) ≤ 600 := by omega
      cases hal : l.all cornB
      · have hk : bfOk l = false := by rw [bfOk, hal]; simp
        obtain ⟨k1, k2, k3⟩ := bf_no hk
        rw [hal] at ca
        have Hk := Lib.hid hk; clear hk
        have K1 := Lib.hid k1; clear k1
        have K2 := Lib.hid k2; clear k2
        have K3 := Lib.hid k3; clear k3
        have Ca := Lib.hid ca; clear ca
        go_enter Try.func27, Try.ntmps27
        go_wp2_with fail
        refine Ca.out.mono ?_
        rintro e w1 ⟨rfl, hb⟩
        replace S := S.bl hb
        replace B := B.bl hb
        clear b0 b1 b2
        have b0 := B.cell 0 rfl
        have b1 := B.cell 1 rfl
        have b2 := B.cell 2 rfl
        have f0 := B.frozen 0
        have f1 := B.frozen 1
        have f2 := B.frozen 2
        have BZ := ((B.set 0 (.int .i64 0)).set 1 (.int .i64 0)).set 2 (.string ⟨#[]⟩)
        have s5 := (((S.setc (p := ⟨w.heap.size, 0, none⟩) (by simp) (.int .i64 0)).setc (p := ⟨w.heap.size, 1, none⟩) (by simp) (.int .i64 0)).setc (p := ⟨w.heap.size, 2, none⟩) (by simp) (.string ⟨#[]⟩)).below
        have e0 := BZ.cell 0 rfl
        have e1 := BZ.cell 1 rfl
        have e2 := BZ.cell 2 rfl
        have S5 := Lib.hid s5; clear s5
        clear BZ hb S B D Ca
        go_wp2
        exact bodyPost_ret (v := .tuple #[.agg #[.int .i64 0, .int .i64 0, .string ⟨#[]⟩], .bool false]) (by simp [results, Try.results27, go_sem, e0, e1, e2]) rfl ⟨by rw [K1.out, K2.out, K3.out, Hk.out], S5.out⟩
      · rw [hal] at ca
        have hrg := fun i (h : i < l.length) => cornB_in (corn_at hal h)
        have hsz := fun k h => bfN_size hal k h
        have hk0 : ∀ b, (bfA l l.length && (bdB (l.getD 0 (0, 0)).1 (l.getD 0 (0, 0)).2 (bfN l l.length) && decide (cornN (l.getD 0 (0, 0)).1 (l.getD 0 (0, 0)).2 (bfN l l.length) (bfN l l.length).size = l))) = b → bfOk l = b := fun b h => by
          rw [bfOk, decide_eq_true (show 4 ≤ l.length by omega), decide_eq_true (show l.length ≤ 600 by omega), hal, h]; rfl
        have Ca := Lib.hid ca; clear ca
        have Hrg := Lib.hid hrg; clear hrg
        have Hsz := Lib.hid hsz; clear hsz
        have Hk0 := Lib.hid hk0; clear hk0
        have Hal := Lib.hid hal; clear hal
        go_enter Try.func27, Try.ntmps27
        go_wp2_with fail
        refine Ca.out.mono ?_
        rintro e w1 ⟨rfl, hb⟩
        replace S := S.bl hb
        replace B := B.bl hb
        replace D := D.bl hb
        clear hb b0 b1 b2 Ca hr
        obtain ⟨pb, po, rfl, hpb, hpc⟩ := D.at (k := 0) (by omega)
        have a0 := hpc (0 * 2) (by omega)
        have a1 := hpc (0 * 2 + 1) (by omega)
        rw [spotAt_x] at a0
        rw [spotAt_y] at a1
        simp only [Nat.zero_mul, Nat.add_zero, Nat.zero_add] at a0 a1
        obtain ⟨⟨x0, y0⟩, ez⟩ : ∃ s, l.getD 0 (0, 0) = s := ⟨_, rfl⟩
        have hz := Hrg.out 0 (by omega)
        have hk1 := Hk0.out
        rw [ez] at a0 a1 hz hk1
        dsimp only at a0 a1 hz hk1
        obtain ⟨⟨hx1, hx2⟩, hy1, hy2⟩ := hz
        have r0 := Blk.new w1 #[.int .i64 x0, .int .i64 y0, .string (bfN l 0)] 30
        have hl0 : (0 : Int) < (l.length : Int) := by omega
        have hA0 : bfA l 0 = true := rfl
        have Ez := Lib.hid ez; clear ez
        have Hk1 := Lib.hid hk1; clear hk1
        have R0 := Lib.hid r0; clear r0
        have Hpc := Lib.hid hpc; clear hpc
        have HA0 := Lib.hid hA0; clear hA0
        go_wp2
        clear a0 a1
        go_loopw [29] (fun i wr => ∃ k : Nat, k ≤ l.length ∧ i = .int .i64 k ∧ Hid (bfA l k = true) ∧ Blk wr w1.heap.size #[.int .i64 x0, .int .i64 y0, .string (bfN l k)] 30 ∧ Since w1 wr) (fun i _ => l.length - (intOf i).toNat)
        case atStart => exact ⟨0, Nat.zero_le _, rfl, HA0, R0.out, (Since.refl w1).alloc _⟩
        case round =>
          clear R0
          obtain ⟨k, hk, rfl, hA, r, U⟩ := hrel
          have hk00 : (0 : Int) ≤ (k : Int) := Int.natCast_nonneg _
          have hs0 := Hsz.out k hk
          have hs9 : (bfN l k).size ≤ 9600 := by omega
          by_cases hlt : k < l.length
          · have hkl : (k : Int) < (l.length : Int) := by omega
            obtain ⟨m, em⟩ : ∃ m, (k + 1) % l.length = m := ⟨_, rfl⟩
            have hm : m < l.length := em ▸ Nat.mod_lt _ (by omega)
            have hm1 : ((k : Int) + 1) % (l.length : Int) = (m : Int) := by show ((k + 1 : Nat) : Int) % (l.length : Int) = _; rw [← em]; rfl
            have hm2 : Int.tmod ((k : Int) + 1) (l.length : Int) = (m : Int) := by show Int.tmod ((k + 1 : Nat) : Int) (l.length : Int) = _; rw [← em, Int.ofNat_tmod]
            have hm0 : (0 : Int) ≤ (m : Int) := Int.natCast_nonneg _
            have hml : (m : Int) < (l.length : Int) := by omega
            have hln : ¬ (l.length : Int) = 0 := by omega
            have hwm : IntKind.i64.wrap (m : Int) = (m : Int) := IntWalk.i64_in _ (by omega)
            have hwk : IntKind.i64.wrap ((k : Int) + 1) = (k : Int) + 1 := IntWalk.i64_in _ (by omega)
            have hln2 : ¬ l = [] := fun h => by rw [h] at hln; exact hln rfl
            have hln3 : ((l.length : Int) == 0) = false := by rw [beq_eq_false_iff_ne]; exact hln
            obtain ⟨_, _, eP, -, hc⟩ := (D.bl U.below).at (k := 0) (by omega)
            cases eP
            have a0 := hc (k * 2) (by omega)
            have a1 := hc (k * 2 + 1) (by omega)
            have c0 := hc (m * 2) (by omega)
            have c1 := hc (m * 2 + 1) (by omega)
            rw [spotAt_x] at a0 c0
            rw [spotAt_y, ← Nat.add_assoc] at a1 c1
            have hra := Hrg.out k hlt
            have hrb := Hrg.out m hm
            have hsu : bfN l (k + 1) = bfN l k ++ stepS (l.getD k (0, 0)) (l.getD m (0, 0)) := by rw [bfN, nxS, em]
            have hAs : bfA l (k + 1) = (bfA l k && stepB (l.getD k (0, 0)) (l.getD m (0, 0))) := by rw [bfA_succ, nxS, em]
            have hAn : stepB (l.getD k (0, 0)) (l.getD m (0, 0)) = false → bfA l l.length = false := fun h => bfA_no hlt (by rw [nxS, em]; exact h)
            have hss := Hsz.out (k + 1) (by omega)
            obtain ⟨⟨ax, ay⟩, ea⟩ : ∃ s, l.getD k (0, 0) = s := ⟨_, rfl⟩
            obtain ⟨⟨bx, bz⟩, eb⟩ : ∃ s, l.getD m (0, 0) = s := ⟨_, rfl⟩
            rw [ea] at a0 a1 hra hsu hAs hAn
            rw [eb] at c0 c1 hrb hsu hAs hAn
            dsimp only at a0 a1 c0 c1 hra hrb
            have cs := fun w => stepsTo_any ax ay bx bz w hra hrb
            obtain ⟨st, est⟩ : ∃ st, stepS (ax, ay) (bx, bz) = st := ⟨_, rfl⟩
            simp only [est] at cs
            rw [est] at hsu
            rw [hsu, ByteArray.size_append] at hss
            have U1 := U.alloc (.cells #[.int .i64 ax, .int .i64 ay] 28)
            have r1 := r.alloc (.cells #[.int .i64 ax, .int .i64 ay] 28)
            have A := Blk.new wr #[.int .i64 ax, .int .i64 ay] 28
            have y0' := bl_drew (wr.alloc (.cells #[.int .i64 ax, .int .i64 ay] 28))
            have qa0 := (A.bl y0').cat 0 rfl
            have qa1 := (A.bl y0').cat 1 rfl
            have qc0 := (CellAt.bl (show CellAt wr pb (po + m * 2) _ from c0) (bl_alloc wr (.cells #[.int .i64 ax, .int .i64 ay] 28))).bl y0'
            have qc1 := (CellAt.bl (show CellAt wr pb (po + m * 2 + 1) _ from c1) (bl_alloc wr (.cells #[.int .i64 ax, .int .i64 ay] 28))).bl y0'
            have za0 := qa0.out
            have za1 := qa1.out
            have zc0 := qc0.out
            have zc1 := qc1.out
            have U2 := U1.bl y0'
            have r2 := r1.bl y0'
            cases hst : stepB (ax, ay) (bx, bz)
            · rw [hst] at hAs
              simp only [hst] at cs
              have hk := Hk1.out false (by rw [hAn hst]; rfl)
              obtain ⟨k1, k2, k3⟩ := bf_no hk
              have Cs := Lib.hid cs; clear cs
              have Em := Lib.hid em; clear em
              have Ea := Lib.hid ea; clear ea
              have Eb := Lib.hid eb; clear eb
              have Est := Lib.hid est; clear est
              have Hsu := Lib.hid hsu; clear hsu
              have HAs := Lib.hid hAs; clear hAs
              have HAn := Lib.hid hAn; clear hAn
              have Hst := Lib.hid hst; clear hst
              have Hra := Lib.hid hra; clear hra
              have Hrb := Lib.hid hrb; clear hrb
              have Hc := Lib.hid hc; clear hc
              have Hk := Lib.hid hk; clear hk
              have K1 := Lib.hid k1; clear k1
              have K2 := Lib.hid k2; clear k2
              have K3 := Lib.hid k3; clear k3
              go_upto_region 7 with (fail)
              go_region_held3 (fun w' => w'.cell? ⟨wr.heap.size, 0, none⟩ = some (.int .i64 ax) ∧ w'.cell? ⟨wr.heap.size, 1, none⟩ = some (.int .i64 ay) ∧ w'.cell? ⟨pb, po + m * 2, none⟩ = some (.int .i64 bx) ∧ w'.cell? ⟨pb, po + m * 2 + 1, none⟩ = some (.int .i64 bz))
                (first | ((repeat' (apply And.intro)) <;> (refine CellAt.out ?_; (repeat (first | assumption | exact Blk.cat (Blk.new _ _ _) _ rfl | refine CellAt.bl ?_ (bl_alloc _ _) | refine CellAt.bl ?_ (bl_drew _) | refine CellAt.bl ?_ (bl_drewN _ _) | refine CellAt.bl ?_ (by assumption) | refine CellAt.other ?_ (by intro e; injection e; omega) _)))))
                ((first | (go_at_call 57; refine (Cs.out _).mono ?_; rintro e w3 ⟨rfl, hb3⟩)))
              have U3 := U2.bl hb3
              have r3 := r2.bl hb3
              clear hb3 qa0 qa1 qc0 qc1 za0 za1 zc0 zc1 a0 a1 c0 c1 U1 r1 A U2 r2 y0'
              have S3 := S.bl U3.below
              have B3 := B.bl U3.below
              have b0 := B3.cell 0 rfl
              have b1 := B3.cell 1 rfl
              have b2 := B3.cell 2 rfl
              have f0 := B3.frozen 0
              have f1 := B3.frozen 1
              have f2 := B3.frozen 2
              have BZ := ((B3.set 0 (.int .i64 0)).set 1 (.int .i64 0)).set 2 (.string ⟨#[]⟩)
              have s5 := (((S3.setc (p := ⟨w.heap.size, 0, none⟩) (by simp) (.int .i64 0)).setc (p := ⟨w.heap.size, 1, none⟩) (by simp) (.int .i64 0)).setc (p := ⟨w.heap.size, 2, none⟩) (by simp) (.string ⟨#[]⟩)).below
              have e0 := BZ.cell 0 rfl
              have e1 := BZ.cell 1 rfl
              have e2 := BZ.cell 2 rfl
              have S5 := Lib.hid s5; clear s5
              clear BZ S3 B3 U3 r3 S B D r U
              go_wp2
              exact bodyPost_ret (v := .tuple #[.agg #[.int .i64 0, .int .i64 0, .string ⟨#[]⟩], .bool false]) (by simp [results, Try.results27, go_sem, e0, e1, e2]) rfl ⟨by rw [K1.out, K2.out, K3.out, Hk.out], S5.out⟩
            · rw [hst] at hAs
              simp only [hst] at cs
              have hA2 : bfA l (k + 1) = true := by rw [hAs, hA.out]; rfl
              have Cs := Lib.hid cs; clear cs
              have Em := Lib.hid em; clear em
              have Ea := Lib.hid ea; clear ea
              have Eb := Lib.hid eb; clear eb
              have Est := Lib.hid est; clear est
              have Hsu := Lib.hid hsu; clear hsu
              have HAs := Lib.hid hAs; clear hAs
              have HAn := Lib.hid hAn; clear hAn
              have Hst := Lib.hid hst; clear hst
              have Hra := Lib.hid hra; clear hra
              have Hrb := Lib.hid hrb; clear hrb
              have Hc := Lib.hid hc; clear hc
              have HA2 := Lib.hid hA2; clear hA2
              go_upto_region 7 with (fail)
              go_region_held3 (fun w' => w'.cell? ⟨wr.heap.size, 0, none⟩ = some (.int .i64 ax) ∧ w'.cell? ⟨wr.heap.size, 1, none⟩ = some (.int .i64 ay) ∧ w'.cell? ⟨pb, po + m * 2, none⟩ = some (.int .i64 bx) ∧ w'.cell? ⟨pb, po + m * 2 + 1, none⟩ = some (.int .i64 bz))
                (first | ((repeat' (apply And.intro)) <;> (refine CellAt.out ?_; (repeat (first | assumption | exact Blk.cat (Blk.new _ _ _) _ rfl | refine CellAt.bl ?_ (bl_alloc _ _) | refine CellAt.bl ?_ (bl_drew _) | refine CellAt.bl ?_ (bl_drewN _ _) | refine CellAt.bl ?_ (by assumption) | refine CellAt.other ?_ (by intro e; injection e; omega) _)))))
                ((first | (go_at_call 57; refine (Cs.out _).mono ?_; rintro e w3 ⟨rfl, hb3⟩)))
              have U3 := U2.bl hb3
              have r3 := r2.bl hb3
              clear hb3 qa0 qa1 qc0 qc1 za0 za1 zc0 zc1 a0 a1 c0 c1 U1 r1 A U2 r2 y0'
              have t0 := r3.cell 2 rfl
              have t1 := r3.frozen 2
              have r4 := r3.set 2 (.string (bfN l k ++ st))
              have U4 := U3.setc (p := ⟨w1.heap.size, 2, none⟩) (by simp) (.string (bfN l k ++ st))
              have R4 := Lib.hid r4; clear r4
              clear r3 U3 r U
              go_wp2
              go_roundw
              case rel => exact ⟨k + 1, by omega, by go_num, Lib.hid HA2.out, by rw [Hsu.out]; exact R4.out, U4⟩
              case measure => simp [intOf]; omega
          · obtain rfl : k = l.length := by omega
            have hA1 := hA.out
            have hk2 := fun b h => Hk1.out b (by rw [hA1, Bool.true_and]; exact h)
            have hyes := fun h => bf_yes (l := l) h
            obtain ⟨st, est⟩ : ∃ st, bfN l l.length = st := ⟨_, rfl⟩
            rw [est] at r hk2 hs0 hs9 hyes
            rw [Ez.out] at hyes
            dsimp only at hyes
            have c0 := r.cell 0 rfl
            have c1 := r.cell 1 rfl
            have c2 := r.cell 2 rfl
            have hsmall : small (x0, y0) := ⟨⟨by dsimp only; omega, by dsimp only; omega⟩, by dsimp only; omega, by dsimp only; omega⟩
            have cb := fun w => isBorder_any x0 y0 st w (by unfold maxLen; omega) hsmall
            cases hbd : bdB x0 y0 st
            · simp only [hbd] at cb
              have hk := hk2 false (by rw [hbd]; rfl)
              obtain ⟨k1, k2, k3⟩ := bf_no hk
              have Cb := Lib.hid cb; clear cb
              have Hk := Lib.hid hk; clear hk
              have K1 := Lib.hid k1; clear k1
              have K2 := Lib.hid k2; clear k2
              have K3 := Lib.hid k3; clear k3
              have Hk2 := Lib.hid hk2; clear hk2
              have Est := Lib.hid est; clear est
              have HA1 := Lib.hid hA1; clear hA1
              have Hyes := Lib.hid hyes; clear hyes
              have Hbd := Lib.hid hbd; clear hbd
              have Hsmall := Lib.hid hsmall; clear hsmall
              go_wp2_with fail
              refine (Cb.out _).mono ?_
              rintro e w2 ⟨rfl, hb⟩
              have U3 := U.bl hb
              have S3 := S.bl U3.below
              have B3 := B.bl U3.below
              clear hb c0 c1 c2
              have b0 := B3.cell 0 rfl
              have b1 := B3.cell 1 rfl
              have b2 := B3.cell 2 rfl
              have f0 := B3.frozen 0
              have f1 := B3.frozen 1
              have f2 := B3.frozen 2
              have BZ := ((B3.set 0 (.int .i64 0)).set 1 (.int .i64 0)).set 2 (.string ⟨#[]⟩)
              have s5 := (((S3.setc (p := ⟨w.heap.size, 0, none⟩) (by simp) (.int .i64 0)).setc (p := ⟨w.heap.size, 1, none⟩) (by simp) (.int .i64 0)).setc (p := ⟨w.heap.size, 2, none⟩) (by simp) (.string ⟨#[]⟩)).below
              have e0 := BZ.cell 0 rfl
              have e1 := BZ.cell 1 rfl
              have e2 := BZ.cell 2 rfl
              have S5 := Lib.hid s5; clear s5
              clear BZ S3 B3 U3 r S B D U
              go_wp2
              exact bodyPost_ret (v := .tuple #[.agg #[.int .i64 0, .int .i64 0, .string ⟨#[]⟩], .bool false]) (by simp [results, Try.results27, go_sem, e0, e1, e2]) rfl ⟨by rw [K1.out, K2.out, K3.out, Hk.out], S5.out⟩
            · have bd := bdB_iff.1 hbd
              simp only [hbd] at cb
              have cc := fun w => cornersOf_any x0 y0 st w bd hsmall
              have hcl := cornN_len x0 y0 st st.size
              rw [hbd] at hk2
              obtain ⟨C, eC⟩ : ∃ C, cornN x0 y0 st st.size = C := ⟨_, rfl⟩
              simp only [eC] at cc hcl hk2
              have ce := fun pv cv w h1 h2 => equal_any pv (some ⟨pb, po, none⟩) cv c C l w (by omega) hl h1 h2
              by_cases hC : C = l
              · simp only [decide_eq_true hC] at ce
                have hk := hk2 true (by rw [decide_eq_true hC]; rfl)
                obtain ⟨k1, k2, k3⟩ := hyes hk
                have Cb := Lib.hid cb; clear cb
                have Cc := Lib.hid cc; clear cc
                have Ce := Lib.hid ce; clear ce
                have Hk := Lib.hid hk; clear hk
                have K1 := Lib.hid k1; clear k1
                have K2 := Lib.hid k2; clear k2
                have K3 := Lib.hid k3; clear k3
                have Hk2 := Lib.hid hk2; clear hk2
                have Est := Lib.hid est; clear est
                have HA1 := Lib.hid hA1; clear hA1
                have Hyes := Lib.hid hyes; clear hyes
                have Hbd := Lib.hid hbd; clear hbd
                have Hsmall := Lib.hid hsmall; clear hsmall
                have Bd := Lib.hid bd; clear bd
                have HC := Lib.hid hC; clear hC
                have EC := Lib.hid eC; clear eC
                go_wp2_with fail
                refine (Cb.out _).mono ?_
                rintro e w2 ⟨rfl, hb⟩
                have U2 := U.bl hb
                have r2 := r.bl hb
                clear hb c0 c1 c2 r
                have c0 := r2.cell 0 rfl
                have c1 := r2.cell 1 rfl
                have c2 := r2.cell 2 rfl
                go_wp2_with fail
                refine (Cc.out _).mono ?_
                rintro e w3 ⟨v, rfl, O, hb⟩
                have U3 := U2.bl hb
                have r3 := r2.bl hb
                obtain ⟨pv, cv, rfl⟩ := O.form
                have D3 := D.bl U3.below
                clear hb c0 c1 c2 r2 U2
                go_wp2_with fail
                refine (Ce.out pv cv _ O.rd D3).mono ?_
                rintro e w4 ⟨rfl, hb⟩
                have U4 := U3.bl hb
                have r4 := r3.bl hb
                have S3 := S.bl U4.below
                have B3 := B.bl U4.below
                have c0 := r4.cell 0 rfl
                have c1 := r4.cell 1 rfl
                have c2 := r4.cell 2 rfl
                clear hb O D3
                have b0 := B3.cell 0 rfl
                have b1 := B3.cell 1 rfl
                have b2 := B3.cell 2 rfl
                have f0 := B3.frozen 0
                have f1 := B3.frozen 1
                have f2 := B3.frozen 2
                have BZ := ((B3.set 0 (.int .i64 x0)).set 1 (.int .i64 y0)).set 2 (.string st)
                have s5 := (((S3.setc (p := ⟨w.heap.size, 0, none⟩) (by simp) (.int .i64 x0)).setc (p := ⟨w.heap.size, 1, none⟩) (by simp) (.int .i64 y0)).setc (p := ⟨w.heap.size, 2, none⟩) (by simp) (.string st)).below
                have e0 := BZ.cell 0 rfl
                have e1 := BZ.cell 1 rfl
                have e2 := BZ.cell 2 rfl
                have S5 := Lib.hid s5; clear s5
                clear BZ S3 B3 U3 r3 r4 U4 S B D U
                go_wp2
                exact bodyPost_ret (v := .tuple #[.agg #[.int .i64 x0, .int .i64 y0, .string st], .bool true]) (by simp [results, Try.results27, go_sem, e0, e1, e2]) rfl ⟨by rw [K1.out, K2.out, K3.out, Hk.out], S5.out⟩
              · simp only [decide_eq_false hC] at ce
                have hk := hk2 false (by rw [decide_eq_false hC]; rfl)
                obtain ⟨k1, k2, k3⟩ := bf_no hk
                have Cb := Lib.hid cb; clear cb
                have Cc := Lib.hid cc; clear cc
                have Ce := Lib.hid ce; clear ce
                have Hk := Lib.hid hk; clear hk
                have K1 := Lib.hid k1; clear k1
                have K2 := Lib.hid k2; clear k2
                have K3 := Lib.hid k3; clear k3
                have Hk2 := Lib.hid hk2; clear hk2
                have Est := Lib.hid est; clear est
                have HA1 := Lib.hid hA1; clear hA1
                have Hyes := Lib.hid hyes; clear hyes
                have Hbd := Lib.hid hbd; clear hbd
                have Hsmall := Lib.hid hsmall; clear hsmall
                have Bd := Lib.hid bd; clear bd
                have HC := Lib.hid hC; clear hC
                have EC := Lib.hid eC; clear eC
                go_wp2_with fail
                refine (Cb.out _).mono ?_
                rintro e w2 ⟨rfl, hb⟩
                have U2 := U.bl hb
                have r2 := r.bl hb
                clear hb c0 c1 c2 r
                have c0 := r2.cell 0 rfl
                have c1 := r2.cell 1 rfl
                have c2 := r2.cell 2 rfl
                go_wp2_with fail
                refine (Cc.out _).mono ?_
                rintro e w3 ⟨v, rfl, O, hb⟩
                have U3 := U2.bl hb
                obtain ⟨pv, cv, rfl⟩ := O.form
                have D3 := D.bl U3.below
                clear hb c0 c1 c2 r2 U2
                go_wp2_with fail
                refine (Ce.out pv cv _ O.rd D3).mono ?_
                rintro e w4 ⟨rfl, hb⟩
                have U4 := U3.bl hb
                have S3 := S.bl U4.below
                have B3 := B.bl U4.below
                clear hb O D3
                have b0 := B3.cell 0 rfl
                have b1 := B3.cell 1 rfl
                have b2 := B3.cell 2 rfl
                have f0 := B3.frozen 0
                have f1 := B3.frozen 1
                have f2 := B3.frozen 2
                have BZ := ((B3.set 0 (.int .i64 0)).set 1 (.int .i64 0)).set 2 (.string ⟨#[]⟩)
                have s5 := (((S3.setc (p := ⟨w.heap.size, 0, none⟩) (by simp) (.int .i64 0)).setc (p := ⟨w.heap.size, 1, none⟩) (by simp) (.int .i64 0)).setc (p := ⟨w.heap.size, 2, none⟩) (by simp) (.string ⟨#[]⟩)).below
                have e0 := BZ.cell 0 rfl
                have e1 := BZ.cell 1 rfl
                have e2 := BZ.cell 2 rfl
                have S5 := Lib.hid s5; clear s5
                clear BZ S3 B3 U3 U4 S B D U
                go_wp2
                exact bodyPost_ret (v := .tuple #[.agg #[.int .i64 0, .int .i64 0, .string ⟨#[]⟩], .bool false]) (by simp [results, Try.results27, go_sem, e0, e1, e2]) rfl ⟨by rw [K1.out, K2.out, K3.out, Hk.out], S5.out⟩
end Go.Proofs.Ytjplikkehhpomaa
