/- Contract of the reference's test of a border. -/
import Derived.Test.YtjplikkehhpomaaBdS1
import Derived.Test.YtjplikkehhpomaaRows
import Derived.StillTailTactics
import Derived.Lib.Hide
set_option linter.unusedVariables false
set_option linter.unusedSimpArgs false
namespace Go.Proofs.Ytjplikkehhpomaa
open Go.RowKit

/-- The steps made, by their numbers. -/
def mkS (x y : Int) (s : ByteArray) (k i : Nat) : Bool := (List.range k).any fun j => decide (stepNo x y s j = (i : Int))
theorem mkS_zero (x y : Int) (s : ByteArray) (i : Nat) : mkS x y s 0 i = false := rfl
theorem mkS_succ {x y : Int} {s : ByteArray} {k N : Nat} (h : stepNo x y s k = (N : Int)) (i : Nat) : mkS x y s (k + 1) i = if i = N then true else mkS x y s k i := by
  unfold mkS
  rw [List.range_succ, List.any_append, List.any_cons, List.any_nil, Bool.or_false, h]
  by_cases e : i = N
  · rw [if_pos e, e]; simp
  · rw [if_neg e, show decide ((N : Int) = (i : Int)) = false by simp; omega, Bool.or_false]
theorem mkS_true {x y : Int} {s : ByteArray} {k N : Nat} (h : mkS x y s k N = true) : ∃ j, j < k ∧ stepNo x y s j = (N : Int) := by
  obtain ⟨j, hj, e⟩ := List.any_eq_true.1 h
  exact ⟨j, List.mem_range.1 hj, of_decide_eq_true e⟩
theorem mkS_false {x y : Int} {s : ByteArray} {k N : Nat} (h : mkS x y s k N = false) : ∀ j, j < k → ¬ stepNo x y s j = (N : Int) := by
  intro j hj e
  have := List.any_eq_false.1 h j (List.mem_range.2 hj)
  exact this (decide_eq_true e)
/-- Where the reference's test stands. -/
structure BdRel (x y : Int) (s : ByteArray) (b g : Nat) (w wr : World) (k : Nat) : Prop where
  blk : Blk wr b #[.int .i64 x, .int .i64 y, .string s] 30
  at0 : Blk wr (g + 1) #[.int .i64 (pos x y s k).1, .int .i64 (pos x y s k).2] 28
  made : wr.rowIs g 4 1156 (fun i => .bool (mkS x y s k i))
  since : Since w wr
  ge : w.heap.size ≤ g
  lt : b < g
  size : g + 2 ≤ wr.heap.size
  ok : ∀ j < k, StepOk x y s j
  corn : corner (pos x y s k)
theorem BdRel.bl {x y : Int} {s : ByteArray} {b g : Nat} {w wr w' : World} {k : Nat} (r : BdRel x y s b g w wr k) (hb : Below wr.heap.size wr w') : BdRel x y s b g w w' k :=
  ⟨r.blk.bl hb, r.at0.bl hb, row_below r.made hb r.made.lt, r.since.bl hb, r.ge, r.lt, Nat.le_trans r.size hb.size, r.ok, r.corn⟩
theorem Since.setB {w a : World} (h : Since w a) {p : Addr} (hp : w.heap.size ≤ p.block) (v : Value) : Since w (a.setCell p v) := ⟨h.below.setCell hp v⟩
theorem info_boolB : (Try.prog.info? 4).map (fun i => (i.zero, i.size, i.bytes)) = some (some (.bool false), 1, 1) := by kernel_rfl
theorem BdRel.start {x y : Int} {s : ByteArray} {b : Nat} {w w1 : World} (S : Since w w1) (B : Blk w1 b #[.int .i64 x, .int .i64 y, .string s] 30) (hc : corner (x, y)) :
    BdRel x y s b w1.heap.size w ((w1.alloc (.cells (madeCells #[.bool false] 1156) 4)).alloc (.cells #[.int .i64 x, .int .i64 y] 28)) 0 := by
  refine ⟨(B.alloc _).alloc _, ?_, ?_, (S.alloc _).alloc _, S.size, B.lt, by simp, fun j hj => absurd hj (Nat.not_lt_zero j), hc⟩
  · have := Blk.new (w1.alloc (.cells (madeCells #[.bool false] 1156) 4)) #[.int .i64 x, .int .i64 y] 28
    rw [World.size_alloc] at this
    exact this
  · refine row_below ?_ (bl_alloc _ _) (by simp)
    exact (World.rowIs_made w1 (.bool false) 1156 4).congr (fun i _ => by simp [mkS])
set_option maxRecDepth 100000 in
set_option maxHeartbeats 4000000 in
theorem l04Is_any (b : Nat) (x y : Int) (s : ByteArray) (w : World) (hs : s.size ≤ maxLen) (hsm : small (x, y)) (B : Blk w b #[.int .i64 x, .int .i64 y, .string s] 30) :
    Calls Try.prog 29 #[.pointer (some ⟨b, 0, none⟩)] w fun e w' => e = .returned (.bool (bdB x y s)) ∧ Below w.heap.size w w' := by
  have hlt := B.lt
  have S0 := Since.refl w
  have cC := fun w => l04Corner_any x y w
  unfold maxLen at hs
  cases hc : cornB (x, y)
  · have hf : bdB x y s = false := bdB_false fun h => by
      have := (h.step 0 (by have := h.lo; omega)).at0
      rw [← cornB_iff] at this
      rw [show pos x y s 0 = (x, y) from rfl, hc] at this
      cases this
    rw [hf]
    rw [hc] at cC
    have CC := Lib.hid cC; clear cC
    have Hc := Lib.hid hc; clear hc
    have Hf := Lib.hid hf; clear hf
    have k0 := B.cell 0 rfl
    have k1 := B.cell 1 rfl
    have k2 := B.cell 2 rfl
    go_enter Try.func29, Try.ntmps29
    go_wp2_with fail
    refine (CC.out _).mono ?_
    rintro e w1 ⟨rfl, hb⟩
    go_wp2
    go_ret
    exact ⟨rfl, hb⟩
  rw [hc] at cC
  have hco := cornB_iff.1 hc
  by_cases hl : s.size < 4
  · have hf : bdB x y s = false := bdB_false fun h => by have := h.lo; omega
    rw [hf]
    have CC := Lib.hid cC; clear cC
    have Hc := Lib.hid hc; clear hc
    have Hf := Lib.hid hf; clear hf
    have k0 := B.cell 0 rfl
    have k1 := B.cell 1 rfl
    have k2 := B.cell 2 rfl
    go_enter Try.func29, Try.ntmps29
    go_wp2_with fail
    refine (CC.out _).mono ?_
    rintro e w1 ⟨rfl, hb⟩
    go_wp2
    go_ret
    exact ⟨rfl, hb⟩
  by_cases hh : 600 < s.size
  · have hf : bdB x y s = false := bdB_false fun h => by have := h.hi; omega
    rw [hf]
    have CC := Lib.hid cC; clear cC
    have Hc := Lib.hid hc; clear hc
    have Hf := Lib.hid hf; clear hf
    have k0 := B.cell 0 rfl
    have k1 := B.cell 1 rfl
    have k2 := B.cell 2 rfl
    go_enter Try.func29, Try.ntmps29
    go_wp2_with fail
    refine (CC.out _).mono ?_
    rintro e w1 ⟨rfl, hb⟩
    go_wp2
    go_ret
    exact ⟨rfl, hb⟩
  clear hs
  have hl' : 4 ≤ s.size := by omega
  have hh' : s.size ≤ 600 := by omega
  clear hl hh
  have w1 := fun i w => l04Way_any (byteAt s i) w
  have k0 := B.cell 0 rfl
  have k1 := B.cell 1 rfl
  have k2 := B.cell 2 rfl
  obtain ⟨Z, hZ⟩ : ∃ Z, bdB x y s = Z := ⟨_, rfl⟩
  rw [hZ]
  have CC := Lib.hid cC; clear cC
  have Hc := Lib.hid hc; clear hc
  have HZ := Lib.hid hZ; clear hZ
  have W1 := Lib.hid w1; clear w1
  go_enter Try.func29, Try.ntmps29
  go_wp2_with fail
  refine (CC.out _).mono ?_
  rintro e w1 ⟨rfl, hb⟩
  replace S0 := S0.bl hb
  replace B := B.bl hb
  clear k0 k1 k2 hb
  have hr0 := BdRel.start S0 B hco
  have hmk := run_make_row' (P := Try.prog) 81 4 (.bool false) 1 Try.underlying81 info_boolB rfl .i64 .i64 1156 (by omega) (by omega)
  have k1 := (B.alloc (.cells (madeCells #[.bool false] 1156) 4)).cell 0 rfl
  have k2 := (B.alloc (.cells (madeCells #[.bool false] 1156) 4)).cell 1 rfl
  have hlt := B.lt
  rw [show ((1156 : Nat) : Int) = 1156 from rfl] at hmk
  have Hr0 := Lib.hid hr0; clear hr0
  clear B S0
  go_wp2
  clear hmk
  go_loopw [6] (fun i wr => ∃ k : Nat, k ≤ s.size ∧ i = .int .i64 k ∧ BdRel x y s b w1.heap.size w wr k) (fun i _ => s.size - (intOf i).toNat)
  case atStart => exact ⟨0, Nat.zero_le _, rfl, Hr0.out⟩
  case round =>
    clear k1 k2 Hr0
    obtain ⟨k, hk, rfl, r⟩ := hrel
    generalize w1.heap.size = g at *
    have k2 := r.blk.cell 2 rfl
    by_cases hlt : k < s.size
    · obtain ⟨L, eL⟩ : ∃ L, lastOf s.size k = L := ⟨_, rfl⟩
      have hL : L < s.size := eL ▸ lastOf_lt (n := s.size) (i := k) (by omega)
      have w2 : ∀ w, Calls Try.prog 47 #[.int .u8 s[L].toNat] w fun e w' => e = .returned (.int .i64 (way s L)) ∧ w' = w := fun w => by
        rw [byteAt_get hL]
        exact (W1.out L w).mono fun e w' q => ⟨q.1, q.2.symm⟩
      have w1 := W1.out k
      rw [← byteAt_get hlt] at w1
      have hq : Int.tmod ((k : Int) + (s.size : Int) - 1) (s.size : Int) = (L : Int) := by
        rw [← eL, lastOf, show (k : Int) + (s.size : Int) - 1 = ((k + s.size - 1 : Nat) : Int) by omega, Int.ofNat_tmod]
      have hw1 : IntKind.i64.wrap ((k : Int) + (s.size : Int)) = (k : Int) + (s.size : Int) := IntWalk.i64_in _ (by omega)
      have hw2 : IntKind.i64.wrap ((k : Int) + (s.size : Int) - 1) = (k : Int) + (s.size : Int) - 1 := IntWalk.i64_in _ (by omega)
      have w1 : ∀ w, Calls Try.prog 47 #[.int .u8 s[k].toNat] w fun e w' => e = .returned (.int .i64 (way s k)) ∧ w = w' := fun w => by
        rw [byteAt_get hlt]
        exact W1.out k w
      have vb := way_in s k
      have ub := way_in s L
      obtain ⟨v, ev⟩ : ∃ v, way s k = v := ⟨_, rfl⟩
      obtain ⟨u, eu⟩ : ∃ u, way s L = u := ⟨_, rfl⟩
      rw [ev] at w1 vb
      rw [eu] at w2 ub
      have rb := fun wx (h : Below wr.heap.size wr wx) => r.since.bl h
      have hk1 := r.since
      by_cases hv : v < 0
      · have hf : Z = false := by rw [← HZ.out]; exact bdB_false fun h => by have := (h.step k hlt).letter; omega
        have EL := Lib.hid eL; clear eL
        have Ev := Lib.hid ev; clear ev
        have Eu := Lib.hid eu; clear eu
        have R := Lib.hid r; clear r
        have W1 := Lib.hid w1; clear w1
        have W2 := Lib.hid w2; clear w2
        have Hf := Lib.hid hf; clear hf
        have Rb := Lib.hid rb; clear rb
        go_wp2_with fail
        refine (W1.out _).mono ?_
        rintro e w3 ⟨rfl, rfl⟩
        go_wp2_with fail
        go_quiet ((go_at_call 47; with_reducible (exact Calls.quiet_of_same (W2.out _))))
        go_wp2
        go_ret
        exact ⟨ret_bool Hf.out.symm, (hk1.bl (by (repeat' (first | exact Below.refl _ _ | assumption | refine Below.drew ?_ | refine below_drewN ?_ _ | refine Below.alloc ?_ ?_ _ | refine Below.setCell ?_ ?_ _ | go_size)))).below⟩
      by_cases hu : u < 0
      · have hf : Z = false := by rw [← HZ.out]; exact bdB_false fun h => by have := (h.step L hL).letter; omega
        have EL := Lib.hid eL; clear eL
        have Ev := Lib.hid ev; clear ev
        have Eu := Lib.hid eu; clear eu
        have R := Lib.hid r; clear r
        have W1 := Lib.hid w1; clear w1
        have W2 := Lib.hid w2; clear w2
        have Hf := Lib.hid hf; clear hf
        have Rb := Lib.hid rb; clear rb
        go_wp2_with fail
        refine (W1.out _).mono ?_
        rintro e w3 ⟨rfl, rfl⟩
        go_wp2_with fail
        go_quiet ((go_at_call 47; with_reducible (exact Calls.quiet_of_same (W2.out _))))
        go_wp2
        go_ret
        exact ⟨ret_bool Hf.out.symm, (hk1.bl (by (repeat' (first | exact Below.refl _ _ | assumption | refine Below.drew ?_ | refine below_drewN ?_ _ | refine Below.alloc ?_ ?_ _ | refine Below.setCell ?_ ?_ _ | go_size)))).below⟩
      have ht0 : Int.tmod (v + 2) 4 = (v + 2) % 4 := Int.tmod_eq_emod_of_nonneg (by omega)
      obtain ⟨t, et⟩ : ∃ t, Int.tmod (v + 2) 4 = t := ⟨_, rfl⟩
      rw [et] at ht0
      by_cases ht : t = u
      · have hf : Z = false := by
          rw [← HZ.out]
          exact bdB_false fun h => by
            have := (h.step k hlt).turn
            rw [eL, ev, eu] at this
            omega
        have hte : (t == u) = true := by simp [ht]
        clear ht
        have EL := Lib.hid eL; clear eL
        have Ev := Lib.hid ev; clear ev
        have Eu := Lib.hid eu; clear eu
        have R := Lib.hid r; clear r
        have W1 := Lib.hid w1; clear w1
        have W2 := Lib.hid w2; clear w2
        have Hf := Lib.hid hf; clear hf
        have Rb := Lib.hid rb; clear rb
        have Ht0 := Lib.hid ht0; clear ht0
        go_wp2_with fail
        refine (W1.out _).mono ?_
        rintro e w3 ⟨rfl, rfl⟩
        go_wp2_with fail
        go_quiet ((go_at_call 47; with_reducible (exact Calls.quiet_of_same (W2.out _))))
        go_wp2
        go_ret
        exact ⟨ret_bool Hf.out.symm, (hk1.bl (by (repeat' (first | exact Below.refl _ _ | assumption | refine Below.drew ?_ | refine below_drewN ?_ _ | refine Below.alloc ?_ ?_ _ | refine Below.setCell ?_ ?_ _ | go_size)))).below⟩
      have hte : (t == u) = false := by simp [ht]
      have hturn : ¬ (way s (lastOf s.size k) + 2) % 4 = way s k := by rw [eL, ev, eu]; omega
      clear ht
      obtain ⟨⟨p1, p2⟩, p3, p4⟩ := r.corn
      have hnx := nxt_d (p := pos x y s k) ⟨⟨by omega, by omega⟩, by omega, by omega⟩ (k := v) (by omega) (by omega)
      have hpn : pos x y s (k + 1) = nxt (pos x y s k) v := by rw [← ev]; rfl
      rw [← hpn] at hnx
      have hX : ∃ X : Nat, (pos x y s k).1 = X := ⟨_, (Int.toNat_of_nonneg p1).symm⟩
      have hY : ∃ Y : Nat, (pos x y s k).2 = Y := ⟨_, (Int.toNat_of_nonneg p3).symm⟩
      have hV : ∃ V : Nat, v = V := ⟨_, (Int.toNat_of_nonneg (by omega)).symm⟩
      obtain ⟨X, eX⟩ := hX
      obtain ⟨Y, eY⟩ := hY
      obtain ⟨V, eV⟩ := hV
      have hno : stepNo x y s k = (((Y * 17 + X) * 4 + V : Nat) : Int) := by
        rw [stepNo, eX, eY, ev, eV]
        omega
      obtain ⟨N, eN⟩ : ∃ N, (Y * 17 + X) * 4 + V = N := ⟨_, rfl⟩
      rw [eN] at hno
      have hNi : ((Y : Int) * 17 + (X : Int)) * 4 + (V : Int) = (N : Int) := by omega
      have hNl : N < 1156 := by rw [eX] at p2; rw [eY] at p4; omega
      have hX16 : (X : Int) ≤ 16 := by omega
      have hY16 : (Y : Int) ≤ 16 := by omega
      have hV3 : (V : Int) ≤ 3 := by omega
      have cX := r.at0.cell 0 rfl
      have cY := r.at0.cell 1 rfl
      rw [eX] at cX
      rw [eY] at cY
      have cM := r.made.cell hNl
      have fM := r.made.frozen N
      subst eV
      clear eN
      cases hm : mkS x y s k N
      · rw [hm] at cM
        have hfresh : ∀ j < k, ¬ edge x y s j = edge x y s k := fun j hj e => by
          have hj' := r.ok j hj
          exact mkS_false hm j hj (((stepNo_inj hj'.at0 r.corn hj'.letter (by omega)).2 e).trans hno)
        have hok : StepOk x y s k := ⟨by omega, r.corn, hturn, hfresh⟩
        have cX2 := fun w => l04X_any (V : Int) w
        have cY2 := fun w => l04Y_any (V : Int) w
        obtain ⟨d1, ed1⟩ : ∃ d, dX (V : Int) = d := ⟨_, rfl⟩
        obtain ⟨d2, ed2⟩ : ∃ d, dY (V : Int) = d := ⟨_, rfl⟩
        have hd1 : -1 ≤ d1 ∧ d1 ≤ 1 := by rw [← ed1]; unfold dX; split <;> (try split) <;> omega
        have hd2 : -1 ≤ d2 ∧ d2 ≤ 1 := by rw [← ed2]; unfold dY; split <;> (try split) <;> omega
        rw [ed1] at cX2
        rw [ed2] at cY2
        rw [ed1, ed2, eX, eY, wrap_id (by omega), wrap_id (by omega)] at hnx
        have hx1 : IntKind.i64.wrap ((X : Int) + d1) = (X : Int) + d1 := IntWalk.i64_in _ (by omega)
        have hy1 : IntKind.i64.wrap ((Y : Int) + d2) = (Y : Int) + d2 := IntWalk.i64_in _ (by omega)
        have cC2 := fun w => l04Corner_any ((X : Int) + d1) ((Y : Int) + d2) w
        have hrok := r.ok
        have EL := Lib.hid eL; clear eL
        have Ev := Lib.hid ev; clear ev
        have Eu := Lib.hid eu; clear eu
        have R := Lib.hid r; clear r
        have W1 := Lib.hid w1; clear w1
        have W2 := Lib.hid w2; clear w2
        have Rb := Lib.hid rb; clear rb
        have Ht0 := Lib.hid ht0; clear ht0
        have Hno := Lib.hid hno; clear hno
        have Hfresh := Lib.hid hfresh; clear hfresh
        have Hok := Lib.hid hok; clear hok
        have Ed1 := Lib.hid ed1; clear ed1
        have Ed2 := Lib.hid ed2; clear ed2
        have Hnx := Lib.hid hnx; clear hnx
        have CX2 := Lib.hid cX2; clear cX2
        have CY2 := Lib.hid cY2; clear cY2
        have CC2 := Lib.hid cC2; clear cC2
        have Hpn := Lib.hid hpn; clear hpn
        have Hturn := Lib.hid hturn; clear hturn
        have Hm := Lib.hid hm; clear hm
        have Hrok := Lib.hid hrok; clear hrok
        have EX := Lib.hid eX; clear eX
        have EY := Lib.hid eY; clear eY
        go_wp2_with fail
        refine (W1.out _).mono ?_
        rintro e w3 ⟨rfl, rfl⟩
        go_wp2_with fail
        go_quiet ((go_at_call 47; with_reducible (exact Calls.quiet_of_same (W2.out _))))
        replace r := R.out.bl (bl_drewN wr nq)
        generalize wr.drewN nq = wq at *
        clear k2 cX cY cM fM hk1
        have k2 := r.blk.cell 2 rfl
        have cX := r.at0.cell 0 rfl
        have cY := r.at0.cell 1 rfl
        rw [EX.out] at cX
        rw [EY.out] at cY
        have cM := r.made.cell hNl
        have fM := r.made.frozen N
        rw [Hm.out] at cM
        have hgl := r.size
        have hge := r.ge
        have hbg := r.lt
        have M1 := (r.made.set N (.bool true)).congr (g := fun i => .bool (mkS x y s (k + 1) i)) (fun i _ => by rw [mkS_succ Hno.out]; by_cases e : i = N <;> simp [e])
        have A1 : Blk (wq.setCell ⟨g, N, none⟩ (.bool true)) (g + 1) #[.int .i64 X, .int .i64 Y] 28 := by
          have := r.at0.other (a := ⟨g, N, none⟩) (by simp) (.bool true)
          rwa [EX.out, EY.out] at this
        have B1 := r.blk.other (a := ⟨g, N, none⟩) (by simp; omega) (.bool true)
        have S1 := r.since.setB (p := ⟨g, N, none⟩) hge (.bool true)
        have hsz : (wq.setCell ⟨g, N, none⟩ (.bool true)).heap.size = wq.heap.size := by simp
        clear r
        go_upto_region 17 with (fail)
        generalize wq.setCell ⟨g, N, none⟩ (.bool true) = wa at *
        clear cM fM cX cY k2
        have Q0 := A1.cell 0 rfl
        have F0 := A1.frozen 0
        go_still_tail 6, (by kernel_rfl)
        still_call ((CX2.out _).mono (fun e w' q => ⟨q.1, q.2.symm⟩))
        repeat still_step
        refine wpStill_nil ?_
        change wpList _ _ _ _ _ wa.drew
        have hlt1 := M1.lt
        have A2 : Blk ((wa.setCell ⟨g + 1, 0, none⟩ (.int .i64 ((X : Int) + d1))).drew) (g + 1) #[.int .i64 ((X : Int) + d1), .int .i64 Y] 28 := (A1.set 0 _).bl (bl_drew _)
        have B2 : Blk ((wa.setCell ⟨g + 1, 0, none⟩ (.int .i64 ((X : Int) + d1))).drew) b #[.int .i64 x, .int .i64 y, .string s] 30 := (B1.other (a := ⟨g + 1, 0, none⟩) (by simp; omega) _).bl (bl_drew _)
        have M2 := row_below (M1.of_block (Below.heap_setCell wa ⟨g + 1, 0, none⟩ (.int .i64 ((X : Int) + d1)) g (by simp))) (bl_drew (wa.setCell ⟨g + 1, 0, none⟩ (.int .i64 ((X : Int) + d1)))) (by simp; omega)
        have S2 : Since w ((wa.setCell ⟨g + 1, 0, none⟩ (.int .i64 ((X : Int) + d1))).drew) := (S1.setB (by simp; omega) _).bl (bl_drew _)
        have hsz2 : ((wa.setCell ⟨g + 1, 0, none⟩ (.int .i64 ((X : Int) + d1))).drew).heap.size = wa.heap.size := by simp
        go_upto_region 18 with (fail)
        clear Q0 F0
        generalize (wa.setCell ⟨g + 1, 0, none⟩ (.int .i64 ((X : Int) + d1))).drew = wb at *
        rw [hsz] at hsz2
        clear A1 B1 M1 S1 hlt1 hsz
        have A1 := A2
        have B1 := B2
        have M1 := M2
        have S1 := S2
        have hsz := hsz2
        clear A2 B2 M2 S2 hsz2
        have hlt1 := M1.lt
        have Q0 := A1.cell 1 rfl
        have F0 := A1.frozen 1
        go_still_tail 6, (by kernel_rfl)
        still_call ((CY2.out _).mono (fun e w' q => ⟨q.1, q.2.symm⟩))
        repeat still_step
        refine wpStill_nil ?_
        change wpList _ _ _ _ _ wb.drew
        have A2 : Blk ((wb.setCell ⟨g + 1, 1, none⟩ (.int .i64 ((Y : Int) + d2))).drew) (g + 1) #[.int .i64 ((X : Int) + d1), .int .i64 ((Y : Int) + d2)] 28 := (A1.set 1 _).bl (bl_drew _)
        have B2 : Blk ((wb.setCell ⟨g + 1, 1, none⟩ (.int .i64 ((Y : Int) + d2))).drew) b #[.int .i64 x, .int .i64 y, .string s] 30 := (B1.other (a := ⟨g + 1, 1, none⟩) (by simp; omega) _).bl (bl_drew _)
        have M2 := row_below (M1.of_block (Below.heap_setCell wb ⟨g + 1, 1, none⟩ (.int .i64 ((Y : Int) + d2)) g (by simp))) (bl_drew (wb.setCell ⟨g + 1, 1, none⟩ (.int .i64 ((Y : Int) + d2)))) (by simp; omega)
        have S2 : Since w ((wb.setCell ⟨g + 1, 1, none⟩ (.int .i64 ((Y : Int) + d2))).drew) := (S1.setB (by simp; omega) _).bl (bl_drew _)
        have hsz2 : ((wb.setCell ⟨g + 1, 1, none⟩ (.int .i64 ((Y : Int) + d2))).drew).heap.size = wb.heap.size := by simp
        go_upto_region 19 with (fail)
        clear Q0 F0
        generalize (wb.setCell ⟨g + 1, 1, none⟩ (.int .i64 ((Y : Int) + d2))).drew = wc at *
        rw [hsz] at hsz2
        clear A1 B1 M1 S1 hlt1 hsz
        have Q0 := A2.cell 0 rfl
        have Q1 := A2.cell 1 rfl
        cases hcn : cornB ((X : Int) + d1, (Y : Int) + d2)
        · have hf : Z = false := by
            rw [← HZ.out]
            refine bdB_false fun h => ?_
            have hp1 : corner (pos x y s (k + 1)) := by
              by_cases hlast : k + 1 < s.size
              · exact (h.step (k + 1) hlast).at0
              · have : k + 1 = s.size := by omega
                rw [this, h.back]
                exact hco
            rw [Hnx.out, ← cornB_iff, hcn] at hp1
            cases hp1
          have cC3 := CC2.out
          rw [hcn] at cC3
          have Hf := Lib.hid hf; clear hf
          have Hcn := Lib.hid hcn; clear hcn
          have CC3 := Lib.hid cC3; clear cC3
          go_wp2_with fail
          refine (CC3.out _).mono ?_
          rintro e wd ⟨rfl, hb⟩
          go_wp2
          go_ret
          exact ⟨ret_bool Hf.out.symm, (S2.bl hb).below⟩
        · have cC3 := CC2.out
          rw [hcn] at cC3
          have hr2 : BdRel x y s b g w wc (k + 1) := by
            refine ⟨B2, ?_, M2, S2, hge, hbg, by omega, ?_, ?_⟩
            · rw [Hnx.out]; exact A2
            · intro j hj
              rcases Nat.lt_or_ge j k with h | h
              · exact Hrok.out j h
              · obtain rfl : j = k := by omega
                exact Hok.out
            · rw [Hnx.out, ← cornB_iff]; exact hcn
          have Hcn := Lib.hid hcn; clear hcn
          have CC3 := Lib.hid cC3; clear cC3
          have Hr2 := Lib.hid hr2; clear hr2
          go_wp2_with fail
          refine (CC3.out _).mono ?_
          rintro e wd ⟨rfl, hb⟩
          have hr3 := Hr2.out.bl hb
          have Hr3 := Lib.hid hr3; clear hr3
          go_wp2
          go_roundw
          case rel => exact ⟨k + 1, by omega, by go_num, Hr3.out⟩
          case measure => simp [intOf]; omega
      · have hf : Z = false := by
          rw [← HZ.out]
          exact bdB_false fun h => by
            obtain ⟨j, hj, e⟩ := mkS_true hm
            have h1 := h.step j (by omega)
            have h2 := h.step k hlt
            exact h2.fresh j hj ((stepNo_inj h1.at0 h2.at0 h1.letter h2.letter).1 (e.trans hno.symm))
        rw [hm] at cM
        have EL := Lib.hid eL; clear eL
        have Ev := Lib.hid ev; clear ev
        have Eu := Lib.hid eu; clear eu
        have R := Lib.hid r; clear r
        have W1 := Lib.hid w1; clear w1
        have W2 := Lib.hid w2; clear w2
        have Hf := Lib.hid hf; clear hf
        have Rb := Lib.hid rb; clear rb
        have Ht0 := Lib.hid ht0; clear ht0
        have Hno := Lib.hid hno; clear hno
        have Hnx := Lib.hid hnx; clear hnx
        have Hpn := Lib.hid hpn; clear hpn
        have Hturn := Lib.hid hturn; clear hturn
        have Hm := Lib.hid hm; clear hm
        go_wp2_with fail
        refine (W1.out _).mono ?_
        rintro e w3 ⟨rfl, rfl⟩
        go_wp2_with fail
        go_quiet ((go_at_call 47; with_reducible (exact Calls.quiet_of_same (W2.out _))))
        go_wp2
        go_ret
        exact ⟨ret_bool Hf.out.symm, (hk1.bl (by (repeat' (first | exact Below.refl _ _ | assumption | refine Below.drew ?_ | refine below_drewN ?_ _ | refine Below.alloc ?_ ?_ _ | refine Below.setCell ?_ ?_ _ | go_size)))).below⟩
    · obtain rfl : k = s.size := by omega
      have hz : Z = decide (pos x y s s.size = (x, y)) := by
        rw [← HZ.out]
        by_cases h : pos x y s s.size = (x, y)
        · rw [decide_eq_true h]
          exact bdB_true ⟨hl', hh', r.ok, h⟩
        · rw [decide_eq_false h]
          exact bdB_false fun h2 => h h2.back
      obtain ⟨P1, e1⟩ : ∃ P, (pos x y s s.size).1 = P := ⟨_, rfl⟩
      obtain ⟨P2, e2⟩ : ∃ P, (pos x y s s.size).2 = P := ⟨_, rfl⟩
      have k0 := r.blk.cell 0 rfl
      have k1 := r.blk.cell 1 rfl
      have q0 := r.at0.cell 0 rfl
      have q1 := r.at0.cell 1 rfl
      rw [e1] at q0
      rw [e2] at q1
      have hS := r.since
      have hz2 : Z = decide (P1 = x ∧ P2 = y) := by
        rw [hz]
        simp [Prod.ext_iff, e1, e2]
      have Hz := Lib.hid hz; clear hz
      have Hz2 := Lib.hid hz2; clear hz2
      have R := Lib.hid r; clear r
      clear e1 e2
      by_cases h1 : P1 = x
      · subst h1
        by_cases h2 : P2 = y
        · subst h2
          go_wp2_with fail
          go_quiet (fail)
          go_wp2
          go_ret
          exact ⟨ret_bool (by rw [Hz2.out]; simp), (hS.bl (by (repeat' (first | exact Below.refl _ _ | assumption | refine Below.drew ?_ | refine below_drewN ?_ _ | refine Below.alloc ?_ ?_ _ | refine Below.setCell ?_ ?_ _ | go_size)))).below⟩
        · go_wp2_with fail
          go_quiet (fail)
          go_wp2
          go_ret
          exact ⟨ret_bool (by rw [Hz2.out]; simp [h2]), (hS.bl (by (repeat' (first | exact Below.refl _ _ | assumption | refine Below.drew ?_ | refine below_drewN ?_ _ | refine Below.alloc ?_ ?_ _ | refine Below.setCell ?_ ?_ _ | go_size)))).below⟩
      · go_wp2_with fail
        go_quiet (fail)
        go_wp2
        go_ret
        exact ⟨ret_bool (by rw [Hz2.out]; simp [h1]), (hS.bl (by (repeat' (first | exact Below.refl _ _ | assumption | refine Below.drew ?_ | refine below_drewN ?_ _ | refine Below.alloc ?_ ?_ _ | refine Below.setCell ?_ ?_ _ | go_size)))).below⟩
end Go.Proofs.Ytjplikkehhpomaa
