/- Contracts of the corners of a border, the reference's and the program's. -/
import Derived.Test.YtjplikkehhpomaaBdT
set_option linter.unusedVariables false
set_option linter.unusedSimpArgs false
namespace Go.Proofs.Ytjplikkehhpomaa
open Go.RowKit

/-- The corners at which the first steps turn. -/
def cornN (x y : Int) (s : ByteArray) : Nat → List (Int × Int)
  | 0 => []
  | k + 1 => cornN x y s k ++ if turnT s k = 0 then [] else [pos x y s k]
theorem cornN_len (x y : Int) (s : ByteArray) : ∀ k : Nat, (cornN x y s k).length ≤ k
  | 0 => Nat.le_refl _
  | k + 1 => by
    have ih := cornN_len x y s k
    rw [cornN, List.length_append]
    split <;> simp <;> omega
noncomputable def cnrB (x y : Int) (s : ByteArray) : List (Int × Int) := if bdB x y s then cornN x y s s.size else []
theorem cnrB_len (x y : Int) (s : ByteArray) : (cnrB x y s).length ≤ 1048576 := by
  unfold cnrB
  split
  · rename_i h
    have := (bdB_iff.1 h).hi
    have := cornN_len x y s s.size
    omega
  · simp
/-- Where the making of the corners stands. -/
structure CoRel (x y : Int) (s : ByteArray) (b a : Nat) (w wr : World) (v : Value) (k : Nat) : Prop where
  blk : Blk wr b #[.int .i64 x, .int .i64 y, .string s] 30
  at0 : Blk wr a #[.int .i64 (pos x y s k).1, .int .i64 (pos x y s k).2] 28
  own : OwnSpots w.heap.size wr v (cornN x y s k)
  ne : ∀ i, v.ownBlock = some i → ¬ i = a
  since : Since w wr
  ge : w.heap.size ≤ a
  lt : b < w.heap.size
theorem CoRel.bl {x y : Int} {s : ByteArray} {b a : Nat} {w wr w' : World} {v : Value} {k : Nat} (r : CoRel x y s b a w wr v k) (hb : Below wr.heap.size wr w') : CoRel x y s b a w w' v k :=
  ⟨r.blk.bl hb, r.at0.bl hb, r.own.bl hb, r.ne, r.since.bl hb, r.ge, r.lt⟩
set_option maxRecDepth 100000 in
set_option maxHeartbeats 8000000 in
theorem l04Corners_any (b : Nat) (x y : Int) (s : ByteArray) (w : World) (bd : Bd x y s) (B : Blk w b #[.int .i64 x, .int .i64 y, .string s] 30) :
    Calls Try.prog 33 #[.pointer (some ⟨b, 0, none⟩)] w fun e w' => ∃ v, e = .returned v ∧ OwnSpots w.heap.size w' v (cornN x y s s.size) ∧ Below w.heap.size w w' := by
  have hlo := bd.lo
  have hhi := bd.hi
  have hlt := B.lt
  have hW : ∀ i w, Calls Try.prog 47 #[.int .u8 (byteAt s i).toNat] w fun e w' => e = .returned (.int .i64 (way s i)) ∧ w = w' := fun i w => l04Way_any _ w
  have hT := fun k w1 (hk : k < s.size) (B1 : Blk w1 b #[.int .i64 x, .int .i64 y, .string s] 30) => l04Turn_any b x y s k w1 bd hk B1
  have B1 := B.alloc (.cells #[] 28)
  have k0 := B1.cell 0 rfl
  have k1 := B1.cell 1 rfl
  have r0 : CoRel x y s b (w.heap.size + 1) w ((w.alloc (.cells #[] 28)).alloc (.cells #[.int .i64 x, .int .i64 y] 28)) (.slice (some ⟨w.heap.size, 0, none⟩) 0 0) 0 := by
    refine ⟨B1.alloc _, ?_, ⟨_, _, rfl, own_below (World.ownsRow_made (base := w.heap.size) (e := 28) (size := 2) w #[] 0 (Nat.le_refl _) (by decide) rfl) (bl_alloc _ _) (Nat.le_refl _)⟩, by simp [Value.ownBlock], ((Since.refl w).alloc _).alloc _, by omega, hlt⟩
    have := Blk.new (w.alloc (.cells #[] 28)) #[.int .i64 x, .int .i64 y] 28
    rw [World.size_alloc] at this
    exact this
  clear B1
  have Bd := Lib.hid bd; clear bd
  have HW := Lib.hid hW; clear hW
  have HT := Lib.hid hT; clear hT
  have R0 := Lib.hid r0; clear r0
  go_enter Try.func33, Try.ntmps33
  go_wp2
  clear k0 k1
  generalize w.heap.size + 1 = a at *
  go_loopw [3, 5] (fun v i wr => ∃ k : Nat, k ≤ s.size ∧ i = .int .i64 k ∧ CoRel x y s b a w wr v k) (fun _ i _ => s.size - (intOf i).toNat)
  case atStart => exact ⟨0, Nat.zero_le _, rfl, R0.out⟩
  case round =>
    clear R0
    obtain ⟨k, hk, rfl, r⟩ := hrel
    have k2 := r.blk.cell 2 rfl
    by_cases hlt : k < s.size
    · have w1 : ∀ w, Calls Try.prog 47 #[.int .u8 s[k].toNat] w fun e w' => e = .returned (.int .i64 (way s k)) ∧ w = w' := fun w => by
        rw [byteAt_get hlt]
        exact HW.out k w
      have hct := HT.out k _ hlt r.blk
      have hnx := Bd.out.next hlt
      obtain ⟨⟨c1, c2⟩, c3, c4⟩ := Bd.out.corner_at (k := k) hk
      have hn2 := Bd.out.turn2 hlt
      have h4 := turnT_in s k
      have hes : cornN x y s (k + 1) = cornN x y s k ++ if turnT s k = 0 then [] else [pos x y s k] := rfl
      have hle := cornN_len x y s k
      have hwa := r.ge
      have hbw := r.lt
      have A0 := r.at0
      have B0 := r.blk
      obtain ⟨q, c, rfl, ho⟩ := r.own
      have hne := r.ne
      have S0 := r.since
      have hd1 : -1 ≤ dX (way s k) ∧ dX (way s k) ≤ 1 := by unfold dX; split <;> (try split) <;> omega
      have hd2 : -1 ≤ dY (way s k) ∧ dY (way s k) ≤ 1 := by unfold dY; split <;> (try split) <;> omega
      have cX2 := fun w => l04X_any (way s k) w
      have cY2 := fun w => l04Y_any (way s k) w
      have hpe : pos x y s k = ((pos x y s k).1, (pos x y s k).2) := rfl
      obtain ⟨P1, eP1⟩ : ∃ P, (pos x y s k).1 = P := ⟨_, rfl⟩
      obtain ⟨P2, eP2⟩ : ∃ P, (pos x y s k).2 = P := ⟨_, rfl⟩
      rw [eP1, eP2] at hpe
      obtain ⟨t, et⟩ : ∃ t, turnT s k = t := ⟨_, rfl⟩
      obtain ⟨V, ev⟩ : ∃ V, way s k = V := ⟨_, rfl⟩
      obtain ⟨d1, ed1⟩ : ∃ d, dX (way s k) = d := ⟨_, rfl⟩
      obtain ⟨d2, ed2⟩ : ∃ d, dY (way s k) = d := ⟨_, rfl⟩
      obtain ⟨Ls, eLs⟩ : ∃ L, cornN x y s k = L := ⟨_, rfl⟩
      rw [eP1, eP2] at A0 hnx
      rw [ed1, ed2] at hnx
      rw [ed1] at cX2 hd1
      rw [ed2] at cY2 hd2
      rw [ev] at w1 cX2 cY2
      rw [et] at hct hn2 h4 hes
      rw [eP1] at c1 c2
      rw [eP2] at c3 c4
      rw [eLs] at hes hle ho hne ⊢
      rw [hpe] at hes
      obtain ⟨n, en⟩ : ∃ n, Ls.length = n := ⟨_, rfl⟩
      rw [en] at hle ho hne ⊢
      have hx1 : IntKind.i64.wrap (P1 + d1) = P1 + d1 := IntWalk.i64_in _ (by omega)
      have hy1 : IntKind.i64.wrap (P2 + d2) = P2 + d2 := IntWalk.i64_in _ (by omega)
      have e4 : t = 0 ∨ t = 1 ∨ t = 3 := by omega
      clear hn2 h4 r
      have W1 := Lib.hid w1; clear w1
      have Hct := Lib.hid hct; clear hct
      have Hnx := Lib.hid hnx; clear hnx
      have Hes := Lib.hid hes; clear hes
      have CX2 := Lib.hid cX2; clear cX2
      have CY2 := Lib.hid cY2; clear cY2
      have Ev := Lib.hid ev; clear ev
      have Ed1 := Lib.hid ed1; clear ed1
      have Ed2 := Lib.hid ed2; clear ed2
      have ELs := Lib.hid eLs; clear eLs
      have En := Lib.hid en; clear en
      have Et := Lib.hid et; clear et
      have EP1 := Lib.hid eP1; clear eP1
      have EP2 := Lib.hid eP2; clear eP2
      have Hpe := Lib.hid hpe; clear hpe
      rcases e4 with rfl | rfl | rfl
      · rw [show turn1 0 = 0 from rfl] at Hct
        go_wp2_with fail
        refine Hct.out.mono ?_
        rintro e w4 ⟨rfl, hb⟩
        have A1 := A0.bl hb
        have B1 := B0.bl hb
        have O1 := own_below ho hb (Nat.le_refl _)
        have S1 := S0.bl hb
        have hcs0 : cornN x y s (k + 1) = Ls := by rw [Hes.out]; simp
        have hn' : (cornN x y s (k + 1)).length = n := by rw [hcs0]; exact En.out
        have hcs : spotCells (cornN x y s (k + 1)) = spotCells Ls := by rw [hcs0]
        have hna : some a ≠ (Value.slice q n c).ownBlock := fun e => hne a e.symm rfl
        have hne2 := hne
        clear hb A0 B0 ho S0 hne k2 hcs0
        have k2 := B1.cell 2 rfl
        obtain ⟨cs', ecs⟩ : ∃ cs', spotCells Ls = cs' := ⟨_, rfl⟩
        rw [ecs] at hcs O1
        clear ecs
        go_wp2_with fail
        have Hna := Lib.hid hna; clear hna
        have Hn' := Lib.hid hn'; clear hn'
        have Hne2 := Lib.hid hne2; clear hne2
        have Hcs := Lib.hid hcs; clear hcs
        refine (W1.out _).mono ?_
        rintro e w3 ⟨rfl, rfl⟩
        go_wp2_with fail
        have Q0 := A1.cell 0 rfl
        have F0 := A1.frozen 0
        go_still_tail 6, (by kernel_rfl)
        still_call ((CX2.out _).mono (fun e w' q => ⟨q.1, q.2.symm⟩))
        repeat still_step
        refine wpStill_nil ?_
        change wpList _ _ _ _ _ w4.drew
        have A2 : Blk ((w4.setCell ⟨a, 0, none⟩ (.int .i64 (P1 + d1))).drew) a #[.int .i64 (P1 + d1), .int .i64 P2] 28 := (A1.set 0 _).bl (bl_drew _)
        have B2 : Blk ((w4.setCell ⟨a, 0, none⟩ (.int .i64 (P1 + d1))).drew) b #[.int .i64 x, .int .i64 y, .string s] 30 := (B1.other (a := ⟨a, 0, none⟩) (by simp; omega) _).bl (bl_drew _)
        have O2 : (w4.setCell ⟨a, 0, none⟩ (.int .i64 (P1 + d1))).drew.ownsRow w.heap.size 28 2 (.slice q n c) n cs' := own_below (own_other O1 (a := ⟨a, 0, none⟩) (Hna.out) (.int .i64 (P1 + d1))) (bl_drew _) (Nat.le_refl _)
        have S2 : Since w ((w4.setCell ⟨a, 0, none⟩ (.int .i64 (P1 + d1))).drew) := (S1.setE (by simp; omega) _).bl (bl_drew _)
        go_upto_region 10 with (fail)
        clear Q0 F0 k2
        generalize (w4.setCell ⟨a, 0, none⟩ (.int .i64 (P1 + d1))).drew = wb at *
        clear A1 B1 O1 S1
        have A1 := A2
        have B1 := B2
        have O1 := O2
        have S1 := S2
        clear A2 B2 O2 S2
        have Q0 := A1.cell 1 rfl
        have F0 := A1.frozen 1
        go_still_tail 6, (by kernel_rfl)
        still_call ((CY2.out _).mono (fun e w' q => ⟨q.1, q.2.symm⟩))
        repeat still_step
        refine wpStill_nil ?_
        change wpList _ _ _ _ _ wb.drew
        have A2 : Blk ((wb.setCell ⟨a, 1, none⟩ (.int .i64 (P2 + d2))).drew) a #[.int .i64 (P1 + d1), .int .i64 (P2 + d2)] 28 := (A1.set 1 _).bl (bl_drew _)
        have B2 : Blk ((wb.setCell ⟨a, 1, none⟩ (.int .i64 (P2 + d2))).drew) b #[.int .i64 x, .int .i64 y, .string s] 30 := (B1.other (a := ⟨a, 1, none⟩) (by simp; omega) _).bl (bl_drew _)
        have O2 : (wb.setCell ⟨a, 1, none⟩ (.int .i64 (P2 + d2))).drew.ownsRow w.heap.size 28 2 (.slice q n c) n cs' := own_below (own_other O1 (a := ⟨a, 1, none⟩) (Hna.out) (.int .i64 (P2 + d2))) (bl_drew _) (Nat.le_refl _)
        have S2 : Since w ((wb.setCell ⟨a, 1, none⟩ (.int .i64 (P2 + d2))).drew) := (S1.setE (by simp; omega) _).bl (bl_drew _)
        have hr3 : CoRel x y s b a w ((wb.setCell ⟨a, 1, none⟩ (.int .i64 (P2 + d2))).drew) (.slice q n c) (k + 1) := by
          refine ⟨B2, ?_, ⟨q, c, by rw [Hn'.out], by rw [Hn'.out, Hcs.out]; exact O2⟩, Hne2.out, S2, hwa, hbw⟩
          rw [Hnx.out]
          exact A2
        clear A2 B2 O2 S2 A1 B1 O1 S1
        have Hr3 := Lib.hid hr3; clear hr3
        go_wp2
        go_roundw
        case rel => exact ⟨k + 1, by omega, by go_num, Hr3.out⟩
        case measure => simp [intOf]; omega
      · rw [show turn1 1 = 1 from rfl] at Hct
        have hna0 : some a ≠ (Value.slice q n c).ownBlock := fun e => hne a e.symm rfl
        go_wp2_with fail
        refine Hct.out.mono ?_
        rintro e w4 ⟨rfl, hb⟩
        have A3 := A0.bl hb
        have B3 := B0.bl hb
        have O3 := own_below ho hb (Nat.le_refl _)
        have S3 := S0.bl hb
        clear hb A0 B0 ho S0 k2
        have d0 := A3.cell 0 rfl
        have d1' := A3.cell 1 rfl
        have hsz := S3.size
        have Hne := Lib.hid hne; clear hne
        have Hna0 := Lib.hid hna0; clear hna0
        go_wp2_with (at_builtin; refine wpList_push rfl _ _ 33 rfl w.heap.size 28 (.agg #[.int .i64 0, .int .i64 0]) 2 16 Try.underlying33 info_spot rfl (by decide) (.slice q n c) n _ rfl O3 _ 1 rfl rfl (one_spot _ _) (by omega) (by simp [maxLen]; omega) hsz ?_; intro g' cap w2 O1 hgr hat hlt2; have A1 := A3.grown hgr Hna0.out; have B1 := B3.grown hgr (fun e => by have := own_ge O3 _ e.symm; omega); have k2 := B1.cell 2 rfl)
        have hga : ¬ g' = a := by
          have := A3.lt
          rcases hat with h | h
          · exact Hne.out g' h
          · omega
        have S1 : Since w w2 := ⟨below_own S3.below hgr (own_ge O3) S3.size⟩
        have hcs0 : cornN x y s (k + 1) = Ls ++ [(P1, P2)] := by rw [Hes.out]; simp
        have hn' : (cornN x y s (k + 1)).length = n + 1 := by rw [hcs0, List.length_append, En.out]; rfl
        have hcs : spotCells (cornN x y s (k + 1)) = spotCells Ls ++ [.int .i64 P1, .int .i64 P2] := by rw [hcs0, spotCells_snoc]
        have hna : some a ≠ (Value.slice (some ⟨g', 0, none⟩) (n + 1) cap).ownBlock := by simp [Value.ownBlock]; omega
        have hne2 : ∀ i, (Value.slice (some ⟨g', 0, none⟩) (n + 1) cap).ownBlock = some i → ¬ i = a := by
          intro i hi
          simp only [Value.ownBlock, Option.some.injEq] at hi
          omega
        obtain ⟨cs', ecs⟩ : ∃ cs', spotCells Ls ++ [.int .i64 P1, .int .i64 P2] = cs' := ⟨_, rfl⟩
        rw [ecs] at hcs O1
        clear ecs hcs0 d0 d1' hgr hat A3 B3 O3 S3
        have Hna := Lib.hid hna; clear hna
        have Hn' := Lib.hid hn'; clear hn'
        have Hne2 := Lib.hid hne2; clear hne2
        have Hcs := Lib.hid hcs; clear hcs
        refine (W1.out _).mono ?_
        rintro e w3 ⟨rfl, rfl⟩
        go_wp2_with fail
        have Q0 := A1.cell 0 rfl
        have F0 := A1.frozen 0
        go_still_tail 6, (by kernel_rfl)
        still_call ((CX2.out _).mono (fun e w' q => ⟨q.1, q.2.symm⟩))
        repeat still_step
        refine wpStill_nil ?_
        change wpList _ _ _ _ _ w2.drew
        have A2 : Blk ((w2.setCell ⟨a, 0, none⟩ (.int .i64 (P1 + d1))).drew) a #[.int .i64 (P1 + d1), .int .i64 P2] 28 := (A1.set 0 _).bl (bl_drew _)
        have B2 : Blk ((w2.setCell ⟨a, 0, none⟩ (.int .i64 (P1 + d1))).drew) b #[.int .i64 x, .int .i64 y, .string s] 30 := (B1.other (a := ⟨a, 0, none⟩) (by simp; omega) _).bl (bl_drew _)
        have O2 : (w2.setCell ⟨a, 0, none⟩ (.int .i64 (P1 + d1))).drew.ownsRow w.heap.size 28 2 (.slice (some ⟨g', 0, none⟩) (n + 1) cap) (n + 1) cs' := own_below (own_other O1 (a := ⟨a, 0, none⟩) (Hna.out) (.int .i64 (P1 + d1))) (bl_drew _) (Nat.le_refl _)
        have S2 : Since w ((w2.setCell ⟨a, 0, none⟩ (.int .i64 (P1 + d1))).drew) := (S1.setE (by simp; omega) _).bl (bl_drew _)
        go_upto_region 10 with (fail)
        clear Q0 F0 k2
        generalize (w2.setCell ⟨a, 0, none⟩ (.int .i64 (P1 + d1))).drew = wb at *
        clear A1 B1 O1 S1
        have A1 := A2
        have B1 := B2
        have O1 := O2
        have S1 := S2
        clear A2 B2 O2 S2
        have Q0 := A1.cell 1 rfl
        have F0 := A1.frozen 1
        go_still_tail 6, (by kernel_rfl)
        still_call ((CY2.out _).mono (fun e w' q => ⟨q.1, q.2.symm⟩))
        repeat still_step
        refine wpStill_nil ?_
        change wpList _ _ _ _ _ wb.drew
        have A2 : Blk ((wb.setCell ⟨a, 1, none⟩ (.int .i64 (P2 + d2))).drew) a #[.int .i64 (P1 + d1), .int .i64 (P2 + d2)] 28 := (A1.set 1 _).bl (bl_drew _)
        have B2 : Blk ((wb.setCell ⟨a, 1, none⟩ (.int .i64 (P2 + d2))).drew) b #[.int .i64 x, .int .i64 y, .string s] 30 := (B1.other (a := ⟨a, 1, none⟩) (by simp; omega) _).bl (bl_drew _)
        have O2 : (wb.setCell ⟨a, 1, none⟩ (.int .i64 (P2 + d2))).drew.ownsRow w.heap.size 28 2 (.slice (some ⟨g', 0, none⟩) (n + 1) cap) (n + 1) cs' := own_below (own_other O1 (a := ⟨a, 1, none⟩) (Hna.out) (.int .i64 (P2 + d2))) (bl_drew _) (Nat.le_refl _)
        have S2 : Since w ((wb.setCell ⟨a, 1, none⟩ (.int .i64 (P2 + d2))).drew) := (S1.setE (by simp; omega) _).bl (bl_drew _)
        have hr3 : CoRel x y s b a w ((wb.setCell ⟨a, 1, none⟩ (.int .i64 (P2 + d2))).drew) (.slice (some ⟨g', 0, none⟩) (n + 1) cap) (k + 1) := by
          refine ⟨B2, ?_, ⟨(some ⟨g', 0, none⟩), cap, by rw [Hn'.out], by rw [Hn'.out, Hcs.out]; exact O2⟩, Hne2.out, S2, hwa, hbw⟩
          rw [Hnx.out]
          exact A2
        clear A2 B2 O2 S2 A1 B1 O1 S1
        have Hr3 := Lib.hid hr3; clear hr3
        go_wp2
        go_roundw
        case rel => exact ⟨k + 1, by omega, by go_num, Hr3.out⟩
        case measure => simp [intOf]; omega
      · rw [show turn1 3 = -1 from rfl] at Hct
        have hna0 : some a ≠ (Value.slice q n c).ownBlock := fun e => hne a e.symm rfl
        go_wp2_with fail
        refine Hct.out.mono ?_
        rintro e w4 ⟨rfl, hb⟩
        have A3 := A0.bl hb
        have B3 := B0.bl hb
        have O3 := own_below ho hb (Nat.le_refl _)
        have S3 := S0.bl hb
        clear hb A0 B0 ho S0 k2
        have d0 := A3.cell 0 rfl
        have d1' := A3.cell 1 rfl
        have hsz := S3.size
        have Hne := Lib.hid hne; clear hne
        have Hna0 := Lib.hid hna0; clear hna0
        go_wp2_with (at_builtin; refine wpList_push rfl _ _ 33 rfl w.heap.size 28 (.agg #[.int .i64 0, .int .i64 0]) 2 16 Try.underlying33 info_spot rfl (by decide) (.slice q n c) n _ rfl O3 _ 1 rfl rfl (one_spot _ _) (by omega) (by simp [maxLen]; omega) hsz ?_; intro g' cap w2 O1 hgr hat hlt2; have A1 := A3.grown hgr Hna0.out; have B1 := B3.grown hgr (fun e => by have := own_ge O3 _ e.symm; omega); have k2 := B1.cell 2 rfl)
        have hga : ¬ g' = a := by
          have := A3.lt
          rcases hat with h | h
          · exact Hne.out g' h
          · omega
        have S1 : Since w w2 := ⟨below_own S3.below hgr (own_ge O3) S3.size⟩
        have hcs0 : cornN x y s (k + 1) = Ls ++ [(P1, P2)] := by rw [Hes.out]; simp
        have hn' : (cornN x y s (k + 1)).length = n + 1 := by rw [hcs0, List.length_append, En.out]; rfl
        have hcs : spotCells (cornN x y s (k + 1)) = spotCells Ls ++ [.int .i64 P1, .int .i64 P2] := by rw [hcs0, spotCells_snoc]
        have hna : some a ≠ (Value.slice (some ⟨g', 0, none⟩) (n + 1) cap).ownBlock := by simp [Value.ownBlock]; omega
        have hne2 : ∀ i, (Value.slice (some ⟨g', 0, none⟩) (n + 1) cap).ownBlock = some i → ¬ i = a := by
          intro i hi
          simp only [Value.ownBlock, Option.some.injEq] at hi
          omega
        obtain ⟨cs', ecs⟩ : ∃ cs', spotCells Ls ++ [.int .i64 P1, .int .i64 P2] = cs' := ⟨_, rfl⟩
        rw [ecs] at hcs O1
        clear ecs hcs0 d0 d1' hgr hat A3 B3 O3 S3
        have Hna := Lib.hid hna; clear hna
        have Hn' := Lib.hid hn'; clear hn'
        have Hne2 := Lib.hid hne2; clear hne2
        have Hcs := Lib.hid hcs; clear hcs
        refine (W1.out _).mono ?_
        rintro e w3 ⟨rfl, rfl⟩
        go_wp2_with fail
        have Q0 := A1.cell 0 rfl
        have F0 := A1.frozen 0
        go_still_tail 6, (by kernel_rfl)
        still_call ((CX2.out _).mono (fun e w' q => ⟨q.1, q.2.symm⟩))
        repeat still_step
        refine wpStill_nil ?_
        change wpList _ _ _ _ _ w2.drew
        have A2 : Blk ((w2.setCell ⟨a, 0, none⟩ (.int .i64 (P1 + d1))).drew) a #[.int .i64 (P1 + d1), .int .i64 P2] 28 := (A1.set 0 _).bl (bl_drew _)
        have B2 : Blk ((w2.setCell ⟨a, 0, none⟩ (.int .i64 (P1 + d1))).drew) b #[.int .i64 x, .int .i64 y, .string s] 30 := (B1.other (a := ⟨a, 0, none⟩) (by simp; omega) _).bl (bl_drew _)
        have O2 : (w2.setCell ⟨a, 0, none⟩ (.int .i64 (P1 + d1))).drew.ownsRow w.heap.size 28 2 (.slice (some ⟨g', 0, none⟩) (n + 1) cap) (n + 1) cs' := own_below (own_other O1 (a := ⟨a, 0, none⟩) (Hna.out) (.int .i64 (P1 + d1))) (bl_drew _) (Nat.le_refl _)
        have S2 : Since w ((w2.setCell ⟨a, 0, none⟩ (.int .i64 (P1 + d1))).drew) := (S1.setE (by simp; omega) _).bl (bl_drew _)
        go_upto_region 10 with (fail)
        clear Q0 F0 k2
        generalize (w2.setCell ⟨a, 0, none⟩ (.int .i64 (P1 + d1))).drew = wb at *
        clear A1 B1 O1 S1
        have A1 := A2
        have B1 := B2
        have O1 := O2
        have S1 := S2
        clear A2 B2 O2 S2
        have Q0 := A1.cell 1 rfl
        have F0 := A1.frozen 1
        go_still_tail 6, (by kernel_rfl)
        still_call ((CY2.out _).mono (fun e w' q => ⟨q.1, q.2.symm⟩))
        repeat still_step
        refine wpStill_nil ?_
        change wpList _ _ _ _ _ wb.drew
        have A2 : Blk ((wb.setCell ⟨a, 1, none⟩ (.int .i64 (P2 + d2))).drew) a #[.int .i64 (P1 + d1), .int .i64 (P2 + d2)] 28 := (A1.set 1 _).bl (bl_drew _)
        have B2 : Blk ((wb.setCell ⟨a, 1, none⟩ (.int .i64 (P2 + d2))).drew) b #[.int .i64 x, .int .i64 y, .string s] 30 := (B1.other (a := ⟨a, 1, none⟩) (by simp; omega) _).bl (bl_drew _)
        have O2 : (wb.setCell ⟨a, 1, none⟩ (.int .i64 (P2 + d2))).drew.ownsRow w.heap.size 28 2 (.slice (some ⟨g', 0, none⟩) (n + 1) cap) (n + 1) cs' := own_below (own_other O1 (a := ⟨a, 1, none⟩) (Hna.out) (.int .i64 (P2 + d2))) (bl_drew _) (Nat.le_refl _)
        have S2 : Since w ((wb.setCell ⟨a, 1, none⟩ (.int .i64 (P2 + d2))).drew) := (S1.setE (by simp; omega) _).bl (bl_drew _)
        have hr3 : CoRel x y s b a w ((wb.setCell ⟨a, 1, none⟩ (.int .i64 (P2 + d2))).drew) (.slice (some ⟨g', 0, none⟩) (n + 1) cap) (k + 1) := by
          refine ⟨B2, ?_, ⟨(some ⟨g', 0, none⟩), cap, by rw [Hn'.out], by rw [Hn'.out, Hcs.out]; exact O2⟩, Hne2.out, S2, hwa, hbw⟩
          rw [Hnx.out]
          exact A2
        clear A2 B2 O2 S2 A1 B1 O1 S1
        have Hr3 := Lib.hid hr3; clear hr3
        go_wp2
        go_roundw
        case rel => exact ⟨k + 1, by omega, by go_num, Hr3.out⟩
        case measure => simp [intOf]; omega
    · obtain rfl : k = s.size := by omega
      have R := Lib.hid r; clear r
      go_wp2
      go_ret
      exact ⟨_, rfl, R.out.own, R.out.since.below⟩
set_option maxRecDepth 100000 in
set_option maxHeartbeats 4000000 in
theorem sCorners_any (x y : Int) (s : ByteArray) (w : World) (hs : s.size ≤ maxLen) (hsm : small (x, y)) :
    Calls Try.prog 22 #[.agg #[.int .i64 x, .int .i64 y, .string s]] w fun e w' => ∃ v, e = .returned (.tuple #[v, .bool (bdB x y s)]) ∧ OwnSpots w.heap.size w' v (cnrB x y s) ∧ Below w.heap.size w w' := by
  have B := Blk.new w #[.int .i64 x, .int .i64 y, .string s] 30
  have S := (Since.refl w).alloc (.cells #[.int .i64 x, .int .i64 y, .string s] 30)
  have c := l04Is_any w.heap.size x y s _ hs hsm B
  cases hbd : bdB x y s
  · rw [hbd] at c
    have hA : cnrB x y s = [] := by simp [cnrB, hbd]
    rw [hA]
    have C := Lib.hid c; clear c
    have Hbd := Lib.hid hbd; clear hbd
    have HA := Lib.hid hA; clear hA
    go_enter Try.func22, Try.ntmps22
    go_wp2_with fail
    refine C.out.mono ?_
    rintro e w1 ⟨rfl, hb⟩
    go_wp2
    go_ret2
    exact ⟨_, rfl, OwnSpots.nil _ _, (S.bl hb).below⟩
  · rw [hbd] at c
    have bd := bdB_iff.1 hbd
    have hA : cnrB x y s = cornN x y s s.size := by simp [cnrB, hbd]
    rw [hA]
    have c2 := fun w1 (B1 : Blk w1 w.heap.size #[.int .i64 x, .int .i64 y, .string s] 30) => l04Corners_any w.heap.size x y s w1 bd B1
    have C := Lib.hid c; clear c
    have Hbd := Lib.hid hbd; clear hbd
    have HA := Lib.hid hA; clear hA
    have Bd := Lib.hid bd; clear bd
    have C2 := Lib.hid c2; clear c2
    go_enter Try.func22, Try.ntmps22
    go_wp2_with fail
    refine C.out.mono ?_
    rintro e w1 ⟨rfl, hb⟩
    replace S := S.bl hb
    replace B := B.bl hb
    go_wp2_with fail
    refine (C2.out _ B).mono ?_
    rintro e w2 ⟨v, rfl, own, hb2⟩
    have hsz := S.size
    replace S := S.bl hb2
    go_wp2
    go_ret2
    exact ⟨_, rfl, own.mono hsz, S.below⟩
theorem OwnT.at {B : Nat} {w : World} {v : Value} {s : ByteArray} {n : Nat} (h : OwnT B w v (turnL s n)) (hn : 0 < n) : ∃ g c, v = .slice (some ⟨g, 0, none⟩) n c ∧ B ≤ g ∧ Rd w (some ⟨g, 0, none⟩) n (fun i => .int .i64 ((turnL s n).getD i 0)) := by
  obtain ⟨p, c, hv, ho⟩ := h
  rw [turnL_len] at hv ho
  subst hv
  have hr : Rd w p n (fun i => .int .i64 ((turnL s n).getD i 0)) := by
    have := Rd.of_own ho (tCells_at _)
    rwa [show (tCells (turnL s n)).length = n by simp [tCells, turnL_len]] at this
  rcases ho.2 with ⟨_, h0⟩ | ⟨g, cap, cur, hv2, hb, _⟩
  · omega
  · simp only [Value.slice.injEq] at hv2
    obtain ⟨rfl, _, _⟩ := hv2
    exact ⟨g, c, rfl, hb, hr⟩
/-- Where the program's making of the corners stands. -/
structure CiRel (x y : Int) (s : ByteArray) (b o g g0 : Nat) (w wr : World) (v : Value) (k : Nat) : Prop where
  rd : Rd wr (some ⟨b, o, none⟩) (s.size * 3) (triAt (edges x y s s.size))
  tr : Rd wr (some ⟨g, 0, none⟩) s.size (fun i => .int .i64 ((turnL s s.size).getD i 0))
  own : OwnSpots g0 wr v (cornN x y s k)
  lt : b < g0
  ne : some g ≠ v.ownBlock
  ge : w.heap.size ≤ g0
  le : g0 ≤ wr.heap.size
  since : Since w wr
set_option maxRecDepth 100000 in
set_option maxHeartbeats 4000000 in
theorem cornersOf_any (x y : Int) (s : ByteArray) (w : World) (bd : Bd x y s) (hsm : small (x, y)) :
    Calls Try.prog 36 #[.agg #[.int .i64 x, .int .i64 y, .string s]] w fun e w' => ∃ v, e = .returned v ∧ OwnSpots w.heap.size w' v (cornN x y s s.size) ∧ Below w.heap.size w w' := by
  have B := Blk.new w #[.int .i64 x, .int .i64 y, .string s] 30
  have S := (Since.refl w).alloc (.cells #[.int .i64 x, .int .i64 y, .string s] 30)
  have hlo := bd.lo
  have hhi := bd.hi
  have c2 := edges_ok w.heap.size x y s _ hhi hsm B (fun i hi => (bd.step i hi).letter)
  have c3 := fun b o c w1 R1 => turns_any x y s b o c w1 bd R1
  clear B
  have Bd := Lib.hid bd; clear bd
  have C2 := Lib.hid c2; clear c2
  have C3 := Lib.hid c3; clear c3
  go_enter Try.func36, Try.ntmps36
  go_wp2_with fail
  refine C2.out.mono ?_
  rintro e w2 ⟨v, rfl, own, hb2⟩
  replace S := S.bl hb2
  clear hb2 C2
  obtain ⟨q, c', rfl, hrd⟩ := edges_rd own
  obtain ⟨b, o, rfl, hblt, _⟩ := hrd.at (k := 0) (by omega)
  clear own
  have hrd2 := hrd.alloc (.cells #[] 28)
  have S2 := S.alloc (.cells #[] 28)
  have O2 : OwnSpots w2.heap.size (w2.alloc (.cells #[] 28)) (.slice (some ⟨w2.heap.size, 0, none⟩) 0 0) [] := ⟨_, _, rfl, World.ownsRow_made w2 #[] 0 (Nat.le_refl _) (by decide) rfl⟩
  have hsz := S.size
  go_wp2_with fail
  refine (C3.out _ _ _ _ hrd2).mono ?_
  rintro e w3 ⟨v, rfl, own, hb2⟩
  replace S2 := S2.bl hb2
  replace hrd2 := hrd2.bl hb2
  replace O2 := O2.bl hb2
  have hwz := hb2.size
  clear hb2 hrd S
  obtain ⟨g, c', rfl, hgg, htr⟩ := own.at (by omega)
  rw [World.size_alloc] at hgg
  have r0 : CiRel x y s b o g w2.heap.size w w3 (.slice (some ⟨w2.heap.size, 0, none⟩) 0 0) 0 :=
    ⟨hrd2, htr, O2, hblt, by simp [Value.ownBlock]; omega, hsz, by rw [World.size_alloc] at hwz; omega, S2⟩
  clear own hrd2 htr O2 S2 hwz hgg
  have R0 := Lib.hid r0; clear r0
  go_wp2
  generalize w2.heap.size = g0 at *
  go_loopw [5, 16] (fun v i wr => ∃ k : Nat, k ≤ s.size ∧ i = .int .i64 k ∧ CiRel x y s b o g g0 w wr v k) (fun _ i _ => s.size - (intOf i).toNat)
  case atStart => exact ⟨0, Nat.zero_le _, rfl, R0.out⟩
  case round =>
    clear R0
    obtain ⟨k, hk, rfl, r⟩ := hrel
    by_cases hlt : k < s.size
    · obtain ⟨a0, a1, a2⟩ := edge_cells r.rd hlt
      obtain ⟨b2, o2, hq2, hltg, hc⟩ := r.tr.at hlt
      cases hq2
      have t0 := hc k hlt
      rw [turnL_at hlt, Nat.zero_add] at t0
      clear hc
      have hn2 := Bd.out.turn2 hlt
      have h4 := turnT_in s k
      have hes : cornN x y s (k + 1) = cornN x y s k ++ if turnT s k = 0 then [] else [pos x y s k] := rfl
      have hle := cornN_len x y s k
      obtain ⟨q, c, rfl, ho⟩ := r.own
      have hne := r.ne
      have hbl := r.lt
      have hpe : pos x y s k = ((pos x y s k).1, (pos x y s k).2) := rfl
      obtain ⟨P1, eP1⟩ : ∃ P, (pos x y s k).1 = P := ⟨_, rfl⟩
      obtain ⟨P2, eP2⟩ : ∃ P, (pos x y s k).2 = P := ⟨_, rfl⟩
      obtain ⟨V, ev⟩ : ∃ P, way s k = P := ⟨_, rfl⟩
      rw [eP1, eP2] at hpe
      rw [eP1] at a0
      rw [eP2] at a1
      rw [ev] at a2
      obtain ⟨t, et⟩ : ∃ t, turnT s k = t := ⟨_, rfl⟩
      obtain ⟨Ls, eLs⟩ : ∃ L, cornN x y s k = L := ⟨_, rfl⟩
      rw [et] at hn2 h4 hes t0
      rw [eLs] at hes hle ho hne ⊢
      rw [hpe] at hes
      obtain ⟨n, en⟩ : ∃ n, Ls.length = n := ⟨_, rfl⟩
      rw [en] at hle ho hne ⊢
      have A0 := a0.out
      have A1 := a1.out
      have A2 := a2.out
      clear a0 a1 a2
      have hsz := r.le
      by_cases h0 : t = 0
      · subst h0
        have hcs0 : cornN x y s (k + 1) = Ls := by rw [hes]; simp
        have hr3 : CiRel x y s b o g g0 w wr (.slice q n c) (k + 1) := ⟨r.rd, r.tr, ⟨q, c, by rw [hcs0, en], by rw [hcs0, en]; exact ho⟩, r.lt, hne, r.ge, r.le, r.since⟩
        clear hn2 h4
        have R := Lib.hid r; clear r
        have Hes := Lib.hid hes; clear hes
        have Et := Lib.hid et; clear et
        have ELs := Lib.hid eLs; clear eLs
        have En := Lib.hid en; clear en
        have EP1 := Lib.hid eP1; clear eP1
        have EP2 := Lib.hid eP2; clear eP2
        have Hpe := Lib.hid hpe; clear hpe
        have Ev := Lib.hid ev; clear ev
        have Hne := Lib.hid hne; clear hne
        have Hr3 := Lib.hid hr3; clear hr3
        have Hcs0 := Lib.hid hcs0; clear hcs0
        go_wp2
        go_roundw
        case rel => exact ⟨k + 1, by omega, by go_num, Hr3.out⟩
        case measure => simp [intOf]; omega
      · have hcs0 : cornN x y s (k + 1) = Ls ++ [(P1, P2)] := by rw [hes, if_neg h0]
        have h0' : (t == 0) = false := by simp [h0]
        clear hn2 h4
        have R := Lib.hid r; clear r
        have Hes := Lib.hid hes; clear hes
        have Et := Lib.hid et; clear et
        have ELs := Lib.hid eLs; clear eLs
        have En := Lib.hid en; clear en
        have EP1 := Lib.hid eP1; clear eP1
        have EP2 := Lib.hid eP2; clear eP2
        have Hpe := Lib.hid hpe; clear hpe
        have Ev := Lib.hid ev; clear ev
        have Hne := Lib.hid hne; clear hne
        have Hcs0 := Lib.hid hcs0; clear hcs0
        go_wp2_with (at_builtin; refine wpList_push rfl _ _ 33 rfl g0 28 (.agg #[.int .i64 0, .int .i64 0]) 2 16 Try.underlying33 info_spot rfl (by decide) (.slice q n c) n _ rfl ho _ 1 rfl rfl (one_spot _ _) (by omega) (by simp [maxLen]; omega) hsz ?_; intro g' cap w2 hown2 hgr hat hlt2)
        have hr3 : CiRel x y s b o g g0 w w2 (.slice (some ⟨g', 0, none⟩) (n + 1) cap) (k + 1) := by
          have hl1 : (cornN x y s (k + 1)).length = n + 1 := by rw [Hcs0.out, List.length_append, En.out]; rfl
          refine ⟨R.out.rd.grown hgr (fun b' o' e => ?_), R.out.tr.grown hgr (fun b' o' e => ?_), ⟨some ⟨g', 0, none⟩, cap, by rw [hl1], ?_⟩, hbl, ?_, R.out.ge, Nat.le_trans hsz hgr.size, ⟨below_own R.out.since.below hgr (fun i hi => Nat.le_trans R.out.ge (own_ge ho i hi)) R.out.since.size⟩⟩
          · cases e
            exact fun e => by have := own_ge ho _ e.symm; omega
          · cases e
            exact Hne.out
          · rw [hl1, Hcs0.out, spotCells_snoc]
            exact hown2
          · rcases hat with h | h
            · rw [h] at Hne
              exact Hne.out
            · simp [Value.ownBlock]
              omega
        clear hown2 hgr hat
        have Hr3 := Lib.hid hr3; clear hr3
        go_wp2
        go_roundw
        case rel => exact ⟨k + 1, by omega, by go_num, Hr3.out⟩
        case measure => simp [intOf]; omega
    · obtain rfl : k = s.size := by omega
      have hge := r.ge
      have R := Lib.hid r; clear r
      go_wp2
      go_ret
      exact ⟨_, rfl, R.out.own.mono hge, R.out.since.below⟩
set_option maxRecDepth 100000 in
set_option maxHeartbeats 4000000 in
theorem cornersOfBorder_any (x y : Int) (s : ByteArray) (w : World) (hs : s.size ≤ maxLen) (hsm : small (x, y)) :
    Calls Try.prog 23 #[.agg #[.int .i64 x, .int .i64 y, .string s]] w fun e w' => ∃ v, e = .returned (.tuple #[v, .bool (bdB x y s)]) ∧ OwnSpots w.heap.size w' v (cnrB x y s) ∧ Below w.heap.size w w' := by
  have B := Blk.new w #[.int .i64 x, .int .i64 y, .string s] 30
  have S := (Since.refl w).alloc (.cells #[.int .i64 x, .int .i64 y, .string s] 30)
  have c := isBorder_any x y s (w.alloc (.cells #[.int .i64 x, .int .i64 y, .string s] 30)) hs hsm
  cases hbd : bdB x y s
  · rw [hbd] at c
    have hA : cnrB x y s = [] := by simp [cnrB, hbd]
    rw [hA]
    have C := Lib.hid c; clear c
    have Hbd := Lib.hid hbd; clear hbd
    have HA := Lib.hid hA; clear hA
    go_enter Try.func23, Try.ntmps23
    go_wp2_with fail
    refine C.out.mono ?_
    rintro e w1 ⟨rfl, hb⟩
    go_wp2
    go_ret2
    exact ⟨_, rfl, OwnSpots.nil _ _, (S.bl hb).below⟩
  · rw [hbd] at c
    have bd := bdB_iff.1 hbd
    have hA : cnrB x y s = cornN x y s s.size := by simp [cnrB, hbd]
    rw [hA]
    have c2 := fun w1 => cornersOf_any x y s w1 bd hsm
    have C := Lib.hid c; clear c
    have Hbd := Lib.hid hbd; clear hbd
    have HA := Lib.hid hA; clear hA
    have Bd := Lib.hid bd; clear bd
    have C2 := Lib.hid c2; clear c2
    go_enter Try.func23, Try.ntmps23
    go_wp2_with fail
    refine C.out.mono ?_
    rintro e w1 ⟨rfl, hb⟩
    replace S := S.bl hb
    replace B := B.bl hb
    have k0 := B.cell 0 rfl
    have k1 := B.cell 1 rfl
    have k2 := B.cell 2 rfl
    go_wp2_with fail
    refine (C2.out _).mono ?_
    rintro e w2 ⟨v, rfl, own, hb2⟩
    have hsz := S.size
    replace S := S.bl hb2
    go_wp2
    go_ret2
    exact ⟨_, rfl, own.mono hsz, S.below⟩
end Go.Proofs.Ytjplikkehhpomaa
