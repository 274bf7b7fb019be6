/- Contracts on valid pictures that are known by their pixels, as the law FnJoins takes them. -/
import Derived.Test.YteoodnhcghjjeaaDrawPic
import Derived.Test.YteoodnhcghjjeaaRender
import Derived.Test.YteoodnhcghjjeaaImplJoin
import Derived.Test.YteoodnhcghjjeaaImplIn
import Derived.Test.YteoodnhcghjjeaaImplInv
import Derived.Test.YteoodnhcghjjeaaImplOps
set_option linter.unusedVariables false
set_option linter.unusedSimpArgs false
namespace Go.Proofs.Yteoodnhcghjjeaa
open Go.RowKit

/-- A slice of rows that reads as the picture of some pixels. -/
structure Pic (w : World) (p : Option Addr) (W H : Nat) (f : Nat → Bool) : Prop where
  w1 : 1 ≤ W
  w2 : W ≤ 16
  h1 : 1 ≤ H
  h2 : H ≤ 16
  rd : Rd w p H (strAt (render W H f))
theorem Pic.bl {w w' : World} {p : Option Addr} {W H : Nat} {f : Nat → Bool} (h : Pic w p W H f) (hb : Below w.heap.size w w') : Pic w' p W H f := ⟨h.w1, h.w2, h.h1, h.h2, h.rd.bl hb⟩
theorem Pic.of_own {w : World} {B W H c : Nat} {p : Option Addr} {f : Nat → Bool} (h1 : 1 ≤ W) (h2 : W ≤ 16) (h3 : 1 ≤ H) (h4 : H ≤ 16) (h : OwnStrs B w (.slice p (render W H f).length c) (render W H f)) : Pic w p W H f :=
  ⟨h1, h2, h3, h4, by have := h.rd; rwa [render_len] at this⟩
theorem render_mem {W H : Nat} {f : Nat → Bool} {s : ByteArray} (h : s ∈ render W H f) : s.size = W := by
  obtain ⟨y, _, rfl⟩ := List.mem_map.1 h
  exact rowStr_size _ _
theorem Pic.out {w : World} {p : Option Addr} {W H : Nat} {f : Nat → Bool} (h : Pic w p W H f) : (render W H f).length ≤ 1048576 ∧ (∀ s ∈ render W H f, s.size ≤ 1048576) ∧ Rd w p (render W H f).length (strAt (render W H f)) ∧ okPic (render W H f) = true ∧ wid (render W H f) = W := by
  refine ⟨by rw [render_len]; have := h.h2; omega, fun s hs => by rw [render_mem hs]; have := h.w2; omega, by rw [render_len]; exact h.rd, okPic_render f h.w1 h.w2 h.h1 h.h2, wid_render h.h1⟩
theorem join_pic (op : Int) (o : Nat) (hop : op = o) (ho : o ≤ 3) (p q : Option Addr) (W H c d : Nat) (f g : Nat → Bool) (w : World) (P : Pic w p W H f) (Q : Pic w q W H g) :
    Calls Try.prog 36 #[.int .i64 op, .agg #[.slice p H c], .agg #[.slice q H d]] w fun e w' => ∃ p' c', e = .returned (.tuple #[.agg #[.slice p' H c'], .bool true]) ∧ Pic w' p' W H (fun i => joinB o (f i) (g i)) ∧ Below w.heap.size w w' := by
  subst hop
  obtain ⟨a1, a2, a3, a4, a5⟩ := P.out
  obtain ⟨b1, b2, b3, b4, b5⟩ := Q.out
  have h := joinPictures_any (o : Int) p q c d _ _ w a1 a2 b1 b2 a3 b3
  have hl : (inB (o : Int) 0 3 && likeB (render W H f) (render W H g)) = true := by
    simp only [likeB, a4, b4, a5, b5, render_len, Bool.true_and, beq_self_eq_true, Bool.and_true]
    exact inB_mk (by omega) (by omega)
  have hj : joinL (o : Int) (render W H f) (render W H g) = render W H (fun i => joinB o (f i) (g i)) := by
    rw [joinL, picIf, if_pos hl, a5, render_len, Int.toNat_natCast]
    exact render_congr (fun i hi => by rw [bits_render P.h1 hi, bits_render P.h1 hi])
  rw [hl, hj, render_len, render_len] at h
  refine h.mono ?_
  rintro e w' ⟨v, rfl, O, hb⟩
  obtain ⟨p', c', rfl⟩ := O.form
  have O2 := Pic.of_own P.w1 P.w2 P.h1 P.h2 O
  rw [render_len] at O ⊢
  exact ⟨p', c', rfl, O2, hb⟩
theorem inv_pic (p : Option Addr) (W H c : Nat) (f : Nat → Bool) (w : World) (P : Pic w p W H f) :
    Calls Try.prog 34 #[.agg #[.slice p H c]] w fun e w' => ∃ p' c', e = .returned (.tuple #[.agg #[.slice p' H c'], .bool true]) ∧ Pic w' p' W H (fun i => !f i) ∧ Below w.heap.size w w' := by
  obtain ⟨a1, a2, a3, a4, a5⟩ := P.out
  have h := invertPicture_any p c _ w a1 a2 a3
  have hj : invL (render W H f) = render W H (fun i => !f i) := by
    rw [invL, picIf, if_pos a4, a5, render_len]
    exact render_congr (fun i hi => by rw [bits_render P.h1 hi])
  rw [a4, hj, render_len] at h
  refine h.mono ?_
  rintro e w' ⟨v, rfl, O, hb⟩
  obtain ⟨p', c', rfl⟩ := O.form
  have O2 := Pic.of_own P.w1 P.w2 P.h1 P.h2 O
  rw [render_len] at O ⊢
  exact ⟨p', c', rfl, O2, hb⟩
theorem spotsTo_zero (W : Nat) (f : Nat → Bool) (n : Nat) : (spotsTo W f n).length = 0 ↔ ∀ i, i < n → f i = false := by
  induction n with
  | zero => simp [spotsTo]
  | succ n ih =>
    rw [spotsTo_succ, List.length_append]
    constructor
    · intro h i hi
      by_cases e : i = n
      · subst e
        cases hf : f i
        · rfl
        · rw [hf] at h; simp at h
      · exact ih.1 (by omega) i (by omega)
    · intro h
      have h1 := ih.2 (fun i hi => h i (by omega))
      rw [h1, h n (by omega)]
      simp
theorem spotsTo_eq {W : Nat} {f g : Nat → Bool} {n : Nat} (h : ∀ i, i < n → f i = g i) : spotsTo W f n = spotsTo W g n := by
  induction n with
  | zero => rfl
  | succ n ih => rw [spotsTo_succ, spotsTo_succ, ih (fun i hi => h i (by omega)), h n (by omega)]
theorem count_pic (p : Option Addr) (W H c : Nat) (f : Nat → Bool) (w : World) (P : Pic w p W H f) :
    Calls Try.prog 21 #[.agg #[.slice p H c]] w fun e w' => e = .returned (.tuple #[.int .i64 ((spotsTo W f (W * H)).length : Int), .bool true]) ∧ Below w.heap.size w w' := by
  obtain ⟨a1, a2, a3, a4, a5⟩ := P.out
  have h := countBlack_any p c _ w a1 a2 a3
  have hs : spotsL (render W H f) = spotsTo W f (W * H) := by
    rw [spotsL, if_pos a4, a5, render_len]
    exact spotsTo_eq (fun i hi => bits_render P.h1 hi)
  rw [hs, a4, render_len] at h
  exact h
theorem inside_pic (p q : Option Addr) (W H c d : Nat) (f g : Nat → Bool) (w : World) (P : Pic w p W H f) (Q : Pic w q W H g) :
    Calls Try.prog 29 #[.agg #[.slice p H c], .agg #[.slice q H d]] w fun e w' => e = .returned (.bool (inTo f g (W * H))) ∧ Below w.heap.size w w' := by
  obtain ⟨a1, a2, a3, a4, a5⟩ := P.out
  obtain ⟨b1, b2, b3, b4, b5⟩ := Q.out
  have h := isInside_any p q c d _ _ w a1 a2 b1 b2 a3 b3
  have hs : insideB (render W H f) (render W H g) = inTo f g (W * H) := by
    have hl : likeB (render W H f) (render W H g) = true := by
      simp only [likeB, a4, b4, a5, b5, render_len, Bool.true_and, beq_self_eq_true, Bool.and_true]
    rw [insideB, hl, Bool.true_and, a5, render_len, Bool.eq_iff_iff]
    simp only [inTo, List.all_eq_true, List.mem_range]
    constructor
    · intro h i hi
      have := h i hi
      rwa [bits_render P.h1 hi, bits_render P.h1 hi] at this
    · intro h i hi
      rw [bits_render P.h1 hi, bits_render P.h1 hi]
      exact h i hi
  rw [hs, render_len, render_len] at h
  exact h
/-- Nothing is left exactly if the one is inside the other. -/
theorem left_in (W : Nat) (f g : Nat → Bool) (n : Nat) : inTo f g n = ((((spotsTo W (fun i => joinB 3 (f i) (g i)) n).length : Nat) : Int) == 0) := by
  rw [Bool.eq_iff_iff, beq_iff_eq]
  have h := spotsTo_zero W (fun i => joinB 3 (f i) (g i)) n
  constructor
  · intro h1
    have : (spotsTo W (fun i => joinB 3 (f i) (g i)) n).length = 0 := h.2 (fun i hi => by
      simp only [inTo, List.all_eq_true, List.mem_range] at h1
      have := h1 i hi
      revert this
      cases f i <;> cases g i <;> simp [joinB])
    omega
  · intro h1
    have h2 := h.1 (by omega)
    simp only [inTo, List.all_eq_true, List.mem_range]
    intro i hi
    have := h2 i hi
    revert this
    cases f i <;> cases g i <;> simp [joinB]
set_option maxHeartbeats 1000000 in
theorem black_pic (p : Option Addr) (W H c : Nat) (f : Nat → Bool) (u v : Nat) (w : World) (P : Pic w p W H f) (hu : u < W) (hv : v < H) :
    Calls Try.prog 53 #[.agg #[.slice p H c], .int .i64 u, .int .i64 v] w fun e w' => e = .returned (.bool (f (v * W + u))) ∧ Below w.heap.size w w' := by
  have hc := fun w (P : Pic w p W H f) => (by
    obtain ⟨a1, a2, a3, a4, a5⟩ := P.out
    have h := sPixelAt_any p c _ u v w a1 a2 a3
    rw [a4, a5, render_len, px_render P.h1, px_at hu hv, hasB_mk hu hv] at h
    exact h : Calls Try.prog 16 #[.agg #[.slice p H c], .int .i64 u, .int .i64 v] w fun e w' => e = .returned (.tuple #[.bool (true && f (v * W + u)), .bool (true && true)]) ∧ Below w.heap.size w w')
  simp only [Bool.true_and] at hc
  have hy := bl_alloc w (.cells #[.slice p H c] 28)
  have B := Box.new w (.slice p H c) 28
  have c1 := hc _ (P.bl hy)
  have k0 := B.cell
  have S := (Since.refl w).bl hy
  generalize f (v * W + u) = z at *
  have Hc := Lib.hid hc; clear hc
  have C1 := Lib.hid c1; clear c1
  go_enter Try.func53, Try.ntmps53
  go_wp2_with fail
  with_reducible (refine C1.out.mono ?_)
  rintro e w1 ⟨rfl, hb⟩
  have T := S.bl hb
  go_wp2
  go_ret
  exact ⟨rfl, T.below⟩
set_option maxHeartbeats 1000000 in
theorem same_pic (p q : Option Addr) (W H c d : Nat) (f : Nat → Bool) (w : World) (P : Pic w p W H f) (Q : Pic w q W H f) :
    Calls Try.prog 52 #[.agg #[.slice p H c], .agg #[.slice q H d]] w fun e w' => e = .returned (.bool true) ∧ Below w.heap.size w w' := by
  have hy1 := bl_alloc w (.cells #[.slice p H c] 28)
  have hy2 := bl_alloc (w.alloc (.cells #[.slice p H c] 28)) (.cells #[.slice q H d] 28)
  have S := ((Since.refl w).bl hy1).bl hy2
  have B := (Box.new w (.slice p H c) 28).alloc (.cells #[.slice q H d] 28)
  have B2 := Box.new (w.alloc (.cells #[.slice p H c] 28)) (.slice q H d) 28
  simp only [World.size_alloc] at B2
  have P1 := (P.bl hy1).bl hy2
  have Q1 := (Q.bl hy1).bl hy2
  have hH := P.h2
  have hH1 := P.h1
  have k0 := B.cell
  have k1 := B2.cell
  clear P Q hy1 hy2
  go_enter Try.func52, Try.ntmps52
  go_wp2_with fail
  go_loopw [5] (fun v wr => ∃ i : Nat, i ≤ H ∧ v = .int .i64 i ∧ Box wr w.heap.size (.slice p H c) 28 ∧ Box wr (w.heap.size + 1) (.slice q H d) 28 ∧ Pic wr p W H f ∧ Pic wr q W H f ∧ Since w wr) (fun v _ => H - (intOf v).toNat)
  case atStart => exact ⟨0, Nat.zero_le _, rfl, B, B2, P1, Q1, S⟩
  case round =>
    clear B B2 P1 Q1 S k0 k1
    obtain ⟨i, hi, rfl, B, B2, P, Q, S⟩ := hrel
    have k0 := B.cell
    have k1 := B2.cell
    by_cases hlt : i < H
    · obtain ⟨pb, po, rfl, hpb, hpc⟩ := P.rd.at hlt
      obtain ⟨qb, qo, rfl, hqb, hqc⟩ := Q.rd.at hlt
      have a0 := hpc i hlt
      have a1 := hqc i hlt
      unfold strAt at a0 a1
      generalize (render W H f).getD i ByteArray.empty = s at *
      have hi0 : (0 : Int) ≤ (i : Int) := Int.natCast_nonneg _
      have hi1 : (i : Int) < (H : Int) := by omega
      have hk := fun n => (⟨B.bl (bl_drewN wr n), B2.bl (bl_drewN wr n), P.bl (bl_drewN wr n), Q.bl (bl_drewN wr n), S.bl (bl_drewN wr n)⟩ : Box (wr.drewN n) _ _ _ ∧ Box (wr.drewN n) _ _ _ ∧ Pic (wr.drewN n) _ _ _ _ ∧ Pic (wr.drewN n) _ _ _ _ ∧ Since w (wr.drewN n))
      have Hpc := Lib.hid hpc; clear hpc
      have Hqc := Lib.hid hqc; clear hqc
      have Hk := Lib.hid hk; clear hk
      clear P Q B B2 S
      go_wp2
      go_quiet (fail)
      go_wp2
      go_roundw
      case rel => exact ⟨i + 1, by omega, by go_num, Hk.out _⟩
      case measure => simp [intOf]; omega
    · obtain rfl : i = H := by omega
      have hi2 : 0 < i := by omega
      clear hlt
      go_wp2
      go_ret
      exact ⟨rfl, S.below⟩
end Go.Proofs.Yteoodnhcghjjeaa
