/- The nearest one of some spots: plain law, and contracts of least and l06Nearest. -/
import Derived.Test.YtakoklldmdbphaaSpecOps
import Derived.Test.YtakoklldmdbphaaImplOps
import Derived.Test.YtakoklldmdbphaaFar
import Derived.Test.YtakoklldmdbphaaLawKit
import Derived.Test.YtakoklldmdbphaaAllSpots
set_option linter.unusedVariables false
namespace Go.Proofs.Ytakoklldmdbphaa
open Go.RowKit

theorem Blk.set2 {w : World} {b : Nat} {u v : Value} {t : TypeId} (h : Blk w b #[u, v] t) (x y : Value) : Blk ((w.setCell ⟨b, 0, none⟩ x).setCell ⟨b, 1, none⟩ y) b #[x, y] t := (h.set 0 x).set 1 y
theorem setCell_ne {b : Nat} {a c : Nat} (h : a ≠ c) : (⟨b, a, none⟩ : Addr) ≠ ⟨b, c, none⟩ := fun e => h (by injection e)

/-- The index of the first one of the first n spots with the least distance. -/
def leastN (g : Int × Int → Int) (l : List (Int × Int)) : Nat → Nat
  | 0 => 0
  | n + 1 => if g (l.getD n (0, 0)) < g (l.getD (leastN g l n) (0, 0)) then n else leastN g l n
theorem leastN_lt (g : Int × Int → Int) (l : List (Int × Int)) (n : Nat) (h0 : 0 < l.length) (h : n ≤ l.length) : leastN g l n < l.length := by
  induction n with
  | zero => exact h0
  | succ n ih =>
    rw [leastN]
    split
    · omega
    · exact ih (by omega)
theorem leastN_app (g : Int × Int → Int) (l m : List (Int × Int)) (n : Nat) (h0 : 0 < l.length) (h : n ≤ l.length) : leastN g (l ++ m) n = leastN g l n := by
  induction n with
  | zero => rfl
  | succ n ih =>
    have hi := ih (by omega)
    have hl := leastN_lt g l n h0 (by omega)
    rw [leastN, leastN, hi]
    have e1 : (l ++ m).getD n (0, 0) = l.getD n (0, 0) := by simp [List.getD, List.getElem?_append_left (show n < l.length by omega)]
    have e2 : (l ++ m).getD (leastN g l n) (0, 0) = l.getD (leastN g l n) (0, 0) := by simp [List.getD, List.getElem?_append_left hl]
    rw [e1, e2]
/-- The first nearest one; its distance: -1 if there is none. -/
def bestS (g : Int × Int → Int) (l : List (Int × Int)) : Int × Int := l.getD (leastN g l l.length) (0, 0)
def bestD (g : Int × Int → Int) (l : List (Int × Int)) : Int := if l.length = 0 then -1 else g (bestS g l)
theorem bestS_snoc (g : Int × Int → Int) (l : List (Int × Int)) (s : Int × Int) (hg : ∀ s, 0 ≤ g s) : bestS g (l ++ [s]) = if bestD g l < 0 ∨ g s < bestD g l then s else bestS g l := by
  rcases Nat.eq_zero_or_pos l.length with h0 | h0
  · have := List.length_eq_zero_iff.1 h0
    subst this
    simp [bestS, bestD, leastN]
  · have hd : bestD g l = g (bestS g l) := by rw [bestD, if_neg (by omega)]
    have hnn : ¬ bestD g l < 0 := by rw [hd]; have := hg (bestS g l); omega
    have hl := leastN_lt g l l.length h0 (Nat.le_refl _)
    have e1 : (l ++ [s]).getD l.length (0, 0) = s := getD_snoc_eq
    have e2 : (l ++ [s]).getD (leastN g l l.length) (0, 0) = bestS g l := by rw [getD_snoc_lt hl]; rfl
    rw [bestS, List.length_append, List.length_singleton, leastN, leastN_app g l [s] l.length h0 (Nat.le_refl _), e1, e2, hd]
    by_cases h : g s < g (bestS g l)
    · rw [if_pos h, if_pos (Or.inr h), e1]
    · rw [if_neg h, if_neg (by rw [hd] at hnn; intro hh; rcases hh with hh | hh <;> omega), e2]
theorem bestD_snoc (g : Int × Int → Int) (l : List (Int × Int)) (s : Int × Int) (hg : ∀ s, 0 ≤ g s) : bestD g (l ++ [s]) = if bestD g l < 0 ∨ g s < bestD g l then g s else bestD g l := by
  have h1 : bestD g (l ++ [s]) = g (bestS g (l ++ [s])) := by rw [bestD, if_neg (by simp)]
  rw [h1, bestS_snoc g l s hg]
  rcases Nat.eq_zero_or_pos l.length with h0 | h0
  · have : bestD g l = -1 := by rw [bestD, if_pos h0]
    simp [this]
  · have hd : bestD g l = g (bestS g l) := by rw [bestD, if_neg (by omega)]
    split
    · rfl
    · exact hd.symm

/-- The distance of a spot. -/
def farG (k x y : Int) (s : Int × Int) : Int := farZ k x y s.1 s.2
theorem farG_nonneg (k x y : Int) (s : Int × Int) : 0 ≤ farG k x y s := farZ_nonneg _ _ _ _ _

set_option maxRecDepth 100000 in
set_option maxHeartbeats 4000000 in
theorem least_any (k fx fy : Int) (p : Option Addr) (c : Nat) (l : List (Int × Int)) (w : World) (hx : -1000 ≤ fx ∧ fx ≤ 1000) (hy : -1000 ≤ fy ∧ fy ≤ 1000) (hl : ∀ s ∈ l, (-1000 ≤ s.1 ∧ s.1 ≤ 1000) ∧ (-1000 ≤ s.2 ∧ s.2 ≤ 1000))
    (h0 : 0 < l.length) (h1 : l.length ≤ 256) (hr : Rd w p (l.length * 2) (spotAt l)) :
    Calls Try.prog 94 #[.int .i64 k, .agg #[.int .i64 fx, .int .i64 fy], .slice p l.length c] w fun e w' =>
      e = .returned (.tuple #[.int .i64 (leastN (farG k fx fy) l l.length : Nat), .int .i64 (farG k fx fy (bestS (farG k fx fy) l))]) ∧ Below w.heap.size w w' := by
  have A := Blk.new w #[.int .i64 fx, .int .i64 fy] 27
  have S := (Since.refl w).alloc (.cells #[.int .i64 fx, .int .i64 fy] 27)
  have hll := leastN_lt (farG k fx fy) l l.length h0 (Nat.le_refl _)
  obtain ⟨x1, x2⟩ := hx
  obtain ⟨y1, y2⟩ := hy
  have Hl := Lib.hid hl; clear hl
  go_enter Try.func94, Try.ntmps94
  go_wp2
  go_loopw [8, 13] (fun b i wr => ∃ j : Nat, j ≤ l.length ∧ i = .int .i64 j ∧ b = .int .i64 (leastN (farG k fx fy) l j : Nat) ∧ Blk wr w.heap.size #[.int .i64 fx, .int .i64 fy] 27 ∧ Since w wr) (fun _ i _ => l.length - (intOf i).toNat)
  case atStart => exact ⟨0, Nat.zero_le _, rfl, rfl, A, S⟩
  case round =>
    clear A S
    obtain ⟨j, hj, rfl, rfl, A, S⟩ := hrel
    have hbj := leastN_lt (farG k fx fy) l j h0 hj
    by_cases hlt : j < l.length
    · have hs1 := Hl.out _ (getD_memS hlt)
      have hs2 := Hl.out _ (getD_memS hbj)
      obtain ⟨b, o, rfl, hb, hc⟩ := (hr.below S.below (Nat.le_refl _)).at (k := j * 2) (by omega)
      have hm : leastN (farG k fx fy) l (j + 1) = if farZ k fx fy (l.getD j (0, 0)).1 (l.getD j (0, 0)).2 < farZ k fx fy (l.getD (leastN (farG k fx fy) l j) (0, 0)).1 (l.getD (leastN (farG k fx fy) l j) (0, 0)).2 then j else leastN (farG k fx fy) l j := rfl
      generalize leastN (farG k fx fy) l j = m at *
      have a0 := hc (j * 2) (by omega)
      have a1 := hc (j * 2 + 1) (by omega)
      have b0 := hc (m * 2) (by omega)
      have b1 := hc (m * 2 + 1) (by omega)
      rw [spotAt_x] at a0 b0
      rw [spotAt_y, ← Nat.add_assoc] at a1 b1
      have hj0 : (0 : Int) ≤ (j : Int) := Int.natCast_nonneg _
      have hj1 : (j : Int) < (l.length : Int) := by omega
      have hm0 : (0 : Int) ≤ (m : Int) := Int.natCast_nonneg _
      have hm1 : (m : Int) < (l.length : Int) := by omega
      generalize (l.getD j (0, 0)).1 = u at *
      generalize (l.getD j (0, 0)).2 = v at *
      generalize (l.getD m (0, 0)).1 = p at *
      generalize (l.getD m (0, 0)).2 = q at *
      have hA0 := A.cell 0 rfl
      have hA1 := A.cell 1 rfl
      have C1 := (Blk.new wr #[.int .i64 u, .int .i64 v] 27).cat 0 rfl
      have C2 := (Blk.new wr #[.int .i64 u, .int .i64 v] 27).cat 1 rfl
      have C3 : CellAt (wr.alloc (.cells #[.int .i64 u, .int .i64 v] 27)) b (o + m * 2) (.int .i64 p) := CellAt.bl b0 (bl_alloc _ _)
      have C4 : CellAt (wr.alloc (.cells #[.int .i64 u, .int .i64 v] 27)) b (o + m * 2 + 1) (.int .i64 q) := CellAt.bl b1 (bl_alloc _ _)
      have A2 := A.alloc (.cells #[.int .i64 u, .int .i64 v] 27)
      have C5 := A2.cat 0 rfl
      have C6 := A2.cat 1 rfl
      have S2 := S.alloc (.cells #[.int .i64 u, .int .i64 v] 27)
      clear hc hr b0 b1 A S
      have Hm := Lib.hid hm; clear hm
      go_upto_region 5 with (fail)
      clear a0 a1 hA0 hA1
      go_region_held3 (fun w' => w'.cell? ⟨w.heap.size, 0, none⟩ = some (.int .i64 fx) ∧ w'.cell? ⟨w.heap.size, 1, none⟩ = some (.int .i64 fy) ∧ w'.cell? ⟨wr.heap.size, 0, none⟩ = some (.int .i64 u) ∧ w'.cell? ⟨wr.heap.size, 1, none⟩ = some (.int .i64 v) ∧
          w'.cell? ⟨b, o + m * 2, none⟩ = some (.int .i64 p) ∧ w'.cell? ⟨b, o + m * 2 + 1, none⟩ = some (.int .i64 q))
        (first | ((repeat' (apply And.intro)) <;> (refine CellAt.out ?_; (repeat (first | assumption | exact Blk.cat (Blk.new _ _ _) _ rfl | refine CellAt.bl ?_ (bl_alloc _ _) | refine CellAt.bl ?_ (bl_drew _) | refine CellAt.bl ?_ (bl_drewN _ _) | refine CellAt.bl ?_ (by assumption) | refine CellAt.other ?_ (by intro e; injection e; omega) _)))))
        ((first | (go_at_call 96; refine (far_any _ _ _ _ _ _ (by omega) (by omega) (by omega) (by omega)).mono ?_; rintro e w1 ⟨rfl, hb1⟩)))
      rename_i w0 hb0
      have A3 : Blk w1 w.heap.size #[.int .i64 fx, .int .i64 fy] 27 := by (repeat (first | assumption | exact Blk.new _ _ _ | exact Since.refl _ | refine ArgRd.bl ?_ (bl_alloc _ _) | refine ArgRd.bl ?_ (bl_drew _) | refine ArgRd.bl ?_ (by assumption) | refine Copy.bl ?_ (bl_alloc _ _) | refine Copy.bl ?_ (bl_drew _) | refine Copy.bl ?_ (by assumption) | refine OwnStrs.bl ?_ (bl_alloc _ _) | refine OwnStrs.bl ?_ (bl_drew _) | refine OwnStrs.bl ?_ (by assumption) | refine Blk.bl ?_ (bl_alloc _ _) | refine Blk.bl ?_ (bl_drew _) | refine Blk.bl ?_ (by assumption) | refine Since.bl ?_ (bl_alloc _ _) | refine Since.bl ?_ (bl_drew _) | refine Since.bl ?_ (by assumption) | refine Blk.other ?_ (by (try dsimp only); (try simp only [World.size_alloc, World.size_setCell, szDrew]); omega) _))
      have S3 : Since w w1 := by (repeat (first | assumption | exact Blk.new _ _ _ | exact Since.refl _ | refine ArgRd.bl ?_ (bl_alloc _ _) | refine ArgRd.bl ?_ (bl_drew _) | refine ArgRd.bl ?_ (by assumption) | refine Copy.bl ?_ (bl_alloc _ _) | refine Copy.bl ?_ (bl_drew _) | refine Copy.bl ?_ (by assumption) | refine OwnStrs.bl ?_ (bl_alloc _ _) | refine OwnStrs.bl ?_ (bl_drew _) | refine OwnStrs.bl ?_ (by assumption) | refine Blk.bl ?_ (bl_alloc _ _) | refine Blk.bl ?_ (bl_drew _) | refine Blk.bl ?_ (by assumption) | refine Since.bl ?_ (bl_alloc _ _) | refine Since.bl ?_ (bl_drew _) | refine Since.bl ?_ (by assumption) | refine Blk.other ?_ (by (try dsimp only); (try simp only [World.size_alloc, World.size_setCell, szDrew]); omega) _))
      clear C1 C2 C3 C4 C5 C6 A2 S2 hb0 hb1 hb
      by_cases hlt2 : farZ k fx fy u v < farZ k fx fy p q
      · have hm := Hm.out
        rw [if_pos hlt2] at hm
        have H1 := Lib.hid hm
        clear hm
        go_wp2
        go_roundw
        case rel => exact ⟨j + 1, by omega, by go_num, by rw [H1.out], A3, S3⟩
        case measure => simp [intOf]; omega
      · have hm := Hm.out
        rw [if_neg hlt2] at hm
        have H1 := Lib.hid hm
        have hle : farZ k fx fy p q ≤ farZ k fx fy u v := Int.not_lt.1 hlt2
        clear hm hlt2
        go_wp2
        go_roundw
        case rel => exact ⟨j + 1, by omega, by go_num, by rw [H1.out], A3, S3⟩
        case measure => simp [intOf]; omega
    · obtain rfl : j = l.length := by omega
      have hs2 := Hl.out _ (getD_memS hbj)
      obtain ⟨b, o, rfl, hb, hc⟩ := (hr.below S.below (Nat.le_refl _)).at (k := 0) (by omega)
      have hf : farG k fx fy (bestS (farG k fx fy) l) = farZ k fx fy (l.getD (leastN (farG k fx fy) l l.length) (0, 0)).1 (l.getD (leastN (farG k fx fy) l l.length) (0, 0)).2 := rfl
      obtain ⟨m, em⟩ : ∃ m, leastN (farG k fx fy) l l.length = m := ⟨_, rfl⟩
      rw [em] at hf hbj hs2 hll
      have b0 := hc (m * 2) (by omega)
      have b1 := hc (m * 2 + 1) (by omega)
      rw [spotAt_x] at b0
      rw [spotAt_y, ← Nat.add_assoc] at b1
      have hm0 : (0 : Int) ≤ (m : Int) := Int.natCast_nonneg _
      have hm1 : (m : Int) < (l.length : Int) := by omega
      obtain ⟨p, ep⟩ : ∃ p, (l.getD m (0, 0)).1 = p := ⟨_, rfl⟩
      obtain ⟨q, eq⟩ : ∃ q, (l.getD m (0, 0)).2 = q := ⟨_, rfl⟩
      rw [ep] at hf hs2 b0
      rw [eq] at hf hs2 b1
      rw [em]
      have Hf := Lib.hid hf; clear hf
      have Em := Lib.hid em; clear em
      clear ep eq
      have C3 : CellAt wr b (o + m * 2) (.int .i64 p) := b0
      have C4 : CellAt wr b (o + m * 2 + 1) (.int .i64 q) := b1
      have C5 := A.cat 0 rfl
      have C6 := A.cat 1 rfl
      clear hc hr b0 b1 A
      go_upto_region 8 with (fail)
      go_region_held3 (fun w' => w'.cell? ⟨w.heap.size, 0, none⟩ = some (.int .i64 fx) ∧ w'.cell? ⟨w.heap.size, 1, none⟩ = some (.int .i64 fy) ∧ 
          w'.cell? ⟨b, o + m * 2, none⟩ = some (.int .i64 p) ∧ w'.cell? ⟨b, o + m * 2 + 1, none⟩ = some (.int .i64 q))
        (first | ((repeat' (apply And.intro)) <;> (refine CellAt.out ?_; (repeat (first | assumption | exact Blk.cat (Blk.new _ _ _) _ rfl | refine CellAt.bl ?_ (bl_alloc _ _) | refine CellAt.bl ?_ (bl_drew _) | refine CellAt.bl ?_ (bl_drewN _ _) | refine CellAt.bl ?_ (by assumption) | refine CellAt.other ?_ (by intro e; injection e; omega) _)))))
        ((first | (go_at_call 96; refine (far_any _ _ _ _ _ _ (by omega) (by omega) (by omega) (by omega)).mono ?_; rintro e w1 ⟨rfl, hb1⟩)))
      have S3 : Since w w1 := by (repeat (first | assumption | exact Blk.new _ _ _ | exact Since.refl _ | refine ArgRd.bl ?_ (bl_alloc _ _) | refine ArgRd.bl ?_ (bl_drew _) | refine ArgRd.bl ?_ (by assumption) | refine Copy.bl ?_ (bl_alloc _ _) | refine Copy.bl ?_ (bl_drew _) | refine Copy.bl ?_ (by assumption) | refine OwnStrs.bl ?_ (bl_alloc _ _) | refine OwnStrs.bl ?_ (bl_drew _) | refine OwnStrs.bl ?_ (by assumption) | refine Blk.bl ?_ (bl_alloc _ _) | refine Blk.bl ?_ (bl_drew _) | refine Blk.bl ?_ (by assumption) | refine Since.bl ?_ (bl_alloc _ _) | refine Since.bl ?_ (bl_drew _) | refine Since.bl ?_ (by assumption) | refine Blk.other ?_ (by (try dsimp only); (try simp only [World.size_alloc, World.size_setCell, szDrew]); omega) _))
      go_wp2
      go_ret2
      exact ⟨by rw [Em.out, Hf.out]; rfl, S3.below⟩
/-- While the nearest black pixel is sought: n pixels are looked at. -/
structure NearRel (w : World) (g : Int × Int → Int) (l : List (Int × Int)) (v : Value) (wr : World) : Prop where
  v : v = .int .i64 (bestD g l)
  res : Blk wr w.heap.size #[.int .i64 0, .int .i64 0] 27
  best : Blk wr (w.heap.size + 1) #[.int .i64 (bestS g l).1, .int .i64 (bestS g l).2] 27
  since : Since w wr
theorem NearRel.drewN {w : World} {g : Int × Int → Int} {l : List (Int × Int)} {v : Value} {wr : World} (h : NearRel w g l v wr) (n : Nat) : NearRel w g l v (wr.drewN n) :=
  ⟨h.v, h.res.bl (bl_drewN _ _), h.best.bl (bl_drewN _ _), h.since.bl (bl_drewN _ _)⟩
theorem Since.setc {w a : World} (h : Since w a) {p : Addr} (hb : w.heap.size ≤ p.block) (v : Value) : Since w (a.setCell p v) := ⟨h.below.setCell hb _⟩
set_option maxRecDepth 100000 in
set_option maxHeartbeats 4000000 in
theorem l06Nearest_any (a : Nat) (p : Option Addr) (c : Nat) (ss : List ByteArray) (k x y : Int) (w : World) (P : PicAt w a p c ss) (hx : -1000 ≤ x ∧ x ≤ 1000) (hy : -1000 ≤ y ∧ y ≤ 1000) :
    Calls Try.prog 103 #[.pointer (some ⟨a, 0, none⟩), .int .i64 k, .int .i64 x, .int .i64 y] w fun e w' =>
      e = .returned (.tuple #[.agg #[.int .i64 (bestS (farG k x y) (spotsL ss)).1, .int .i64 (bestS (farG k x y) (spotsL ss)).2], .int .i64 (bestD (farG k x y) (spotsL ss))]) ∧ Below w.heap.size w w' := by
  have hd := okPic_dims P.ok
  obtain ⟨hd1, hd2, hd3, hd4⟩ := hd
  have hsl : spotsL ss = spotsTo (wid ss) (bits ss) (wid ss * ss.length) := by rw [spotsL, if_pos P.ok]
  have k1 := fun w h => l01Width_any a p c ss w h
  have k2 := fun w h => l01Height_any a p c ss w h
  have k3 := fun x y w h => l01Black_any a p c ss x y w h
  have hg := farG_nonneg k x y
  obtain ⟨G, eG⟩ : ∃ G, farG k x y = G := ⟨_, rfl⟩
  have hG : ∀ u v : Nat, u < 16 → v < 16 → ∀ w, Calls Try.prog 100 #[.int .i64 k, .int .i64 x, .int .i64 y, .int .i64 u, .int .i64 v] w fun e w' => e = .returned (.int .i64 (G (u, v))) ∧ w = w' :=
    fun u v hu hv w => eG ▸ l06Far_any k x y u v w hx hy (by omega) (by omega)
  rw [hsl]
  rw [eG] at hg ⊢
  clear eG hx hy
  obtain ⟨f, ef⟩ : ∃ f, bits ss = f := ⟨_, rfl⟩
  rw [ef] at k3 ⊢
  have K1 := Lib.hid k1; clear k1
  have K2 := Lib.hid k2; clear k2
  have K3 := Lib.hid k3; clear k3
  have Hg := Lib.hid hg; clear hg
  have HG := Lib.hid hG; clear hG
  have Hsl := Lib.hid hsl; clear hsl
  have Ef := Lib.hid ef; clear ef
  have J0 : NearRel w G (spotsTo (wid ss) f (0 * wid ss)) (.int .i64 (-1)) ((w.alloc (.cells #[.int .i64 0, .int .i64 0] 27)).alloc (.cells #[.int .i64 0, .int .i64 0] 27)) := by
    rw [Nat.zero_mul]
    refine ⟨rfl, (Blk.new _ _ _).alloc _, ?_, ((Since.refl w).alloc _).alloc _⟩
    have := Blk.new (w.alloc (.cells #[.int .i64 0, .int .i64 0] 27)) #[.int .i64 0, .int .i64 0] 27
    simp only [World.size_alloc] at this
    exact this
  go_enter Try.func103, Try.ntmps103
  go_wp2
  go_loopw [11, 12] (fun v i wr => ∃ j : Nat, j ≤ ss.length ∧ i = .int .i64 j ∧ NearRel w G (spotsTo (wid ss) f (j * wid ss)) v wr) (fun _ i _ => ss.length - (intOf i).toNat)
  case atStart => exact ⟨0, Nat.zero_le _, rfl, J0⟩
  case round =>
    clear J0
    obtain ⟨j, hj, rfl, J⟩ := hrel
    have P1 := P.bl J.since.below
    by_cases hjH : j < ss.length
    · obtain rfl := J.v
      go_wp2_with fail
      refine (K2.out _ P1).mono ?_
      rintro e w1 ⟨rfl, rfl⟩
      go_wp2
      go_loopw [11, 13] (fun v i wr => ∃ u : Nat, u ≤ wid ss ∧ i = .int .i64 u ∧ NearRel w G (spotsTo (wid ss) f (j * wid ss + u)) v wr) (fun _ i _ => wid ss - (intOf i).toNat)
      case atStart => exact ⟨0, Nat.zero_le _, rfl, J⟩
      case round =>
        clear J P1
        obtain ⟨u, hu, rfl, J⟩ := hrel
        have P1 := P.bl J.since.below
        obtain rfl := J.v
        by_cases huW : u < wid ss
        · have hlt : j * wid ss + u < wid ss * ss.length := at_lt huW hjH
          have hsu := spotsTo_succ (wid ss) f (j * wid ss + u)
          rw [(at_mod huW).1, (at_mod huW).2] at hsu
          have c3 := (K3.out (u : Int) (j : Int) wr P1).mono (fun e w' q => (⟨q.1.trans (by rw [px_at huW hjH]), q.2⟩ : e = .returned (.bool (f (j * wid ss + u))) ∧ ∃ n, w' = wr.drewN n))
          cases hb : f (j * wid ss + u)
          · rw [hb] at hsu c3
            rw [if_neg (by simp), List.append_nil] at hsu
            have C3 := Lib.hid c3; clear c3
            have Hsu := Lib.hid hsu; clear hsu
            have Hb := Lib.hid hb; clear hb
            go_wp2_with fail
            refine (K1.out _ P1).mono ?_
            rintro e w1 ⟨rfl, rfl⟩
            go_wp2_with fail
            refine C3.out.mono ?_
            rintro e w1 ⟨rfl, n, rfl⟩
            have J1 := J.drewN n
            clear P1 J
            go_wp2
            go_roundw
            case rel => exact ⟨u + 1, by omega, by go_num, by rw [← Nat.add_assoc, Hsu.out]; exact J1⟩
            case measure => simp [intOf]; omega
          · rw [hb] at hsu c3
            rw [if_pos rfl] at hsu
            have hS := bestS_snoc G (spotsTo (wid ss) f (j * wid ss + u)) ((u : Int), (j : Int)) Hg.out
            have hD := bestD_snoc G (spotsTo (wid ss) f (j * wid ss + u)) ((u : Int), (j : Int)) Hg.out
            rw [← hsu] at hS hD
            have hF := HG.out u j (by omega) (by omega)
            obtain ⟨D, eD⟩ : ∃ D, bestD G (spotsTo (wid ss) f (j * wid ss + u)) = D := ⟨_, rfl⟩
            obtain ⟨E, eE⟩ : ∃ E, G ((u : Int), (j : Int)) = E := ⟨_, rfl⟩
            rw [eD] at hS hD
            rw [eE] at hS hD hF
            have C3 := Lib.hid c3; clear c3
            have Hsu := Lib.hid hsu; clear hsu
            have Hb := Lib.hid hb; clear hb
            have HF := Lib.hid hF; clear hF
            go_wp2_with fail
            refine (K1.out _ P1).mono ?_
            rintro e w1 ⟨rfl, rfl⟩
            go_wp2_with fail
            refine C3.out.mono ?_
            rintro e w1 ⟨rfl, n, rfl⟩
            have J1 := J.drewN n
            clear P1 J
            by_cases hlt2 : D < 0 ∨ E < D
            · rw [if_pos hlt2] at hS hD
              have J2 : NearRel w G (spotsTo (wid ss) f (j * wid ss + (u + 1))) (.int .i64 E) (((wr.drewN n).setCell ⟨w.heap.size + 1, 0, none⟩ (.int .i64 u)).setCell ⟨w.heap.size + 1, 1, none⟩ (.int .i64 j)) := by
                rw [← Nat.add_assoc]
                refine ⟨by rw [hD], (J1.res.other (by simp) _).other (by simp) _, by rw [hS]; exact J1.best.set2 _ _, (J1.since.setc (by simp) _).setc (by simp) _⟩
              have e0 := J1.best.cell 0 rfl
              have f0 := J1.best.frozen 0
              have e1 := (J1.best.set 0 (.int .i64 u)).cell 1 rfl
              have f1 := (J1.best.set 0 (.int .i64 u)).frozen 1
              have HS := Lib.hid hS; clear hS
              have HD := Lib.hid hD; clear hD
              have EE := Lib.hid eE; clear eE
              clear J1
              rcases hlt2 with hn | hn
              · have ED := Lib.hid eD; clear eD
                go_wp2_with (go_at_call 100; refine (HF.out _).mono ?_; rintro e w1 ⟨rfl, rfl⟩)
                go_roundw
                case rel => exact ⟨u + 1, by omega, by go_num, J2⟩
                case measure => simp [intOf]; omega
              · by_cases hn2 : D < 0
                all_goals
                  have ED := Lib.hid eD; clear eD
                  go_wp2_with (go_at_call 100; refine (HF.out _).mono ?_; rintro e w1 ⟨rfl, rfl⟩)
                  go_roundw
                  case rel => exact ⟨u + 1, by omega, by go_num, J2⟩
                  case measure => simp [intOf]; omega
            · rw [if_neg hlt2] at hS hD
              have J2 : NearRel w G (spotsTo (wid ss) f (j * wid ss + (u + 1))) (.int .i64 D) (wr.drewN n) := by
                rw [← Nat.add_assoc]
                refine ⟨by rw [hD], J1.res, by rw [hS]; exact J1.best, J1.since⟩
              have hn1 : 0 ≤ D := by omega
              have hn2 : D ≤ E := by omega
              have HS := Lib.hid hS; clear hS
              have HD := Lib.hid hD; clear hD
              have EE := Lib.hid eE; clear eE
              clear J1 hlt2
              have ED := Lib.hid eD; clear eD
              go_wp2_with (go_at_call 100; refine (HF.out _).mono ?_; rintro e w1 ⟨rfl, rfl⟩)
              go_roundw
              case rel => exact ⟨u + 1, by omega, by go_num, J2⟩
              case measure => simp [intOf]; omega
        · obtain rfl : u = wid ss := by omega
          have e1 : j * wid ss + wid ss = (j + 1) * wid ss := by rw [Nat.add_mul, Nat.one_mul]
          rw [e1] at J
          have E1 := Lib.hid e1; clear e1
          go_wp2_with fail
          refine (K1.out _ P1).mono ?_
          rintro e w1 ⟨rfl, rfl⟩
          go_wp2
          go_roundw
          case rel => exact ⟨j + 1, by omega, by go_num, by rw [E1.out]; exact J⟩
          case measure => simp [intOf]; omega
    · obtain rfl : j = ss.length := by omega
      obtain rfl := J.v
      have e1 : ss.length * wid ss = wid ss * ss.length := Nat.mul_comm _ _
      rw [e1] at J
      have r0 := J.best.cell 0 rfl
      have r1 := J.best.cell 1 rfl
      have s0 := J.res.cell 0 rfl
      have g0 := J.res.frozen 0
      have g1 := (J.res.set 0 (.int .i64 (bestS G (spotsTo (wid ss) f (wid ss * ss.length))).1)).frozen 1
      have s1 := (J.res.set 0 (.int .i64 (bestS G (spotsTo (wid ss) f (wid ss * ss.length))).1)).cell 1 rfl
      have R := J.res.set2 (.int .i64 (bestS G (spotsTo (wid ss) f (wid ss * ss.length))).1) (.int .i64 (bestS G (spotsTo (wid ss) f (wid ss * ss.length))).2)
      have t0 := R.cell 0 rfl
      have t1 := R.cell 1 rfl
      have S3 := (J.since.setc (p := ⟨w.heap.size, 0, none⟩) (Nat.le_refl _) (.int .i64 (bestS G (spotsTo (wid ss) f (wid ss * ss.length))).1)).setc (p := ⟨w.heap.size, 1, none⟩) (Nat.le_refl _) (.int .i64 (bestS G (spotsTo (wid ss) f (wid ss * ss.length))).2)
      clear J R
      have E1 := Lib.hid e1; clear e1
      obtain ⟨bx, ex⟩ : ∃ bx, (bestS G (spotsTo (wid ss) f (wid ss * ss.length))).1 = bx := ⟨_, rfl⟩
      obtain ⟨bY, ey⟩ : ∃ bY, (bestS G (spotsTo (wid ss) f (wid ss * ss.length))).2 = bY := ⟨_, rfl⟩
      rw [ex] at r0 g1 s1 t0 t1 S3
      rw [ey] at r1 t0 t1 S3
      have Ex := Lib.hid ex; clear ex
      have Ey := Lib.hid ey; clear ey
      go_wp2_with fail
      refine (K2.out _ P1).mono ?_
      rintro e w1 ⟨rfl, rfl⟩
      go_wp2
      refine bodyPost_ret (v := .tuple #[.agg #[.int .i64 bx, .int .i64 bY], .int .i64 (bestD G (spotsTo (wid ss) f (ss.length * wid ss)))]) (by simp [results, Try.results103, go_sem, t0, t1]) rfl ⟨by rw [E1.out, Ex.out, Ey.out], S3.below⟩
end Go.Proofs.Ytakoklldmdbphaa
