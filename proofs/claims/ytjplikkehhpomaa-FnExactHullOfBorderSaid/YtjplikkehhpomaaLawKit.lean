/- What the laws' walks keep from call to call: arguments, copies, results, marks. -/
import Derived.Test.YtjplikkehhpomaaLawStr
import Derived.Test.YtjplikkehhpomaaLawSpots
set_option linter.unusedVariables false
namespace Go.Proofs.Ytjplikkehhpomaa
open Go.RowKit

/-- The cells of an argument: they lie below block B. -/
def ArgRd (B : Nat) (w : World) (p : Option Addr) (m : Nat) (f : Nat → Value) : Prop :=
  m = 0 ∨ ∃ b o, p = some ⟨b, o, none⟩ ∧ b < B ∧ ∀ i, i < m → w.cell? ⟨b, o + i, none⟩ = some (f i)
theorem ArgRd.of_rd {w : World} {p : Option Addr} {m : Nat} {f : Nat → Value} (h : Rd w p m f) : ArgRd w.heap.size w p m f := by
  rcases h with h | ⟨b, o, hp, hc⟩
  · exact .inl h
  · rcases Nat.eq_zero_or_pos m with h0 | h0
    · exact .inl h0
    · exact .inr ⟨b, o, hp, World.block_lt_of_cell? _ _ (hc 0 h0), hc⟩
theorem ArgRd.rd {B : Nat} {w : World} {p : Option Addr} {m : Nat} {f : Nat → Value} (h : ArgRd B w p m f) : Rd w p m f := by
  rcases h with h | ⟨b, o, hp, _, hc⟩
  · exact .inl h
  · exact .inr ⟨b, o, hp, hc⟩
theorem ArgRd.bl {B : Nat} {w w' : World} {p : Option Addr} {m : Nat} {f : Nat → Value} (h : ArgRd B w p m f) (hb : Below w.heap.size w w') : ArgRd B w' p m f := by
  rcases h with h | ⟨b, o, hp, hB, hc⟩
  · exact .inl h
  · refine .inr ⟨b, o, hp, hB, fun i hi => ?_⟩
    have := World.block_lt_of_cell? _ _ (hc i hi)
    rw [hb.cell (p := ⟨b, o + i, none⟩) this]
    exact hc i hi
theorem ArgRd.grown {B : Nat} {w w' : World} {p : Option Addr} {m : Nat} {f : Nat → Value} (h : ArgRd B w p m f) {r : Option Nat} (hg : w.grownBy w' r) (hr : ∀ g, r = some g → B ≤ g) : ArgRd B w' p m f := by
  rcases h with h | ⟨b, o, hp, hB, hc⟩
  · exact .inl h
  · exact .inr ⟨b, o, hp, hB, fun i hi => hg.cell (hc i hi) (fun e => by have := hr b e.symm; omega)⟩

theorem szDrew (w : World) : w.drew.heap.size = w.heap.size := rfl
theorem gr_set (w : World) (b : Nat) (v : Value) : w.grownBy (w.setCell ⟨b, 0, none⟩ v) (some b) :=
  ⟨rfl, rfl, rfl, by simp, fun i _ hne => Below.heap_setCell _ _ _ _ (fun e => hne (by rw [e]))⟩
theorem Blk.grow {w w' : World} {b : Nat} {cs : Array Value} {t : TypeId} (h : Blk w b cs t) {r : Option Nat} (hg : w.grownBy w' r) (hr : ∀ g, r = some g → b ≠ g) : Blk w' b cs t :=
  h.grown hg (fun e => hr b e.symm rfl)
theorem Since.grow {w a b : World} (h : Since w a) {r : Option Nat} (hg : a.grownBy b r) (hr : ∀ g, r = some g → w.heap.size ≤ g) : Since w b := ⟨h.below.grown hg h.size hr⟩

/-- A copy of the call's own: a row in block g. -/
structure Copy (w : World) (g : Nat) (t : TypeId) (n : Nat) (f : Nat → Value) : Prop where
  row : w.rowIs g t n f
theorem Copy.bl {w w' : World} {g : Nat} {t : TypeId} {n : Nat} {f : Nat → Value} (h : Copy w g t n f) (hb : Below w.heap.size w w') : Copy w' g t n f := ⟨row_below h.row hb h.row.lt⟩
theorem Copy.rd {w : World} {g : Nat} {t : TypeId} {n : Nat} {f : Nat → Value} (h : Copy w g t n f) : Rd w (some ⟨g, 0, none⟩) n f := Rd.of_row h.row (Nat.le_refl _)
theorem Copy.lt {w : World} {g : Nat} {t : TypeId} {n : Nat} {f : Nat → Value} (h : Copy w g t n f) : g < w.heap.size := h.row.lt
theorem Copy.grow {w w' : World} {g : Nat} {t : TypeId} {n : Nat} {f : Nat → Value} (h : Copy w g t n f) {r : Option Nat} (hg : w.grownBy w' r) (hr : ∀ k, r = some k → g ≠ k) : Copy w' g t n f :=
  ⟨row_grown hg h.row (fun e => hr g e.symm rfl)⟩

theorem OwnStrs.grow {B : Nat} {w w' : World} {v : Value} {ss : List ByteArray} (h : OwnStrs B w v ss) {r : Option Nat} (hg : w.grownBy w' r) (hr : ∀ k g, v.ownBlock = some k → r = some g → k ≠ g) : OwnStrs B w' v ss :=
  h.grown hg (fun k hk e => by cases r with | none => cases e | some g => exact hr k g hk rfl (by cases e; rfl))

theorem OwnStrs.other {B : Nat} {w : World} {v : Value} {ss : List ByteArray} (h : OwnStrs B w v ss) {a : Addr} (ha : ∀ k, v.ownBlock = some k → k ≠ a.block) (u : Value) : OwnStrs B (w.setCell a u) v ss := by
  obtain ⟨p, c, hv, ho⟩ := h
  exact ⟨p, c, hv, own_other ho (fun e => ha _ e.symm rfl) u⟩
/-- Behind a statement that makes a variable of a picture that a call has made: the variable lies in block nb. -/
structure CutStrs (wb : World) (nb : Nat) (p : Option Addr) (d : Nat) (L : List ByteArray) (t : TypeId) (w : World) : Prop where
  blk : Blk w nb #[.slice p L.length d] t
  own : OwnStrs wb.heap.size w (.slice p L.length d) L
  below : Below wb.heap.size wb w
  ge : wb.heap.size ≤ nb
  ne : ∀ k, (Value.slice p L.length d).ownBlock = some k → k ≠ nb
theorem cut_strs {wb w : World} {nb lo : Nat} {p : Option Addr} {d : Nat} {L : List ByteArray} {t : TypeId} {z : Value} (B : Blk w nb #[z] t) (O : OwnStrs lo w (.slice p L.length d) L) (hlo : wb.heap.size ≤ lo) (hb : Below wb.heap.size wb w)
    (hnb : wb.heap.size ≤ nb) (hne : ∀ k, (Value.slice p L.length d).ownBlock = some k → k ≠ nb) : CutStrs wb nb p d L t (w.setCell ⟨nb, 0, none⟩ (.slice p L.length d)) :=
  ⟨B.set 0 _, (O.other (a := ⟨nb, 0, none⟩) hne _).mono hlo, hb.setCell hnb _, hnb, hne⟩
theorem cut_strs2 {wb w : World} {lo : Nat} {p : Option Addr} {d : Nat} {L : List ByteArray} {t : TypeId} (O : OwnStrs lo w (.slice p L.length d) L) (hlo : wb.heap.size ≤ lo) (hb : Below wb.heap.size wb w) :
    CutStrs wb w.heap.size p d L t (w.alloc (.cells #[.slice p L.length d] t)) :=
  ⟨Blk.new _ _ _, (O.bl (bl_alloc _ _)).mono hlo, hb.alloc hb.size _, hb.size, fun k hk e => by have := (O.ge k hk).2; omega⟩
/-- Behind a statement that makes a variable of plain cells. -/
structure CutBlk (wb : World) (nb : Nat) (cs : Array Value) (t : TypeId) (w : World) : Prop where
  blk : Blk w nb cs t
  below : Below wb.heap.size wb w
  ge : wb.heap.size ≤ nb
theorem cut_blk_new {wb w : World} {cs : Array Value} {t : TypeId} (hb : Below wb.heap.size wb w) : CutBlk wb w.heap.size cs t (w.alloc (.cells cs t)) := ⟨Blk.new _ _ _, hb.alloc hb.size _, hb.size⟩
theorem Blk.set2' {w : World} {b : Nat} {u v : Value} {t : TypeId} (h : Blk w b #[u, v] t) (x y : Value) : Blk ((w.setCell ⟨b, 0, none⟩ x).setCell ⟨b, 1, none⟩ y) b #[x, y] t := (h.set 0 x).set 1 y
theorem cut_blk1 {wb w : World} {nb : Nat} {cs : Array Value} {t : TypeId} (B : Blk w nb cs t) (hb : Below wb.heap.size wb w) (hnb : wb.heap.size ≤ nb) (x : Value) (h1 : cs.size = 1 := by rfl) : CutBlk wb nb #[x] t (w.setCell ⟨nb, 0, none⟩ x) := by
  obtain ⟨l⟩ := cs
  match l, h1 with
  | [u], _ => exact ⟨B.set 0 x, hb.setCell hnb _, hnb⟩
theorem cut_blk2 {wb w : World} {nb : Nat} {cs : Array Value} {t : TypeId} (B : Blk w nb cs t) (hb : Below wb.heap.size wb w) (hnb : wb.heap.size ≤ nb) (x y : Value) (h1 : cs.size = 2 := by rfl) : CutBlk wb nb #[x, y] t ((w.setCell ⟨nb, 0, none⟩ x).setCell ⟨nb, 1, none⟩ y) := by
  obtain ⟨l⟩ := cs
  match l, h1 with
  | [u, v], _ => exact ⟨(B.set 0 x).set 1 y, (hb.setCell hnb _).setCell hnb _, hnb⟩
theorem cut_blk3 {wb w : World} {nb : Nat} {cs : Array Value} {t : TypeId} (B : Blk w nb cs t) (hb : Below wb.heap.size wb w) (hnb : wb.heap.size ≤ nb) (x y z : Value) (h1 : cs.size = 3 := by rfl) : CutBlk wb nb #[x, y, z] t (((w.setCell ⟨nb, 0, none⟩ x).setCell ⟨nb, 1, none⟩ y).setCell ⟨nb, 2, none⟩ z) := by
  obtain ⟨l⟩ := cs
  match l, h1 with
  | [u, v, r], _ => exact ⟨((B.set 0 x).set 1 y).set 2 z, ((hb.setCell hnb _).setCell hnb _).setCell hnb _, hnb⟩
theorem Blk.st1 {w : World} {b : Nat} {u : Value} {t : TypeId} (h : Blk w b #[u] t) (x : Value) :
    w.cell? ⟨b, 0, none⟩ = some u ∧ w.frozen? ⟨b, 0, none⟩ = false ∧ (w.setCell ⟨b, 0, none⟩ x).cell? ⟨b, 0, none⟩ = some x := ⟨h.cell 0 rfl, h.frozen 0, (h.set 0 x).cell 0 rfl⟩
theorem Blk.st2 {w : World} {b : Nat} {u v : Value} {t : TypeId} (h : Blk w b #[u, v] t) (x y : Value) :
    w.cell? ⟨b, 0, none⟩ = some u ∧ w.frozen? ⟨b, 0, none⟩ = false ∧ (w.setCell ⟨b, 0, none⟩ x).cell? ⟨b, 1, none⟩ = some v ∧ (w.setCell ⟨b, 0, none⟩ x).frozen? ⟨b, 1, none⟩ = false ∧
    ((w.setCell ⟨b, 0, none⟩ x).setCell ⟨b, 1, none⟩ y).cell? ⟨b, 0, none⟩ = some x ∧ ((w.setCell ⟨b, 0, none⟩ x).setCell ⟨b, 1, none⟩ y).cell? ⟨b, 1, none⟩ = some y :=
  ⟨h.cell 0 rfl, h.frozen 0, (h.set 0 x).cell 1 rfl, (h.set 0 x).frozen 1, (h.set2' x y).cell 0 rfl, (h.set2' x y).cell 1 rfl⟩
theorem Blk.st3 {w : World} {b : Nat} {u v r : Value} {t : TypeId} (h : Blk w b #[u, v, r] t) (x y z : Value) :
    w.cell? ⟨b, 0, none⟩ = some u ∧ w.frozen? ⟨b, 0, none⟩ = false ∧ (w.setCell ⟨b, 0, none⟩ x).cell? ⟨b, 1, none⟩ = some v ∧ (w.setCell ⟨b, 0, none⟩ x).frozen? ⟨b, 1, none⟩ = false ∧
    ((w.setCell ⟨b, 0, none⟩ x).setCell ⟨b, 1, none⟩ y).cell? ⟨b, 2, none⟩ = some r ∧ ((w.setCell ⟨b, 0, none⟩ x).setCell ⟨b, 1, none⟩ y).frozen? ⟨b, 2, none⟩ = false ∧
    (((w.setCell ⟨b, 0, none⟩ x).setCell ⟨b, 1, none⟩ y).setCell ⟨b, 2, none⟩ z).cell? ⟨b, 0, none⟩ = some x ∧ (((w.setCell ⟨b, 0, none⟩ x).setCell ⟨b, 1, none⟩ y).setCell ⟨b, 2, none⟩ z).cell? ⟨b, 1, none⟩ = some y ∧
    (((w.setCell ⟨b, 0, none⟩ x).setCell ⟨b, 1, none⟩ y).setCell ⟨b, 2, none⟩ z).cell? ⟨b, 2, none⟩ = some z :=
  have h3 : Blk (((w.setCell ⟨b, 0, none⟩ x).setCell ⟨b, 1, none⟩ y).setCell ⟨b, 2, none⟩ z) b #[x, y, z] t := ((h.set 0 x).set 1 y).set 2 z
  ⟨h.cell 0 rfl, h.frozen 0, (h.set 0 x).cell 1 rfl, (h.set 0 x).frozen 1, ((h.set 0 x).set 1 y).cell 2 rfl, ((h.set 0 x).set 1 y).frozen 2, h3.cell 0 rfl, h3.cell 1 rfl, h3.cell 2 rfl⟩


theorem OwnSpots.grow {B : Nat} {w w' : World} {v : Value} {l : List (Int × Int)} (h : OwnSpots B w v l) {r : Option Nat} (hg : w.grownBy w' r) (hr : ∀ k g, v.ownBlock = some k → r = some g → k ≠ g) : OwnSpots B w' v l :=
  h.grown hg (fun k hk e => by cases r with | none => cases e | some g => exact hr k g hk rfl (by cases e; rfl))
theorem markSpotS_x {w : World} {g n : Nat} {f : Nat → Value} (c : Nat) (h : Copy w g 28 (n * 2) f) (hn : n ≤ 1048576) (k : Int) (h0 : 0 < k) (h1 : k ≤ 1073741824) :
    Calls Try.prog 16 #[.slice (some ⟨g, 0, none⟩) n c, .int .i64 k] w fun e w' => e = .returned (.int .i64 (k + n * 2)) ∧ w.grownBy w' (some g) := by
  obtain ⟨k, rfl⟩ := Int.eq_ofNat_of_zero_le (show 0 ≤ k by omega)
  exact (markSpotS_any g n c f (n * 2) _ k w hn (Nat.le_refl _) (by omega) (by omega) h.row).mono fun e w' ⟨he, _, hg⟩ => ⟨he.trans (ret_int (by omega)), hg⟩
structure MarkNums (w : World) (p : Option Addr) (m : Nat) : Prop where
  rd : Rd w p m (numAt 1)
theorem MarkNums.bl {w w' : World} {p : Option Addr} {n : Nat} (h : MarkNums w p n) (hb : Below w.heap.size w w') : MarkNums w' p n := ⟨h.rd.bl hb⟩
theorem markSpotS_g {B : Nat} {w : World} {p : Option Addr} {c : Nat} {l : List (Int × Int)} (h : OwnSpots B w (.slice p l.length c) l) (hn : l.length ≤ 1048576) :
    Calls Try.prog 16 #[.slice p l.length c, .int .i64 1] w fun e w' => e = .returned (.int .i64 (1 + l.length * 2)) ∧ MarkNums w' p (l.length * 2) ∧ w.grownBy w' (Value.slice p l.length c).ownBlock :=
  (markSpotS_own h hn 1 (by omega) (by omega)).mono fun e w' ⟨he, hr, hg⟩ => ⟨he.trans (ret_int (by omega)), ⟨hr⟩, hg⟩
theorem heldSpotS_g {w : World} {p : Option Addr} {n : Nat} (c : Nat) (h : MarkNums w p (n * 2)) (hn : n ≤ 1048576) :
    Calls Try.prog 17 #[.slice p n c, .int .i64 1] w fun e w' => e = .returned (.int .i64 (1 + n * 2)) ∧ Below w.heap.size w w' :=
  (heldSpotS_any p n c 1 w hn (by omega) (by omega) h.rd).mono fun e w' ⟨he, hb⟩ => ⟨he.trans (ret_int (by omega)), by rw [← hb]; exact Below.refl _ _⟩

theorem toSpotS_x {B : Nat} {w : World} {p : Option Addr} {c : Nat} {l : List (Int × Int)} (h : ArgRd B w p (l.length * 2) (spotAt l)) (hn : l.length ≤ 1048576) :
    Calls Try.prog 26 #[.slice p l.length c] w fun e w' => ∃ g, e = .returned (.slice (some ⟨g, 0, none⟩) l.length l.length) ∧ Copy w' g 28 (l.length * 2) (spotAt l) ∧ w.heap.size ≤ g ∧ Below w.heap.size w w' :=
  (toSpotS_any p c l w hn h.rd).mono fun e w' ⟨g, he, hg, hr, hb⟩ => ⟨g, he, ⟨hr⟩, hg, hb⟩
end Go.Proofs.Ytjplikkehhpomaa
