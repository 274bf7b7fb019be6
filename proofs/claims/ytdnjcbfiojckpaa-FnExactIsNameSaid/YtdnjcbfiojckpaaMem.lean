/- Plain lemmas on memory: what a slice reads as, what is kept below a block number. -/
import Derived.Test.YtdnjcbfiojckpaaRows
import Derived.WalkKit
import Derived.WalkSpells
import Derived.WalkLawsBesides
import Derived.Lib.Hide
import Derived.Deep.OwnRows
import Derived.BigQuiet
import Derived.Handy
import Derived.Deep.RegionHeld3
import Derived.Deep.RegionWith
import Derived.Deep.DeepCutAuto
import Derived.Laws.BytesArg
import Derived.Deep.QuietTactic
set_option linter.unusedVariables false
namespace Go.Proofs.Ytdnjcbfiojckpaa
open Go.RowKit

theorem ret_bool {a b : Bool} (h : a = b) : Ending.returned (.bool a) = .returned (.bool b) := by rw [h]
theorem ret_int {k : IntKind} {a b : Int} (h : a = b) : Ending.returned (.int k a) = .returned (.int k b) := by rw [h]

/-- The cells from p on: m of them, cell i holds f i. -/
def Rd (w : World) (p : Option Addr) (m : Nat) (f : Nat → Value) : Prop :=
  m = 0 ∨ ∃ b o, p = some ⟨b, o, none⟩ ∧ ∀ i, i < m → w.cell? ⟨b, o + i, none⟩ = some (f i)

theorem Rd.at {w : World} {p : Option Addr} {m : Nat} {f : Nat → Value} (h : Rd w p m f) {k : Nat} (hk : k < m) :
    ∃ b o, p = some ⟨b, o, none⟩ ∧ b < w.heap.size ∧ ∀ i, i < m → w.cell? ⟨b, o + i, none⟩ = some (f i) := by
  rcases h with h | ⟨b, o, hp, hc⟩
  · omega
  · exact ⟨b, o, hp, World.block_lt_of_cell? _ _ (hc k hk), hc⟩

theorem Rd.below {w w' : World} {p : Option Addr} {m : Nat} {f : Nat → Value} (h : Rd w p m f) {B : Nat} (hb : Below B w w') (hB : w.heap.size ≤ B) : Rd w' p m f := by
  rcases h with h | ⟨b, o, hp, hc⟩
  · exact .inl h
  · refine .inr ⟨b, o, hp, fun i hi => ?_⟩
    have := World.block_lt_of_cell? _ _ (hc i hi)
    rw [hb.cell (p := ⟨b, o + i, none⟩) (Nat.lt_of_lt_of_le this hB)]
    exact hc i hi

theorem Rd.congr {w : World} {p : Option Addr} {m : Nat} {f g : Nat → Value} (h : Rd w p m f) (e : ∀ i, i < m → f i = g i) : Rd w p m g := by
  rcases h with h | ⟨b, o, hp, hc⟩
  · exact .inl h
  · exact .inr ⟨b, o, hp, fun i hi => by rw [hc i hi, e i hi]⟩

theorem Rd.nil (w : World) (p : Option Addr) (f : Nat → Value) : Rd w p 0 f := .inl rfl

theorem Rd.of_row {w : World} {g : Nat} {t : TypeId} {n m : Nat} {f : Nat → Value} (h : w.rowIs g t n f) (hm : m ≤ n) : Rd w (some ⟨g, 0, none⟩) m f :=
  .inr ⟨g, 0, rfl, fun i hi => by rw [Nat.zero_add]; exact h.cell (by omega)⟩

theorem bcell {W w1 : World} {B : Nat} (hb : Below B W w1) : (∀ b o, b < B → w1.cell? ⟨b, o, none⟩ = W.cell? ⟨b, o, none⟩) ∧ (∀ b o, b < B → w1.frozen? ⟨b, o, none⟩ = W.frozen? ⟨b, o, none⟩) :=
  ⟨fun b o h => hb.cell (p := ⟨b, o, none⟩) h, fun b o h => hb.frozen (p := ⟨b, o, none⟩) h⟩

/-- A block that lies below stays a row. -/
theorem row_below {w w' : World} {g : Nat} {t : TypeId} {n : Nat} {f : Nat → Value} (h : w.rowIs g t n f) {B : Nat} (hb : Below B w w') (hg : g < B) : w'.rowIs g t n f :=
  h.of_block (hb.block g hg)

/-- A row of the call's own in block w.heap.size, filled from the front: k of n cells hold f, the others z. -/
structure Fill (w wr : World) (t : TypeId) (n k : Nat) (f : Nat → Value) (z : Value) : Prop where
  below : Below w.heap.size w wr
  size : wr.heap.size = w.heap.size + 1
  row : wr.rowIs w.heap.size t n (fun j => if j < k then f j else z)

theorem Fill.start (w : World) (t : TypeId) (n : Nat) (f : Nat → Value) (z : Value) : Fill w (w.alloc (.cells (madeCells #[z] n) t)) t n 0 f z :=
  ⟨(Below.refl _ _).alloc (Nat.le_refl _) _, by simp, (World.rowIs_made w z n t).congr (fun i _ => by simp)⟩

theorem Fill.step {w wr : World} {t : TypeId} {n k : Nat} {f : Nat → Value} {z : Value} (h : Fill w wr t n k f z) : Fill w (wr.setCell ⟨w.heap.size, k, none⟩ (f k)) t n (k + 1) f z :=
  ⟨h.below.setCell (Nat.le_refl _) _, by simp [h.size], (h.row.set k (f k)).congr (fun i _ => by
    by_cases e : i = k
    · subst e; simp
    · by_cases l : i < k
      · simp [e, l, show i < k + 1 by omega]
      · simp [e, l, show ¬ i < k + 1 by omega])⟩

theorem Fill.done {w wr : World} {t : TypeId} {n : Nat} {f : Nat → Value} {z : Value} (h : Fill w wr t n n f z) : wr.rowIs w.heap.size t n f := h.row.congr (fun i hi => by simp [hi])

theorem below_a1 {w w1 : World} {a : Obj} (h : Below (w.alloc a).heap.size (w.alloc a) w1) : Below w.heap.size w w1 :=
  ((Below.refl _ _).alloc (Nat.le_refl _) _).trans (h.mono (by simp))
theorem below_a2 {w w1 : World} {a b : Obj} (h : Below ((w.alloc a).alloc b).heap.size ((w.alloc a).alloc b) w1) : Below w.heap.size w w1 := below_a1 (below_a1 h)
theorem below_a3 {w w1 : World} {a b c : Obj} (h : Below (((w.alloc a).alloc b).alloc c).heap.size (((w.alloc a).alloc b).alloc c) w1) : Below w.heap.size w w1 := below_a1 (below_a2 h)
theorem below_a4 {w w1 : World} {a b c d : Obj} (h : Below ((((w.alloc a).alloc b).alloc c).alloc d).heap.size ((((w.alloc a).alloc b).alloc c).alloc d) w1) : Below w.heap.size w w1 := below_a1 (below_a3 h)

theorem Rd.alloc {w : World} {p : Option Addr} {m : Nat} {f : Nat → Value} (h : Rd w p m f) (o : Obj) : Rd (w.alloc o) p m f :=
  h.below ((Below.refl _ _).alloc (Nat.le_refl _) _) (Nat.le_refl _)

theorem conv_one {P : Program} (src dst e : TypeId) (hs : P.underlying src = some (.slice e)) (he : P.underlying e = some (.int .u8)) (hd : P.underlying dst = some .string) (w : World) (x : Int) (t : TypeId) :
    (convert src dst (.slice (some ⟨w.heap.size, 0, none⟩) 1 1)).run P (w.alloc (.cells #[.int .u8 x] t)) = .ok (.string ⟨#[UInt8.ofNat x.toNat]⟩) (w.alloc (.cells #[.int .u8 x] t)) := by
  have := run_convert_bytes_arg (P := P) (w.alloc (.cells #[.int .u8 x] t)) src e hs he w.heap.size 0 1 1 [x] rfl (fun i hi => by
    obtain rfl : i = 0 := by omega
    simp) dst hd
  rw [this]
  rfl

theorem grown_refl (w : World) (r : Option Nat) : w.grownBy w r := ⟨rfl, rfl, rfl, Nat.le_refl _, fun _ _ _ => rfl⟩
theorem grown_below {w a b : World} {r : Option Nat} (h : w.grownBy a r) {B : Nat} (hb : Below B a b) (hB : w.heap.size ≤ B) : w.grownBy b r :=
  ⟨hb.os.trans h.os, hb.tape.trans h.tape, hb.output.trans h.output, Nat.le_trans h.size hb.size, fun k hk hn => (hb.block k (by omega)).trans (h.block k hk hn)⟩
theorem grown_setCell {w a : World} {g : Nat} (h : w.grownBy a (some g)) (i : Nat) (v : Value) : w.grownBy (a.setCell ⟨g, i, none⟩ v) (some g) :=
  ⟨h.os, h.tape, h.output, by simp [h.size], fun k hk hn => (Below.heap_setCell _ _ _ _ (fun e => hn (by rw [e]))).trans (h.block k hk hn)⟩
theorem grown_trans {w a b : World} {r : Option Nat} (h : w.grownBy a r) (h' : a.grownBy b r) : w.grownBy b r :=
  ⟨h'.os.trans h.os, h'.tape.trans h.tape, h'.output.trans h.output, Nat.le_trans h.size h'.size, fun k hk hn => (h'.block k (Nat.lt_of_lt_of_le hk h.size) hn).trans (h.block k hk hn)⟩
theorem below_grown {w a b : World} {B g : Nat} (h : Below B w a) (h' : a.grownBy b (some g)) (hB : B ≤ a.heap.size) (hg : B ≤ g) : Below B w b :=
  h.grown h' hB (fun k e => by cases e; exact hg)
theorem row_grown {w w' : World} {r : Option Nat} (hg : w.grownBy w' r) {g : Nat} {t : TypeId} {n : Nat} {f : Nat → Value} (h : w.rowIs g t n f) (hr : some g ≠ r) : w'.rowIs g t n f :=
  h.of_block (hg.block g h.lt hr)
theorem Rd.grown {w w' : World} {r : Option Nat} (hg : w.grownBy w' r) {p : Option Addr} {m : Nat} {f : Nat → Value} (h : Rd w p m f) (hr : ∀ b o, p = some ⟨b, o, none⟩ → some b ≠ r) : Rd w' p m f := by
  rcases h with h | ⟨b, o, hp, hc⟩
  · exact .inl h
  · exact .inr ⟨b, o, hp, fun i hi => hg.cell (hc i hi) (hr b o hp)⟩

theorem since_below {B : Nat} {w w' : World} (h : w.Since B w') : Below B w w' := ⟨h.os, h.tape, h.output, h.size, h.block⟩

end Go.Proofs.Ytdnjcbfiojckpaa
