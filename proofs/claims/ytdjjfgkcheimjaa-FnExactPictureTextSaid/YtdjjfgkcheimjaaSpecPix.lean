/- Contracts of the reference's functions on the pixels of a picture. -/
import Derived.Test.YtdjjfgkcheimjaaTold
import Derived.Test.YtdjjfgkcheimjaaSpots
set_option linter.unusedVariables false
namespace Go.Proofs.Ytdjjfgkcheimjaa
open Go.RowKit

/-- A valid picture behind a pointer: its rows lie in the variable of block a. -/
structure PicAt (w : World) (a : Nat) (p : Option Addr) (c : Nat) (ss : List ByteArray) : Prop where
  ok : okPic ss = true
  box : w.cell? ⟨a, 0, none⟩ = some (.slice p ss.length c)
  rd : Rd w p ss.length (strAt ss)

theorem PicAt.lt {w : World} {a : Nat} {p : Option Addr} {c : Nat} {ss : List ByteArray} (h : PicAt w a p c ss) : a < w.heap.size := World.block_lt_of_cell? _ _ h.box
theorem PicAt.bl {w w' : World} {a : Nat} {p : Option Addr} {c : Nat} {ss : List ByteArray} (h : PicAt w a p c ss) (hb : Below w.heap.size w w') : PicAt w' a p c ss :=
  ⟨h.ok, (hb.cell (p := ⟨a, 0, none⟩) h.lt).trans h.box, h.rd.bl hb⟩
theorem PicAt.drewN {w : World} {a : Nat} {p : Option Addr} {c : Nat} {ss : List ByteArray} (h : PicAt w a p c ss) (n : Nat) : PicAt (w.drewN n) a p c ss := h.bl (bl_drewN _ _)

theorem PicAt.row {w : World} {a : Nat} {p : Option Addr} {c : Nat} {ss : List ByteArray} (h : PicAt w a p c ss) {y : Nat} (hy : y < ss.length) :
    ∃ b o s, p = some ⟨b, o, none⟩ ∧ w.cell? ⟨b, o + y, none⟩ = some (.string s) ∧ s.size = wid ss ∧ s.size ≤ 16 ∧ ss.getD y ByteArray.empty = s ∧ ∀ x (hx : x < s.size), bits ss (y * wid ss + x) = ((s[x].toNat : Int) == 35) := by
  have hr := okPic_row h.ok hy
  have hd := okPic_dims h.ok
  obtain ⟨b, o, hp, hb, hc⟩ := h.rd.at hy
  have hcy := hc y hy
  rw [strAt] at hcy
  obtain ⟨s, es⟩ : ∃ s, ss.getD y ByteArray.empty = s := ⟨_, rfl⟩
  have hsz : s.size = wid ss := by rw [← es]; exact hr.1
  rw [es] at hcy
  refine ⟨b, o, s, hp, hcy, hsz, by omega, es, fun x hx => ?_⟩
  have hbt := bitAt_byte (ss := ss) (x := x) (y := y) (by rw [hr.1]; omega)
  rw [bits_at (by omega), hbt]
  subst es
  exact (byte_eqb _ 35).symm

/-- The first n pixels as cells. -/
def bitCells (f : Nat → Bool) (n : Nat) : List Value := (List.range n).map fun i => .bool (f i)
theorem bitCells_len (f : Nat → Bool) (n : Nat) : (bitCells f n).length = n := by simp [bitCells]
theorem bitCells_succ (f : Nat → Bool) (n : Nat) (b : Bool) (h : f n = b) : bitCells f (n + 1) = bitCells f n ++ [.bool b] := by simp [bitCells, List.range_succ, h]
theorem one_bool (b : Bool) : ∀ u ∈ (#[Value.bool b] : Array Value).toList, u.oneCell' = true := by simp [Value.oneCell']

/-- A list of n truth values of the call's own, in block g. -/
structure Bools (w : World) (g n : Nat) (f : Nat → Bool) : Prop where
  row : ∃ m F, n ≤ m ∧ w.rowIs g 4 m F ∧ ∀ i, i < n → F i = .bool (f i)
theorem Bools.lt {w : World} {g n : Nat} {f : Nat → Bool} (h : Bools w g n f) : g < w.heap.size := by
  obtain ⟨m, F, _, hr, _⟩ := h.row
  exact hr.lt
theorem Bools.bl {w w' : World} {g n : Nat} {f : Nat → Bool} (h : Bools w g n f) (hb : Below w.heap.size w w') : Bools w' g n f := by
  obtain ⟨m, F, h1, hr, h2⟩ := h.row
  exact ⟨m, F, h1, row_below hr hb hr.lt, h2⟩
theorem Bools.rd {w : World} {g n : Nat} {f : Nat → Bool} (h : Bools w g n f) : Rd w (some ⟨g, 0, none⟩) n (fun i => .bool (f i)) := by
  obtain ⟨m, F, h1, hr, h2⟩ := h.row
  exact (Rd.of_row hr h1).congr h2
theorem Bools.set {w : World} {g n : Nat} {f : Nat → Bool} (h : Bools w g n f) (i : Nat) (b : Bool) : Bools (w.setCell ⟨g, i, none⟩ (.bool b)) g n (fun j => if j = i then b else f j) := by
  obtain ⟨m, F, h1, hr, h2⟩ := h.row
  refine ⟨m, _, h1, hr.set i _, fun j hj => ?_⟩
  by_cases e : j = i
  · simp [e]
  · simp [e, h2 j hj]
theorem Bools.cell {w : World} {g n : Nat} {f : Nat → Bool} (h : Bools w g n f) {i : Nat} (hi : i < n) : w.cell? ⟨g, i, none⟩ = some (.bool (f i)) := by
  obtain ⟨m, F, h1, hr, h2⟩ := h.row
  rw [← h2 i hi]
  exact hr.cell (by omega)
theorem Bools.frozen {w : World} {g n : Nat} {f : Nat → Bool} (h : Bools w g n f) (i : Nat) : w.frozen? ⟨g, i, none⟩ = false := by
  obtain ⟨m, F, h1, hr, h2⟩ := h.row
  exact hr.frozen i
theorem Bools.congr {w : World} {g n : Nat} {f f' : Nat → Bool} (h : Bools w g n f) (e : ∀ i, i < n → f i = f' i) : Bools w g n f' := by
  obtain ⟨m, F, h1, hr, h2⟩ := h.row
  exact ⟨m, F, h1, hr, fun i hi => by rw [h2 i hi, e i hi]⟩
theorem Bools.drewN {w : World} {g n : Nat} {f : Nat → Bool} (h : Bools w g n f) (k : Nat) : Bools (w.drewN k) g n f := h.bl (bl_drewN _ _)
theorem Bools.of_own {w : World} {B n c : Nat} {p : Option Addr} {f : Nat → Bool} (h : w.ownsRow B 4 1 (.slice p n c) n (bitCells f n)) (hn : 0 < n) : ∃ g, p = some ⟨g, 0, none⟩ ∧ B ≤ g ∧ Bools w g n f := by
  rcases h.2 with ⟨_, h0⟩ | ⟨g, cap, cur, hv, hb, hg, h1, hm, hs, ht⟩
  · omega
  · simp only [Value.slice.injEq] at hv
    refine ⟨g, hv.1, hb, cur.size, fun i => (cur[i]?).getD undef, by omega, ⟨cur, hg, rfl, fun i hi => by simp [hi]⟩, fun i hi => ?_⟩
    have : (cur.toList.take (n * 1))[i]? = (bitCells f n)[i]? := by rw [ht]
    rw [List.getElem?_take, if_pos (by omega)] at this
    have h3 : cur[i]? = some (.bool (f i)) := by
      rw [← Array.getElem?_toList, this]
      simp [bitCells, hi]
    simp [h3]

theorem info_bool' : (Try.prog.info? 4).map (fun i => (i.zero, i.size, i.bytes)) = some (some (.bool false), 1, 1) := by kernel_rfl

/-- The loop of l01List: n pixels are there. -/
def ListRel (w : World) (N : Nat) (f : Nat → Bool) (n : Nat) (v : Value) (wr : World) : Prop :=
  ∃ p c, v = .slice p n c ∧ wr.ownsRow w.heap.size 4 1 (.slice p n c) n (bitCells f n) ∧ Since w wr

end Go.Proofs.Ytdjjfgkcheimjaa
