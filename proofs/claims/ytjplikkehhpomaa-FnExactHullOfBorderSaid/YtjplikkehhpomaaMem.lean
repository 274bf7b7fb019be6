/- Plain lemmas on memory: what a slice reads as, what is kept below a block number. -/
import Derived.Test.YtjplikkehhpomaaRows
import Derived.WalkKit
import Derived.WalkSpells
import Derived.WalkLawsBesides
import Derived.Lib.Hide
import Derived.Deep.OwnRows
import Derived.BigQuiet
import Derived.Handy
import Derived.Deep.AppendLies
import Derived.Deep.RegionHeld3
import Derived.Deep.RegionWith
import Derived.Deep.DeepCutAuto
import Derived.Laws.BytesArg
import Derived.Deep.QuietTactic
set_option linter.unusedVariables false
namespace Go.Proofs.Ytjplikkehhpomaa
open Go.RowKit

theorem ret_bool {a b : Bool} (h : a = b) : Ending.returned (.bool a) = .returned (.bool b) := by rw [h]
theorem ret_int {k : IntKind} {a b : Int} (h : a = b) : Ending.returned (.int k a) = .returned (.int k b) := by rw [h]

theorem val_int {k : IntKind} {a b : Int} (h : a = b) : Value.int k a = Value.int k b := by rw [h]

/-- The cells from p on: m of them, cell i holds f i. -/
def Rd (w : World) (p : Option Addr) (m : Nat) (f : Nat → Value) : Prop :=
  m = 0 ∨ ∃ b o, p = some ⟨b, o, none⟩ ∧ ∀ i, i < m → w.cell? ⟨b, o + i, none⟩ = some (f i)

theorem Rd.at {w : World} {p : Option Addr} {m : Nat} {f : Nat → Value} (h : Rd w p m f) {k : Nat} (hk : k < m) :
    ∃ b o, p = some ⟨b, o, none⟩ ∧ b < w.heap.size ∧ ∀ i, i < m → w.cell? ⟨b, o + i, none⟩ = some (f i) := by
  rcases h with h | ⟨b, o, hp, hc⟩
  · omega
  · exact ⟨b, o, hp, World.block_lt_of_cell? _ _ (hc k hk), hc⟩

theorem Rd.below {w w' : World} {p : Option Addr} {m : Nat} {f : Nat → Value} (h : Rd w p m f) {B : Nat} (hb : Below B w w') (hB : w.heap.size ≤ B) : Rd w' p m f := by
  rcases h with h | ⟨b, o, hp, hc⟩
  · exact .inl h
  · refine .inr ⟨b, o, hp, fun i hi => ?_⟩
    have := World.block_lt_of_cell? _ _ (hc i hi)
    rw [hb.cell (p := ⟨b, o + i, none⟩) (Nat.lt_of_lt_of_le this hB)]
    exact hc i hi

theorem Rd.congr {w : World} {p : Option Addr} {m : Nat} {f g : Nat → Value} (h : Rd w p m f) (e : ∀ i, i < m → f i = g i) : Rd w p m g := by
  rcases h with h | ⟨b, o, hp, hc⟩
  · exact .inl h
  · exact .inr ⟨b, o, hp, fun i hi => by rw [hc i hi, e i hi]⟩

theorem Rd.nil (w : World) (p : Option Addr) (f : Nat → Value) : Rd w p 0 f := .inl rfl

theorem Rd.of_row {w : World} {g : Nat} {t : TypeId} {n m : Nat} {f : Nat → Value} (h : w.rowIs g t n f) (hm : m ≤ n) : Rd w (some ⟨g, 0, none⟩) m f :=
  .inr ⟨g, 0, rfl, fun i hi => by rw [Nat.zero_add]; exact h.cell (by omega)⟩

theorem bcell {W w1 : World} {B : Nat} (hb : Below B W w1) : (∀ b o, b < B → w1.cell? ⟨b, o, none⟩ = W.cell? ⟨b, o, none⟩) ∧ (∀ b o, b < B → w1.frozen? ⟨b, o, none⟩ = W.frozen? ⟨b, o, none⟩) :=
  ⟨fun b o h => hb.cell (p := ⟨b, o, none⟩) h, fun b o h => hb.frozen (p := ⟨b, o, none⟩) h⟩

/-- A block that lies below stays a row. -/
theorem row_below {w w' : World} {g : Nat} {t : TypeId} {n : Nat} {f : Nat → Value} (h : w.rowIs g t n f) {B : Nat} (hb : Below B w w') (hg : g < B) : w'.rowIs g t n f :=
  h.of_block (hb.block g hg)

/-- A row of the call's own in block w.heap.size, filled from the front: k of n cells hold f, the others z. -/
structure Fill (w wr : World) (t : TypeId) (n k : Nat) (f : Nat → Value) (z : Value) : Prop where
  below : Below w.heap.size w wr
  size : wr.heap.size = w.heap.size + 1
  row : wr.rowIs w.heap.size t n (fun j => if j < k then f j else z)

theorem Fill.start (w : World) (t : TypeId) (n : Nat) (f : Nat → Value) (z : Value) : Fill w (w.alloc (.cells (madeCells #[z] n) t)) t n 0 f z :=
  ⟨(Below.refl _ _).alloc (Nat.le_refl _) _, by simp, (World.rowIs_made w z n t).congr (fun i _ => by simp)⟩

theorem Fill.step {w wr : World} {t : TypeId} {n k : Nat} {f : Nat → Value} {z : Value} (h : Fill w wr t n k f z) : Fill w (wr.setCell ⟨w.heap.size, k, none⟩ (f k)) t n (k + 1) f z :=
  ⟨h.below.setCell (Nat.le_refl _) _, by simp [h.size], (h.row.set k (f k)).congr (fun i _ => by
    by_cases e : i = k
    · subst e; simp
    · by_cases l : i < k
      · simp [e, l, show i < k + 1 by omega]
      · simp [e, l, show ¬ i < k + 1 by omega])⟩

theorem Fill.done {w wr : World} {t : TypeId} {n : Nat} {f : Nat → Value} {z : Value} (h : Fill w wr t n n f z) : wr.rowIs w.heap.size t n f := h.row.congr (fun i hi => by simp [hi])

theorem below_a1 {w w1 : World} {a : Obj} (h : Below (w.alloc a).heap.size (w.alloc a) w1) : Below w.heap.size w w1 :=
  ((Below.refl _ _).alloc (Nat.le_refl _) _).trans (h.mono (by simp))
theorem below_a2 {w w1 : World} {a b : Obj} (h : Below ((w.alloc a).alloc b).heap.size ((w.alloc a).alloc b) w1) : Below w.heap.size w w1 := below_a1 (below_a1 h)
theorem below_a3 {w w1 : World} {a b c : Obj} (h : Below (((w.alloc a).alloc b).alloc c).heap.size (((w.alloc a).alloc b).alloc c) w1) : Below w.heap.size w w1 := below_a1 (below_a2 h)
theorem below_a4 {w w1 : World} {a b c d : Obj} (h : Below ((((w.alloc a).alloc b).alloc c).alloc d).heap.size ((((w.alloc a).alloc b).alloc c).alloc d) w1) : Below w.heap.size w w1 := below_a1 (below_a3 h)

theorem Rd.alloc {w : World} {p : Option Addr} {m : Nat} {f : Nat → Value} (h : Rd w p m f) (o : Obj) : Rd (w.alloc o) p m f :=
  h.below ((Below.refl _ _).alloc (Nat.le_refl _) _) (Nat.le_refl _)

theorem conv_one {P : Program} (src dst e : TypeId) (hs : P.underlying src = some (.slice e)) (he : P.underlying e = some (.int .u8)) (hd : P.underlying dst = some .string) (w : World) (x : Int) (t : TypeId) :
    (convert src dst (.slice (some ⟨w.heap.size, 0, none⟩) 1 1)).run P (w.alloc (.cells #[.int .u8 x] t)) = .ok (.string ⟨#[UInt8.ofNat x.toNat]⟩) (w.alloc (.cells #[.int .u8 x] t)) := by
  have := run_convert_bytes_arg (P := P) (w.alloc (.cells #[.int .u8 x] t)) src e hs he w.heap.size 0 1 1 [x] rfl (fun i hi => by
    obtain rfl : i = 0 := by omega
    simp) dst hd
  rw [this]
  rfl

theorem grown_refl (w : World) (r : Option Nat) : w.grownBy w r := ⟨rfl, rfl, rfl, Nat.le_refl _, fun _ _ _ => rfl⟩
theorem grown_below {w a b : World} {r : Option Nat} (h : w.grownBy a r) {B : Nat} (hb : Below B a b) (hB : w.heap.size ≤ B) : w.grownBy b r :=
  ⟨hb.os.trans h.os, hb.tape.trans h.tape, hb.output.trans h.output, Nat.le_trans h.size hb.size, fun k hk hn => (hb.block k (by omega)).trans (h.block k hk hn)⟩
theorem grown_setCell {w a : World} {g : Nat} (h : w.grownBy a (some g)) (i : Nat) (v : Value) : w.grownBy (a.setCell ⟨g, i, none⟩ v) (some g) :=
  ⟨h.os, h.tape, h.output, by simp [h.size], fun k hk hn => (Below.heap_setCell _ _ _ _ (fun e => hn (by rw [e]))).trans (h.block k hk hn)⟩
theorem grown_trans {w a b : World} {r : Option Nat} (h : w.grownBy a r) (h' : a.grownBy b r) : w.grownBy b r :=
  ⟨h'.os.trans h.os, h'.tape.trans h.tape, h'.output.trans h.output, Nat.le_trans h.size h'.size, fun k hk hn => (h'.block k (Nat.lt_of_lt_of_le hk h.size) hn).trans (h.block k hk hn)⟩
theorem below_grown {w a b : World} {B g : Nat} (h : Below B w a) (h' : a.grownBy b (some g)) (hB : B ≤ a.heap.size) (hg : B ≤ g) : Below B w b :=
  h.grown h' hB (fun k e => by cases e; exact hg)
theorem row_grown {w w' : World} {r : Option Nat} (hg : w.grownBy w' r) {g : Nat} {t : TypeId} {n : Nat} {f : Nat → Value} (h : w.rowIs g t n f) (hr : some g ≠ r) : w'.rowIs g t n f :=
  h.of_block (hg.block g h.lt hr)
theorem Rd.grown {w w' : World} {r : Option Nat} (hg : w.grownBy w' r) {p : Option Addr} {m : Nat} {f : Nat → Value} (h : Rd w p m f) (hr : ∀ b o, p = some ⟨b, o, none⟩ → some b ≠ r) : Rd w' p m f := by
  rcases h with h | ⟨b, o, hp, hc⟩
  · exact .inl h
  · exact .inr ⟨b, o, hp, fun i hi => hg.cell (hc i hi) (hr b o hp)⟩

theorem one_int (k : IntKind) (x : Int) : ∀ u ∈ (#[Value.int k x] : Array Value).toList, u.oneCell' = true := by simp [Value.oneCell']
theorem one_str (s : ByteArray) : ∀ u ∈ (#[Value.string s] : Array Value).toList, u.oneCell' = true := by simp [Value.oneCell']
theorem one_spot (x y : Int) : ∀ u ∈ (#[Value.int .i64 x, Value.int .i64 y] : Array Value).toList, u.oneCell' = true := by simp [Value.oneCell']

/-- 'out = append(out, x)', x laid in a new block at the heap's end. -/
theorem wpList_push {P : Program} {w : World} {ops : Array Oper} {rest : List Oper} {o : Oper} {a : Act} {Q : Exit → Act → World → Prop} (hgd : o.guard = none) (s x : Operand) (t : TypeId)
    (ho : o.op = .call { callee := .builtin .append, args := #[s, x], argTypes := #[t, t] })
    (base : Nat) (e : TypeId) (z : Value) (size bytes : Nat) (ht : P.underlying t = some (.slice e)) (hinfo : (P.info? e).map (fun i => (i.zero, i.size, i.bytes)) = some (some z, size, bytes)) (hzs : z.cells.size = size) (hsz : 0 < size)
    (v : Value) (n : Nat) (xs : List Value) (hs : a.eval s = v) (hown : w.ownsRow base e size v n xs)
    (news : Array Value) (c : Nat) (hx : a.eval x = .slice (some ⟨w.heap.size, 0, none⟩) 1 c) (hl : news.size = size) (h1 : ∀ u ∈ news.toList, u.oneCell' = true)
    (hbytes : (n + 1) * bytes ≤ 140737488355328) (h63 : n + 1 ≤ maxLen) (hbase : base ≤ w.heap.size)
    (h : ∀ g cap w', w'.ownsRow base e size (.slice (some ⟨g, 0, none⟩) (n + 1) cap) (n + 1) (xs ++ news.toList) → w.grownBy w' v.ownBlock → (v.ownBlock = some g ∨ w.heap.size ≤ g) → g < w'.heap.size →
      wpList P ops Q rest (a.put o.dst (.slice (some ⟨g, 0, none⟩) (n + 1) cap)) w') : wpList P ops Q (o :: rest) a (w.alloc (.cells news e)) := by
  obtain ⟨i, hi, hz0, hz1, hz2⟩ := info_parts hinfo
  refine wpList_append_lies (w.alloc (.cells news e)) hgd s x t ho base e i z size bytes ht hi hz0 hz1 hz2 hzs hsz v n xs hs (hown.alloc _) ⟨w.heap.size, 0, none⟩ 1 c news.toList hx (by simpa using hl)
    (World.news_of_block (fr := (0, 0)) (heap_alloc_new w _)) h1 (by omega) h63 hbytes (by simp; omega) (w.heap.size + 1) (by simp) ?_
  intro g cap w' h2 h3 h4 h5
  exact h g cap w' h2 (grown_trans (World.grownBy_alloc _ _ _) h3) (h4.imp id (fun e => by omega)) h5

/-- .. the new block's number written otherwise. -/
theorem wpList_pushA {P : Program} {w : World} {ops : Array Oper} {rest : List Oper} {o : Oper} {a : Act} {Q : Exit → Act → World → Prop} (H : Nat) (hH : w.heap.size = H) (hgd : o.guard = none) (s x : Operand) (t : TypeId)
    (ho : o.op = .call { callee := .builtin .append, args := #[s, x], argTypes := #[t, t] })
    (base : Nat) (e : TypeId) (z : Value) (size bytes : Nat) (ht : P.underlying t = some (.slice e)) (hinfo : (P.info? e).map (fun i => (i.zero, i.size, i.bytes)) = some (some z, size, bytes)) (hzs : z.cells.size = size) (hsz : 0 < size)
    (v : Value) (n : Nat) (xs : List Value) (hs : a.eval s = v) (hown : w.ownsRow base e size v n xs)
    (news : Array Value) (c : Nat) (hx : a.eval x = .slice (some ⟨H, 0, none⟩) 1 c) (hl : news.size = size) (h1 : ∀ u ∈ news.toList, u.oneCell' = true)
    (hbytes : (n + 1) * bytes ≤ 140737488355328) (h63 : n + 1 ≤ maxLen) (hbase : base ≤ w.heap.size)
    (h : ∀ g cap w', w'.ownsRow base e size (.slice (some ⟨g, 0, none⟩) (n + 1) cap) (n + 1) (xs ++ news.toList) → w.grownBy w' v.ownBlock → (v.ownBlock = some g ∨ w.heap.size ≤ g) → g < w'.heap.size →
      wpList P ops Q rest (a.put o.dst (.slice (some ⟨g, 0, none⟩) (n + 1) cap)) w') : wpList P ops Q (o :: rest) a (w.alloc (.cells news e)) := by
  subst hH
  exact wpList_push hgd s x t ho base e z size bytes ht hinfo hzs hsz v n xs hs hown news c hx hl h1 hbytes h63 hbase h

/-- What a row of the call's own reads as. -/
theorem Rd.of_own {w : World} {base : Nat} {e : TypeId} {size : Nat} {p : Option Addr} {n m c : Nat} {xs : List Value} {f : Nat → Value} (h : w.ownsRow base e size (.slice p m c) n xs) (hf : ∀ i (hi : i < xs.length), xs[i] = f i) : Rd w p xs.length f := by
  rcases h.2 with ⟨_, h0⟩ | ⟨g, cap, cur, hv, hb, hg, _⟩
  · have := h.1
    rw [h0, Nat.zero_mul] at this
    exact .inl this
  · simp only [Value.slice.injEq] at hv
    refine .inr ⟨g, 0, hv.1, fun i hi => ?_⟩
    have := h.cells (g := g) (by rw [hv.1]; rfl) i xs[i] (by simp [hi])
    rw [← hf i hi, ← this, Go.WideShapes.add_plain]
theorem own_below {w w' : World} {base : Nat} {e : TypeId} {size : Nat} {v : Value} {n : Nat} {xs : List Value} (h : w.ownsRow base e size v n xs) {B : Nat} (hb : Below B w w') (hB : w.heap.size ≤ B) : w'.ownsRow base e size v n xs := by
  refine ⟨h.1, ?_⟩
  rcases h.2 with h0 | ⟨g, cap, cur, hv, hbg, hg, rest⟩
  · exact .inl h0
  · have := (Array.getElem?_eq_some_iff.1 hg).1
    exact .inr ⟨g, cap, cur, hv, hbg, (hb.block g (by omega)).trans hg, rest⟩
theorem own_mono {w : World} {base base' : Nat} {e : TypeId} {size : Nat} {v : Value} {n : Nat} {xs : List Value} (h : w.ownsRow base e size v n xs) (hb : base' ≤ base) : w.ownsRow base' e size v n xs :=
  ⟨h.1, h.2.imp id fun ⟨g, cap, cur, hv, hg, r⟩ => ⟨g, cap, cur, hv, Nat.le_trans hb hg, r⟩⟩
/-- Below a base nothing turns where only an own row is written. -/
theorem below_own {w a b : World} {B : Nat} {v : Value} (h : Below B w a) (hg : a.grownBy b v.ownBlock) (hv : ∀ k, v.ownBlock = some k → B ≤ k) (hB : B ≤ a.heap.size) : Below B w b := h.grown hg hB hv
theorem own_ge {w : World} {base : Nat} {e : TypeId} {size : Nat} {v : Value} {n : Nat} {xs : List Value} (h : w.ownsRow base e size v n xs) : ∀ k, v.ownBlock = some k → base ≤ k := fun k hk => (h.lt k hk).1

/-- A variable in a block of its own. -/
def Box (w : World) (b : Nat) (v : Value) (t : TypeId) : Prop := w.heap[b]? = some (.cells #[v] t (0, 0))
theorem Box.cell {w : World} {b : Nat} {v : Value} {t : TypeId} (h : Box w b v t) : w.cell? ⟨b, 0, none⟩ = some v := by
  have h' : w.heap[b]? = _ := h
  simp [World.cell?, h']
theorem Box.frozen {w : World} {b : Nat} {v : Value} {t : TypeId} (h : Box w b v t) : w.frozen? ⟨b, 0, none⟩ = false := by
  have h' : w.heap[b]? = _ := h
  simp [World.frozen?, h']
theorem Box.lt {w : World} {b : Nat} {v : Value} {t : TypeId} (h : Box w b v t) : b < w.heap.size := (Array.getElem?_eq_some_iff.1 h).1
theorem Box.new (w : World) (v : Value) (t : TypeId) : Box (w.alloc (.cells #[v] t)) w.heap.size v t := heap_alloc_new w _
theorem Box.below {w w' : World} {b : Nat} {v : Value} {t : TypeId} (h : Box w b v t) {B : Nat} (hb : Below B w w') (hB : b < B) : Box w' b v t := (hb.block b hB).trans h
theorem Box.alloc {w : World} {b : Nat} {v : Value} {t : TypeId} (h : Box w b v t) (o : Obj) : Box (w.alloc o) b v t := (Below.heap_alloc _ _ _ h.lt).trans h
theorem Box.drew {w : World} {b : Nat} {v : Value} {t : TypeId} (h : Box w b v t) (n : Nat) : Box (w.drewN n) b v t := h
theorem Box.other {w : World} {b : Nat} {v : Value} {t : TypeId} (h : Box w b v t) {a : Addr} (ha : b ≠ a.block) (u : Value) : Box (w.setCell a u) b v t := (Below.heap_setCell _ _ _ _ ha).trans h
theorem Box.set {w : World} {b : Nat} {v : Value} {t : TypeId} (h : Box w b v t) (u : Value) : Box (w.setCell ⟨b, 0, none⟩ u) b u t := by
  have h' : w.heap[b]? = _ := h
  simp [Box, World.setCell, Array.getElem?_modify, h']
theorem Box.grown {w w' : World} {b : Nat} {v : Value} {t : TypeId} (h : Box w b v t) {r : Option Nat} (hg : w.grownBy w' r) (hr : some b ≠ r) : Box w' b v t := (hg.block b h.lt hr).trans h
theorem own_set {w : World} {base : Nat} {e : TypeId} {size : Nat} {v : Value} {n : Nat} {xs : List Value} (h : w.ownsRow base e size v n xs) {a : Addr} (ha : a.block < base) (u : Value) : (w.setCell a u).ownsRow base e size v n xs := ownsRow_setCell_below h ha u
theorem own_drewN {w : World} {base : Nat} {e : TypeId} {size : Nat} {v : Value} {n : Nat} {xs : List Value} (h : w.ownsRow base e size v n xs) (k : Nat) : (w.drewN k).ownsRow base e size v n xs := h
theorem own_ne {w : World} {base : Nat} {e : TypeId} {size : Nat} {v : Value} {n : Nat} {xs : List Value} (h : w.ownsRow base e size v n xs) {b : Nat} (hb : b < base) : some b ≠ v.ownBlock := fun e => by have := own_ge h b e.symm; omega

theorem own_ne_ptr {w : World} {base : Nat} {e : TypeId} {size : Nat} {p : Option Addr} {m c n : Nat} {xs : List Value} (h : w.ownsRow base e size (.slice p m c) n xs) {b : Nat} (hp : p ≠ some ⟨b, 0, none⟩) : some b ≠ (Value.slice p m c).ownBlock := by
  rcases h.2 with ⟨h0, _⟩ | ⟨g, cap, cur, hv, _⟩
  · rw [h0]; simp [Value.ownBlock]
  · simp only [Value.slice.injEq] at hv
    rw [hv.1] at hp ⊢
    intro e
    apply hp
    simp only [Value.ownBlock, Option.some.injEq] at e
    rw [e]

theorem own_other {w : World} {base : Nat} {e : TypeId} {size : Nat} {v : Value} {n : Nat} {xs : List Value} (h : w.ownsRow base e size v n xs) {a : Addr} (ha : some a.block ≠ v.ownBlock) (u : Value) : (w.setCell a u).ownsRow base e size v n xs := by
  refine ⟨h.1, ?_⟩
  rcases h.2 with h0 | ⟨g, cap, cur, hv, hb, hg, rest⟩
  · exact .inl h0
  · subst hv
    exact .inr ⟨g, cap, cur, rfl, hb, (Below.heap_setCell _ _ _ _ (fun e => ha (by simp [Value.ownBlock, e]))).trans hg, rest⟩

theorem Rd.bl {w w' : World} {p : Option Addr} {m : Nat} {f : Nat → Value} (h : Rd w p m f) (hb : Below w.heap.size w w') : Rd w' p m f := h.below hb (Nat.le_refl _)
theorem Box.bl {w w' : World} {b : Nat} {v : Value} {t : TypeId} (h : Box w b v t) (hb : Below w.heap.size w w') : Box w' b v t := h.below hb h.lt
/-- The world w' follows w: nothing below w's own blocks has turned. -/
structure Since (w w' : World) : Prop where
  below : Below w.heap.size w w'
theorem Since.refl (w : World) : Since w w := ⟨Below.refl _ _⟩
theorem Since.size {w w' : World} (h : Since w w') : w.heap.size ≤ w'.heap.size := h.below.size
theorem Since.bl {w a b : World} (h : Since w a) (hb : Below a.heap.size a b) : Since w b := ⟨h.below.trans (hb.mono h.below.size)⟩
theorem Since.alloc {w a : World} (h : Since w a) (o : Obj) : Since w (a.alloc o) := ⟨h.below.alloc h.below.size o⟩
theorem Since.grown {w a b : World} (h : Since w a) {g : Nat} (hg : a.grownBy b (some g)) (hw : w.heap.size ≤ g) : Since w b := ⟨below_grown h.below hg h.below.size hw⟩
theorem bl_alloc (w : World) (o : Obj) : Below w.heap.size w (w.alloc o) := (Below.refl _ _).alloc (Nat.le_refl _) _
theorem bl_drew (w : World) : Below w.heap.size w w.drew := (Below.refl _ _).drew
theorem bl_drew' (w : World) : Below w.heap.size w w.drew := (Below.refl _ _).drew
theorem bl_drewN (w : World) (n : Nat) : Below w.heap.size w (w.drewN n) := below_drewN (Below.refl _ _) n
theorem bl_trans {a b c : World} (h : Below a.heap.size a b) (k : Below b.heap.size b c) : Below a.heap.size a c := h.trans (k.mono h.size)

/-- A block of the call's own, known whole. -/
def Blk (w : World) (b : Nat) (cs : Array Value) (t : TypeId) : Prop := w.heap[b]? = some (.cells cs t (0, 0))
theorem Blk.cell {w : World} {b : Nat} {cs : Array Value} {t : TypeId} (h : Blk w b cs t) (i : Nat) {v : Value} (hv : cs[i]? = some v) : w.cell? ⟨b, i, none⟩ = some v := by
  have h' : w.heap[b]? = _ := h
  simp [World.cell?, h', hv]
theorem Blk.frozen {w : World} {b : Nat} {cs : Array Value} {t : TypeId} (h : Blk w b cs t) (i : Nat) : w.frozen? ⟨b, i, none⟩ = false := by
  have h' : w.heap[b]? = _ := h
  simp [World.frozen?, h']
theorem Blk.lt {w : World} {b : Nat} {cs : Array Value} {t : TypeId} (h : Blk w b cs t) : b < w.heap.size := (Array.getElem?_eq_some_iff.1 h).1
theorem Blk.new (w : World) (cs : Array Value) (t : TypeId) : Blk (w.alloc (.cells cs t)) w.heap.size cs t := heap_alloc_new w _
theorem Blk.bl {w w' : World} {b : Nat} {cs : Array Value} {t : TypeId} (h : Blk w b cs t) (hb : Below w.heap.size w w') : Blk w' b cs t := (hb.block b h.lt).trans h
theorem Blk.alloc {w : World} {b : Nat} {cs : Array Value} {t : TypeId} (h : Blk w b cs t) (o : Obj) : Blk (w.alloc o) b cs t := h.bl (bl_alloc _ _)
theorem Blk.drew {w : World} {b : Nat} {cs : Array Value} {t : TypeId} (h : Blk w b cs t) (n : Nat) : Blk (w.drewN n) b cs t := h
theorem Blk.other {w : World} {b : Nat} {cs : Array Value} {t : TypeId} (h : Blk w b cs t) {a : Addr} (ha : b ≠ a.block) (u : Value) : Blk (w.setCell a u) b cs t := (Below.heap_setCell _ _ _ _ ha).trans h
theorem Blk.set {w : World} {b : Nat} {cs : Array Value} {t : TypeId} (h : Blk w b cs t) (i : Nat) (u : Value) : Blk (w.setCell ⟨b, i, none⟩ u) b (cs.setIfInBounds i u) t := by
  have h' : w.heap[b]? = _ := h
  simp [Blk, World.setCell, Array.getElem?_modify, h']
theorem Blk.grown {w w' : World} {b : Nat} {cs : Array Value} {t : TypeId} (h : Blk w b cs t) {r : Option Nat} (hg : w.grownBy w' r) (hr : some b ≠ r) : Blk w' b cs t := (hg.block b h.lt hr).trans h

def CellAt (w : World) (b i : Nat) (v : Value) : Prop := w.cell? ⟨b, i, none⟩ = some v
theorem CellAt.out {w : World} {b i : Nat} {v : Value} (h : CellAt w b i v) : w.cell? ⟨b, i, none⟩ = some v := h
theorem CellAt.bl {w w' : World} {b i : Nat} {v : Value} (h : CellAt w b i v) (hb : Below w.heap.size w w') : CellAt w' b i v :=
  (hb.cell (p := ⟨b, i, none⟩) (World.block_lt_of_cell? _ _ h)).trans h
theorem CellAt.lt {w : World} {b i : Nat} {v : Value} (h : CellAt w b i v) : b < w.heap.size := World.block_lt_of_cell? _ _ h
theorem CellAt.other {w : World} {b i : Nat} {v : Value} (h : CellAt w b i v) {a : Addr} (ha : a ≠ ⟨b, i, none⟩) (u : Value) : CellAt (w.setCell a u) b i v :=
  (World.cell?_setCell_other _ _ _ _ ha).trans h
theorem Blk.cat {w : World} {b : Nat} {cs : Array Value} {t : TypeId} (h : Blk w b cs t) (i : Nat) {v : Value} (hv : cs[i]? = some v) : CellAt w b i v := h.cell i hv
theorem since_below {B : Nat} {w w' : World} (h : w.Since B w') : Below B w w' := ⟨h.os, h.tape, h.output, h.size, h.block⟩

end Go.Proofs.Ytjplikkehhpomaa
