/- The sort of corners by column and row: contracts of the order as the sort asks it, and of the sort. -/
import Derived.Test.YtjplikkehhpomaaSpecElem
import Derived.Test.YtjplikkehhpomaaShelfR6h
import Derived.Test.YtjplikkehhpomaaBdHull
set_option linter.unusedVariables false
set_option linter.unusedSimpArgs false
namespace Go.Proofs.Ytjplikkehhpomaa
open Go.RowKit Go.Sort

def ordX (s t : Int × Int) : Int := if cmpZ s.1 t.1 = 0 then cmpZ s.2 t.2 else cmpZ s.1 t.1
/-- Draws and new blocks. -/
def Grows (w w' : World) : Prop := ∃ q os, w' = grow (w.drewN q) os
theorem Grows.refl (w : World) : Grows w w := ⟨0, #[], by simp; rfl⟩
theorem Grows.alloc {w w' : World} (h : Grows w w') (o : Obj) : Grows w (w'.alloc o) := by
  obtain ⟨q, os, rfl⟩ := h
  exact ⟨q, os ++ #[o], by rw [alloc_eq_grow, grow_grow]⟩
theorem Grows.drewN {w w' : World} (h : Grows w w') (n : Nat) : Grows w (w'.drewN n) := by
  obtain ⟨q, os, rfl⟩ := h
  refine ⟨q + n, os, ?_⟩
  unfold grow World.drewN
  simp [Nat.add_assoc]
theorem Grows.drew {w w' : World} (h : Grows w w') : Grows w w'.drew := h.drewN 1
theorem Grows.below {w w' : World} (h : Grows w w') : Below w.heap.size w w' := by
  obtain ⟨q, os, rfl⟩ := h
  refine since_below ⟨rfl, rfl, rfl, by rw [size_grow]; exact Nat.le_add_right _ _, fun i hi => ?_⟩
  exact heap_grow_old (w.drewN q) os hi
set_option maxRecDepth 100000 in
set_option maxHeartbeats 4000000 in
theorem hullCmp_grows (a b c d : Int) (w : World) :
    Calls Try.prog 38 #[.agg #[.int .i64 a, .int .i64 b], .agg #[.int .i64 c, .int .i64 d]] w fun e w' => e = .returned (.int .i64 (ordX (a, b) (c, d))) ∧ Grows w w' := by
  have A := (Blk.new w #[.int .i64 a, .int .i64 b] 28).alloc (.cells #[.int .i64 c, .int .i64 d] 28)
  have B := Blk.new (w.alloc (.cells #[.int .i64 a, .int .i64 b] 28)) #[.int .i64 c, .int .i64 d] 28
  simp only [World.size_alloc] at B
  have S := ((Since.refl w).alloc (.cells #[.int .i64 a, .int .i64 b] 28)).alloc (.cells #[.int .i64 c, .int .i64 d] 28)
  have C1 := A.cat 0 rfl
  have C2 := A.cat 1 rfl
  have C3 := B.cat 0 rfl
  have C4 := B.cat 1 rfl
  have D := Blk.new ((w.alloc (.cells #[.int .i64 a, .int .i64 b] 28)).alloc (.cells #[.int .i64 c, .int .i64 d] 28)) #[.int .i64 (cmpZ a c), .int .i64 (cmpZ b d)] 3
  simp only [World.size_alloc] at D
  have D1 := D.cat 0 rfl
  have D2 := D.cat 1 rfl
  clear A B D
  go_enter Try.func38, Try.ntmps38
  go_wp2
  go_region_held3 (fun w' => w'.cell? ⟨w.heap.size, 0, none⟩ = some (.int .i64 a) ∧ w'.cell? ⟨w.heap.size, 1, none⟩ = some (.int .i64 b) ∧ w'.cell? ⟨w.heap.size + 1, 0, none⟩ = some (.int .i64 c) ∧ w'.cell? ⟨w.heap.size + 1, 1, none⟩ = some (.int .i64 d))
    (first | ((repeat' (apply And.intro)) <;> (refine CellAt.out ?_; (repeat (first | assumption | exact Blk.cat (Blk.new _ _ _) _ rfl | refine CellAt.bl ?_ (bl_alloc _ _) | refine CellAt.bl ?_ (bl_drew _) | refine CellAt.bl ?_ (bl_drewN _ _) | refine CellAt.bl ?_ (by assumption) | refine CellAt.other ?_ (by intro e; injection e; omega) _)))))
    ((first | (go_at_call 40; refine (compare_any _ _ _).mono ?_; rintro e w1 ⟨rfl, rfl⟩) | (go_at_call 39; refine (cmpOr_z (cmpZ a c) (cmpZ b d) (ordX (a, b) (c, d)) _ _ _ rfl ?_ ?_).mono ?_; (focus ((repeat (first | assumption | exact Blk.cat (Blk.new _ _ _) _ rfl | refine CellAt.bl ?_ (bl_alloc _ _) | refine CellAt.bl ?_ (bl_drew _) | refine CellAt.bl ?_ (bl_drewN _ _) | refine CellAt.bl ?_ (by assumption) | refine CellAt.other ?_ (by intro e; injection e; omega) _)); done)); (focus ((repeat (first | assumption | exact Blk.cat (Blk.new _ _ _) _ rfl | refine CellAt.bl ?_ (bl_alloc _ _) | refine CellAt.bl ?_ (bl_drew _) | refine CellAt.bl ?_ (bl_drewN _ _) | refine CellAt.bl ?_ (by assumption) | refine CellAt.other ?_ (by intro e; injection e; omega) _)); done)); rintro e w1 ⟨rfl, rfl⟩)))
  go_wp2
  go_ret
  refine ⟨rfl, ?_⟩
  repeat (first | exact Grows.refl _ | refine Grows.alloc ?_ _ | refine Grows.drew ?_ | refine Grows.drewN ?_ _)
def encS (s : Int × Int) : List Value := [.int .i64 s.1, .int .i64 s.2]
theorem ltOf_up (s t : Int × Int) : ltOf ordX s t = true ↔ Hull.up s t := by
  unfold ltOf ordX cmpZ Hull.up
  rw [decide_eq_true_iff]
  split <;> split <;> (try split) <;> (try split) <;> omega
theorem ltOf_upf (s t : Int × Int) : ltOf ordX s t = false ↔ ¬ Hull.up s t := by
  rw [← ltOf_up]
  cases ltOf ordX s t <;> simp
theorem swoX : SWO (ltOf ordX) where
  irrefl x := by rw [ltOf_upf]; unfold Hull.up; omega
  trans x y z h1 h2 := by rw [ltOf_up] at *; unfold Hull.up at *; omega
  ntrans x y z h1 h2 := by rw [ltOf_upf] at *; unfold Hull.up at *; omega
theorem totX : ∀ x y : Int × Int, ltOf ordX x y = false → ltOf ordX y x = false → x = y := by
  intro x y h1 h2
  rw [ltOf_upf] at h1 h2
  unfold Hull.up at h1 h2
  exact Prod.ext (by omega) (by omega)
theorem cmpLaysX (blk off size : Nat) (w : World) : CmpLays Try.prog 38 #[] encS 2 ordX blk off size w :=
  fun _ _ _ _ x y => hullCmp_grows x.1 x.2 y.1 y.2 _
theorem flat_at (l : List (Int × Int)) {t : Nat} (h : t < l.length * 2) : (flatK encS 2 l.toArray)[t]! = spotAt l t := by
  rw [get_flatK _ _ _ _ (by simpa using h)]
  have h2 : t / 2 < l.length := by omega
  have e : (l.toArray[t / 2]!) = l.getD (t / 2) (0, 0) := by
    simp [h2, List.getD]
  rw [e]
  unfold spotAt encS
  rcases Nat.mod_two_eq_zero_or_one t with h0 | h0 <;> simp [h0]
theorem OwnSpots.holds {B : Nat} {w : World} {g n c : Nat} {l : List (Int × Int)} (h : OwnSpots B w (.slice (some ⟨g, 0, none⟩) n c) l) : HoldsK encS 2 w g 0 l.toArray := by
  obtain ⟨p', c', hv, ho⟩ := h
  simp only [Value.slice.injEq] at hv
  obtain ⟨rfl, rfl, rfl⟩ := hv
  intro j hj
  rw [size_flatK] at hj
  have hj' : j < l.length * 2 := by simpa using hj
  rw [flat_at l hj']
  rcases ho.2 with ⟨hv, _⟩ | ⟨g', cap, cur, hv, hb, hg, _⟩
  · cases hv
  · simp only [Value.slice.injEq, Option.some.injEq, Addr.mk.injEq] at hv
    obtain ⟨⟨rfl, _⟩, _, rfl⟩ := hv
    have hc := ho.cells (g := g) rfl j (spotAt l j) (by
      have := spotCells_at l j (by rw [spotCells_len]; exact hj')
      rw [← this]
      exact List.getElem?_eq_getElem _)
    rw [Go.WideShapes.add_plain] at hc
    exact ⟨hc, by simp [World.frozen?, hg]⟩
def srtX (l : List (Int × Int)) : List (Int × Int) := l.mergeSort (fun x y => !(ltOf ordX) y x)
theorem srtX_len (l : List (Int × Int)) : (srtX l).length = l.length := List.length_mergeSort l
theorem put_cells {cur : Array Value} {cap n : Nat} {l : List (Int × Int)} (hc : cur.size = cap * 2) (hn : n ≤ cap) (hl : l.length = n) :
    (putCells id 0 (flatK encS 2 l.toArray) cur).toList.take (n * 2) = spotCells l := by
  apply List.ext_getElem
  · rw [List.length_take, spotCells_len, hl]
    have : (putCells id 0 (flatK encS 2 l.toArray) cur).toList.length = cap * 2 := by simp [putCells, hc]
    omega
  · intro k h1 h2
    rw [List.getElem_take]
    have hk : k < n * 2 := by rw [spotCells_len, hl] at h2; exact h2
    rw [spotCells_at l k h2]
    have hk2 : k < l.length * 2 := by rw [hl]; exact hk
    simp only [putCells, Array.getElem_toList, Array.getElem_mapIdx, size_flatK, List.size_toArray, Nat.zero_le, true_and, Nat.zero_add, hk2, if_true, Nat.sub_zero, id]
    exact flat_at l hk2
set_option maxRecDepth 100000 in
set_option maxHeartbeats 4000000 in
theorem sortX_any {B : Nat} {w : World} {g n c : Nat} {l : List (Int × Int)} (h : OwnSpots B w (.slice (some ⟨g, 0, none⟩) n c) l) (hn : n = l.length) (hl : l.length ≤ 1048576) :
    Calls Try.prog 37 #[.slice (some ⟨g, 0, none⟩) n c, .func (.func 38) #[] #[]] w fun e w' => e = .returned (.tuple #[]) ∧ OwnSpots B w' (.slice (some ⟨g, 0, none⟩) n c) (srtX l) ∧ w.grownBy w' (some g) := by
  have eg : ∀ args w, (callFunc 38 args).run Try.prog w = .ok (.enter 38 args) w := enters_of Try.func38 (by kernel_rfl) rfl
  have hH := h.holds
  have hlt : g < w.heap.size := (h.ge g rfl).2
  have hcon := AnyQ.slices_SortFunc_total Try.laysSort 2 Try.isAgg28 Try.sizeOf28 encS (fun _ => rfl) (fun x v hv => by simp [encS] at hv; rcases hv with rfl | rfl <;> rfl) ordX swoX 38 #[] g 0 c l.toArray w eg (cmpLaysX g 0 l.toArray.size w) hH hlt (by simp; omega) totX
  have es : l.toArray.size = n := by rw [hn]; rfl
  rw [es] at hcon
  refine Calls.mono hcon ?_
  rintro e w' ⟨rfl, q, os, rfl⟩
  rw [show l.toArray.toList = l from rfl]
  change _ ∧ OwnSpots B (sortWorldK encS 2 w g 0 q (srtX l).toArray os) _ _ ∧ _
  have e1 : sortWorldK encS 2 w g 0 q (srtX l).toArray os = grow (mapBlock (Sort.ahead w q) g (putCells id 0 (flatK encS 2 (srtX l).toArray))) os := rfl
  have hsz : (mapBlock (Sort.ahead w q) g (putCells id 0 (flatK encS 2 (srtX l).toArray))).heap.size = w.heap.size := by simp [mapBlock]
  refine ⟨rfl, ?_, ?_⟩
  · obtain ⟨p', c', hv, ho⟩ := h
    simp only [Value.slice.injEq] at hv
    obtain ⟨rfl, rfl, rfl⟩ := hv
    rcases ho.2 with ⟨hv, _⟩ | ⟨g', cap, cur, hv, hb, hg, h1, h2, h3, h4⟩
    · cases hv
    · simp only [Value.slice.injEq, Option.some.injEq, Addr.mk.injEq] at hv
      obtain ⟨⟨rfl, _⟩, _, rfl⟩ := hv
      refine ⟨some ⟨g, 0, none⟩, c, by rw [srtX_len], ?_⟩
      rw [srtX_len]
      refine ⟨by rw [spotCells_len, srtX_len], .inr ⟨g, c, putCells id 0 (flatK encS 2 (srtX l).toArray) cur, rfl, hb, ?_, h1, h2, by simp [putCells, h3], put_cells h3 h1 (srtX_len l)⟩⟩
      rw [e1, heap_grow_old _ _ (by rw [hsz]; exact hlt)]
      simp only [mapBlock, Array.getElem?_modify, if_true, heap_ahead, hg, Option.map_some, onCells]
  · change w.grownBy (sortWorldK encS 2 w g 0 q (srtX l).toArray os) _
    rw [e1]
    refine ⟨rfl, rfl, rfl, by rw [size_grow, hsz]; exact Nat.le_add_right _ _, fun i hi hne => ?_⟩
    rw [heap_grow_old _ _ (by rw [hsz]; exact hi)]
    have : ¬ g = i := fun e => hne (by rw [e])
    simp only [mapBlock, Array.getElem?_modify, this, if_false, heap_ahead]
end Go.Proofs.Ytjplikkehhpomaa
