/- The sort of offsets, where they stand in order: contracts of spotOrder as the sort asks it, and of the sort. -/
import Derived.Test.YtheakjbbfdcbaaaSpecElem
import Derived.Test.YtheakjbbfdcbaaaShelfR5
set_option linter.unusedVariables false
set_option linter.unusedSimpArgs false
namespace Go.Proofs.Ytheakjbbfdcbaaa
open Go.RowKit Go.Sort

/-- Draws and new blocks. -/
def Grows (w w' : World) : Prop := ∃ q os, w' = grow (w.drewN q) os
theorem Grows.refl (w : World) : Grows w w := ⟨0, #[], by simp; rfl⟩
theorem Grows.alloc {w w' : World} (h : Grows w w') (o : Obj) : Grows w (w'.alloc o) := by
  obtain ⟨q, os, rfl⟩ := h
  exact ⟨q, os ++ #[o], by rw [alloc_eq_grow, grow_grow]⟩
theorem Grows.drewN {w w' : World} (h : Grows w w') (n : Nat) : Grows w (w'.drewN n) := by
  obtain ⟨q, os, rfl⟩ := h
  refine ⟨q + n, os, ?_⟩
  unfold grow World.drewN
  simp [Nat.add_assoc]
theorem Grows.drew {w w' : World} (h : Grows w w') : Grows w w'.drew := h.drewN 1
theorem Grows.below {w w' : World} (h : Grows w w') : Below w.heap.size w w' := by
  obtain ⟨q, os, rfl⟩ := h
  refine since_below ⟨rfl, rfl, rfl, by rw [size_grow]; exact Nat.le_add_right _ _, fun i hi => ?_⟩
  exact heap_grow_old (w.drewN q) os hi
set_option maxRecDepth 100000 in
set_option maxHeartbeats 4000000 in
theorem spotOrder_grows (a b c d : Int) (w : World) :
    Calls Try.prog 40 #[.agg #[.int .i64 a, .int .i64 b], .agg #[.int .i64 c, .int .i64 d]] w fun e w' => e = .returned (.int .i64 (ordZ (a, b) (c, d))) ∧ Grows w w' := by
  have A := (Blk.new w #[.int .i64 a, .int .i64 b] 45).alloc (.cells #[.int .i64 c, .int .i64 d] 45)
  have B := Blk.new (w.alloc (.cells #[.int .i64 a, .int .i64 b] 45)) #[.int .i64 c, .int .i64 d] 45
  simp only [World.size_alloc] at B
  have S := ((Since.refl w).alloc (.cells #[.int .i64 a, .int .i64 b] 45)).alloc (.cells #[.int .i64 c, .int .i64 d] 45)
  have C1 := A.cat 0 rfl
  have C2 := A.cat 1 rfl
  have C3 := B.cat 0 rfl
  have C4 := B.cat 1 rfl
  have D := Blk.new ((w.alloc (.cells #[.int .i64 a, .int .i64 b] 45)).alloc (.cells #[.int .i64 c, .int .i64 d] 45)) #[.int .i64 (cmpZ b d), .int .i64 (cmpZ a c)] 3
  simp only [World.size_alloc] at D
  have D1 := D.cat 0 rfl
  have D2 := D.cat 1 rfl
  clear A B D
  go_enter Try.func40, Try.ntmps40
  go_wp2
  go_region_held3 (fun w' => w'.cell? ⟨w.heap.size, 0, none⟩ = some (.int .i64 a) ∧ w'.cell? ⟨w.heap.size, 1, none⟩ = some (.int .i64 b) ∧ w'.cell? ⟨w.heap.size + 1, 0, none⟩ = some (.int .i64 c) ∧ w'.cell? ⟨w.heap.size + 1, 1, none⟩ = some (.int .i64 d))
    (first | ((repeat' (apply And.intro)) <;> (refine CellAt.out ?_; (repeat (first | assumption | exact Blk.cat (Blk.new _ _ _) _ rfl | refine CellAt.bl ?_ (bl_alloc _ _) | refine CellAt.bl ?_ (bl_drew _) | refine CellAt.bl ?_ (bl_drewN _ _) | refine CellAt.bl ?_ (by assumption) | refine CellAt.other ?_ (by intro e; injection e; omega) _)))))
    ((first | (go_at_call 63; refine (compare_any _ _ _).mono ?_; rintro e w1 ⟨rfl, rfl⟩) | (go_at_call 62; refine (cmpOr_z (cmpZ b d) (cmpZ a c) (ordZ (a, b) (c, d)) _ _ _ rfl ?_ ?_).mono ?_; (focus ((repeat (first | assumption | exact Blk.cat (Blk.new _ _ _) _ rfl | refine CellAt.bl ?_ (bl_alloc _ _) | refine CellAt.bl ?_ (bl_drew _) | refine CellAt.bl ?_ (bl_drewN _ _) | refine CellAt.bl ?_ (by assumption) | refine CellAt.other ?_ (by intro e; injection e; omega) _)); done)); (focus ((repeat (first | assumption | exact Blk.cat (Blk.new _ _ _) _ rfl | refine CellAt.bl ?_ (bl_alloc _ _) | refine CellAt.bl ?_ (bl_drew _) | refine CellAt.bl ?_ (bl_drewN _ _) | refine CellAt.bl ?_ (by assumption) | refine CellAt.other ?_ (by intro e; injection e; omega) _)); done)); rintro e w1 ⟨rfl, rfl⟩)))
  go_wp2
  go_ret
  refine ⟨rfl, ?_⟩
  repeat (first | exact Grows.refl _ | refine Grows.alloc ?_ _ | refine Grows.drew ?_ | refine Grows.drewN ?_ _)
def encS (s : Int × Int) : List Value := [.int .i64 s.1, .int .i64 s.2]
theorem ltOf_bef (s t : Int × Int) : ltOf ordZ s t = befB s t := by
  have h := ordZ_bef s t
  unfold ltOf
  cases hb : befB s t <;> rw [hb] at h <;> simp at h ⊢ <;> omega
theorem befB_iff {s t : Int × Int} : befB s t = true ↔ s.2 < t.2 ∨ (s.2 = t.2 ∧ s.1 < t.1) := by simp [befB]
theorem befB_no {s t : Int × Int} : befB s t = false ↔ ¬ (s.2 < t.2 ∨ (s.2 = t.2 ∧ s.1 < t.1)) := by
  rw [← befB_iff]
  cases befB s t <;> simp
theorem swoS : SWO (ltOf ordZ) where
  irrefl x := by rw [ltOf_bef, befB_no]; omega
  trans x y z h1 h2 := by rw [ltOf_bef] at *; rw [befB_iff] at *; omega
  ntrans x y z h1 h2 := by rw [ltOf_bef] at *; rw [befB_no] at *; omega
theorem totS : ∀ x y : Int × Int, ltOf ordZ x y = false → ltOf ordZ y x = false → x = y := by
  intro x y h1 h2
  rw [ltOf_bef, befB_no] at h1 h2
  exact Prod.ext (by omega) (by omega)
theorem cmpLaysS (blk off size : Nat) (w : World) : CmpLays Try.prog 40 #[] encS 2 ordZ blk off size w :=
  fun _ _ _ _ x y => spotOrder_grows x.1 x.2 y.1 y.2 _
/-- A list in order, without repeats. -/
def Rising (l : List (Int × Int)) : Prop := l.Pairwise fun s t => befB s t = true
theorem Rising.merge {l : List (Int × Int)} (h : Rising l) : l.mergeSort (fun x y => !(ltOf ordZ) y x) = l := by
  refine List.mergeSort_of_pairwise (h.imp fun {a b} hab => ?_)
  rw [ltOf_bef]
  have : befB b a = false := by rw [befB_no]; rw [befB_iff] at hab; omega
  simp [this]
theorem flat_at (l : List (Int × Int)) {t : Nat} (h : t < l.length * 2) : (flatK encS 2 l.toArray)[t]! = spotAt l t := by
  rw [get_flatK _ _ _ _ (by simpa using h)]
  have h2 : t / 2 < l.length := by omega
  have e : (l.toArray[t / 2]!) = l.getD (t / 2) (0, 0) := by
    simp [h2, List.getD]
  rw [e]
  unfold spotAt encS
  rcases Nat.mod_two_eq_zero_or_one t with h0 | h0 <;> simp [h0]
theorem OwnSpots.holds {B : Nat} {w : World} {g n c : Nat} {l : List (Int × Int)} (h : OwnSpots B w (.slice (some ⟨g, 0, none⟩) n c) l) : HoldsK encS 2 w g 0 l.toArray := by
  obtain ⟨p', c', hv, ho⟩ := h
  simp only [Value.slice.injEq] at hv
  obtain ⟨rfl, rfl, rfl⟩ := hv
  intro j hj
  rw [size_flatK] at hj
  have hj' : j < l.length * 2 := by simpa using hj
  rw [flat_at l hj']
  rcases ho.2 with ⟨hv, _⟩ | ⟨g', cap, cur, hv, hb, hg, _⟩
  · cases hv
  · simp only [Value.slice.injEq, Option.some.injEq, Addr.mk.injEq] at hv
    obtain ⟨⟨rfl, _⟩, _, rfl⟩ := hv
    have hc := ho.cells (g := g) rfl j (spotAt l j) (by
      have := spotCells_at l j (by rw [spotCells_len]; exact hj')
      rw [← this]
      exact List.getElem?_eq_getElem _)
    rw [Go.WideShapes.add_plain] at hc
    exact ⟨hc, by simp [World.frozen?, hg]⟩
set_option maxRecDepth 100000 in
set_option maxHeartbeats 4000000 in
/-- The sort of offsets in order turns nothing. -/
theorem sort_rising {B : Nat} {w : World} {g n c : Nat} {l : List (Int × Int)} (h : OwnSpots B w (.slice (some ⟨g, 0, none⟩) n c) l) (hn : n = l.length) (hl : l.length ≤ 1048576) (hr : Rising l) :
    Calls Try.prog 77 #[.slice (some ⟨g, 0, none⟩) n c, .func (.func 40) #[] #[]] w fun e w' => e = .returned (.tuple #[]) ∧ Below w.heap.size w w' := by
  have eg : ∀ args w, (callFunc 40 args).run Try.prog w = .ok (.enter 40 args) w := enters_of Try.func40 (by kernel_rfl) rfl
  have hH := h.holds
  have hlt : g < w.heap.size := (h.ge g rfl).2
  have hcon := AnyQ.slices_SortFunc_total Try.laysSort 2 Try.isAgg45 Try.sizeOf45 encS (fun _ => rfl) (fun x v hv => by simp [encS] at hv; rcases hv with rfl | rfl <;> rfl) ordZ swoS 40 #[] g 0 c l.toArray w eg (cmpLaysS g 0 l.toArray.size w) hH hlt (by simp; omega) totS
  have es : l.toArray.size = n := by rw [hn]; rfl
  rw [es] at hcon
  refine Calls.mono hcon ?_
  rintro e w' ⟨rfl, q, os, rfl⟩
  refine ⟨rfl, ?_⟩
  rw [show l.toArray.toList = l from rfl, hr.merge]
  have e1 : sortWorldK encS 2 w g 0 q l.toArray os = grow (Sort.ahead w q) os := by
    unfold sortWorldK
    rw [putRowK_self encS 2 _ g 0 _ (holdsK_ahead encS 2 w q g 0 _ hH)]
  rw [e1]
  exact Grows.below ⟨q, os, rfl⟩
end Go.Proofs.Ytheakjbbfdcbaaa
