/- The sort of offsets in whatever order: the contract; an element of offsets whose order is known. -/
import Derived.Test.YtheakjbbfdcbaaaElemI
set_option linter.unusedVariables false
set_option linter.unusedSimpArgs false
namespace Go.Proofs.Ytheakjbbfdcbaaa
open Go.RowKit Go.Sort

def srtL (l : List (Int × Int)) : List (Int × Int) := l.mergeSort (fun x y => !(ltOf ordZ) y x)
theorem srtL_len (l : List (Int × Int)) : (srtL l).length = l.length := List.length_mergeSort l
theorem put_cells {cur : Array Value} {cap n : Nat} {l : List (Int × Int)} (hc : cur.size = cap * 2) (hn : n ≤ cap) (hl : l.length = n) :
    (putCells id 0 (flatK encS 2 l.toArray) cur).toList.take (n * 2) = spotCells l := by
  apply List.ext_getElem
  · rw [List.length_take, spotCells_len, hl]
    have : (putCells id 0 (flatK encS 2 l.toArray) cur).toList.length = cap * 2 := by simp [putCells, hc]
    omega
  · intro k h1 h2
    rw [List.getElem_take]
    have hk : k < n * 2 := by rw [spotCells_len, hl] at h2; exact h2
    rw [spotCells_at l k h2]
    have hk2 : k < l.length * 2 := by rw [hl]; exact hk
    simp only [putCells, Array.getElem_toList, Array.getElem_mapIdx, size_flatK, List.size_toArray, Nat.zero_le, true_and, Nat.zero_add, hk2, if_true, Nat.sub_zero, id]
    exact flat_at l hk2
set_option maxRecDepth 100000 in
set_option maxHeartbeats 4000000 in
theorem sort_any {B : Nat} {w : World} {g n c : Nat} {l : List (Int × Int)} (h : OwnSpots B w (.slice (some ⟨g, 0, none⟩) n c) l) (hn : n = l.length) (hl : l.length ≤ 1048576) :
    Calls Try.prog 77 #[.slice (some ⟨g, 0, none⟩) n c, .func (.func 40) #[] #[]] w fun e w' => e = .returned (.tuple #[]) ∧ OwnSpots B w' (.slice (some ⟨g, 0, none⟩) n c) (srtL l) ∧ w.grownBy w' (some g) := by
  have eg : ∀ args w, (callFunc 40 args).run Try.prog w = .ok (.enter 40 args) w := enters_of Try.func40 (by kernel_rfl) rfl
  have hH := h.holds
  have hlt : g < w.heap.size := (h.ge g rfl).2
  have hcon := AnyQ.slices_SortFunc_total Try.laysSort 2 Try.isAgg45 Try.sizeOf45 encS (fun _ => rfl) (fun x v hv => by simp [encS] at hv; rcases hv with rfl | rfl <;> rfl) ordZ swoS 40 #[] g 0 c l.toArray w eg (cmpLaysS g 0 l.toArray.size w) hH hlt (by simp; omega) totS
  have es : l.toArray.size = n := by rw [hn]; rfl
  rw [es] at hcon
  refine Calls.mono hcon ?_
  rintro e w' ⟨rfl, q, os, rfl⟩
  rw [show l.toArray.toList = l from rfl]
  change _ ∧ OwnSpots B (sortWorldK encS 2 w g 0 q (srtL l).toArray os) _ _ ∧ _
  have e1 : sortWorldK encS 2 w g 0 q (srtL l).toArray os = grow (mapBlock (Sort.ahead w q) g (putCells id 0 (flatK encS 2 (srtL l).toArray))) os := rfl
  have hsz : (mapBlock (Sort.ahead w q) g (putCells id 0 (flatK encS 2 (srtL l).toArray))).heap.size = w.heap.size := by simp [mapBlock]
  refine ⟨rfl, ?_, ?_⟩
  · obtain ⟨p', c', hv, ho⟩ := h
    simp only [Value.slice.injEq] at hv
    obtain ⟨rfl, rfl, rfl⟩ := hv
    rcases ho.2 with ⟨hv, _⟩ | ⟨g', cap, cur, hv, hb, hg, h1, h2, h3, h4⟩
    · cases hv
    · simp only [Value.slice.injEq, Option.some.injEq, Addr.mk.injEq] at hv
      obtain ⟨⟨rfl, _⟩, _, rfl⟩ := hv
      refine ⟨some ⟨g, 0, none⟩, c, by rw [srtL_len], ?_⟩
      rw [srtL_len]
      refine ⟨by rw [spotCells_len, srtL_len], .inr ⟨g, c, putCells id 0 (flatK encS 2 (srtL l).toArray) cur, rfl, hb, ?_, h1, h2, by simp [putCells, h3], put_cells h3 h1 (srtL_len l)⟩⟩
      rw [e1, heap_grow_old _ _ (by rw [hsz]; exact hlt)]
      simp only [mapBlock, Array.getElem?_modify, if_true, heap_ahead, hg, Option.map_some, onCells]
  · change w.grownBy (sortWorldK encS 2 w g 0 q (srtL l).toArray os) _
    rw [e1]
    refine ⟨rfl, rfl, rfl, by rw [size_grow, hsz]; exact Nat.le_add_right _ _, fun i hi hne => ?_⟩
    rw [heap_grow_old _ _ (by rw [hsz]; exact hi)]
    have : ¬ g = i := fun e => hne (by rw [e])
    simp only [mapBlock, Array.getElem?_modify, this, if_false, heap_ahead]
theorem srt_of_perm {l m : List (Int × Int)} (hp : l.Perm m) (hm : Rising m) : srtL l = m := by
  have h1 : (srtL l).Perm m := (List.mergeSort_perm l _).trans hp
  have h2 : (srtL l).Pairwise (fun x y => (!(ltOf ordZ) y x) = true) := by
    refine List.pairwise_mergeSort (le := fun x y => !(ltOf ordZ) y x) (fun a b c h1 h2 => ?_) (fun a b => ?_) l
    · simp only [Bool.not_eq_true'] at *
      rw [ltOf_bef, befB_no] at *
      omega
    · simp only [ltOf_bef]
      cases hab : befB b a
      · simp
      · have : befB a b = false := by rw [befB_no]; rw [befB_iff] at hab; omega
        simp [this]
  refine List.Perm.eq_of_pairwise (le := fun x y => (!(ltOf ordZ) y x) = true) (fun a b _ _ h1 h2 => ?_) h2 (hm.imp fun {a b} hab => ?_) h1
  · simp only [Bool.not_eq_true'] at h1 h2
    exact totS a b h2 h1
  · rw [ltOf_bef]
    have : befB b a = false := by rw [befB_no]; rw [befB_iff] at hab; omega
    simp [this]
theorem grown_set {w a : World} {r : Option Nat} (h : w.grownBy a r) {p : Addr} (hp : w.heap.size ≤ p.block) (v : Value) : w.grownBy (a.setCell p v) r :=
  grown_below h ((Below.refl w.heap.size a).setCell hp v) (Nat.le_refl _)
set_option maxRecDepth 100000 in
set_option maxHeartbeats 4000000 in
theorem elementOf_any (B g c : Nat) (l m : List (Int × Int)) (w : World) (hl : l.length ≤ 1048576) (hr : Rising m) (hm : srtL l = m) (O : OwnSpots B w (.slice (some ⟨g, 0, none⟩) l.length c) l) :
    Calls Try.prog 65 #[.slice (some ⟨g, 0, none⟩) l.length c] w fun e w' => e = .returned (.agg #[.slice (some ⟨g, 0, none⟩) l.length c]) ∧ OwnSpots B w' (.slice (some ⟨g, 0, none⟩) l.length c) m ∧ w.grownBy w' (some g) := by
  have S := World.grownBy_alloc w (.cells #[.slice none 0 0] 28) (some g)
  have B0 := Box.new w (.slice none 0 0) 28
  have O1 := O.bl (bl_alloc w (.cells #[.slice none 0 0] 28))
  have hge := O.ge g rfl
  have c1 := sort_any O1 rfl hl
  have hml : m.length = l.length := by rw [← hm, srtL_len]
  have c2 := fun w' R => compact_rising (some ⟨g, 0, none⟩) c m w' (by omega) hr R
  rw [hm] at c1
  rw [hml] at c2
  obtain ⟨n, en⟩ : ∃ n, l.length = n := ⟨_, rfl⟩
  rw [en] at c1 c2 ⊢
  have C1 := Lib.hid c1; clear c1
  have C2 := Lib.hid c2; clear c2
  have En := Lib.hid en; clear en
  have Hml := Lib.hid hml; clear hml
  go_enter Try.func65, Try.ntmps65
  go_wp2_with fail
  refine C1.out.mono ?_
  rintro e w1 ⟨rfl, O2, hg⟩
  have B1 := B0.grown hg (by intro e; cases e; omega)
  have S1 := grown_trans S hg
  have R2 := O2.rd
  rw [Hml.out, En.out] at R2
  go_wp2_with fail
  refine (C2.out _ R2).mono ?_
  rintro e w2 ⟨rfl, hb2⟩
  have hs1 := S1.size
  have B2 := B1.bl hb2
  have O3 := O2.bl hb2
  have S2 := grown_below S1 hb2 hs1
  have f0 := B2.frozen
  have f1 := B2.cell
  have e0 := (B2.set (.slice (some ⟨g, 0, none⟩) n c)).cell
  have O4 : OwnSpots B (w2.setCell ⟨w.heap.size, 0, none⟩ (.slice (some ⟨g, 0, none⟩) n c)) (.slice (some ⟨g, 0, none⟩) n c) m := by
    obtain ⟨p', c', hv, ho⟩ := O3
    exact ⟨p', c', hv, own_other ho (by simp [Value.ownBlock]; omega) _⟩
  go_wp2
  exact bodyPost_ret (v := .agg #[.slice (some ⟨g, 0, none⟩) n c]) (by simp [results, Try.results65, go_sem, e0]) rfl ⟨rfl, O4, grown_set S2 (by simp) _⟩
set_option maxRecDepth 100000 in
set_option maxHeartbeats 4000000 in
theorem toldElement_any (B g c : Nat) (l m : List (Int × Int)) (w : World) (hl : l.length ≤ 1048576) (hok : okEl m = true) (hm : srtL l = m) (O : OwnSpots B w (.slice (some ⟨g, 0, none⟩) l.length c) l) :
    Calls Try.prog 58 #[.slice (some ⟨g, 0, none⟩) l.length c] w fun e w' => e = .returned (.tuple #[.agg #[.slice (some ⟨g, 0, none⟩) l.length c], .bool true]) ∧ OwnSpots B w' (.slice (some ⟨g, 0, none⟩) l.length c) m ∧ w.grownBy w' (some g) := by
  have S := World.grownBy_alloc w (.cells #[.slice none 0 0] 28) (some g)
  have B0 := Box.new w (.slice none 0 0) 28
  have O1 := O.bl (bl_alloc w (.cells #[.slice none 0 0] 28))
  have hge := O.ge g rfl
  have hml : m.length = l.length := by rw [← hm, srtL_len]
  have c1 := elementOf_any B g c l m _ hl (okEl_rising hok) hm O1
  have c2 := fun w' R => validElement_any (some ⟨g, 0, none⟩) c m w' (by omega) R
  rw [hok] at c2
  rw [hml] at c2
  obtain ⟨n, en⟩ : ∃ n, l.length = n := ⟨_, rfl⟩
  rw [en] at c1 c2 ⊢
  have C1 := Lib.hid c1; clear c1
  have C2 := Lib.hid c2; clear c2
  have Hok := Lib.hid hok; clear hok
  have En := Lib.hid en; clear en
  have Hml := Lib.hid hml; clear hml
  go_enter Try.func58, Try.ntmps58
  go_wp2_with fail
  refine C1.out.mono ?_
  rintro e w1 ⟨rfl, O2, hg⟩
  have S1 := grown_trans S hg
  have hs1 := S1.size
  have hs2 := hg.size
  rw [World.size_alloc] at hs2
  have B1 := (B0.grown hg (by intro e; cases e; omega)).alloc (.cells #[.slice (some ⟨g, 0, none⟩) n c] 28)
  have O3 := O2.bl (bl_alloc w1 (.cells #[.slice (some ⟨g, 0, none⟩) n c] 28))
  have S2 := grown_below S1 (bl_alloc w1 (.cells #[.slice (some ⟨g, 0, none⟩) n c] 28)) hs1
  have X1 := Box.new w1 (.slice (some ⟨g, 0, none⟩) n c) 28
  have R2 := O3.rd
  rw [Hml.out, En.out] at R2
  go_wp2_with fail
  refine (C2.out _ R2).mono ?_
  rintro e w2 ⟨rfl, hb2⟩
  have S3 := grown_below S2 hb2 S2.size
  have B2 := B1.bl hb2
  have X2 := X1.bl hb2
  have O4 := O3.bl hb2
  have f0 := B2.frozen
  have f1 := B2.cell
  have f2 := X2.cell
  have e0 := (B2.set (.slice (some ⟨g, 0, none⟩) n c)).cell
  have O5 : OwnSpots B (w2.setCell ⟨w.heap.size, 0, none⟩ (.slice (some ⟨g, 0, none⟩) n c)) (.slice (some ⟨g, 0, none⟩) n c) m := by
    obtain ⟨p', c', hv, ho⟩ := O4
    exact ⟨p', c', hv, own_other ho (by simp [Value.ownBlock]; omega) _⟩
  go_wp2
  exact bodyPost_ret (v := .tuple #[.agg #[.slice (some ⟨g, 0, none⟩) n c], .bool true]) (by simp [results, Try.results58, go_sem, e0]) rfl ⟨rfl, O5, grown_set S3 (by simp) _⟩
end Go.Proofs.Ytheakjbbfdcbaaa
