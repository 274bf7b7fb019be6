/- Contract of the program's chain: the corners of one side of a hull. -/
import Derived.Test.YtjplikkehhpomaaHuA
import Derived.Test.YtjplikkehhpomaaHuP
import Derived.Test.YtjplikkehhpomaaSpCompact
import Derived.Test.YtjplikkehhpomaaRegCalm
import Derived.Test.YtjplikkehhpomaaBfW
set_option linter.unusedVariables false
set_option linter.unusedSimpArgs false
namespace Go.Proofs.Ytjplikkehhpomaa
open Go.RowKit

theorem OwnSpots.take {B g n c j : Nat} {w : World} {l : List (Int × Int)} (h : OwnSpots B w (.slice (some ⟨g, 0, none⟩) n c) l) (hj : j ≤ l.length) : OwnSpots B w (.slice (some ⟨g, 0, none⟩) j c) (l.take j) := by
  obtain ⟨h1, h2, h3, h4, f, h5, h6⟩ := h.cells
  have hl : (l.take j).length = j := by rw [List.length_take]; omega
  have := OwnSpots.of_cells (l := l.take j) h2 (by omega) h4 h5 (fun i hi => by rw [spotAt_take l (k := j) (by omega), h6 i (by omega)])
  rwa [hl] at this
/-- The program's list behind the first k corners. -/
structure ChRel (l : List (Int × Int)) (w wr : World) (v : Value) (k : Nat) : Prop where
  own : ∃ g d, v = .slice (some ⟨g, 0, none⟩) (Hull.outL l k).length d ∧ OwnSpots w.heap.size wr v (Hull.outL l k)
  since : Since w wr
set_option maxRecDepth 100000 in
set_option maxHeartbeats 8000000 in
theorem chain_any (p : Option Addr) (c : Nat) (l : List (Int × Int)) (w : World) (hl : l.length ≤ 1048576) (h0 : 0 < l.length) (hin : ∀ x ∈ l, inC x) (hr : Rd w p (l.length * 2) (spotAt l)) :
    Calls Try.prog 42 #[.slice p l.length c] w fun e w' => ∃ g d, e = .returned (.slice (some ⟨g, 0, none⟩) (Hull.chainS l).reverse.dropLast.length d) ∧ OwnSpots w.heap.size w' (.slice (some ⟨g, 0, none⟩) (Hull.chainS l).reverse.dropLast.length d) (Hull.chainS l).reverse.dropLast ∧ Below w.heap.size w w' := by
  obtain ⟨pb, po, rfl, hpb, -⟩ := hr.at (k := 0) (by omega)
  have r0 : ChRel l w (w.alloc (.cells #[] 28)) (.slice (some ⟨w.heap.size, 0, none⟩) 0 0) 0 :=
    ⟨⟨_, _, rfl, ⟨_, _, rfl, World.ownsRow_made w #[] 0 (Nat.le_refl _) (by decide) rfl⟩⟩, (Since.refl w).alloc _⟩
  have Hin := Lib.hid hin; clear hin
  have R0 := Lib.hid r0; clear r0
  go_enter Try.func42, Try.ntmps42
  go_wp2
  go_loopw [3, 9] (fun v i wr => ∃ k : Nat, k ≤ l.length ∧ i = .int .i64 k ∧ ChRel l w wr v k) (fun _ i _ => l.length - (intOf i).toNat)
  case atStart => exact ⟨0, Nat.zero_le _, rfl, R0.out⟩
  case round =>
    clear R0
    obtain ⟨k, hk, rfl, r⟩ := hrel
    have hk00 : (0 : Int) ≤ (k : Int) := Int.natCast_nonneg _
    obtain ⟨g, d, rfl, O⟩ := r.own
    have hol := Hull.outL_len k hk
    have hom := Hull.outL_mem k hk
    obtain ⟨L, eL⟩ : ∃ L, Hull.outL l k = L := ⟨_, rfl⟩
    rw [eL] at O hol hom
    obtain ⟨n, en⟩ : ∃ n, L.length = n := ⟨_, rfl⟩
    simp only [eL, en]
    rw [en] at O hol
    by_cases hlt : k < l.length
    · have hkl : (k : Int) < (l.length : Int) := by omega
      have hwk : IntKind.i64.wrap ((k : Int) + 1) = (k : Int) + 1 := IntWalk.i64_in _ (by omega)
      obtain ⟨_, _, eP, -, hc⟩ := (hr.bl r.since.below).at (k := 0) (by omega)
      cases eP
      have a0 := hc (k * 2) (by omega)
      have a1 := hc (k * 2 + 1) (by omega)
      rw [spotAt_x] at a0
      rw [spotAt_y, ← Nat.add_assoc] at a1
      have hT := Hull.tkP_start l k (l.getD k (0, 0))
      have hsuc := fun j h1 h2 => Hull.outL_succ (j := j) hlt h1 h2
      have hsi := Hin.out _ (getD_memS hlt)
      obtain ⟨⟨sx, sy⟩, es⟩ : ∃ s, l.getD k (0, 0) = s := ⟨_, rfl⟩
      rw [es] at a0 a1 hT hsuc hsi
      dsimp only at a0 a1
      rw [eL] at hT hsuc
      obtain ⟨T, eT⟩ : ∃ T, Hull.popS (Hull.chainS (l.take k)) (sx, sy) = T := ⟨_, rfl⟩
      rw [eT] at hT hsuc
      rw [en] at hT
      have Bx := Blk.new wr #[.int .i64 sx, .int .i64 sy] 28
      have U := r.since.alloc (.cells #[.int .i64 sx, .int .i64 sy] 28)
      have O1 := O.bl (bl_alloc wr (.cells #[.int .i64 sx, .int .i64 sy] 28))
      have Hc := Lib.hid hc; clear hc
      have HT := Lib.hid hT; clear hT
      have Hsuc := Lib.hid hsuc; clear hsuc
      have Es := Lib.hid es; clear es
      have ET := Lib.hid eT; clear eT
      have EL := Lib.hid eL; clear eL
      have Hom := Lib.hid hom; clear hom
      have Hsi := Lib.hid hsi; clear hsi
      have En := Lib.hid en; clear en
      clear r O
      go_wp2
      generalize wr.alloc (.cells #[.int .i64 sx, .int .i64 sy] 28) = wa at *
      obtain ⟨ta, eta⟩ : ∃ t, wr.heap.size = t := ⟨_, rfl⟩
      simp only [eta] at Bx ⊢
      clear eta a0 a1
      obtain ⟨-, hgB, hnd, hdm, f, hrow, hf⟩ := O1.cells
      have hcl : ∀ w', Since wa w' → ∀ i, i < n * 2 → w'.cell? ⟨g, i, none⟩ = some (spotAt L i) := fun w' h i hi => by
        have h1 := (O1.bl h.below).cells
        obtain ⟨_, _, _, _, f', hrow', hf'⟩ := h1
        rw [← hf' i (by rw [En.out]; exact hi)]
        exact hrow'.cell (by omega)
      clear hf hrow f
      have Hcl := Lib.hid hcl; clear hcl
      go_loopw [3] (fun v wx => ∃ j : Nat, j ≤ n ∧ v = .slice (some ⟨g, 0, none⟩) j d ∧ Hid (Hull.tkP L (sx, sy) j = T) ∧ Since wa wx) (fun v _ => lenOfV v)
      case atStart => exact ⟨n, Nat.le_refl _, rfl, HT, Since.refl wa⟩
      case round =>
        obtain ⟨j, hj, rfl, hjT, V⟩ := hrel
        have hj00 : (0 : Int) ≤ (j : Int) := Int.natCast_nonneg _
        by_cases h2 : 2 ≤ j
        · obtain ⟨q, eq⟩ : ∃ q, j - 2 = q := ⟨_, rfl⟩
          obtain ⟨q1, eq1⟩ : ∃ q, j - 1 = q := ⟨_, rfl⟩
          have hwq : IntKind.i64.wrap ((j : Int) - 2) = (q : Int) := by rw [IntWalk.i64_in _ (by omega)]; omega
          have hwq1 : IntKind.i64.wrap ((j : Int) - 1) = (q1 : Int) := by rw [IntWalk.i64_in _ (by omega)]; omega
          have hq0 : (0 : Int) ≤ (q : Int) := Int.natCast_nonneg _
          have hq10 : (0 : Int) ≤ (q1 : Int) := Int.natCast_nonneg _
          have hqj : (q : Int) < (j : Int) := by omega
          have hq1j : (q1 : Int) < (j : Int) := by omega
          have hq1d : (q1 : Int) ≤ (d : Int) := by omega
          have h1j : 1 < (j : Int) := by omega
          have hpop := Hull.tkP_pop (s := (sx, sy)) h2 (show j ≤ L.length by rw [En.out]; exact hj)
          have hno := Hull.tkP_no (s := (sx, sy)) h2 (show j ≤ L.length by rw [En.out]; exact hj)
          rw [eq, eq1] at hpop hno
          have hmq := Hin.out _ (Hom.out _ (getD_memS (show q < L.length by rw [En.out]; omega)))
          have hmq1 := Hin.out _ (Hom.out _ (getD_memS (show q1 < L.length by rw [En.out]; omega)))
          have hs : ∀ wx, Since wr.drew wx → wx.cell? ⟨g, q * 2, none⟩ = some (spotAt L (q * 2)) ∧ wx.cell? ⟨g, q * 2 + 1, none⟩ = some (spotAt L (q * 2 + 1)) ∧ wx.cell? ⟨g, q1 * 2, none⟩ = some (spotAt L (q1 * 2)) ∧ wx.cell? ⟨g, q1 * 2 + 1, none⟩ = some (spotAt L (q1 * 2 + 1)) ∧ wx.cell? ⟨ta, 0, none⟩ = some (.int .i64 sx) ∧ wx.cell? ⟨ta, 1, none⟩ = some (.int .i64 sy) := fun wx hx => by
            have hv := (V.bl (bl_drew wr)).bl hx.below
            have Bv := Bx.bl hv.below
            exact ⟨Hcl.out wx hv _ (by omega), Hcl.out wx hv _ (by omega), Hcl.out wx hv _ (by omega), Hcl.out wx hv _ (by omega), Bv.cell 0 rfl, Bv.cell 1 rfl⟩
          simp only [spotAt_x, spotAt_y] at hs
          obtain ⟨⟨ax, ay⟩, ea⟩ : ∃ s, L.getD q (0, 0) = s := ⟨_, rfl⟩
          obtain ⟨⟨bx, bz⟩, eb⟩ : ∃ s, L.getD q1 (0, 0) = s := ⟨_, rfl⟩
          simp only [ea, eb] at hs hpop hno hmq hmq1
          have cb := fun w => bend_any ax ay bx bz sx sy w hmq hmq1 Hsi.out
          obtain ⟨z, ez⟩ : ∃ z, Hull.bendZ (ax, ay) (bx, bz) (sx, sy) = z := ⟨_, rfl⟩
          simp only [ez] at cb hpop hno
          have V0 := V.bl (bl_drew wr)
          by_cases hz : z ≤ 0
          · have hz2 : decide (z ≤ 0) = true := decide_eq_true hz
            have hjT2 : Hull.tkP L (sx, sy) q1 = T := (hpop hz).symm.trans hjT.out
            have Hs := Lib.hid hs; clear hs
            have Cb := Lib.hid cb; clear cb
            have Hpop := Lib.hid hpop; clear hpop
            have Hno := Lib.hid hno; clear hno
            have Ea := Lib.hid ea; clear ea
            have Eb := Lib.hid eb; clear eb
            have Eq := Lib.hid eq; clear eq
            have Eq1 := Lib.hid eq1; clear eq1
            have Hmq := Lib.hid hmq; clear hmq
            have Hmq1 := Lib.hid hmq1; clear hmq1
            have Ez := Lib.hid ez; clear ez
            have HjT2 := Lib.hid hjT2; clear hjT2
            go_upto_region 5 with (fail)
            refine wp_region_calm (S := Since (wr.drew)) 12 (rs := [0, 1, 2, 3, 4, 5, 6, 7, 8, 9, 10, 11, 12, 13, 14, 15, 16, 17, 18, 19]) rfl rfl (by kernel_rfl) (by kernel_rfl) (Since.refl _) ?_
            refine Chain.step (v := ?_) rfl (Or.inr ⟨by rfl, Or.inl ?_⟩) ?_
            rotate_left
            · intro wx hx
              obtain ⟨z0, z1, z2, z3, z4, z5⟩ := Hs.out wx hx
              go_simp
              try with_reducible rfl
            try simp only [Act.put, List.setIfInBounds_toArray, List.set_cons_zero, List.set_cons_succ]
            refine Chain.step (v := ?_) rfl (Or.inr ⟨by rfl, Or.inl ?_⟩) ?_
            rotate_left
            · intro wx hx
              obtain ⟨z0, z1, z2, z3, z4, z5⟩ := Hs.out wx hx
              go_simp
              try with_reducible rfl
            try simp only [Act.put, List.setIfInBounds_toArray, List.set_cons_zero, List.set_cons_succ]
            refine Chain.step (v := ?_) rfl (Or.inr ⟨by rfl, Or.inl ?_⟩) ?_
            rotate_left
            · intro wx hx
              obtain ⟨z0, z1, z2, z3, z4, z5⟩ := Hs.out wx hx
              go_simp
              try with_reducible rfl
            try simp only [Act.put, List.setIfInBounds_toArray, List.set_cons_zero, List.set_cons_succ]
            refine Chain.step (v := ?_) rfl (Or.inr ⟨by rfl, Or.inl ?_⟩) ?_
            rotate_left
            · intro wx hx
              obtain ⟨z0, z1, z2, z3, z4, z5⟩ := Hs.out wx hx
              go_simp
              try with_reducible rfl
            try simp only [Act.put, List.setIfInBounds_toArray, List.set_cons_zero, List.set_cons_succ]
            refine Chain.step (v := ?_) rfl (Or.inr ⟨by rfl, Or.inl ?_⟩) ?_
            rotate_left
            · intro wx hx
              obtain ⟨z0, z1, z2, z3, z4, z5⟩ := Hs.out wx hx
              go_simp
              try with_reducible rfl
            try simp only [Act.put, List.setIfInBounds_toArray, List.set_cons_zero, List.set_cons_succ]
            refine Chain.step (v := ?_) rfl (Or.inr ⟨by rfl, Or.inl ?_⟩) ?_
            rotate_left
            · intro wx hx
              obtain ⟨z0, z1, z2, z3, z4, z5⟩ := Hs.out wx hx
              go_simp
              try with_reducible rfl
            try simp only [Act.put, List.setIfInBounds_toArray, List.set_cons_zero, List.set_cons_succ]
            refine Chain.step (v := ?_) rfl (Or.inr ⟨by rfl, Or.inl ?_⟩) ?_
            rotate_left
            · intro wx hx
              obtain ⟨z0, z1, z2, z3, z4, z5⟩ := Hs.out wx hx
              go_simp
              try with_reducible rfl
            try simp only [Act.put, List.setIfInBounds_toArray, List.set_cons_zero, List.set_cons_succ]
            refine Chain.step (v := ?_) rfl (Or.inr ⟨by rfl, Or.inl ?_⟩) ?_
            rotate_left
            · intro wx hx
              obtain ⟨z0, z1, z2, z3, z4, z5⟩ := Hs.out wx hx
              go_simp
              try with_reducible rfl
            try simp only [Act.put, List.setIfInBounds_toArray, List.set_cons_zero, List.set_cons_succ]
            refine Chain.step (v := ?_) rfl (Or.inr ⟨by rfl, Or.inl ?_⟩) ?_
            rotate_left
            · intro wx hx
              obtain ⟨z0, z1, z2, z3, z4, z5⟩ := Hs.out wx hx
              go_simp
              try with_reducible rfl
            try simp only [Act.put, List.setIfInBounds_toArray, List.set_cons_zero, List.set_cons_succ]
            refine Chain.step (v := ?_) rfl (Or.inr ⟨by rfl, Or.inl ?_⟩) ?_
            rotate_left
            · intro wx hx
              obtain ⟨z0, z1, z2, z3, z4, z5⟩ := Hs.out wx hx
              go_simp
              try with_reducible rfl
            try simp only [Act.put, List.setIfInBounds_toArray, List.set_cons_zero, List.set_cons_succ]
            refine Chain.step (v := ?_) rfl (Or.inr ⟨by rfl, Or.inl ?_⟩) ?_
            rotate_left
            · intro wx hx
              obtain ⟨z0, z1, z2, z3, z4, z5⟩ := Hs.out wx hx
              go_simp
              try with_reducible rfl
            try simp only [Act.put, List.setIfInBounds_toArray, List.set_cons_zero, List.set_cons_succ]
            refine Chain.step (v := ?_) rfl (Or.inr ⟨by rfl, Or.inl ?_⟩) ?_
            rotate_left
            · intro wx hx
              obtain ⟨z0, z1, z2, z3, z4, z5⟩ := Hs.out wx hx
              go_simp
              try with_reducible rfl
            try simp only [Act.put, List.setIfInBounds_toArray, List.set_cons_zero, List.set_cons_succ]
            refine Chain.step (v := ?_) rfl (Or.inr ⟨by rfl, Or.inl ?_⟩) ?_
            rotate_left
            · intro wx hx
              obtain ⟨z0, z1, z2, z3, z4, z5⟩ := Hs.out wx hx
              go_simp
              try with_reducible rfl
            try simp only [Act.put, List.setIfInBounds_toArray, List.set_cons_zero, List.set_cons_succ]
            refine Chain.step (v := ?_) rfl (Or.inr ⟨by rfl, Or.inl ?_⟩) ?_
            rotate_left
            · intro wx hx
              obtain ⟨z0, z1, z2, z3, z4, z5⟩ := Hs.out wx hx
              go_simp
              try with_reducible rfl
            try simp only [Act.put, List.setIfInBounds_toArray, List.set_cons_zero, List.set_cons_succ]
            refine Chain.step (v := ?_) rfl (Or.inr ⟨by rfl, Or.inl ?_⟩) ?_
            rotate_left
            · intro wx hx
              obtain ⟨z0, z1, z2, z3, z4, z5⟩ := Hs.out wx hx
              go_simp
              try with_reducible rfl
            try simp only [Act.put, List.setIfInBounds_toArray, List.set_cons_zero, List.set_cons_succ]
            refine Chain.step (v := ?_) rfl (Or.inr ⟨by rfl, Or.inl ?_⟩) ?_
            rotate_left
            · intro wx hx
              obtain ⟨z0, z1, z2, z3, z4, z5⟩ := Hs.out wx hx
              go_simp
              try with_reducible rfl
            try simp only [Act.put, List.setIfInBounds_toArray, List.set_cons_zero, List.set_cons_succ]
            refine Chain.step (v := ?_) rfl (Or.inr ⟨by rfl, Or.inl ?_⟩) ?_
            rotate_left
            · intro wx hx
              obtain ⟨z0, z1, z2, z3, z4, z5⟩ := Hs.out wx hx
              go_simp
              try with_reducible rfl
            try simp only [Act.put, List.setIfInBounds_toArray, List.set_cons_zero, List.set_cons_succ]
            refine Chain.step (v := _) rfl (Or.inr ⟨by rfl, Or.inr ⟨64, #[.agg #[.int .i64 ax, .int .i64 ay], .agg #[.int .i64 bx, .int .i64 bz], .agg #[.int .i64 sx, .int .i64 sy]], fun wx hx => ⟨?_, by with_reducible exact ((Cb.out wx).mono (fun e w' h => ⟨h.1, hx.bl h.2⟩))⟩⟩⟩) ?_
            · go_simp
              try with_reducible rfl
            try simp only [Act.put, List.setIfInBounds_toArray, List.set_cons_zero, List.set_cons_succ]
            refine Chain.step (v := ?_) rfl (Or.inr ⟨by rfl, Or.inl ?_⟩) ?_
            rotate_left
            · intro wx hx
              obtain ⟨z0, z1, z2, z3, z4, z5⟩ := Hs.out wx hx
              go_simp
              try with_reducible rfl
            try simp only [Act.put, List.setIfInBounds_toArray, List.set_cons_zero, List.set_cons_succ]
            refine Chain.step (v := ?_) rfl (Or.inr ⟨by rfl, Or.inl ?_⟩) ?_
            rotate_left
            · intro wx hx
              obtain ⟨z0, z1, z2, z3, z4, z5⟩ := Hs.out wx hx
              go_simp
              try with_reducible rfl
            try simp only [Act.put, List.setIfInBounds_toArray, List.set_cons_zero, List.set_cons_succ]
            intro w5 hw5
            have V5 := V0.bl hw5.below
            clear hw5
            go_wp2
            go_roundw
            case rel => exact ⟨q1, by omega, rfl, HjT2, V5⟩
            case measure => simp [lenOfV]; omega
          · have hz2 : decide (z ≤ 0) = false := decide_eq_false hz
            have hst := hno hz
            have Hs := Lib.hid hs; clear hs
            have Cb := Lib.hid cb; clear cb
            have Hpop := Lib.hid hpop; clear hpop
            have Hno := Lib.hid hno; clear hno
            have Ea := Lib.hid ea; clear ea
            have Eb := Lib.hid eb; clear eb
            have Eq := Lib.hid eq; clear eq
            have Eq1 := Lib.hid eq1; clear eq1
            have Hmq := Lib.hid hmq; clear hmq
            have Hmq1 := Lib.hid hmq1; clear hmq1
            have Ez := Lib.hid ez; clear ez
            go_upto_region 5 with (fail)
            refine wp_region_calm (S := Since (wr.drew)) 12 (rs := [0, 1, 2, 3, 4, 5, 6, 7, 8, 9, 10, 11, 12, 13, 14, 15, 16, 17, 18, 19]) rfl rfl (by kernel_rfl) (by kernel_rfl) (Since.refl _) ?_
            refine Chain.step (v := ?_) rfl (Or.inr ⟨by rfl, Or.inl ?_⟩) ?_
            rotate_left
            · intro wx hx
              obtain ⟨z0, z1, z2, z3, z4, z5⟩ := Hs.out wx hx
              go_simp
              try with_reducible rfl
            try simp only [Act.put, List.setIfInBounds_toArray, List.set_cons_zero, List.set_cons_succ]
            refine Chain.step (v := ?_) rfl (Or.inr ⟨by rfl, Or.inl ?_⟩) ?_
            rotate_left
            · intro wx hx
              obtain ⟨z0, z1, z2, z3, z4, z5⟩ := Hs.out wx hx
              go_simp
              try with_reducible rfl
            try simp only [Act.put, List.setIfInBounds_toArray, List.set_cons_zero, List.set_cons_succ]
            refine Chain.step (v := ?_) rfl (Or.inr ⟨by rfl, Or.inl ?_⟩) ?_
            rotate_left
            · intro wx hx
              obtain ⟨z0, z1, z2, z3, z4, z5⟩ := Hs.out wx hx
              go_simp
              try with_reducible rfl
            try simp only [Act.put, List.setIfInBounds_toArray, List.set_cons_zero, List.set_cons_succ]
            refine Chain.step (v := ?_) rfl (Or.inr ⟨by rfl, Or.inl ?_⟩) ?_
            rotate_left
            · intro wx hx
              obtain ⟨z0, z1, z2, z3, z4, z5⟩ := Hs.out wx hx
              go_simp
              try with_reducible rfl
            try simp only [Act.put, List.setIfInBounds_toArray, List.set_cons_zero, List.set_cons_succ]
            refine Chain.step (v := ?_) rfl (Or.inr ⟨by rfl, Or.inl ?_⟩) ?_
            rotate_left
            · intro wx hx
              obtain ⟨z0, z1, z2, z3, z4, z5⟩ := Hs.out wx hx
              go_simp
              try with_reducible rfl
            try simp only [Act.put, List.setIfInBounds_toArray, List.set_cons_zero, List.set_cons_succ]
            refine Chain.step (v := ?_) rfl (Or.inr ⟨by rfl, Or.inl ?_⟩) ?_
            rotate_left
            · intro wx hx
              obtain ⟨z0, z1, z2, z3, z4, z5⟩ := Hs.out wx hx
              go_simp
              try with_reducible rfl
            try simp only [Act.put, List.setIfInBounds_toArray, List.set_cons_zero, List.set_cons_succ]
            refine Chain.step (v := ?_) rfl (Or.inr ⟨by rfl, Or.inl ?_⟩) ?_
            rotate_left
            · intro wx hx
              obtain ⟨z0, z1, z2, z3, z4, z5⟩ := Hs.out wx hx
              go_simp
              try with_reducible rfl
            try simp only [Act.put, List.setIfInBounds_toArray, List.set_cons_zero, List.set_cons_succ]
            refine Chain.step (v := ?_) rfl (Or.inr ⟨by rfl, Or.inl ?_⟩) ?_
            rotate_left
            · intro wx hx
              obtain ⟨z0, z1, z2, z3, z4, z5⟩ := Hs.out wx hx
              go_simp
              try with_reducible rfl
            try simp only [Act.put, List.setIfInBounds_toArray, List.set_cons_zero, List.set_cons_succ]
            refine Chain.step (v := ?_) rfl (Or.inr ⟨by rfl, Or.inl ?_⟩) ?_
            rotate_left
            · intro wx hx
              obtain ⟨z0, z1, z2, z3, z4, z5⟩ := Hs.out wx hx
              go_simp
              try with_reducible rfl
            try simp only [Act.put, List.setIfInBounds_toArray, List.set_cons_zero, List.set_cons_succ]
            refine Chain.step (v := ?_) rfl (Or.inr ⟨by rfl, Or.inl ?_⟩) ?_
            rotate_left
            · intro wx hx
              obtain ⟨z0, z1, z2, z3, z4, z5⟩ := Hs.out wx hx
              go_simp
              try with_reducible rfl
            try simp only [Act.put, List.setIfInBounds_toArray, List.set_cons_zero, List.set_cons_succ]
            refine Chain.step (v := ?_) rfl (Or.inr ⟨by rfl, Or.inl ?_⟩) ?_
            rotate_left
            · intro wx hx
              obtain ⟨z0, z1, z2, z3, z4, z5⟩ := Hs.out wx hx
              go_simp
              try with_reducible rfl
            try simp only [Act.put, List.setIfInBounds_toArray, List.set_cons_zero, List.set_cons_succ]
            refine Chain.step (v := ?_) rfl (Or.inr ⟨by rfl, Or.inl ?_⟩) ?_
            rotate_left
            · intro wx hx
              obtain ⟨z0, z1, z2, z3, z4, z5⟩ := Hs.out wx hx
              go_simp
              try with_reducible rfl
            try simp only [Act.put, List.setIfInBounds_toArray, List.set_cons_zero, List.set_cons_succ]
            refine Chain.step (v := ?_) rfl (Or.inr ⟨by rfl, Or.inl ?_⟩) ?_
            rotate_left
            · intro wx hx
              obtain ⟨z0, z1, z2, z3, z4, z5⟩ := Hs.out wx hx
              go_simp
              try with_reducible rfl
            try simp only [Act.put, List.setIfInBounds_toArray, List.set_cons_zero, List.set_cons_succ]
            refine Chain.step (v := ?_) rfl (Or.inr ⟨by rfl, Or.inl ?_⟩) ?_
            rotate_left
            · intro wx hx
              obtain ⟨z0, z1, z2, z3, z4, z5⟩ := Hs.out wx hx
              go_simp
              try with_reducible rfl
            try simp only [Act.put, List.setIfInBounds_toArray, List.set_cons_zero, List.set_cons_succ]
            refine Chain.step (v := ?_) rfl (Or.inr ⟨by rfl, Or.inl ?_⟩) ?_
            rotate_left
            · intro wx hx
              obtain ⟨z0, z1, z2, z3, z4, z5⟩ := Hs.out wx hx
              go_simp
              try with_reducible rfl
            try simp only [Act.put, List.setIfInBounds_toArray, List.set_cons_zero, List.set_cons_succ]
            refine Chain.step (v := ?_) rfl (Or.inr ⟨by rfl, Or.inl ?_⟩) ?_
            rotate_left
            · intro wx hx
              obtain ⟨z0, z1, z2, z3, z4, z5⟩ := Hs.out wx hx
              go_simp
              try with_reducible rfl
            try simp only [Act.put, List.setIfInBounds_toArray, List.set_cons_zero, List.set_cons_succ]
            refine Chain.step (v := ?_) rfl (Or.inr ⟨by rfl, Or.inl ?_⟩) ?_
            rotate_left
            · intro wx hx
              obtain ⟨z0, z1, z2, z3, z4, z5⟩ := Hs.out wx hx
              go_simp
              try with_reducible rfl
            try simp only [Act.put, List.setIfInBounds_toArray, List.set_cons_zero, List.set_cons_succ]
            refine Chain.step (v := _) rfl (Or.inr ⟨by rfl, Or.inr ⟨64, #[.agg #[.int .i64 ax, .int .i64 ay], .agg #[.int .i64 bx, .int .i64 bz], .agg #[.int .i64 sx, .int .i64 sy]], fun wx hx => ⟨?_, by with_reducible exact ((Cb.out wx).mono (fun e w' h => ⟨h.1, hx.bl h.2⟩))⟩⟩⟩) ?_
            · go_simp
              try with_reducible rfl
            try simp only [Act.put, List.setIfInBounds_toArray, List.set_cons_zero, List.set_cons_succ]
            refine Chain.step (v := ?_) rfl (Or.inr ⟨by rfl, Or.inl ?_⟩) ?_
            rotate_left
            · intro wx hx
              obtain ⟨z0, z1, z2, z3, z4, z5⟩ := Hs.out wx hx
              go_simp
              try with_reducible rfl
            try simp only [Act.put, List.setIfInBounds_toArray, List.set_cons_zero, List.set_cons_succ]
            refine Chain.step (v := ?_) rfl (Or.inr ⟨by rfl, Or.inl ?_⟩) ?_
            rotate_left
            · intro wx hx
              obtain ⟨z0, z1, z2, z3, z4, z5⟩ := Hs.out wx hx
              go_simp
              try with_reducible rfl
            try simp only [Act.put, List.setIfInBounds_toArray, List.set_cons_zero, List.set_cons_succ]
            intro w5 hw5
            have V5 := V0.bl hw5.below
            clear hw5
            have hnew := Hsuc.out j hst hjT.out
            have hlj : (L.take j).length = j := by rw [List.length_take, En.out]; omega
            have Oj := (O1.bl V5.below).take (j := j) (by rw [En.out]; exact hj)
            have U5 := U.bl V5.below
            have ho : w5.ownsRow w.heap.size 28 2 (.slice (some ⟨g, 0, none⟩) j d) j (spotCells (L.take j)) := by
              obtain ⟨_, _, _, ho⟩ := Oj
              rwa [hlj] at ho
            have hsz := U5.size
            have Bv := Bx.bl V5.below
            have b0 := Bv.cell 0 rfl
            have b1 := Bv.cell 1 rfl
            have hlen : (Hull.outL l (k + 1)).length = j + 1 := by rw [hnew, List.length_append, hlj]; rfl
            clear Oj
            have Hnew := Lib.hid hnew; clear hnew
            have Hlj := Lib.hid hlj; clear hlj
            have Hst := Lib.hid hst; clear hst
            have Hlen := Lib.hid hlen; clear hlen
            go_wp2_with (at_builtin; refine wpList_push rfl _ _ 33 rfl w.heap.size 28 (.agg #[.int .i64 0, .int .i64 0]) 2 16 Try.underlying33 info_spot rfl (by decide) (.slice (some ⟨g, 0, none⟩) j d) j _ rfl ho _ 1 rfl rfl (one_spot _ _) (by omega) (by simp [maxLen]; omega) hsz ?_; intro g' cap w2 hown2 hgr hat hlt2)
            have r3 : ChRel l w w2 (.slice (some ⟨g', 0, none⟩) (j + 1) cap) (k + 1) := by
              refine ⟨⟨g', cap, by rw [Hlen.out], ⟨some ⟨g', 0, none⟩, cap, by rw [Hlen.out], ?_⟩⟩, ⟨below_own U5.below hgr (own_ge ho) hsz⟩⟩
              rw [Hlen.out, Hnew.out, spotCells_snoc]
              exact hown2
            clear hown2 hgr hat
            have R3 := Lib.hid r3; clear r3
            go_wp2
            go_roundw
            case rel => exact ⟨k + 1, by omega, by go_num, R3.out⟩
            case measure => simp [intOf]; omega
        · have h1j : ¬ 1 < (j : Int) := by omega
          have hst := Hull.tkP_le (O := L) (s := (sx, sy)) (show j ≤ 1 by omega)
          have V0 := V.bl (bl_drew wr)
          go_upto_region 5 with (fail)
          refine wp_region_calm (S := Since (wr.drew)) 12 (rs := [0, 1, 2, 3, 4, 5, 6, 7, 8, 9, 10, 11, 12, 13, 14, 15, 16, 17, 18, 19]) rfl rfl (by kernel_rfl) (by kernel_rfl) (Since.refl _) ?_
          refine Chain.step (v := ?_) rfl (Or.inr ⟨by rfl, Or.inl ?_⟩) ?_
          rotate_left
          · intro wx hx
            skip
            go_simp
            try with_reducible rfl
          try simp only [Act.put, List.setIfInBounds_toArray, List.set_cons_zero, List.set_cons_succ]
          refine Chain.step (v := ?_) rfl (Or.inr ⟨by rfl, Or.inl ?_⟩) ?_
          rotate_left
          · intro wx hx
            skip
            go_simp
            try with_reducible rfl
          try simp only [Act.put, List.setIfInBounds_toArray, List.set_cons_zero, List.set_cons_succ]
          refine Chain.step (v := ?_) rfl (Or.inr ⟨by rfl, Or.inl ?_⟩) ?_
          rotate_left
          · intro wx hx
            skip
            go_simp
            try with_reducible rfl
          try simp only [Act.put, List.setIfInBounds_toArray, List.set_cons_zero, List.set_cons_succ]
          refine Chain.step (v := ?_) rfl (Or.inr ⟨by rfl, Or.inl ?_⟩) ?_
          rotate_left
          · intro wx hx
            skip
            go_simp
            try with_reducible rfl
          try simp only [Act.put, List.setIfInBounds_toArray, List.set_cons_zero, List.set_cons_succ]
          refine Chain.step rfl (Or.inl ⟨by rfl, rfl⟩) ?_
          try simp only [Act.put, List.setIfInBounds_toArray, List.set_cons_zero, List.set_cons_succ]
          refine Chain.step rfl (Or.inl ⟨by rfl, rfl⟩) ?_
          try simp only [Act.put, List.setIfInBounds_toArray, List.set_cons_zero, List.set_cons_succ]
          refine Chain.step rfl (Or.inl ⟨by rfl, rfl⟩) ?_
          try simp only [Act.put, List.setIfInBounds_toArray, List.set_cons_zero, List.set_cons_succ]
          refine Chain.step rfl (Or.inl ⟨by rfl, rfl⟩) ?_
          try simp only [Act.put, List.setIfInBounds_toArray, List.set_cons_zero, List.set_cons_succ]
          refine Chain.step rfl (Or.inl ⟨by rfl, rfl⟩) ?_
          try simp only [Act.put, List.setIfInBounds_toArray, List.set_cons_zero, List.set_cons_succ]
          refine Chain.step rfl (Or.inl ⟨by rfl, rfl⟩) ?_
          try simp only [Act.put, List.setIfInBounds_toArray, List.set_cons_zero, List.set_cons_succ]
          refine Chain.step rfl (Or.inl ⟨by rfl, rfl⟩) ?_
          try simp only [Act.put, List.setIfInBounds_toArray, List.set_cons_zero, List.set_cons_succ]
          refine Chain.step rfl (Or.inl ⟨by rfl, rfl⟩) ?_
          try simp only [Act.put, List.setIfInBounds_toArray, List.set_cons_zero, List.set_cons_succ]
          refine Chain.step rfl (Or.inl ⟨by rfl, rfl⟩) ?_
          try simp only [Act.put, List.setIfInBounds_toArray, List.set_cons_zero, List.set_cons_succ]
          refine Chain.step rfl (Or.inl ⟨by rfl, rfl⟩) ?_
          try simp only [Act.put, List.setIfInBounds_toArray, List.set_cons_zero, List.set_cons_succ]
          refine Chain.step rfl (Or.inl ⟨by rfl, rfl⟩) ?_
          try simp only [Act.put, List.setIfInBounds_toArray, List.set_cons_zero, List.set_cons_succ]
          refine Chain.step rfl (Or.inl ⟨by rfl, rfl⟩) ?_
          try simp only [Act.put, List.setIfInBounds_toArray, List.set_cons_zero, List.set_cons_succ]
          refine Chain.step rfl (Or.inl ⟨by rfl, rfl⟩) ?_
          try simp only [Act.put, List.setIfInBounds_toArray, List.set_cons_zero, List.set_cons_succ]
          refine Chain.step rfl (Or.inl ⟨by rfl, rfl⟩) ?_
          try simp only [Act.put, List.setIfInBounds_toArray, List.set_cons_zero, List.set_cons_succ]
          refine Chain.step rfl (Or.inl ⟨by rfl, rfl⟩) ?_
          try simp only [Act.put, List.setIfInBounds_toArray, List.set_cons_zero, List.set_cons_succ]
          refine Chain.step (v := ?_) rfl (Or.inr ⟨by rfl, Or.inl ?_⟩) ?_
          rotate_left
          · intro wx hx
            skip
            go_simp
            try with_reducible rfl
          try simp only [Act.put, List.setIfInBounds_toArray, List.set_cons_zero, List.set_cons_succ]
          intro w5 hw5
          have V5 := V0.bl hw5.below
          clear hw5
          have hnew := Hsuc.out j hst hjT.out
          have hlj : (L.take j).length = j := by rw [List.length_take, En.out]; omega
          have Oj := (O1.bl V5.below).take (j := j) (by rw [En.out]; exact hj)
          have U5 := U.bl V5.below
          have ho : w5.ownsRow w.heap.size 28 2 (.slice (some ⟨g, 0, none⟩) j d) j (spotCells (L.take j)) := by
            obtain ⟨_, _, _, ho⟩ := Oj
            rwa [hlj] at ho
          have hsz := U5.size
          have Bv := Bx.bl V5.below
          have b0 := Bv.cell 0 rfl
          have b1 := Bv.cell 1 rfl
          have hlen : (Hull.outL l (k + 1)).length = j + 1 := by rw [hnew, List.length_append, hlj]; rfl
          clear Oj
          have Hnew := Lib.hid hnew; clear hnew
          have Hlj := Lib.hid hlj; clear hlj
          have Hst := Lib.hid hst; clear hst
          have Hlen := Lib.hid hlen; clear hlen
          go_wp2_with (at_builtin; refine wpList_push rfl _ _ 33 rfl w.heap.size 28 (.agg #[.int .i64 0, .int .i64 0]) 2 16 Try.underlying33 info_spot rfl (by decide) (.slice (some ⟨g, 0, none⟩) j d) j _ rfl ho _ 1 rfl rfl (one_spot _ _) (by omega) (by simp [maxLen]; omega) hsz ?_; intro g' cap w2 hown2 hgr hat hlt2)
          have r3 : ChRel l w w2 (.slice (some ⟨g', 0, none⟩) (j + 1) cap) (k + 1) := by
            refine ⟨⟨g', cap, by rw [Hlen.out], ⟨some ⟨g', 0, none⟩, cap, by rw [Hlen.out], ?_⟩⟩, ⟨below_own U5.below hgr (own_ge ho) hsz⟩⟩
            rw [Hlen.out, Hnew.out, spotCells_snoc]
            exact hown2
          clear hown2 hgr hat
          have R3 := Lib.hid r3; clear r3
          go_wp2
          go_roundw
          case rel => exact ⟨k + 1, by omega, by go_num, R3.out⟩
          case measure => simp [intOf]; omega
    · obtain rfl : k = l.length := by omega
      have hpos : 0 < L.length := by
        obtain ⟨m, hm⟩ : ∃ m, l.length = m + 1 := ⟨l.length - 1, by omega⟩
        have := Hull.outL_pos (l := l) (k := m) (by omega)
        rw [← hm, eL] at this
        exact this
      obtain ⟨q1, eq1⟩ : ∃ q, n - 1 = q := ⟨_, rfl⟩
      obtain ⟨-, hgB, hnd, hdm, -⟩ := O.cells
      have hwq1 : IntKind.i64.wrap ((n : Int) - 1) = (q1 : Int) := by rw [IntWalk.i64_in _ (by omega)]; omega
      have hq10 : (0 : Int) ≤ (q1 : Int) := Int.natCast_nonneg _
      have hq1d : (q1 : Int) ≤ (d : Int) := by omega
      have he : (Hull.chainS l).reverse.dropLast = L.take q1 := by rw [← Hull.outL_all, eL, List.dropLast_eq_take, en, eq1]
      have hlq : (L.take q1).length = q1 := by rw [List.length_take, en]; omega
      have Oj := O.take (j := q1) (by omega)
      have S5 := r.since
      clear r O
      have oj := Oj
      clear Oj
      have Oj := Lib.hid oj; clear oj
      have He := Lib.hid he; clear he
      have Hlq := Lib.hid hlq; clear hlq
      have EL := Lib.hid eL; clear eL
      go_wp2
      go_ret
      exact ⟨g, d, by rw [He.out, Hlq.out]; rfl, by rw [He.out, Hlq.out]; exact Oj.out, S5.below⟩
end Go.Proofs.Ytjplikkehhpomaa
