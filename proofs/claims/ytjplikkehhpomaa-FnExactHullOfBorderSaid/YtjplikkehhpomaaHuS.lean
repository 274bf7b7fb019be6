/- Contract of the reference's HullOfBorder. -/
import Derived.Test.YtjplikkehhpomaaHuL
import Derived.Test.YtjplikkehhpomaaHuC
import Derived.Test.YtjplikkehhpomaaHuCat
import Derived.Test.YtjplikkehhpomaaLawBd
set_option linter.unusedVariables false
set_option linter.unusedSimpArgs false
namespace Go.Proofs.Ytjplikkehhpomaa
open Go.RowKit

theorem Since.setH {w a : World} (h : Since w a) {p : Addr} (hb : w.heap.size ≤ p.block) (v : Value) : Since w (a.setCell p v) := ⟨h.below.setCell hb _⟩
noncomputable def hulS (x y : Int) (s : ByteArray) : List (Int × Int) := if bdB x y s then hulR (cornN x y s s.size) else []
theorem ite_two {P Q : Prop} [Decidable P] [Decidable Q] {α : Type} {a b : α} (h : ¬ (P ∧ Q)) : (if P then if Q then a else b else b) = b := by
  split
  · split
    · rename_i h1 h2; exact absurd ⟨h1, h2⟩ h
    · rfl
  · rfl
/-- What the scan of the first i corners has chosen. -/
def scanP (C : List (Int × Int)) (p : Int × Int) (i : Nat) : Int × Int := (C.take i).foldl (Hull.stepF p) p
theorem scanP_succ {C : List (Int × Int)} (p : Int × Int) {i : Nat} (h : i < C.length) : scanP C p (i + 1) = Hull.stepF p (scanP C p i) (C.getD i (0, 0)) := by
  unfold scanP
  rw [spots_take h, List.foldl_append]
  rfl
theorem scanP_all (C : List (Int × Int)) (p : Int × Int) : scanP C p C.length = Hull.scanF p C := by
  unfold scanP Hull.scanF
  rw [List.take_length]
theorem stepF_in {C : List (Int × Int)} {p n c : Int × Int} (hn : n ∈ C) (hc : c ∈ C) : Hull.stepF p n c ∈ C := by
  unfold Hull.stepF
  split
  · exact hn
  · split
    · exact hc
    · exact hn
theorem scanP_in {C : List (Int × Int)} {p : Int × Int} (hp : p ∈ C) : ∀ i, i ≤ C.length → scanP C p i ∈ C
  | 0, _ => hp
  | i + 1, h => by
    rw [scanP_succ p (by omega)]
    exact stepF_in (scanP_in hp i (by omega)) (getD_memS (by omega))
theorem OwnSpots.otherH {B : Nat} {w : World} {v : Value} {l : List (Int × Int)} (h : OwnSpots B w v l) {a : Addr} (ha : ∀ k, v.ownBlock = some k → k ≠ a.block) (u : Value) : OwnSpots B (w.setCell a u) v l := by
  obtain ⟨p, c, hv, ho⟩ := h
  exact ⟨p, c, hv, own_other ho (fun e => ha _ e.symm rfl) u⟩
/-- Where the round of the hull stands: k corners are told. -/
structure GwRel (R : List (Int × Int)) (m : Int × Int) (tf ta : Nat) (w2 wr : World) (v : Value) (k : Nat) : Prop where
  own : ∃ g d, v = .slice (some ⟨g, 0, none⟩) k d ∧ OwnSpots (tf + 1) wr v (R.take k) ∧ g ≠ ta
  here : Blk wr ta #[.int .i64 (R.getD k (0, 0)).1, .int .i64 (R.getD k (0, 0)).2] 28
  first : Blk wr tf #[.int .i64 m.1, .int .i64 m.2] 28
  since : Since w2 wr
set_option maxRecDepth 100000 in
set_option maxHeartbeats 16000000 in
theorem sHull_any (x y : Int) (s : ByteArray) (w : World) (hs : s.size ≤ maxLen) (hsm : small (x, y)) :
    Calls Try.prog 13 #[.agg #[.int .i64 x, .int .i64 y, .string s]] w fun e w' => ∃ v, e = .returned (.tuple #[v, .bool (bdB x y s)]) ∧ OwnSpots w.heap.size w' v (hulS x y s) ∧ Below w.heap.size w w' := by
  have B := Blk.new w #[.int .i64 x, .int .i64 y, .string s] 30
  have S := (Since.refl w).alloc (.cells #[.int .i64 x, .int .i64 y, .string s] 30)
  have c := l04Is_any w.heap.size x y s (w.alloc (.cells #[.int .i64 x, .int .i64 y, .string s] 30)) hs hsm B
  cases hbd : bdB x y s
  · rw [hbd] at c
    have hA : hulS x y s = [] := by simp [hulS, hbd]
    have C := Lib.hid c; clear c
    have Hbd := Lib.hid hbd; clear hbd
    have HA := Lib.hid hA; clear hA
    go_enter Try.func13, Try.ntmps13
    go_wp2_with fail
    refine C.out.mono ?_
    rintro e w1 ⟨rfl, hb⟩
    go_wp2
    go_ret2
    exact ⟨_, rfl, by rw [HA.out]; exact OwnSpots.nil _ _, (S.bl hb).below⟩
  · rw [hbd] at c
    have bd := bdB_iff.1 hbd
    have hA : hulS x y s = hulR (cornN x y s s.size) := by simp [hulS, hbd]
    have c2 := fun w1 (B1 : Blk w1 w.heap.size #[.int .i64 x, .int .i64 y, .string s] 30) => l04Corners_any w.heap.size x y s w1 bd B1
    have hcn := cornN_len x y s s.size
    have hcr := (cornN_round bd).1
    have hhi := bd.hi
    have hin := cornN_inC bd
    have hG := hul_gift bd
    have hRl := hulR_len (cornN x y s s.size)
    obtain ⟨L, eL⟩ : ∃ C, cornN x y s s.size = C := ⟨_, rfl⟩
    simp only [eL] at c2 hcn hcr hin hA hG hRl
    obtain ⟨R, eR⟩ : ∃ R, hulR L = R := ⟨_, rfl⟩
    rw [eR] at hA hG hRl
    obtain ⟨n, en⟩ : ∃ n, L.length = n := ⟨_, rfl⟩
    rw [en] at hcn hcr hG hRl
    have hm0 : minS L 0 = L.getD 0 (0, 0) := rfl
    have C := Lib.hid c; clear c
    have Hbd := Lib.hid hbd; clear hbd
    have HA := Lib.hid hA; clear hA
    have Bd := Lib.hid bd; clear bd
    have C2 := Lib.hid c2; clear c2
    have Hin := Lib.hid hin; clear hin
    have HG := Lib.hid hG; clear hG
    have EL := Lib.hid eL; clear eL
    have ER := Lib.hid eR; clear eR
    have Hm0 := Lib.hid hm0; clear hm0
    go_enter Try.func13, Try.ntmps13
    go_wp2_with fail
    refine C.out.mono ?_
    rintro e w1 ⟨rfl, hb⟩
    replace S := S.bl hb
    replace B := B.bl hb
    clear hb
    go_wp2_with fail
    refine (C2.out _ B).mono ?_
    rintro e w2 ⟨v, rfl, own, hb2⟩
    have hs1 := S.size
    replace S := S.bl hb2
    have hs2 := S.size
    obtain ⟨q, cv, rfl⟩ := own.form
    have Rc := own.rd
    rw [en] at Rc
    obtain ⟨qb, qo, rfl, hqb, -⟩ := Rc.at (k := 0) (by omega)
    clear hb2 B own
    simp only [en]
    have hcl : ∀ wx, Since w2 wx → ∀ i, i < n → wx.cell? ⟨qb, qo + i * 2, none⟩ = some (.int .i64 (L.getD i (0, 0)).1) ∧ wx.cell? ⟨qb, qo + i * 2 + 1, none⟩ = some (.int .i64 (L.getD i (0, 0)).2) := fun wx hx i hi => by
      obtain ⟨_, _, eP, -, hc⟩ := (Rc.bl hx.below).at (k := 0) (by omega)
      cases eP
      have h0 := hc (i * 2) (by omega)
      have h1 := hc (i * 2 + 1) (by omega)
      rw [spotAt_x] at h0
      rw [spotAt_y, ← Nat.add_assoc] at h1
      exact ⟨h0, h1⟩
    obtain ⟨a0, a1⟩ := hcl w2 (Since.refl w2) 0 (by omega)
    simp only [Nat.zero_mul, Nat.add_zero] at a0 a1
    rw [← Hm0.out] at a0 a1
    have hn0 : (0 : Int) < (n : Int) := by omega
    obtain ⟨⟨fx, fy⟩, ef⟩ : ∃ f, minS L 0 = f := ⟨_, rfl⟩
    rw [ef] at a0 a1
    dsimp only at a0 a1
    have F0 := Blk.new w2 #[.int .i64 fx, .int .i64 fy] 28
    have U0 := (Since.refl w2).alloc (.cells #[.int .i64 fx, .int .i64 fy] 28)
    have f0' : Blk (w2.alloc (.cells #[.int .i64 fx, .int .i64 fy] 28)) w2.heap.size #[.int .i64 (minS L 0).1, .int .i64 (minS L 0).2] 28 := by rw [ef]; exact F0
    clear F0 Rc
    have Hcl := Lib.hid hcl; clear hcl
    have Ef := Lib.hid ef; clear ef
    have F0' := Lib.hid f0'; clear f0'
    go_wp2
    generalize w2.alloc (.cells #[.int .i64 fx, .int .i64 fy] 28) = w4 at *
    clear a0 a1
    go_loopw [6] (fun i wr => ∃ k : Nat, k ≤ n ∧ i = .int .i64 k ∧ Blk wr w2.heap.size #[.int .i64 (minS L k).1, .int .i64 (minS L k).2] 28 ∧ Since w2 wr) (fun i _ => n - (intOf i).toNat)
    case atStart => exact ⟨0, Nat.zero_le _, rfl, F0'.out, U0⟩
    case round =>
      clear F0'
      obtain ⟨k, hk, rfl, F, V⟩ := hrel
      have hk00 : (0 : Int) ≤ (k : Int) := Int.natCast_nonneg _
      by_cases hlt : k < n
      ·
        as_aux_lemma =>
          have hkn : (k : Int) < (n : Int) := by omega
          have hwk : IntKind.i64.wrap ((k : Int) + 1) = (k : Int) + 1 := IntWalk.i64_in _ (by omega)
          have hsu := minS_succ L k
          have hs : ∀ wx, Since wr.drew wx → (wx.cell? ⟨qb, qo + k * 2, none⟩ = some (.int .i64 (L.getD k (0, 0)).1) ∧ wx.cell? ⟨qb, qo + k * 2 + 1, none⟩ = some (.int .i64 (L.getD k (0, 0)).2)) ∧ wx.cell? ⟨w2.heap.size, 0, none⟩ = some (.int .i64 (minS L k).1) ∧ wx.cell? ⟨w2.heap.size, 1, none⟩ = some (.int .i64 (minS L k).2) := fun wx hx => by
            have hv := (V.bl (bl_drew wr)).bl hx.below
            have hf := (F.bl (bl_drew wr)).bl hx.below
            exact ⟨Hcl.out wx hv k hlt, hf.cell 0 rfl, hf.cell 1 rfl⟩
          obtain ⟨⟨cx, cy⟩, ec⟩ : ∃ c, L.getD k (0, 0) = c := ⟨_, rfl⟩
          obtain ⟨⟨mx, my⟩, em⟩ : ∃ c, minS L k = c := ⟨_, rfl⟩
          rw [ec, em] at hsu
          rw [em] at F
          simp only [ec, em] at hs
          dsimp only at F
          by_cases h1 : cy < my
          · rw [if_pos (show Hull.yx (cx, cy) (mx, my) from Or.inl h1)] at hsu
            have Hs := Lib.hid hs; clear hs
            have Hsu := Lib.hid hsu; clear hsu
            have Ec := Lib.hid ec; clear ec
            have Em := Lib.hid em; clear em
            go_upto_region 8 with (fail)
            refine wp_region_calm (S := Since (wr.drew)) 12 (rs := [0, 1, 2, 3, 4, 5, 6, 7, 8, 9, 10, 11, 12, 13, 14, 15, 16, 17, 18, 19, 20, 21, 22, 23, 24, 25, 26, 27]) rfl rfl (by kernel_rfl) (by kernel_rfl) (Since.refl _) ?_
            refine Chain.step (v := ?_) rfl (Or.inr ⟨by rfl, Or.inl ?_⟩) ?_
            rotate_left
            · intro wx hx
              obtain ⟨⟨z0, z1⟩, z2, z3⟩ := Hs.out wx hx
              go_simp
              try with_reducible rfl
            try simp only [Act.put, List.setIfInBounds_toArray, List.set_cons_zero, List.set_cons_succ]
            refine Chain.step (v := ?_) rfl (Or.inr ⟨by rfl, Or.inl ?_⟩) ?_
            rotate_left
            · intro wx hx
              obtain ⟨⟨z0, z1⟩, z2, z3⟩ := Hs.out wx hx
              go_simp
              try with_reducible rfl
            try simp only [Act.put, List.setIfInBounds_toArray, List.set_cons_zero, List.set_cons_succ]
            refine Chain.step (v := ?_) rfl (Or.inr ⟨by rfl, Or.inl ?_⟩) ?_
            rotate_left
            · intro wx hx
              obtain ⟨⟨z0, z1⟩, z2, z3⟩ := Hs.out wx hx
              go_simp
              try with_reducible rfl
            try simp only [Act.put, List.setIfInBounds_toArray, List.set_cons_zero, List.set_cons_succ]
            refine Chain.step (v := ?_) rfl (Or.inr ⟨by rfl, Or.inl ?_⟩) ?_
            rotate_left
            · intro wx hx
              obtain ⟨⟨z0, z1⟩, z2, z3⟩ := Hs.out wx hx
              go_simp
              try with_reducible rfl
            try simp only [Act.put, List.setIfInBounds_toArray, List.set_cons_zero, List.set_cons_succ]
            refine Chain.step (v := ?_) rfl (Or.inr ⟨by rfl, Or.inl ?_⟩) ?_
            rotate_left
            · intro wx hx
              obtain ⟨⟨z0, z1⟩, z2, z3⟩ := Hs.out wx hx
              go_simp
              try with_reducible rfl
            try simp only [Act.put, List.setIfInBounds_toArray, List.set_cons_zero, List.set_cons_succ]
            refine Chain.step (v := ?_) rfl (Or.inr ⟨by rfl, Or.inl ?_⟩) ?_
            rotate_left
            · intro wx hx
              obtain ⟨⟨z0, z1⟩, z2, z3⟩ := Hs.out wx hx
              go_simp
              try with_reducible rfl
            try simp only [Act.put, List.setIfInBounds_toArray, List.set_cons_zero, List.set_cons_succ]
            refine Chain.step (v := ?_) rfl (Or.inr ⟨by rfl, Or.inl ?_⟩) ?_
            rotate_left
            · intro wx hx
              obtain ⟨⟨z0, z1⟩, z2, z3⟩ := Hs.out wx hx
              go_simp
              try with_reducible rfl
            try simp only [Act.put, List.setIfInBounds_toArray, List.set_cons_zero, List.set_cons_succ]
            refine Chain.step (v := ?_) rfl (Or.inr ⟨by rfl, Or.inl ?_⟩) ?_
            rotate_left
            · intro wx hx
              obtain ⟨⟨z0, z1⟩, z2, z3⟩ := Hs.out wx hx
              go_simp
              try with_reducible rfl
            try simp only [Act.put, List.setIfInBounds_toArray, List.set_cons_zero, List.set_cons_succ]
            refine Chain.step (v := ?_) rfl (Or.inr ⟨by rfl, Or.inl ?_⟩) ?_
            rotate_left
            · intro wx hx
              obtain ⟨⟨z0, z1⟩, z2, z3⟩ := Hs.out wx hx
              go_simp
              try with_reducible rfl
            try simp only [Act.put, List.setIfInBounds_toArray, List.set_cons_zero, List.set_cons_succ]
            refine Chain.step rfl (Or.inl ⟨by rfl, rfl⟩) ?_
            try simp only [Act.put, List.setIfInBounds_toArray, List.set_cons_zero, List.set_cons_succ]
            refine Chain.step rfl (Or.inl ⟨by rfl, rfl⟩) ?_
            try simp only [Act.put, List.setIfInBounds_toArray, List.set_cons_zero, List.set_cons_succ]
            refine Chain.step rfl (Or.inl ⟨by rfl, rfl⟩) ?_
            try simp only [Act.put, List.setIfInBounds_toArray, List.set_cons_zero, List.set_cons_succ]
            refine Chain.step rfl (Or.inl ⟨by rfl, rfl⟩) ?_
            try simp only [Act.put, List.setIfInBounds_toArray, List.set_cons_zero, List.set_cons_succ]
            refine Chain.step rfl (Or.inl ⟨by rfl, rfl⟩) ?_
            try simp only [Act.put, List.setIfInBounds_toArray, List.set_cons_zero, List.set_cons_succ]
            refine Chain.step rfl (Or.inl ⟨by rfl, rfl⟩) ?_
            try simp only [Act.put, List.setIfInBounds_toArray, List.set_cons_zero, List.set_cons_succ]
            refine Chain.step rfl (Or.inl ⟨by rfl, rfl⟩) ?_
            try simp only [Act.put, List.setIfInBounds_toArray, List.set_cons_zero, List.set_cons_succ]
            refine Chain.step rfl (Or.inl ⟨by rfl, rfl⟩) ?_
            try simp only [Act.put, List.setIfInBounds_toArray, List.set_cons_zero, List.set_cons_succ]
            refine Chain.step rfl (Or.inl ⟨by rfl, rfl⟩) ?_
            try simp only [Act.put, List.setIfInBounds_toArray, List.set_cons_zero, List.set_cons_succ]
            refine Chain.step rfl (Or.inl ⟨by rfl, rfl⟩) ?_
            try simp only [Act.put, List.setIfInBounds_toArray, List.set_cons_zero, List.set_cons_succ]
            refine Chain.step rfl (Or.inl ⟨by rfl, rfl⟩) ?_
            try simp only [Act.put, List.setIfInBounds_toArray, List.set_cons_zero, List.set_cons_succ]
            refine Chain.step rfl (Or.inl ⟨by rfl, rfl⟩) ?_
            try simp only [Act.put, List.setIfInBounds_toArray, List.set_cons_zero, List.set_cons_succ]
            refine Chain.step rfl (Or.inl ⟨by rfl, rfl⟩) ?_
            try simp only [Act.put, List.setIfInBounds_toArray, List.set_cons_zero, List.set_cons_succ]
            refine Chain.step rfl (Or.inl ⟨by rfl, rfl⟩) ?_
            try simp only [Act.put, List.setIfInBounds_toArray, List.set_cons_zero, List.set_cons_succ]
            refine Chain.step rfl (Or.inl ⟨by rfl, rfl⟩) ?_
            try simp only [Act.put, List.setIfInBounds_toArray, List.set_cons_zero, List.set_cons_succ]
            refine Chain.step rfl (Or.inl ⟨by rfl, rfl⟩) ?_
            try simp only [Act.put, List.setIfInBounds_toArray, List.set_cons_zero, List.set_cons_succ]
            refine Chain.step rfl (Or.inl ⟨by rfl, rfl⟩) ?_
            try simp only [Act.put, List.setIfInBounds_toArray, List.set_cons_zero, List.set_cons_succ]
            refine Chain.step rfl (Or.inl ⟨by rfl, rfl⟩) ?_
            try simp only [Act.put, List.setIfInBounds_toArray, List.set_cons_zero, List.set_cons_succ]
            refine Chain.step (v := ?_) rfl (Or.inr ⟨by rfl, Or.inl ?_⟩) ?_
            rotate_left
            · intro wx hx
              obtain ⟨⟨z0, z1⟩, z2, z3⟩ := Hs.out wx hx
              go_simp
              try with_reducible rfl
            try simp only [Act.put, List.setIfInBounds_toArray, List.set_cons_zero, List.set_cons_succ]
            intro w5 hw5
            have V5 := (V.bl (bl_drew wr)).bl hw5.below
            have F5 := (F.bl (bl_drew wr)).bl hw5.below
            obtain ⟨c0, c1⟩ := Hcl.out w5 V5 k hlt
            rw [Ec.out] at c0 c1
            dsimp only at c0 c1
            have q0 := F5.cell 0 rfl
            have q1 := F5.cell 1 rfl
            have p0 := F5.frozen 0
            have p1 := F5.frozen 1
            have F6 : Blk ((w5.setCell ⟨w2.heap.size, 0, none⟩ (.int .i64 cx)).setCell ⟨w2.heap.size, 1, none⟩ (.int .i64 cy)) w2.heap.size #[.int .i64 cx, .int .i64 cy] 28 := (F5.set 0 (.int .i64 cx)).set 1 (.int .i64 cy)
            have V6 := (V5.setH (p := ⟨w2.heap.size, 0, none⟩) (Nat.le_refl _) (.int .i64 cx)).setH (p := ⟨w2.heap.size, 1, none⟩) (Nat.le_refl _) (.int .i64 cy)
            clear hw5
            go_wp2
            go_roundw
            case rel => exact ⟨k + 1, by omega, by go_num, by rw [Hsu.out]; exact F6, V6⟩
            case measure => simp [intOf]; omega
          · by_cases h2 : cy = my
            · subst h2
              by_cases h3 : cx < mx
              · rw [if_pos (show Hull.yx (cx, cy) (mx, cy) from Or.inr ⟨rfl, h3⟩)] at hsu
                have Hs := Lib.hid hs; clear hs
                have Hsu := Lib.hid hsu; clear hsu
                have Ec := Lib.hid ec; clear ec
                have Em := Lib.hid em; clear em
                go_upto_region 8 with (fail)
                refine wp_region_calm (S := Since (wr.drew)) 12 (rs := [0, 1, 2, 3, 4, 5, 6, 7, 8, 9, 10, 11, 12, 13, 14, 15, 16, 17, 18, 19, 20, 21, 22, 23, 24, 25, 26, 27]) rfl rfl (by kernel_rfl) (by kernel_rfl) (Since.refl _) ?_
                refine Chain.step (v := ?_) rfl (Or.inr ⟨by rfl, Or.inl ?_⟩) ?_
                rotate_left
                · intro wx hx
                  obtain ⟨⟨z0, z1⟩, z2, z3⟩ := Hs.out wx hx
                  go_simp
                  try with_reducible rfl
                try simp only [Act.put, List.setIfInBounds_toArray, List.set_cons_zero, List.set_cons_succ]
                refine Chain.step (v := ?_) rfl (Or.inr ⟨by rfl, Or.inl ?_⟩) ?_
                rotate_left
                · intro wx hx
                  obtain ⟨⟨z0, z1⟩, z2, z3⟩ := Hs.out wx hx
                  go_simp
                  try with_reducible rfl
                try simp only [Act.put, List.setIfInBounds_toArray, List.set_cons_zero, List.set_cons_succ]
                refine Chain.step (v := ?_) rfl (Or.inr ⟨by rfl, Or.inl ?_⟩) ?_
                rotate_left
                · intro wx hx
                  obtain ⟨⟨z0, z1⟩, z2, z3⟩ := Hs.out wx hx
                  go_simp
                  try with_reducible rfl
                try simp only [Act.put, List.setIfInBounds_toArray, List.set_cons_zero, List.set_cons_succ]
                refine Chain.step (v := ?_) rfl (Or.inr ⟨by rfl, Or.inl ?_⟩) ?_
                rotate_left
                · intro wx hx
                  obtain ⟨⟨z0, z1⟩, z2, z3⟩ := Hs.out wx hx
                  go_simp
                  try with_reducible rfl
                try simp only [Act.put, List.setIfInBounds_toArray, List.set_cons_zero, List.set_cons_succ]
                refine Chain.step (v := ?_) rfl (Or.inr ⟨by rfl, Or.inl ?_⟩) ?_
                rotate_left
                · intro wx hx
                  obtain ⟨⟨z0, z1⟩, z2, z3⟩ := Hs.out wx hx
                  go_simp
                  try with_reducible rfl
                try simp only [Act.put, List.setIfInBounds_toArray, List.set_cons_zero, List.set_cons_succ]
                refine Chain.step (v := ?_) rfl (Or.inr ⟨by rfl, Or.inl ?_⟩) ?_
                rotate_left
                · intro wx hx
                  obtain ⟨⟨z0, z1⟩, z2, z3⟩ := Hs.out wx hx
                  go_simp
                  try with_reducible rfl
                try simp only [Act.put, List.setIfInBounds_toArray, List.set_cons_zero, List.set_cons_succ]
                refine Chain.step (v := ?_) rfl (Or.inr ⟨by rfl, Or.inl ?_⟩) ?_
                rotate_left
                · intro wx hx
                  obtain ⟨⟨z0, z1⟩, z2, z3⟩ := Hs.out wx hx
                  go_simp
                  try with_reducible rfl
                try simp only [Act.put, List.setIfInBounds_toArray, List.set_cons_zero, List.set_cons_succ]
                refine Chain.step (v := ?_) rfl (Or.inr ⟨by rfl, Or.inl ?_⟩) ?_
                rotate_left
                · intro wx hx
                  obtain ⟨⟨z0, z1⟩, z2, z3⟩ := Hs.out wx hx
                  go_simp
                  try with_reducible rfl
                try simp only [Act.put, List.setIfInBounds_toArray, List.set_cons_zero, List.set_cons_succ]
                refine Chain.step (v := ?_) rfl (Or.inr ⟨by rfl, Or.inl ?_⟩) ?_
                rotate_left
                · intro wx hx
                  obtain ⟨⟨z0, z1⟩, z2, z3⟩ := Hs.out wx hx
                  go_simp
                  try with_reducible rfl
                try simp only [Act.put, List.setIfInBounds_toArray, List.set_cons_zero, List.set_cons_succ]
                refine Chain.step (v := ?_) rfl (Or.inr ⟨by rfl, Or.inl ?_⟩) ?_
                rotate_left
                · intro wx hx
                  obtain ⟨⟨z0, z1⟩, z2, z3⟩ := Hs.out wx hx
                  go_simp
                  try with_reducible rfl
                try simp only [Act.put, List.setIfInBounds_toArray, List.set_cons_zero, List.set_cons_succ]
                refine Chain.step (v := ?_) rfl (Or.inr ⟨by rfl, Or.inl ?_⟩) ?_
                rotate_left
                · intro wx hx
                  obtain ⟨⟨z0, z1⟩, z2, z3⟩ := Hs.out wx hx
                  go_simp
                  try with_reducible rfl
                try simp only [Act.put, List.setIfInBounds_toArray, List.set_cons_zero, List.set_cons_succ]
                refine Chain.step (v := ?_) rfl (Or.inr ⟨by rfl, Or.inl ?_⟩) ?_
                rotate_left
                · intro wx hx
                  obtain ⟨⟨z0, z1⟩, z2, z3⟩ := Hs.out wx hx
                  go_simp
                  try with_reducible rfl
                try simp only [Act.put, List.setIfInBounds_toArray, List.set_cons_zero, List.set_cons_succ]
                refine Chain.step (v := ?_) rfl (Or.inr ⟨by rfl, Or.inl ?_⟩) ?_
                rotate_left
                · intro wx hx
                  obtain ⟨⟨z0, z1⟩, z2, z3⟩ := Hs.out wx hx
                  go_simp
                  try with_reducible rfl
                try simp only [Act.put, List.setIfInBounds_toArray, List.set_cons_zero, List.set_cons_succ]
                refine Chain.step (v := ?_) rfl (Or.inr ⟨by rfl, Or.inl ?_⟩) ?_
                rotate_left
                · intro wx hx
                  obtain ⟨⟨z0, z1⟩, z2, z3⟩ := Hs.out wx hx
                  go_simp
                  try with_reducible rfl
                try simp only [Act.put, List.setIfInBounds_toArray, List.set_cons_zero, List.set_cons_succ]
                refine Chain.step (v := ?_) rfl (Or.inr ⟨by rfl, Or.inl ?_⟩) ?_
                rotate_left
                · intro wx hx
                  obtain ⟨⟨z0, z1⟩, z2, z3⟩ := Hs.out wx hx
                  go_simp
                  try with_reducible rfl
                try simp only [Act.put, List.setIfInBounds_toArray, List.set_cons_zero, List.set_cons_succ]
                refine Chain.step (v := ?_) rfl (Or.inr ⟨by rfl, Or.inl ?_⟩) ?_
                rotate_left
                · intro wx hx
                  obtain ⟨⟨z0, z1⟩, z2, z3⟩ := Hs.out wx hx
                  go_simp
                  try with_reducible rfl
                try simp only [Act.put, List.setIfInBounds_toArray, List.set_cons_zero, List.set_cons_succ]
                refine Chain.step (v := ?_) rfl (Or.inr ⟨by rfl, Or.inl ?_⟩) ?_
                rotate_left
                · intro wx hx
                  obtain ⟨⟨z0, z1⟩, z2, z3⟩ := Hs.out wx hx
                  go_simp
                  try with_reducible rfl
                try simp only [Act.put, List.setIfInBounds_toArray, List.set_cons_zero, List.set_cons_succ]
                refine Chain.step (v := ?_) rfl (Or.inr ⟨by rfl, Or.inl ?_⟩) ?_
                rotate_left
                · intro wx hx
                  obtain ⟨⟨z0, z1⟩, z2, z3⟩ := Hs.out wx hx
                  go_simp
                  try with_reducible rfl
                try simp only [Act.put, List.setIfInBounds_toArray, List.set_cons_zero, List.set_cons_succ]
                refine Chain.step (v := ?_) rfl (Or.inr ⟨by rfl, Or.inl ?_⟩) ?_
                rotate_left
                · intro wx hx
                  obtain ⟨⟨z0, z1⟩, z2, z3⟩ := Hs.out wx hx
                  go_simp
                  try with_reducible rfl
                try simp only [Act.put, List.setIfInBounds_toArray, List.set_cons_zero, List.set_cons_succ]
                refine Chain.step (v := ?_) rfl (Or.inr ⟨by rfl, Or.inl ?_⟩) ?_
                rotate_left
                · intro wx hx
                  obtain ⟨⟨z0, z1⟩, z2, z3⟩ := Hs.out wx hx
                  go_simp
                  try with_reducible rfl
                try simp only [Act.put, List.setIfInBounds_toArray, List.set_cons_zero, List.set_cons_succ]
                refine Chain.step (v := ?_) rfl (Or.inr ⟨by rfl, Or.inl ?_⟩) ?_
                rotate_left
                · intro wx hx
                  obtain ⟨⟨z0, z1⟩, z2, z3⟩ := Hs.out wx hx
                  go_simp
                  try with_reducible rfl
                try simp only [Act.put, List.setIfInBounds_toArray, List.set_cons_zero, List.set_cons_succ]
                refine Chain.step (v := ?_) rfl (Or.inr ⟨by rfl, Or.inl ?_⟩) ?_
                rotate_left
                · intro wx hx
                  obtain ⟨⟨z0, z1⟩, z2, z3⟩ := Hs.out wx hx
                  go_simp
                  try with_reducible rfl
                try simp only [Act.put, List.setIfInBounds_toArray, List.set_cons_zero, List.set_cons_succ]
                refine Chain.step (v := ?_) rfl (Or.inr ⟨by rfl, Or.inl ?_⟩) ?_
                rotate_left
                · intro wx hx
                  obtain ⟨⟨z0, z1⟩, z2, z3⟩ := Hs.out wx hx
                  go_simp
                  try with_reducible rfl
                try simp only [Act.put, List.setIfInBounds_toArray, List.set_cons_zero, List.set_cons_succ]
                refine Chain.step (v := ?_) rfl (Or.inr ⟨by rfl, Or.inl ?_⟩) ?_
                rotate_left
                · intro wx hx
                  obtain ⟨⟨z0, z1⟩, z2, z3⟩ := Hs.out wx hx
                  go_simp
                  try with_reducible rfl
                try simp only [Act.put, List.setIfInBounds_toArray, List.set_cons_zero, List.set_cons_succ]
                refine Chain.step (v := ?_) rfl (Or.inr ⟨by rfl, Or.inl ?_⟩) ?_
                rotate_left
                · intro wx hx
                  obtain ⟨⟨z0, z1⟩, z2, z3⟩ := Hs.out wx hx
                  go_simp
                  try with_reducible rfl
                try simp only [Act.put, List.setIfInBounds_toArray, List.set_cons_zero, List.set_cons_succ]
                refine Chain.step (v := ?_) rfl (Or.inr ⟨by rfl, Or.inl ?_⟩) ?_
                rotate_left
                · intro wx hx
                  obtain ⟨⟨z0, z1⟩, z2, z3⟩ := Hs.out wx hx
                  go_simp
                  try with_reducible rfl
                try simp only [Act.put, List.setIfInBounds_toArray, List.set_cons_zero, List.set_cons_succ]
                refine Chain.step (v := ?_) rfl (Or.inr ⟨by rfl, Or.inl ?_⟩) ?_
                rotate_left
                · intro wx hx
                  obtain ⟨⟨z0, z1⟩, z2, z3⟩ := Hs.out wx hx
                  go_simp
                  try with_reducible rfl
                try simp only [Act.put, List.setIfInBounds_toArray, List.set_cons_zero, List.set_cons_succ]
                refine Chain.step (v := ?_) rfl (Or.inr ⟨by rfl, Or.inl ?_⟩) ?_
                rotate_left
                · intro wx hx
                  obtain ⟨⟨z0, z1⟩, z2, z3⟩ := Hs.out wx hx
                  go_simp
                  try with_reducible rfl
                try simp only [Act.put, List.setIfInBounds_toArray, List.set_cons_zero, List.set_cons_succ]
                intro w5 hw5
                have V5 := (V.bl (bl_drew wr)).bl hw5.below
                have F5 := (F.bl (bl_drew wr)).bl hw5.below
                obtain ⟨c0, c1⟩ := Hcl.out w5 V5 k hlt
                rw [Ec.out] at c0 c1
                dsimp only at c0 c1
                have q0 := F5.cell 0 rfl
                have q1 := F5.cell 1 rfl
                have p0 := F5.frozen 0
                have p1 := F5.frozen 1
                have F6 : Blk ((w5.setCell ⟨w2.heap.size, 0, none⟩ (.int .i64 cx)).setCell ⟨w2.heap.size, 1, none⟩ (.int .i64 cy)) w2.heap.size #[.int .i64 cx, .int .i64 cy] 28 := (F5.set 0 (.int .i64 cx)).set 1 (.int .i64 cy)
                have V6 := (V5.setH (p := ⟨w2.heap.size, 0, none⟩) (Nat.le_refl _) (.int .i64 cx)).setH (p := ⟨w2.heap.size, 1, none⟩) (Nat.le_refl _) (.int .i64 cy)
                clear hw5
                go_wp2
                go_roundw
                case rel => exact ⟨k + 1, by omega, by go_num, by rw [Hsu.out]; exact F6, V6⟩
                case measure => simp [intOf]; omega
              · rw [if_neg (show ¬ Hull.yx (cx, cy) (mx, cy) from by unfold Hull.yx; dsimp only; omega)] at hsu
                have Hs := Lib.hid hs; clear hs
                have Hsu := Lib.hid hsu; clear hsu
                have Ec := Lib.hid ec; clear ec
                have Em := Lib.hid em; clear em
                go_upto_region 8 with (fail)
                refine wp_region_calm (S := Since (wr.drew)) 12 (rs := [0, 1, 2, 3, 4, 5, 6, 7, 8, 9, 10, 11, 12, 13, 14, 15, 16, 17, 18, 19, 20, 21, 22, 23, 24, 25, 26, 27]) rfl rfl (by kernel_rfl) (by kernel_rfl) (Since.refl _) ?_
                refine Chain.step (v := ?_) rfl (Or.inr ⟨by rfl, Or.inl ?_⟩) ?_
                rotate_left
                · intro wx hx
                  obtain ⟨⟨z0, z1⟩, z2, z3⟩ := Hs.out wx hx
                  go_simp
                  try with_reducible rfl
                try simp only [Act.put, List.setIfInBounds_toArray, List.set_cons_zero, List.set_cons_succ]
                refine Chain.step (v := ?_) rfl (Or.inr ⟨by rfl, Or.inl ?_⟩) ?_
                rotate_left
                · intro wx hx
                  obtain ⟨⟨z0, z1⟩, z2, z3⟩ := Hs.out wx hx
                  go_simp
                  try with_reducible rfl
                try simp only [Act.put, List.setIfInBounds_toArray, List.set_cons_zero, List.set_cons_succ]
                refine Chain.step (v := ?_) rfl (Or.inr ⟨by rfl, Or.inl ?_⟩) ?_
                rotate_left
                · intro wx hx
                  obtain ⟨⟨z0, z1⟩, z2, z3⟩ := Hs.out wx hx
                  go_simp
                  try with_reducible rfl
                try simp only [Act.put, List.setIfInBounds_toArray, List.set_cons_zero, List.set_cons_succ]
                refine Chain.step (v := ?_) rfl (Or.inr ⟨by rfl, Or.inl ?_⟩) ?_
                rotate_left
                · intro wx hx
                  obtain ⟨⟨z0, z1⟩, z2, z3⟩ := Hs.out wx hx
                  go_simp
                  try with_reducible rfl
                try simp only [Act.put, List.setIfInBounds_toArray, List.set_cons_zero, List.set_cons_succ]
                refine Chain.step (v := ?_) rfl (Or.inr ⟨by rfl, Or.inl ?_⟩) ?_
                rotate_left
                · intro wx hx
                  obtain ⟨⟨z0, z1⟩, z2, z3⟩ := Hs.out wx hx
                  go_simp
                  try with_reducible rfl
                try simp only [Act.put, List.setIfInBounds_toArray, List.set_cons_zero, List.set_cons_succ]
                refine Chain.step (v := ?_) rfl (Or.inr ⟨by rfl, Or.inl ?_⟩) ?_
                rotate_left
                · intro wx hx
                  obtain ⟨⟨z0, z1⟩, z2, z3⟩ := Hs.out wx hx
                  go_simp
                  try with_reducible rfl
                try simp only [Act.put, List.setIfInBounds_toArray, List.set_cons_zero, List.set_cons_succ]
                refine Chain.step (v := ?_) rfl (Or.inr ⟨by rfl, Or.inl ?_⟩) ?_
                rotate_left
                · intro wx hx
                  obtain ⟨⟨z0, z1⟩, z2, z3⟩ := Hs.out wx hx
                  go_simp
                  try with_reducible rfl
                try simp only [Act.put, List.setIfInBounds_toArray, List.set_cons_zero, List.set_cons_succ]
                refine Chain.step (v := ?_) rfl (Or.inr ⟨by rfl, Or.inl ?_⟩) ?_
                rotate_left
                · intro wx hx
                  obtain ⟨⟨z0, z1⟩, z2, z3⟩ := Hs.out wx hx
                  go_simp
                  try with_reducible rfl
                try simp only [Act.put, List.setIfInBounds_toArray, List.set_cons_zero, List.set_cons_succ]
                refine Chain.step (v := ?_) rfl (Or.inr ⟨by rfl, Or.inl ?_⟩) ?_
                rotate_left
                · intro wx hx
                  obtain ⟨⟨z0, z1⟩, z2, z3⟩ := Hs.out wx hx
                  go_simp
                  try with_reducible rfl
                try simp only [Act.put, List.setIfInBounds_toArray, List.set_cons_zero, List.set_cons_succ]
                refine Chain.step (v := ?_) rfl (Or.inr ⟨by rfl, Or.inl ?_⟩) ?_
                rotate_left
                · intro wx hx
                  obtain ⟨⟨z0, z1⟩, z2, z3⟩ := Hs.out wx hx
                  go_simp
                  try with_reducible rfl
                try simp only [Act.put, List.setIfInBounds_toArray, List.set_cons_zero, List.set_cons_succ]
                refine Chain.step (v := ?_) rfl (Or.inr ⟨by rfl, Or.inl ?_⟩) ?_
                rotate_left
                · intro wx hx
                  obtain ⟨⟨z0, z1⟩, z2, z3⟩ := Hs.out wx hx
                  go_simp
                  try with_reducible rfl
                try simp only [Act.put, List.setIfInBounds_toArray, List.set_cons_zero, List.set_cons_succ]
                refine Chain.step (v := ?_) rfl (Or.inr ⟨by rfl, Or.inl ?_⟩) ?_
                rotate_left
                · intro wx hx
                  obtain ⟨⟨z0, z1⟩, z2, z3⟩ := Hs.out wx hx
                  go_simp
                  try with_reducible rfl
                try simp only [Act.put, List.setIfInBounds_toArray, List.set_cons_zero, List.set_cons_succ]
                refine Chain.step (v := ?_) rfl (Or.inr ⟨by rfl, Or.inl ?_⟩) ?_
                rotate_left
                · intro wx hx
                  obtain ⟨⟨z0, z1⟩, z2, z3⟩ := Hs.out wx hx
                  go_simp
                  try with_reducible rfl
                try simp only [Act.put, List.setIfInBounds_toArray, List.set_cons_zero, List.set_cons_succ]
                refine Chain.step (v := ?_) rfl (Or.inr ⟨by rfl, Or.inl ?_⟩) ?_
                rotate_left
                · intro wx hx
                  obtain ⟨⟨z0, z1⟩, z2, z3⟩ := Hs.out wx hx
                  go_simp
                  try with_reducible rfl
                try simp only [Act.put, List.setIfInBounds_toArray, List.set_cons_zero, List.set_cons_succ]
                refine Chain.step (v := ?_) rfl (Or.inr ⟨by rfl, Or.inl ?_⟩) ?_
                rotate_left
                · intro wx hx
                  obtain ⟨⟨z0, z1⟩, z2, z3⟩ := Hs.out wx hx
                  go_simp
                  try with_reducible rfl
                try simp only [Act.put, List.setIfInBounds_toArray, List.set_cons_zero, List.set_cons_succ]
                refine Chain.step (v := ?_) rfl (Or.inr ⟨by rfl, Or.inl ?_⟩) ?_
                rotate_left
                · intro wx hx
                  obtain ⟨⟨z0, z1⟩, z2, z3⟩ := Hs.out wx hx
                  go_simp
                  try with_reducible rfl
                try simp only [Act.put, List.setIfInBounds_toArray, List.set_cons_zero, List.set_cons_succ]
                refine Chain.step (v := ?_) rfl (Or.inr ⟨by rfl, Or.inl ?_⟩) ?_
                rotate_left
                · intro wx hx
                  obtain ⟨⟨z0, z1⟩, z2, z3⟩ := Hs.out wx hx
                  go_simp
                  try with_reducible rfl
                try simp only [Act.put, List.setIfInBounds_toArray, List.set_cons_zero, List.set_cons_succ]
                refine Chain.step (v := ?_) rfl (Or.inr ⟨by rfl, Or.inl ?_⟩) ?_
                rotate_left
                · intro wx hx
                  obtain ⟨⟨z0, z1⟩, z2, z3⟩ := Hs.out wx hx
                  go_simp
                  try with_reducible rfl
                try simp only [Act.put, List.setIfInBounds_toArray, List.set_cons_zero, List.set_cons_succ]
                refine Chain.step (v := ?_) rfl (Or.inr ⟨by rfl, Or.inl ?_⟩) ?_
                rotate_left
                · intro wx hx
                  obtain ⟨⟨z0, z1⟩, z2, z3⟩ := Hs.out wx hx
                  go_simp
                  try with_reducible rfl
                try simp only [Act.put, List.setIfInBounds_toArray, List.set_cons_zero, List.set_cons_succ]
                refine Chain.step (v := ?_) rfl (Or.inr ⟨by rfl, Or.inl ?_⟩) ?_
                rotate_left
                · intro wx hx
                  obtain ⟨⟨z0, z1⟩, z2, z3⟩ := Hs.out wx hx
                  go_simp
                  try with_reducible rfl
                try simp only [Act.put, List.setIfInBounds_toArray, List.set_cons_zero, List.set_cons_succ]
                refine Chain.step (v := ?_) rfl (Or.inr ⟨by rfl, Or.inl ?_⟩) ?_
                rotate_left
                · intro wx hx
                  obtain ⟨⟨z0, z1⟩, z2, z3⟩ := Hs.out wx hx
                  go_simp
                  try with_reducible rfl
                try simp only [Act.put, List.setIfInBounds_toArray, List.set_cons_zero, List.set_cons_succ]
                refine Chain.step (v := ?_) rfl (Or.inr ⟨by rfl, Or.inl ?_⟩) ?_
                rotate_left
                · intro wx hx
                  obtain ⟨⟨z0, z1⟩, z2, z3⟩ := Hs.out wx hx
                  go_simp
                  try with_reducible rfl
                try simp only [Act.put, List.setIfInBounds_toArray, List.set_cons_zero, List.set_cons_succ]
                refine Chain.step (v := ?_) rfl (Or.inr ⟨by rfl, Or.inl ?_⟩) ?_
                rotate_left
                · intro wx hx
                  obtain ⟨⟨z0, z1⟩, z2, z3⟩ := Hs.out wx hx
                  go_simp
                  try with_reducible rfl
                try simp only [Act.put, List.setIfInBounds_toArray, List.set_cons_zero, List.set_cons_succ]
                refine Chain.step (v := ?_) rfl (Or.inr ⟨by rfl, Or.inl ?_⟩) ?_
                rotate_left
                · intro wx hx
                  obtain ⟨⟨z0, z1⟩, z2, z3⟩ := Hs.out wx hx
                  go_simp
                  try with_reducible rfl
                try simp only [Act.put, List.setIfInBounds_toArray, List.set_cons_zero, List.set_cons_succ]
                refine Chain.step (v := ?_) rfl (Or.inr ⟨by rfl, Or.inl ?_⟩) ?_
                rotate_left
                · intro wx hx
                  obtain ⟨⟨z0, z1⟩, z2, z3⟩ := Hs.out wx hx
                  go_simp
                  try with_reducible rfl
                try simp only [Act.put, List.setIfInBounds_toArray, List.set_cons_zero, List.set_cons_succ]
                refine Chain.step (v := ?_) rfl (Or.inr ⟨by rfl, Or.inl ?_⟩) ?_
                rotate_left
                · intro wx hx
                  obtain ⟨⟨z0, z1⟩, z2, z3⟩ := Hs.out wx hx
                  go_simp
                  try with_reducible rfl
                try simp only [Act.put, List.setIfInBounds_toArray, List.set_cons_zero, List.set_cons_succ]
                refine Chain.step (v := ?_) rfl (Or.inr ⟨by rfl, Or.inl ?_⟩) ?_
                rotate_left
                · intro wx hx
                  obtain ⟨⟨z0, z1⟩, z2, z3⟩ := Hs.out wx hx
                  go_simp
                  try with_reducible rfl
                try simp only [Act.put, List.setIfInBounds_toArray, List.set_cons_zero, List.set_cons_succ]
                refine Chain.step (v := ?_) rfl (Or.inr ⟨by rfl, Or.inl ?_⟩) ?_
                rotate_left
                · intro wx hx
                  obtain ⟨⟨z0, z1⟩, z2, z3⟩ := Hs.out wx hx
                  go_simp
                  try with_reducible rfl
                try simp only [Act.put, List.setIfInBounds_toArray, List.set_cons_zero, List.set_cons_succ]
                intro w5 hw5
                have V5 := (V.bl (bl_drew wr)).bl hw5.below
                have F5 := (F.bl (bl_drew wr)).bl hw5.below
                clear hw5
                go_wp2
                go_roundw
                case rel => exact ⟨k + 1, by omega, by go_num, by rw [Hsu.out]; exact F5, V5⟩
                case measure => simp [intOf]; omega
            · rw [if_neg (show ¬ Hull.yx (cx, cy) (mx, my) from by unfold Hull.yx; dsimp only; omega)] at hsu
              have h2' : (cy == my) = false := by rw [beq_eq_false_iff_ne]; exact h2
              have Hs := Lib.hid hs; clear hs
              have Hsu := Lib.hid hsu; clear hsu
              have Ec := Lib.hid ec; clear ec
              have Em := Lib.hid em; clear em
              go_upto_region 8 with (fail)
              refine wp_region_calm (S := Since (wr.drew)) 12 (rs := [0, 1, 2, 3, 4, 5, 6, 7, 8, 9, 10, 11, 12, 13, 14, 15, 16, 17, 18, 19, 20, 21, 22, 23, 24, 25, 26, 27]) rfl rfl (by kernel_rfl) (by kernel_rfl) (Since.refl _) ?_
              refine Chain.step (v := ?_) rfl (Or.inr ⟨by rfl, Or.inl ?_⟩) ?_
              rotate_left
              · intro wx hx
                obtain ⟨⟨z0, z1⟩, z2, z3⟩ := Hs.out wx hx
                go_simp
                try with_reducible rfl
              try simp only [Act.put, List.setIfInBounds_toArray, List.set_cons_zero, List.set_cons_succ]
              refine Chain.step (v := ?_) rfl (Or.inr ⟨by rfl, Or.inl ?_⟩) ?_
              rotate_left
              · intro wx hx
                obtain ⟨⟨z0, z1⟩, z2, z3⟩ := Hs.out wx hx
                go_simp
                try with_reducible rfl
              try simp only [Act.put, List.setIfInBounds_toArray, List.set_cons_zero, List.set_cons_succ]
              refine Chain.step (v := ?_) rfl (Or.inr ⟨by rfl, Or.inl ?_⟩) ?_
              rotate_left
              · intro wx hx
                obtain ⟨⟨z0, z1⟩, z2, z3⟩ := Hs.out wx hx
                go_simp
                try with_reducible rfl
              try simp only [Act.put, List.setIfInBounds_toArray, List.set_cons_zero, List.set_cons_succ]
              refine Chain.step (v := ?_) rfl (Or.inr ⟨by rfl, Or.inl ?_⟩) ?_
              rotate_left
              · intro wx hx
                obtain ⟨⟨z0, z1⟩, z2, z3⟩ := Hs.out wx hx
                go_simp
                try with_reducible rfl
              try simp only [Act.put, List.setIfInBounds_toArray, List.set_cons_zero, List.set_cons_succ]
              refine Chain.step (v := ?_) rfl (Or.inr ⟨by rfl, Or.inl ?_⟩) ?_
              rotate_left
              · intro wx hx
                obtain ⟨⟨z0, z1⟩, z2, z3⟩ := Hs.out wx hx
                go_simp
                try with_reducible rfl
              try simp only [Act.put, List.setIfInBounds_toArray, List.set_cons_zero, List.set_cons_succ]
              refine Chain.step (v := ?_) rfl (Or.inr ⟨by rfl, Or.inl ?_⟩) ?_
              rotate_left
              · intro wx hx
                obtain ⟨⟨z0, z1⟩, z2, z3⟩ := Hs.out wx hx
                go_simp
                try with_reducible rfl
              try simp only [Act.put, List.setIfInBounds_toArray, List.set_cons_zero, List.set_cons_succ]
              refine Chain.step (v := ?_) rfl (Or.inr ⟨by rfl, Or.inl ?_⟩) ?_
              rotate_left
              · intro wx hx
                obtain ⟨⟨z0, z1⟩, z2, z3⟩ := Hs.out wx hx
                go_simp
                try with_reducible rfl
              try simp only [Act.put, List.setIfInBounds_toArray, List.set_cons_zero, List.set_cons_succ]
              refine Chain.step (v := ?_) rfl (Or.inr ⟨by rfl, Or.inl ?_⟩) ?_
              rotate_left
              · intro wx hx
                obtain ⟨⟨z0, z1⟩, z2, z3⟩ := Hs.out wx hx
                go_simp
                try with_reducible rfl
              try simp only [Act.put, List.setIfInBounds_toArray, List.set_cons_zero, List.set_cons_succ]
              refine Chain.step (v := ?_) rfl (Or.inr ⟨by rfl, Or.inl ?_⟩) ?_
              rotate_left
              · intro wx hx
                obtain ⟨⟨z0, z1⟩, z2, z3⟩ := Hs.out wx hx
                go_simp
                try with_reducible rfl
              try simp only [Act.put, List.setIfInBounds_toArray, List.set_cons_zero, List.set_cons_succ]
              refine Chain.step (v := ?_) rfl (Or.inr ⟨by rfl, Or.inl ?_⟩) ?_
              rotate_left
              · intro wx hx
                obtain ⟨⟨z0, z1⟩, z2, z3⟩ := Hs.out wx hx
                go_simp
                try with_reducible rfl
              try simp only [Act.put, List.setIfInBounds_toArray, List.set_cons_zero, List.set_cons_succ]
              refine Chain.step (v := ?_) rfl (Or.inr ⟨by rfl, Or.inl ?_⟩) ?_
              rotate_left
              · intro wx hx
                obtain ⟨⟨z0, z1⟩, z2, z3⟩ := Hs.out wx hx
                go_simp
                try with_reducible rfl
              try simp only [Act.put, List.setIfInBounds_toArray, List.set_cons_zero, List.set_cons_succ]
              refine Chain.step (v := ?_) rfl (Or.inr ⟨by rfl, Or.inl ?_⟩) ?_
              rotate_left
              · intro wx hx
                obtain ⟨⟨z0, z1⟩, z2, z3⟩ := Hs.out wx hx
                go_simp
                try with_reducible rfl
              try simp only [Act.put, List.setIfInBounds_toArray, List.set_cons_zero, List.set_cons_succ]
              refine Chain.step (v := ?_) rfl (Or.inr ⟨by rfl, Or.inl ?_⟩) ?_
              rotate_left
              · intro wx hx
                obtain ⟨⟨z0, z1⟩, z2, z3⟩ := Hs.out wx hx
                go_simp
                try with_reducible rfl
              try simp only [Act.put, List.setIfInBounds_toArray, List.set_cons_zero, List.set_cons_succ]
              refine Chain.step (v := ?_) rfl (Or.inr ⟨by rfl, Or.inl ?_⟩) ?_
              rotate_left
              · intro wx hx
                obtain ⟨⟨z0, z1⟩, z2, z3⟩ := Hs.out wx hx
                go_simp
                try with_reducible rfl
              try simp only [Act.put, List.setIfInBounds_toArray, List.set_cons_zero, List.set_cons_succ]
              refine Chain.step (v := ?_) rfl (Or.inr ⟨by rfl, Or.inl ?_⟩) ?_
              rotate_left
              · intro wx hx
                obtain ⟨⟨z0, z1⟩, z2, z3⟩ := Hs.out wx hx
                go_simp
                try with_reducible rfl
              try simp only [Act.put, List.setIfInBounds_toArray, List.set_cons_zero, List.set_cons_succ]
              refine Chain.step (v := ?_) rfl (Or.inr ⟨by rfl, Or.inl ?_⟩) ?_
              rotate_left
              · intro wx hx
                obtain ⟨⟨z0, z1⟩, z2, z3⟩ := Hs.out wx hx
                go_simp
                try with_reducible rfl
              try simp only [Act.put, List.setIfInBounds_toArray, List.set_cons_zero, List.set_cons_succ]
              refine Chain.step (v := ?_) rfl (Or.inr ⟨by rfl, Or.inl ?_⟩) ?_
              rotate_left
              · intro wx hx
                obtain ⟨⟨z0, z1⟩, z2, z3⟩ := Hs.out wx hx
                go_simp
                try with_reducible rfl
              try simp only [Act.put, List.setIfInBounds_toArray, List.set_cons_zero, List.set_cons_succ]
              refine Chain.step (v := ?_) rfl (Or.inr ⟨by rfl, Or.inl ?_⟩) ?_
              rotate_left
              · intro wx hx
                obtain ⟨⟨z0, z1⟩, z2, z3⟩ := Hs.out wx hx
                go_simp
                try with_reducible rfl
              try simp only [Act.put, List.setIfInBounds_toArray, List.set_cons_zero, List.set_cons_succ]
              refine Chain.step rfl (Or.inl ⟨by rfl, rfl⟩) ?_
              try simp only [Act.put, List.setIfInBounds_toArray, List.set_cons_zero, List.set_cons_succ]
              refine Chain.step rfl (Or.inl ⟨by rfl, rfl⟩) ?_
              try simp only [Act.put, List.setIfInBounds_toArray, List.set_cons_zero, List.set_cons_succ]
              refine Chain.step rfl (Or.inl ⟨by rfl, rfl⟩) ?_
              try simp only [Act.put, List.setIfInBounds_toArray, List.set_cons_zero, List.set_cons_succ]
              refine Chain.step rfl (Or.inl ⟨by rfl, rfl⟩) ?_
              try simp only [Act.put, List.setIfInBounds_toArray, List.set_cons_zero, List.set_cons_succ]
              refine Chain.step rfl (Or.inl ⟨by rfl, rfl⟩) ?_
              try simp only [Act.put, List.setIfInBounds_toArray, List.set_cons_zero, List.set_cons_succ]
              refine Chain.step rfl (Or.inl ⟨by rfl, rfl⟩) ?_
              try simp only [Act.put, List.setIfInBounds_toArray, List.set_cons_zero, List.set_cons_succ]
              refine Chain.step rfl (Or.inl ⟨by rfl, rfl⟩) ?_
              try simp only [Act.put, List.setIfInBounds_toArray, List.set_cons_zero, List.set_cons_succ]
              refine Chain.step rfl (Or.inl ⟨by rfl, rfl⟩) ?_
              try simp only [Act.put, List.setIfInBounds_toArray, List.set_cons_zero, List.set_cons_succ]
              refine Chain.step (v := ?_) rfl (Or.inr ⟨by rfl, Or.inl ?_⟩) ?_
              rotate_left
              · intro wx hx
                obtain ⟨⟨z0, z1⟩, z2, z3⟩ := Hs.out wx hx
                go_simp
                try with_reducible rfl
              try simp only [Act.put, List.setIfInBounds_toArray, List.set_cons_zero, List.set_cons_succ]
              refine Chain.step (v := ?_) rfl (Or.inr ⟨by rfl, Or.inl ?_⟩) ?_
              rotate_left
              · intro wx hx
                obtain ⟨⟨z0, z1⟩, z2, z3⟩ := Hs.out wx hx
                go_simp
                try with_reducible rfl
              try simp only [Act.put, List.setIfInBounds_toArray, List.set_cons_zero, List.set_cons_succ]
              intro w5 hw5
              have V5 := (V.bl (bl_drew wr)).bl hw5.below
              have F5 := (F.bl (bl_drew wr)).bl hw5.below
              clear hw5
              go_wp2
              go_roundw
              case rel => exact ⟨k + 1, by omega, by go_num, by rw [Hsu.out]; exact F5, V5⟩
              case measure => simp [intOf]; omega
      · obtain rfl : k = n := by omega
        have hgf := HG.out.first
        have hg2 := HG.out.two
        obtain ⟨⟨mx, my⟩, em⟩ : ∃ c, minS L k = c := ⟨_, rfl⟩
        rw [em] at F hgf
        dsimp only at F
        obtain ⟨tf, etf⟩ : ∃ t, w2.heap.size = t := ⟨_, rfl⟩
        have htf := V.size
        have hFl := F.lt
        rw [etf] at F htf hFl
        have q0 := F.cell 0 rfl
        have q1 := F.cell 1 rfl
        have O0 : OwnSpots (tf + 1) (wr.alloc (.cells #[] 28)) (.slice (some ⟨wr.heap.size, 0, none⟩) 0 0) [] := ⟨_, _, rfl, World.ownsRow_made wr #[] 0 (by omega) (by decide) rfl⟩
        have A0 := Blk.new (wr.alloc (.cells #[] 28)) #[.int .i64 mx, .int .i64 my] 28
        rw [World.size_alloc] at A0
        have F0 := (F.alloc (.cells #[] 28)).alloc (.cells #[.int .i64 mx, .int .i64 my] 28)
        have V0 := (V.alloc (.cells #[] 28)).alloc (.cells #[.int .i64 mx, .int .i64 my] 28)
        have O1 := O0.bl (bl_alloc _ (.cells #[.int .i64 mx, .int .i64 my] 28))
        obtain ⟨ta, eta⟩ : ∃ t, wr.heap.size + 1 = t := ⟨_, rfl⟩
        have hta : tf < ta := by omega
        have r0 : GwRel R (mx, my) tf ta w2 ((wr.alloc (.cells #[] 28)).alloc (.cells #[.int .i64 mx, .int .i64 my] 28)) (.slice (some ⟨wr.heap.size, 0, none⟩) 0 0) 0 :=
          ⟨⟨_, _, rfl, O1, by omega⟩, by rw [hgf, ← eta]; exact A0, F0, V0⟩
        clear O0 O1 A0 F0 V0
        have R0 := Lib.hid r0; clear r0
        have Hgf := Lib.hid hgf; clear hgf
        have Em := Lib.hid em; clear em
        go_wp2
        simp only [eta, etf]
        generalize (wr.alloc (.cells #[] 28)).alloc (.cells #[.int .i64 mx, .int .i64 my] 28) = w6 at *
        clear q0 q1 F V
        go_loopw [7] (fun v wr => ∃ j : Nat, j < R.length ∧ GwRel R (mx, my) tf ta w2 wr v j) (fun v _ => R.length - lenOfV v)
        case atStart => exact ⟨0, by omega, R0.out⟩
        case round =>
          clear R0
          obtain ⟨j, hj, r⟩ := hrel
          obtain ⟨g, d, rfl, O, hgt⟩ := r.own
          have A := r.here
          have F := r.first
          have V := r.since
          clear r
          have hlj : (R.take j).length = j := by rw [List.length_take]; omega
          have hlj1 : (R.take (j + 1)).length = j + 1 := by rw [List.length_take]; omega
          have hpm := HG.out.mem j hj
          have htk := spots_take hj
          obtain ⟨⟨ax, ay⟩, ep⟩ : ∃ p, R.getD j (0, 0) = p := ⟨_, rfl⟩
          rw [ep] at A hpm htk
          dsimp only at A
          have a0 := A.cell 0 rfl
          have a1 := A.cell 1 rfl
          have hip := Hin.out _ hpm
          obtain ⟨p', c', hv, ho⟩ := O
          clear hv p' c'
          rw [hlj] at ho
          have hsz := V.size
          have hFl := F.lt
          have hgf2 : tf < g := (ho.lt g rfl).1
          have hAl := A.lt
          have Ep := Lib.hid ep; clear ep
          have Hpm := Lib.hid hpm; clear hpm
          have Htk := Lib.hid htk; clear htk
          have Hlj := Lib.hid hlj; clear hlj
          have Hlj1 := Lib.hid hlj1; clear hlj1
          have Hip := Lib.hid hip; clear hip
          go_wp2_with (at_builtin; refine wpList_push rfl _ _ 33 rfl (tf + 1) 28 (.agg #[.int .i64 0, .int .i64 0]) 2 16 Try.underlying33 info_spot rfl (by decide) (.slice (some ⟨g, 0, none⟩) j d) j _ rfl ho _ 1 rfl rfl (one_spot _ _) (by omega) (by simp [maxLen]; omega) (by omega) ?_; intro g' cap w7 hown7 hgr7 hat7 hlt7; have A7 := A.grown hgr7 (fun e => hgt (Option.some.inj e).symm); have b0 := A7.cell 0 rfl; have b1 := A7.cell 1 rfl)
          have F7 := F.grown hgr7 (fun e => by have e2 : tf = g := Option.some.inj e; omega)
          have U7 : Since w2 w7 := V.grown (g := g) hgr7 (by omega)
          have O7 : OwnSpots (tf + 1) w7 (.slice (some ⟨g', 0, none⟩) (j + 1) cap) (R.take (j + 1)) := ⟨_, cap, by rw [Hlj1.out], by rw [Hlj1.out, Htk.out, spotCells_snoc]; exact hown7⟩
          have hgt7 : g' ≠ ta := by
            rcases hat7 with h | h
            · have e2 : g = g' := Option.some.inj h
              omega
            · omega
          clear hown7 hgr7 hat7 hlt7 A F V ho a0 a1
          obtain ⟨tn, etn⟩ : ∃ t, w7.heap.size = t := ⟨_, rfl⟩
          have W0 := (Since.refl w7).alloc (.cells #[.int .i64 ax, .int .i64 ay] 28)
          have n0 : Blk (w7.alloc (.cells #[.int .i64 ax, .int .i64 ay] 28)) tn #[.int .i64 (scanP L (ax, ay) 0).1, .int .i64 (scanP L (ax, ay) 0).2] 28 := by rw [← etn]; exact Blk.new w7 _ _
          have N0 := Lib.hid n0; clear n0
          go_wp2
          try simp only [etn]
          generalize w7.alloc (.cells #[.int .i64 ax, .int .i64 ay] 28) = w8 at *
          clear b0 b1
          go_loopw [10] (fun s10 wr => ∃ i : Nat, i ≤ k ∧ s10 = .int .i64 i ∧ Blk wr tn #[.int .i64 (scanP L (ax, ay) i).1, .int .i64 (scanP L (ax, ay) i).2] 28 ∧ Since w7 wr) (fun s10 _ => k - (intOf s10).toNat)
          case atStart => exact ⟨0, Nat.zero_le _, rfl, N0.out, W0⟩
          case round =>
            clear N0 W0
            obtain ⟨i, hi, rfl, N, W⟩ := hrel
            have hi00 : (0 : Int) ≤ (i : Int) := Int.natCast_nonneg _
            by_cases hlti : i < k
            · have hik : (i : Int) < (k : Int) := by omega
              have hwi : IntKind.i64.wrap ((i : Int) + 1) = (i : Int) + 1 := IntWalk.i64_in _ (by omega)
              have hst := scanP_succ (ax, ay) (show i < L.length by omega)
              have hic := Hin.out _ (getD_memS (show i < L.length by omega))
              have hinn := Hin.out _ (scanP_in Hpm.out i (by omega))
              have hs : ∀ wx, Since wr wx → (wx.cell? ⟨qb, qo + i * 2, none⟩ = some (.int .i64 (L.getD i (0, 0)).1) ∧ wx.cell? ⟨qb, qo + i * 2 + 1, none⟩ = some (.int .i64 (L.getD i (0, 0)).2)) ∧ (wx.cell? ⟨ta, 0, none⟩ = some (.int .i64 ax) ∧ wx.cell? ⟨ta, 1, none⟩ = some (.int .i64 ay)) ∧ wx.cell? ⟨tn, 0, none⟩ = some (.int .i64 (scanP L (ax, ay) i).1) ∧ wx.cell? ⟨tn, 1, none⟩ = some (.int .i64 (scanP L (ax, ay) i).2) := fun wx hx => by
                have hw := W.bl hx.below
                have ha := A7.bl hw.below
                have hn := N.bl hx.below
                exact ⟨Hcl.out wx (U7.bl hw.below) i hlti, ⟨ha.cell 0 rfl, ha.cell 1 rfl⟩, hn.cell 0 rfl, hn.cell 1 rfl⟩
              obtain ⟨⟨cx, cy⟩, ec⟩ : ∃ c, L.getD i (0, 0) = c := ⟨_, rfl⟩
              obtain ⟨⟨nx, ny⟩, en2⟩ : ∃ c, scanP L (ax, ay) i = c := ⟨_, rfl⟩
              rw [ec, en2] at hst
              rw [ec] at hic
              rw [en2] at hinn N
              simp only [ec, en2] at hs
              dsimp only at N
              by_cases hcp : (cx, cy) = (ax, ay)
              ·
                as_aux_lemma =>
                  rw [Hull.stepF, if_pos hcp] at hst
                  obtain ⟨hc1, hc2⟩ := Prod.mk.inj hcp
                  have V7 := Since.refl wr
                  have Hs := Lib.hid hs; clear hs
                  have Hst := Lib.hid hst; clear hst
                  have Ec := Lib.hid ec; clear ec
                  have En2 := Lib.hid en2; clear en2
                  have Hcp := Lib.hid hcp; clear hcp
                  have Hic := Lib.hid hic; clear hic
                  have Hinn := Lib.hid hinn; clear hinn
                  go_upto_region 17 with (fail)
                  refine wp_region_calm (S := Since (wr.drew)) 12 (rs := [0, 1, 2, 3, 4, 5]) rfl rfl (by kernel_rfl) (by kernel_rfl) (Since.refl _) ?_
                  refine Chain.step (v := ?_) rfl (Or.inr ⟨by rfl, Or.inl ?_⟩) ?_
                  rotate_left
                  · intro wx hx
                    obtain ⟨⟨z0, z1⟩, ⟨z2, z3⟩, z4, z5⟩ := Hs.out wx ((V7.bl (bl_drew wr)).bl hx.below)
                    go_simp
                    try with_reducible rfl
                  try simp only [Act.put, List.setIfInBounds_toArray, List.set_cons_zero, List.set_cons_succ]
                  refine Chain.step (v := ?_) rfl (Or.inr ⟨by rfl, Or.inl ?_⟩) ?_
                  rotate_left
                  · intro wx hx
                    obtain ⟨⟨z0, z1⟩, ⟨z2, z3⟩, z4, z5⟩ := Hs.out wx ((V7.bl (bl_drew wr)).bl hx.below)
                    go_simp
                    try with_reducible rfl
                  try simp only [Act.put, List.setIfInBounds_toArray, List.set_cons_zero, List.set_cons_succ]
                  refine Chain.step (v := ?_) rfl (Or.inr ⟨by rfl, Or.inl ?_⟩) ?_
                  rotate_left
                  · intro wx hx
                    obtain ⟨⟨z0, z1⟩, ⟨z2, z3⟩, z4, z5⟩ := Hs.out wx ((V7.bl (bl_drew wr)).bl hx.below)
                    go_simp
                    try with_reducible rfl
                  try simp only [Act.put, List.setIfInBounds_toArray, List.set_cons_zero, List.set_cons_succ]
                  refine Chain.step (v := ?_) rfl (Or.inr ⟨by rfl, Or.inl ?_⟩) ?_
                  rotate_left
                  · intro wx hx
                    obtain ⟨⟨z0, z1⟩, ⟨z2, z3⟩, z4, z5⟩ := Hs.out wx ((V7.bl (bl_drew wr)).bl hx.below)
                    go_simp
                    try with_reducible rfl
                  try simp only [Act.put, List.setIfInBounds_toArray, List.set_cons_zero, List.set_cons_succ]
                  refine Chain.step (v := ?_) rfl (Or.inr ⟨by rfl, Or.inl ?_⟩) ?_
                  rotate_left
                  · intro wx hx
                    obtain ⟨⟨z0, z1⟩, ⟨z2, z3⟩, z4, z5⟩ := Hs.out wx ((V7.bl (bl_drew wr)).bl hx.below)
                    go_simp
                    try with_reducible rfl
                  try simp only [Act.put, List.setIfInBounds_toArray, List.set_cons_zero, List.set_cons_succ]
                  refine Chain.step (v := ?_) rfl (Or.inr ⟨by rfl, Or.inl ?_⟩) ?_
                  rotate_left
                  · intro wx hx
                    obtain ⟨⟨z0, z1⟩, ⟨z2, z3⟩, z4, z5⟩ := Hs.out wx ((V7.bl (bl_drew wr)).bl hx.below)
                    go_simp
                    try with_reducible rfl
                  try simp only [Act.put, List.setIfInBounds_toArray, List.set_cons_zero, List.set_cons_succ]
                  intro wc hwc
                  have V8 := (V7.bl (bl_drew _)).bl hwc.below
                  clear hwc
                  have W8 := W.bl V8.below
                  have N8 := N.bl V8.below
                  go_wp2
                  go_roundw
                  case rel => exact ⟨i + 1, by omega, by go_num, by rw [Hst.out]; exact N8, W8⟩
                  case measure => simp [intOf]; omega
              · have hne : ¬ (cx = ax ∧ cy = ay) := fun h => hcp (by rw [h.1, h.2])
                have cz := fun w => l04Cross_any ax ay nx ny cx cy w Hip.out hinn hic
                have cf := fun w => l04Far_any ax ay cx cy w Hip.out hic
                have cg := fun w => l04Far_any ax ay nx ny w Hip.out hinn
                rw [Hull.stepF, if_neg hcp] at hst
                obtain ⟨z, ez⟩ : ∃ z, Hull.crs (ax, ay) (nx, ny) (cx, cy) = z := ⟨_, rfl⟩
                obtain ⟨d1, ed1⟩ : ∃ z, Hull.farS (ax, ay) (cx, cy) = z := ⟨_, rfl⟩
                obtain ⟨d2, ed2⟩ : ∃ z, Hull.farS (ax, ay) (nx, ny) = z := ⟨_, rfl⟩
                simp only [ez] at cz hst
                simp only [ed1] at cf hst
                simp only [ed2] at cg hst
                have V0 := (Since.refl wr).bl (bl_drew wr)
                have Hs := Lib.hid hs; clear hs
                have Ec := Lib.hid ec; clear ec
                have En2 := Lib.hid en2; clear en2
                have Hcp := Lib.hid hcp; clear hcp
                have Hic := Lib.hid hic; clear hic
                have Hinn := Lib.hid hinn; clear hinn
                have Cz := Lib.hid cz; clear cz
                have Cf := Lib.hid cf; clear cf
                have Cg := Lib.hid cg; clear cg
                have Ez := Lib.hid ez; clear ez
                have Ed1 := Lib.hid ed1; clear ed1
                have Ed2 := Lib.hid ed2; clear ed2
                go_upto_region 17 with (fail)
                refine wp_region_calm (S := Since (wr.drew)) 12 (rs := [0, 1, 2, 3, 4, 5]) rfl rfl (by kernel_rfl) (by kernel_rfl) (Since.refl _) ?_
                refine Chain.step (v := ?_) rfl (Or.inr ⟨by rfl, Or.inl ?_⟩) ?_
                rotate_left
                · intro wx hx
                  obtain ⟨⟨z0, z1⟩, ⟨z2, z3⟩, z4, z5⟩ := Hs.out wx (V0.bl hx.below)
                  go_simp
                  try with_reducible rfl
                try simp only [Act.put, List.setIfInBounds_toArray, List.set_cons_zero, List.set_cons_succ]
                refine Chain.step (v := ?_) rfl (Or.inr ⟨by rfl, Or.inl ?_⟩) ?_
                rotate_left
                · intro wx hx
                  obtain ⟨⟨z0, z1⟩, ⟨z2, z3⟩, z4, z5⟩ := Hs.out wx (V0.bl hx.below)
                  go_simp
                  try with_reducible rfl
                try simp only [Act.put, List.setIfInBounds_toArray, List.set_cons_zero, List.set_cons_succ]
                refine Chain.step (v := ?_) rfl (Or.inr ⟨by rfl, Or.inl ?_⟩) ?_
                rotate_left
                · intro wx hx
                  obtain ⟨⟨z0, z1⟩, ⟨z2, z3⟩, z4, z5⟩ := Hs.out wx (V0.bl hx.below)
                  go_simp
                  try with_reducible rfl
                try simp only [Act.put, List.setIfInBounds_toArray, List.set_cons_zero, List.set_cons_succ]
                refine Chain.step (v := ?_) rfl (Or.inr ⟨by rfl, Or.inl ?_⟩) ?_
                rotate_left
                · intro wx hx
                  obtain ⟨⟨z0, z1⟩, ⟨z2, z3⟩, z4, z5⟩ := Hs.out wx (V0.bl hx.below)
                  go_simp
                  try with_reducible rfl
                try simp only [Act.put, List.setIfInBounds_toArray, List.set_cons_zero, List.set_cons_succ]
                refine Chain.step (v := ?_) rfl (Or.inr ⟨by rfl, Or.inl ?_⟩) ?_
                rotate_left
                · intro wx hx
                  obtain ⟨⟨z0, z1⟩, ⟨z2, z3⟩, z4, z5⟩ := Hs.out wx (V0.bl hx.below)
                  go_simp
                  try with_reducible rfl
                try simp only [Act.put, List.setIfInBounds_toArray, List.set_cons_zero, List.set_cons_succ]
                refine Chain.step (v := ?_) rfl (Or.inr ⟨by rfl, Or.inl ?_⟩) ?_
                rotate_left
                · intro wx hx
                  obtain ⟨⟨z0, z1⟩, ⟨z2, z3⟩, z4, z5⟩ := Hs.out wx (V0.bl hx.below)
                  go_simp
                  exact ite_two hne
                try simp only [Act.put, List.setIfInBounds_toArray, List.set_cons_zero, List.set_cons_succ]
                intro wa hwa
                have V6 := (V0.bl hwa.below).bl (bl_drew wa)
                clear hwa hne
                go_upto_region 18 with (fail)
                refine wp_region_calm (S := Since (wa.drew)) 12 (rs := [0, 1, 2, 3, 4, 5, 6, 7]) rfl rfl (by kernel_rfl) (by kernel_rfl) (Since.refl _) ?_
                refine Chain.step (v := ?_) rfl (Or.inr ⟨by rfl, Or.inl ?_⟩) ?_
                rotate_left
                · intro wx hx
                  obtain ⟨⟨z0, z1⟩, ⟨z2, z3⟩, z4, z5⟩ := Hs.out wx (V6.bl hx.below)
                  go_simp
                  try with_reducible rfl
                try simp only [Act.put, List.setIfInBounds_toArray, List.set_cons_zero, List.set_cons_succ]
                refine Chain.step (v := ?_) rfl (Or.inr ⟨by rfl, Or.inl ?_⟩) ?_
                rotate_left
                · intro wx hx
                  obtain ⟨⟨z0, z1⟩, ⟨z2, z3⟩, z4, z5⟩ := Hs.out wx (V6.bl hx.below)
                  go_simp
                  try with_reducible rfl
                try simp only [Act.put, List.setIfInBounds_toArray, List.set_cons_zero, List.set_cons_succ]
                refine Chain.step (v := ?_) rfl (Or.inr ⟨by rfl, Or.inl ?_⟩) ?_
                rotate_left
                · intro wx hx
                  obtain ⟨⟨z0, z1⟩, ⟨z2, z3⟩, z4, z5⟩ := Hs.out wx (V6.bl hx.below)
                  go_simp
                  try with_reducible rfl
                try simp only [Act.put, List.setIfInBounds_toArray, List.set_cons_zero, List.set_cons_succ]
                refine Chain.step (v := ?_) rfl (Or.inr ⟨by rfl, Or.inl ?_⟩) ?_
                rotate_left
                · intro wx hx
                  obtain ⟨⟨z0, z1⟩, ⟨z2, z3⟩, z4, z5⟩ := Hs.out wx (V6.bl hx.below)
                  go_simp
                  try with_reducible rfl
                try simp only [Act.put, List.setIfInBounds_toArray, List.set_cons_zero, List.set_cons_succ]
                refine Chain.step (v := ?_) rfl (Or.inr ⟨by rfl, Or.inl ?_⟩) ?_
                rotate_left
                · intro wx hx
                  obtain ⟨⟨z0, z1⟩, ⟨z2, z3⟩, z4, z5⟩ := Hs.out wx (V6.bl hx.below)
                  go_simp
                  try with_reducible rfl
                try simp only [Act.put, List.setIfInBounds_toArray, List.set_cons_zero, List.set_cons_succ]
                refine Chain.step (v := ?_) rfl (Or.inr ⟨by rfl, Or.inl ?_⟩) ?_
                rotate_left
                · intro wx hx
                  obtain ⟨⟨z0, z1⟩, ⟨z2, z3⟩, z4, z5⟩ := Hs.out wx (V6.bl hx.below)
                  go_simp
                  try with_reducible rfl
                try simp only [Act.put, List.setIfInBounds_toArray, List.set_cons_zero, List.set_cons_succ]
                refine Chain.step (v := _) rfl (Or.inr ⟨by rfl, Or.inr ⟨34, #[.agg #[.int .i64 ax, .int .i64 ay], .agg #[.int .i64 nx, .int .i64 ny], .agg #[.int .i64 cx, .int .i64 cy]], fun wx hx => ⟨?_, by with_reducible exact ((Cz.out wx).mono (fun e w' h => ⟨h.1, hx.bl h.2⟩))⟩⟩⟩) ?_
                · go_simp
                  try with_reducible rfl
                try simp only [Act.put, List.setIfInBounds_toArray, List.set_cons_zero, List.set_cons_succ]
                refine Chain.step (v := ?_) rfl (Or.inr ⟨by rfl, Or.inl ?_⟩) ?_
                rotate_left
                · intro wx hx
                  obtain ⟨⟨z0, z1⟩, ⟨z2, z3⟩, z4, z5⟩ := Hs.out wx (V6.bl hx.below)
                  go_simp
                  try with_reducible rfl
                try simp only [Act.put, List.setIfInBounds_toArray, List.set_cons_zero, List.set_cons_succ]
                intro wb hwb
                have V7 := V6.bl hwb.below
                clear hwb V6 V0
                by_cases hnp : (nx, ny) = (ax, ay)
                ·
                  as_aux_lemma =>
                    rw [if_pos (Or.inl hnp)] at hst
                    obtain ⟨hn1, hn2⟩ := Prod.mk.inj hnp
                    have Hst := Lib.hid hst; clear hst
                    have Hnp := Lib.hid hnp; clear hnp
                    go_upto_region 19 with (fail)
                    refine wp_region_calm (S := Since (wb.drew)) 12 (rs := [0, 1, 2, 3, 4, 5, 6, 7, 8, 9, 10, 11, 12, 13, 14, 15, 16, 17, 18, 19, 20, 21, 22]) rfl rfl (by kernel_rfl) (by kernel_rfl) (Since.refl _) ?_
                    refine Chain.step (v := ?_) rfl (Or.inr ⟨by rfl, Or.inl ?_⟩) ?_
                    rotate_left
                    · intro wx hx
                      obtain ⟨⟨z0, z1⟩, ⟨z2, z3⟩, z4, z5⟩ := Hs.out wx ((V7.bl (bl_drew wb)).bl hx.below)
                      go_simp
                      try with_reducible rfl
                    try simp only [Act.put, List.setIfInBounds_toArray, List.set_cons_zero, List.set_cons_succ]
                    refine Chain.step (v := ?_) rfl (Or.inr ⟨by rfl, Or.inl ?_⟩) ?_
                    rotate_left
                    · intro wx hx
                      obtain ⟨⟨z0, z1⟩, ⟨z2, z3⟩, z4, z5⟩ := Hs.out wx ((V7.bl (bl_drew wb)).bl hx.below)
                      go_simp
                      try with_reducible rfl
                    try simp only [Act.put, List.setIfInBounds_toArray, List.set_cons_zero, List.set_cons_succ]
                    refine Chain.step (v := ?_) rfl (Or.inr ⟨by rfl, Or.inl ?_⟩) ?_
                    rotate_left
                    · intro wx hx
                      obtain ⟨⟨z0, z1⟩, ⟨z2, z3⟩, z4, z5⟩ := Hs.out wx ((V7.bl (bl_drew wb)).bl hx.below)
                      go_simp
                      try with_reducible rfl
                    try simp only [Act.put, List.setIfInBounds_toArray, List.set_cons_zero, List.set_cons_succ]
                    refine Chain.step (v := ?_) rfl (Or.inr ⟨by rfl, Or.inl ?_⟩) ?_
                    rotate_left
                    · intro wx hx
                      obtain ⟨⟨z0, z1⟩, ⟨z2, z3⟩, z4, z5⟩ := Hs.out wx ((V7.bl (bl_drew wb)).bl hx.below)
                      go_simp
                      try with_reducible rfl
                    try simp only [Act.put, List.setIfInBounds_toArray, List.set_cons_zero, List.set_cons_succ]
                    refine Chain.step rfl (Or.inl ⟨by rfl, rfl⟩) ?_
                    try simp only [Act.put, List.setIfInBounds_toArray, List.set_cons_zero, List.set_cons_succ]
                    refine Chain.step rfl (Or.inl ⟨by rfl, rfl⟩) ?_
                    try simp only [Act.put, List.setIfInBounds_toArray, List.set_cons_zero, List.set_cons_succ]
                    refine Chain.step (v := ?_) rfl (Or.inr ⟨by rfl, Or.inl ?_⟩) ?_
                    rotate_left
                    · intro wx hx
                      obtain ⟨⟨z0, z1⟩, ⟨z2, z3⟩, z4, z5⟩ := Hs.out wx ((V7.bl (bl_drew wb)).bl hx.below)
                      go_simp
                      try with_reducible rfl
                    try simp only [Act.put, List.setIfInBounds_toArray, List.set_cons_zero, List.set_cons_succ]
                    refine Chain.step (v := ?_) rfl (Or.inr ⟨by rfl, Or.inl ?_⟩) ?_
                    rotate_left
                    · intro wx hx
                      obtain ⟨⟨z0, z1⟩, ⟨z2, z3⟩, z4, z5⟩ := Hs.out wx ((V7.bl (bl_drew wb)).bl hx.below)
                      go_simp
                      try with_reducible rfl
                    try simp only [Act.put, List.setIfInBounds_toArray, List.set_cons_zero, List.set_cons_succ]
                    refine Chain.step rfl (Or.inl ⟨by rfl, rfl⟩) ?_
                    try simp only [Act.put, List.setIfInBounds_toArray, List.set_cons_zero, List.set_cons_succ]
                    refine Chain.step rfl (Or.inl ⟨by rfl, rfl⟩) ?_
                    try simp only [Act.put, List.setIfInBounds_toArray, List.set_cons_zero, List.set_cons_succ]
                    refine Chain.step rfl (Or.inl ⟨by rfl, rfl⟩) ?_
                    try simp only [Act.put, List.setIfInBounds_toArray, List.set_cons_zero, List.set_cons_succ]
                    refine Chain.step rfl (Or.inl ⟨by rfl, rfl⟩) ?_
                    try simp only [Act.put, List.setIfInBounds_toArray, List.set_cons_zero, List.set_cons_succ]
                    refine Chain.step rfl (Or.inl ⟨by rfl, rfl⟩) ?_
                    try simp only [Act.put, List.setIfInBounds_toArray, List.set_cons_zero, List.set_cons_succ]
                    refine Chain.step rfl (Or.inl ⟨by rfl, rfl⟩) ?_
                    try simp only [Act.put, List.setIfInBounds_toArray, List.set_cons_zero, List.set_cons_succ]
                    refine Chain.step rfl (Or.inl ⟨by rfl, rfl⟩) ?_
                    try simp only [Act.put, List.setIfInBounds_toArray, List.set_cons_zero, List.set_cons_succ]
                    refine Chain.step rfl (Or.inl ⟨by rfl, rfl⟩) ?_
                    try simp only [Act.put, List.setIfInBounds_toArray, List.set_cons_zero, List.set_cons_succ]
                    refine Chain.step rfl (Or.inl ⟨by rfl, rfl⟩) ?_
                    try simp only [Act.put, List.setIfInBounds_toArray, List.set_cons_zero, List.set_cons_succ]
                    refine Chain.step rfl (Or.inl ⟨by rfl, rfl⟩) ?_
                    try simp only [Act.put, List.setIfInBounds_toArray, List.set_cons_zero, List.set_cons_succ]
                    refine Chain.step rfl (Or.inl ⟨by rfl, rfl⟩) ?_
                    try simp only [Act.put, List.setIfInBounds_toArray, List.set_cons_zero, List.set_cons_succ]
                    refine Chain.step rfl (Or.inl ⟨by rfl, rfl⟩) ?_
                    try simp only [Act.put, List.setIfInBounds_toArray, List.set_cons_zero, List.set_cons_succ]
                    refine Chain.step rfl (Or.inl ⟨by rfl, rfl⟩) ?_
                    try simp only [Act.put, List.setIfInBounds_toArray, List.set_cons_zero, List.set_cons_succ]
                    refine Chain.step rfl (Or.inl ⟨by rfl, rfl⟩) ?_
                    try simp only [Act.put, List.setIfInBounds_toArray, List.set_cons_zero, List.set_cons_succ]
                    refine Chain.step (v := ?_) rfl (Or.inr ⟨by rfl, Or.inl ?_⟩) ?_
                    rotate_left
                    · intro wx hx
                      obtain ⟨⟨z0, z1⟩, ⟨z2, z3⟩, z4, z5⟩ := Hs.out wx ((V7.bl (bl_drew wb)).bl hx.below)
                      go_simp
                      try with_reducible rfl
                    try simp only [Act.put, List.setIfInBounds_toArray, List.set_cons_zero, List.set_cons_succ]
                    intro wc hwc
                    have V8 := (V7.bl (bl_drew _)).bl hwc.below
                    clear hwc
                    have W8 := W.bl V8.below
                    have N8 := N.bl V8.below
                    obtain ⟨c0, c1⟩ := Hcl.out wc (U7.bl W8.below) i hlti
                    rw [Ec.out] at c0 c1
                    dsimp only at c0 c1
                    have q0 := N8.cell 0 rfl
                    have q1 := N8.cell 1 rfl
                    have p0 := N8.frozen 0
                    have p1 := N8.frozen 1
                    have N9 : Blk ((wc.setCell ⟨tn, 0, none⟩ (.int .i64 cx)).setCell ⟨tn, 1, none⟩ (.int .i64 cy)) tn #[.int .i64 cx, .int .i64 cy] 28 := (N8.set 0 (.int .i64 cx)).set 1 (.int .i64 cy)
                    have W9 := (W8.setH (p := ⟨tn, 0, none⟩) (by rw [etn]; exact Nat.le_refl _) (.int .i64 cx)).setH (p := ⟨tn, 1, none⟩) (by rw [etn]; exact Nat.le_refl _) (.int .i64 cy)
                    go_wp2
                    go_roundw
                    case rel => exact ⟨i + 1, by omega, by go_num, by rw [Hst.out]; exact N9, W9⟩
                    case measure => simp [intOf]; omega
                · have hnn : ¬ (nx = ax ∧ ny = ay) := fun h => hnp (by rw [h.1, h.2])
                  by_cases hz1 : z < 0
                  ·
                    as_aux_lemma =>
                      rw [if_pos (Or.inr (Or.inl hz1))] at hst
                      have Hst := Lib.hid hst; clear hst
                      have Hnp := Lib.hid hnp; clear hnp
                      go_upto_region 19 with (fail)
                      refine wp_region_calm (S := Since (wb.drew)) 12 (rs := [0, 1, 2, 3, 4, 5, 6, 7, 8, 9, 10, 11, 12, 13, 14, 15, 16, 17, 18, 19, 20, 21, 22]) rfl rfl (by kernel_rfl) (by kernel_rfl) (Since.refl _) ?_
                      refine Chain.step (v := ?_) rfl (Or.inr ⟨by rfl, Or.inl ?_⟩) ?_
                      rotate_left
                      · intro wx hx
                        obtain ⟨⟨z0, z1⟩, ⟨z2, z3⟩, z4, z5⟩ := Hs.out wx ((V7.bl (bl_drew wb)).bl hx.below)
                        go_simp
                        try with_reducible rfl
                      try simp only [Act.put, List.setIfInBounds_toArray, List.set_cons_zero, List.set_cons_succ]
                      refine Chain.step (v := ?_) rfl (Or.inr ⟨by rfl, Or.inl ?_⟩) ?_
                      rotate_left
                      · intro wx hx
                        obtain ⟨⟨z0, z1⟩, ⟨z2, z3⟩, z4, z5⟩ := Hs.out wx ((V7.bl (bl_drew wb)).bl hx.below)
                        go_simp
                        try with_reducible rfl
                      try simp only [Act.put, List.setIfInBounds_toArray, List.set_cons_zero, List.set_cons_succ]
                      refine Chain.step (v := ?_) rfl (Or.inr ⟨by rfl, Or.inl ?_⟩) ?_
                      rotate_left
                      · intro wx hx
                        obtain ⟨⟨z0, z1⟩, ⟨z2, z3⟩, z4, z5⟩ := Hs.out wx ((V7.bl (bl_drew wb)).bl hx.below)
                        go_simp
                        exact ite_two hnn
                      try simp only [Act.put, List.setIfInBounds_toArray, List.set_cons_zero, List.set_cons_succ]
                      refine Chain.step (v := ?_) rfl (Or.inr ⟨by rfl, Or.inl ?_⟩) ?_
                      rotate_left
                      · intro wx hx
                        obtain ⟨⟨z0, z1⟩, ⟨z2, z3⟩, z4, z5⟩ := Hs.out wx ((V7.bl (bl_drew wb)).bl hx.below)
                        go_simp
                        try with_reducible rfl
                      try simp only [Act.put, List.setIfInBounds_toArray, List.set_cons_zero, List.set_cons_succ]
                      refine Chain.step (v := ?_) rfl (Or.inr ⟨by rfl, Or.inl ?_⟩) ?_
                      rotate_left
                      · intro wx hx
                        obtain ⟨⟨z0, z1⟩, ⟨z2, z3⟩, z4, z5⟩ := Hs.out wx ((V7.bl (bl_drew wb)).bl hx.below)
                        go_simp
                        try with_reducible rfl
                      try simp only [Act.put, List.setIfInBounds_toArray, List.set_cons_zero, List.set_cons_succ]
                      refine Chain.step (v := ?_) rfl (Or.inr ⟨by rfl, Or.inl ?_⟩) ?_
                      rotate_left
                      · intro wx hx
                        obtain ⟨⟨z0, z1⟩, ⟨z2, z3⟩, z4, z5⟩ := Hs.out wx ((V7.bl (bl_drew wb)).bl hx.below)
                        go_simp
                        try with_reducible rfl
                      try simp only [Act.put, List.setIfInBounds_toArray, List.set_cons_zero, List.set_cons_succ]
                      refine Chain.step (v := ?_) rfl (Or.inr ⟨by rfl, Or.inl ?_⟩) ?_
                      rotate_left
                      · intro wx hx
                        obtain ⟨⟨z0, z1⟩, ⟨z2, z3⟩, z4, z5⟩ := Hs.out wx ((V7.bl (bl_drew wb)).bl hx.below)
                        go_simp
                        try with_reducible rfl
                      try simp only [Act.put, List.setIfInBounds_toArray, List.set_cons_zero, List.set_cons_succ]
                      refine Chain.step (v := ?_) rfl (Or.inr ⟨by rfl, Or.inl ?_⟩) ?_
                      rotate_left
                      · intro wx hx
                        obtain ⟨⟨z0, z1⟩, ⟨z2, z3⟩, z4, z5⟩ := Hs.out wx ((V7.bl (bl_drew wb)).bl hx.below)
                        go_simp
                        try with_reducible rfl
                      try simp only [Act.put, List.setIfInBounds_toArray, List.set_cons_zero, List.set_cons_succ]
                      refine Chain.step rfl (Or.inl ⟨by rfl, rfl⟩) ?_
                      try simp only [Act.put, List.setIfInBounds_toArray, List.set_cons_zero, List.set_cons_succ]
                      refine Chain.step rfl (Or.inl ⟨by rfl, rfl⟩) ?_
                      try simp only [Act.put, List.setIfInBounds_toArray, List.set_cons_zero, List.set_cons_succ]
                      refine Chain.step rfl (Or.inl ⟨by rfl, rfl⟩) ?_
                      try simp only [Act.put, List.setIfInBounds_toArray, List.set_cons_zero, List.set_cons_succ]
                      refine Chain.step rfl (Or.inl ⟨by rfl, rfl⟩) ?_
                      try simp only [Act.put, List.setIfInBounds_toArray, List.set_cons_zero, List.set_cons_succ]
                      refine Chain.step rfl (Or.inl ⟨by rfl, rfl⟩) ?_
                      try simp only [Act.put, List.setIfInBounds_toArray, List.set_cons_zero, List.set_cons_succ]
                      refine Chain.step rfl (Or.inl ⟨by rfl, rfl⟩) ?_
                      try simp only [Act.put, List.setIfInBounds_toArray, List.set_cons_zero, List.set_cons_succ]
                      refine Chain.step rfl (Or.inl ⟨by rfl, rfl⟩) ?_
                      try simp only [Act.put, List.setIfInBounds_toArray, List.set_cons_zero, List.set_cons_succ]
                      refine Chain.step rfl (Or.inl ⟨by rfl, rfl⟩) ?_
                      try simp only [Act.put, List.setIfInBounds_toArray, List.set_cons_zero, List.set_cons_succ]
                      refine Chain.step rfl (Or.inl ⟨by rfl, rfl⟩) ?_
                      try simp only [Act.put, List.setIfInBounds_toArray, List.set_cons_zero, List.set_cons_succ]
                      refine Chain.step rfl (Or.inl ⟨by rfl, rfl⟩) ?_
                      try simp only [Act.put, List.setIfInBounds_toArray, List.set_cons_zero, List.set_cons_succ]
                      refine Chain.step rfl (Or.inl ⟨by rfl, rfl⟩) ?_
                      try simp only [Act.put, List.setIfInBounds_toArray, List.set_cons_zero, List.set_cons_succ]
                      refine Chain.step rfl (Or.inl ⟨by rfl, rfl⟩) ?_
                      try simp only [Act.put, List.setIfInBounds_toArray, List.set_cons_zero, List.set_cons_succ]
                      refine Chain.step rfl (Or.inl ⟨by rfl, rfl⟩) ?_
                      try simp only [Act.put, List.setIfInBounds_toArray, List.set_cons_zero, List.set_cons_succ]
                      refine Chain.step rfl (Or.inl ⟨by rfl, rfl⟩) ?_
                      try simp only [Act.put, List.setIfInBounds_toArray, List.set_cons_zero, List.set_cons_succ]
                      refine Chain.step (v := ?_) rfl (Or.inr ⟨by rfl, Or.inl ?_⟩) ?_
                      rotate_left
                      · intro wx hx
                        obtain ⟨⟨z0, z1⟩, ⟨z2, z3⟩, z4, z5⟩ := Hs.out wx ((V7.bl (bl_drew wb)).bl hx.below)
                        go_simp
                        try with_reducible rfl
                      try simp only [Act.put, List.setIfInBounds_toArray, List.set_cons_zero, List.set_cons_succ]
                      intro wc hwc
                      have V8 := (V7.bl (bl_drew _)).bl hwc.below
                      clear hwc
                      have W8 := W.bl V8.below
                      have N8 := N.bl V8.below
                      obtain ⟨c0, c1⟩ := Hcl.out wc (U7.bl W8.below) i hlti
                      rw [Ec.out] at c0 c1
                      dsimp only at c0 c1
                      have q0 := N8.cell 0 rfl
                      have q1 := N8.cell 1 rfl
                      have p0 := N8.frozen 0
                      have p1 := N8.frozen 1
                      have N9 : Blk ((wc.setCell ⟨tn, 0, none⟩ (.int .i64 cx)).setCell ⟨tn, 1, none⟩ (.int .i64 cy)) tn #[.int .i64 cx, .int .i64 cy] 28 := (N8.set 0 (.int .i64 cx)).set 1 (.int .i64 cy)
                      have W9 := (W8.setH (p := ⟨tn, 0, none⟩) (by rw [etn]; exact Nat.le_refl _) (.int .i64 cx)).setH (p := ⟨tn, 1, none⟩) (by rw [etn]; exact Nat.le_refl _) (.int .i64 cy)
                      go_wp2
                      go_roundw
                      case rel => exact ⟨i + 1, by omega, by go_num, by rw [Hst.out]; exact N9, W9⟩
                      case measure => simp [intOf]; omega
                  · by_cases hz0 : z = 0
                    · by_cases hf : d2 < d1
                      ·
                        as_aux_lemma =>
                          rw [if_pos (Or.inr (Or.inr ⟨hz0, hf⟩))] at hst
                          have Hst := Lib.hid hst; clear hst
                          have Hnp := Lib.hid hnp; clear hnp
                          go_upto_region 19 with (fail)
                          refine wp_region_calm (S := Since (wb.drew)) 12 (rs := [0, 1, 2, 3, 4, 5, 6, 7, 8, 9, 10, 11, 12, 13, 14, 15, 16, 17, 18, 19, 20, 21, 22]) rfl rfl (by kernel_rfl) (by kernel_rfl) (Since.refl _) ?_
                          refine Chain.step (v := ?_) rfl (Or.inr ⟨by rfl, Or.inl ?_⟩) ?_
                          rotate_left
                          · intro wx hx
                            obtain ⟨⟨z0, z1⟩, ⟨z2, z3⟩, z4, z5⟩ := Hs.out wx ((V7.bl (bl_drew wb)).bl hx.below)
                            go_simp
                            try with_reducible rfl
                          try simp only [Act.put, List.setIfInBounds_toArray, List.set_cons_zero, List.set_cons_succ]
                          refine Chain.step (v := ?_) rfl (Or.inr ⟨by rfl, Or.inl ?_⟩) ?_
                          rotate_left
                          · intro wx hx
                            obtain ⟨⟨z0, z1⟩, ⟨z2, z3⟩, z4, z5⟩ := Hs.out wx ((V7.bl (bl_drew wb)).bl hx.below)
                            go_simp
                            try with_reducible rfl
                          try simp only [Act.put, List.setIfInBounds_toArray, List.set_cons_zero, List.set_cons_succ]
                          refine Chain.step (v := ?_) rfl (Or.inr ⟨by rfl, Or.inl ?_⟩) ?_
                          rotate_left
                          · intro wx hx
                            obtain ⟨⟨z0, z1⟩, ⟨z2, z3⟩, z4, z5⟩ := Hs.out wx ((V7.bl (bl_drew wb)).bl hx.below)
                            go_simp
                            exact ite_two hnn
                          try simp only [Act.put, List.setIfInBounds_toArray, List.set_cons_zero, List.set_cons_succ]
                          refine Chain.step (v := ?_) rfl (Or.inr ⟨by rfl, Or.inl ?_⟩) ?_
                          rotate_left
                          · intro wx hx
                            obtain ⟨⟨z0, z1⟩, ⟨z2, z3⟩, z4, z5⟩ := Hs.out wx ((V7.bl (bl_drew wb)).bl hx.below)
                            go_simp
                            try with_reducible rfl
                          try simp only [Act.put, List.setIfInBounds_toArray, List.set_cons_zero, List.set_cons_succ]
                          refine Chain.step (v := ?_) rfl (Or.inr ⟨by rfl, Or.inl ?_⟩) ?_
                          rotate_left
                          · intro wx hx
                            obtain ⟨⟨z0, z1⟩, ⟨z2, z3⟩, z4, z5⟩ := Hs.out wx ((V7.bl (bl_drew wb)).bl hx.below)
                            go_simp
                            try with_reducible rfl
                          try simp only [Act.put, List.setIfInBounds_toArray, List.set_cons_zero, List.set_cons_succ]
                          refine Chain.step (v := ?_) rfl (Or.inr ⟨by rfl, Or.inl ?_⟩) ?_
                          rotate_left
                          · intro wx hx
                            obtain ⟨⟨z0, z1⟩, ⟨z2, z3⟩, z4, z5⟩ := Hs.out wx ((V7.bl (bl_drew wb)).bl hx.below)
                            go_simp
                            try with_reducible rfl
                          try simp only [Act.put, List.setIfInBounds_toArray, List.set_cons_zero, List.set_cons_succ]
                          refine Chain.step (v := ?_) rfl (Or.inr ⟨by rfl, Or.inl ?_⟩) ?_
                          rotate_left
                          · intro wx hx
                            obtain ⟨⟨z0, z1⟩, ⟨z2, z3⟩, z4, z5⟩ := Hs.out wx ((V7.bl (bl_drew wb)).bl hx.below)
                            go_simp
                            try with_reducible rfl
                          try simp only [Act.put, List.setIfInBounds_toArray, List.set_cons_zero, List.set_cons_succ]
                          refine Chain.step (v := ?_) rfl (Or.inr ⟨by rfl, Or.inl ?_⟩) ?_
                          rotate_left
                          · intro wx hx
                            obtain ⟨⟨z0, z1⟩, ⟨z2, z3⟩, z4, z5⟩ := Hs.out wx ((V7.bl (bl_drew wb)).bl hx.below)
                            go_simp
                            try with_reducible rfl
                          try simp only [Act.put, List.setIfInBounds_toArray, List.set_cons_zero, List.set_cons_succ]
                          refine Chain.step (v := ?_) rfl (Or.inr ⟨by rfl, Or.inl ?_⟩) ?_
                          rotate_left
                          · intro wx hx
                            obtain ⟨⟨z0, z1⟩, ⟨z2, z3⟩, z4, z5⟩ := Hs.out wx ((V7.bl (bl_drew wb)).bl hx.below)
                            go_simp
                            try with_reducible rfl
                          try simp only [Act.put, List.setIfInBounds_toArray, List.set_cons_zero, List.set_cons_succ]
                          refine Chain.step (v := ?_) rfl (Or.inr ⟨by rfl, Or.inl ?_⟩) ?_
                          rotate_left
                          · intro wx hx
                            obtain ⟨⟨z0, z1⟩, ⟨z2, z3⟩, z4, z5⟩ := Hs.out wx ((V7.bl (bl_drew wb)).bl hx.below)
                            go_simp
                            try with_reducible rfl
                          try simp only [Act.put, List.setIfInBounds_toArray, List.set_cons_zero, List.set_cons_succ]
                          refine Chain.step (v := ?_) rfl (Or.inr ⟨by rfl, Or.inl ?_⟩) ?_
                          rotate_left
                          · intro wx hx
                            obtain ⟨⟨z0, z1⟩, ⟨z2, z3⟩, z4, z5⟩ := Hs.out wx ((V7.bl (bl_drew wb)).bl hx.below)
                            go_simp
                            try with_reducible rfl
                          try simp only [Act.put, List.setIfInBounds_toArray, List.set_cons_zero, List.set_cons_succ]
                          refine Chain.step (v := ?_) rfl (Or.inr ⟨by rfl, Or.inl ?_⟩) ?_
                          rotate_left
                          · intro wx hx
                            obtain ⟨⟨z0, z1⟩, ⟨z2, z3⟩, z4, z5⟩ := Hs.out wx ((V7.bl (bl_drew wb)).bl hx.below)
                            go_simp
                            try with_reducible rfl
                          try simp only [Act.put, List.setIfInBounds_toArray, List.set_cons_zero, List.set_cons_succ]
                          refine Chain.step (v := ?_) rfl (Or.inr ⟨by rfl, Or.inl ?_⟩) ?_
                          rotate_left
                          · intro wx hx
                            obtain ⟨⟨z0, z1⟩, ⟨z2, z3⟩, z4, z5⟩ := Hs.out wx ((V7.bl (bl_drew wb)).bl hx.below)
                            go_simp
                            try with_reducible rfl
                          try simp only [Act.put, List.setIfInBounds_toArray, List.set_cons_zero, List.set_cons_succ]
                          refine Chain.step (v := ?_) rfl (Or.inr ⟨by rfl, Or.inl ?_⟩) ?_
                          rotate_left
                          · intro wx hx
                            obtain ⟨⟨z0, z1⟩, ⟨z2, z3⟩, z4, z5⟩ := Hs.out wx ((V7.bl (bl_drew wb)).bl hx.below)
                            go_simp
                            try with_reducible rfl
                          try simp only [Act.put, List.setIfInBounds_toArray, List.set_cons_zero, List.set_cons_succ]
                          refine Chain.step (v := ?_) rfl (Or.inr ⟨by rfl, Or.inl ?_⟩) ?_
                          rotate_left
                          · intro wx hx
                            obtain ⟨⟨z0, z1⟩, ⟨z2, z3⟩, z4, z5⟩ := Hs.out wx ((V7.bl (bl_drew wb)).bl hx.below)
                            go_simp
                            try with_reducible rfl
                          try simp only [Act.put, List.setIfInBounds_toArray, List.set_cons_zero, List.set_cons_succ]
                          refine Chain.step (v := ?_) rfl (Or.inr ⟨by rfl, Or.inl ?_⟩) ?_
                          rotate_left
                          · intro wx hx
                            obtain ⟨⟨z0, z1⟩, ⟨z2, z3⟩, z4, z5⟩ := Hs.out wx ((V7.bl (bl_drew wb)).bl hx.below)
                            go_simp
                            try with_reducible rfl
                          try simp only [Act.put, List.setIfInBounds_toArray, List.set_cons_zero, List.set_cons_succ]
                          refine Chain.step (v := _) rfl (Or.inr ⟨by rfl, Or.inr ⟨35, #[.agg #[.int .i64 ax, .int .i64 ay], .agg #[.int .i64 cx, .int .i64 cy]], fun wx hx => ⟨?_, by with_reducible exact ((Cf.out wx).mono (fun e w' h => ⟨h.1, hx.bl h.2⟩))⟩⟩⟩) ?_
                          · go_simp
                            try with_reducible rfl
                          try simp only [Act.put, List.setIfInBounds_toArray, List.set_cons_zero, List.set_cons_succ]
                          refine Chain.step (v := ?_) rfl (Or.inr ⟨by rfl, Or.inl ?_⟩) ?_
                          rotate_left
                          · intro wx hx
                            obtain ⟨⟨z0, z1⟩, ⟨z2, z3⟩, z4, z5⟩ := Hs.out wx ((V7.bl (bl_drew wb)).bl hx.below)
                            go_simp
                            try with_reducible rfl
                          try simp only [Act.put, List.setIfInBounds_toArray, List.set_cons_zero, List.set_cons_succ]
                          refine Chain.step (v := ?_) rfl (Or.inr ⟨by rfl, Or.inl ?_⟩) ?_
                          rotate_left
                          · intro wx hx
                            obtain ⟨⟨z0, z1⟩, ⟨z2, z3⟩, z4, z5⟩ := Hs.out wx ((V7.bl (bl_drew wb)).bl hx.below)
                            go_simp
                            try with_reducible rfl
                          try simp only [Act.put, List.setIfInBounds_toArray, List.set_cons_zero, List.set_cons_succ]
                          refine Chain.step (v := _) rfl (Or.inr ⟨by rfl, Or.inr ⟨35, #[.agg #[.int .i64 ax, .int .i64 ay], .agg #[.int .i64 nx, .int .i64 ny]], fun wx hx => ⟨?_, by with_reducible exact ((Cg.out wx).mono (fun e w' h => ⟨h.1, hx.bl h.2⟩))⟩⟩⟩) ?_
                          · go_simp
                            try with_reducible rfl
                          try simp only [Act.put, List.setIfInBounds_toArray, List.set_cons_zero, List.set_cons_succ]
                          refine Chain.step (v := ?_) rfl (Or.inr ⟨by rfl, Or.inl ?_⟩) ?_
                          rotate_left
                          · intro wx hx
                            obtain ⟨⟨z0, z1⟩, ⟨z2, z3⟩, z4, z5⟩ := Hs.out wx ((V7.bl (bl_drew wb)).bl hx.below)
                            go_simp
                            try with_reducible rfl
                          try simp only [Act.put, List.setIfInBounds_toArray, List.set_cons_zero, List.set_cons_succ]
                          refine Chain.step (v := ?_) rfl (Or.inr ⟨by rfl, Or.inl ?_⟩) ?_
                          rotate_left
                          · intro wx hx
                            obtain ⟨⟨z0, z1⟩, ⟨z2, z3⟩, z4, z5⟩ := Hs.out wx ((V7.bl (bl_drew wb)).bl hx.below)
                            go_simp
                            try with_reducible rfl
                          try simp only [Act.put, List.setIfInBounds_toArray, List.set_cons_zero, List.set_cons_succ]
                          refine Chain.step (v := ?_) rfl (Or.inr ⟨by rfl, Or.inl ?_⟩) ?_
                          rotate_left
                          · intro wx hx
                            obtain ⟨⟨z0, z1⟩, ⟨z2, z3⟩, z4, z5⟩ := Hs.out wx ((V7.bl (bl_drew wb)).bl hx.below)
                            go_simp
                            try with_reducible rfl
                          try simp only [Act.put, List.setIfInBounds_toArray, List.set_cons_zero, List.set_cons_succ]
                          intro wc hwc
                          have V8 := (V7.bl (bl_drew _)).bl hwc.below
                          clear hwc
                          have W8 := W.bl V8.below
                          have N8 := N.bl V8.below
                          obtain ⟨c0, c1⟩ := Hcl.out wc (U7.bl W8.below) i hlti
                          rw [Ec.out] at c0 c1
                          dsimp only at c0 c1
                          have q0 := N8.cell 0 rfl
                          have q1 := N8.cell 1 rfl
                          have p0 := N8.frozen 0
                          have p1 := N8.frozen 1
                          have N9 : Blk ((wc.setCell ⟨tn, 0, none⟩ (.int .i64 cx)).setCell ⟨tn, 1, none⟩ (.int .i64 cy)) tn #[.int .i64 cx, .int .i64 cy] 28 := (N8.set 0 (.int .i64 cx)).set 1 (.int .i64 cy)
                          have W9 := (W8.setH (p := ⟨tn, 0, none⟩) (by rw [etn]; exact Nat.le_refl _) (.int .i64 cx)).setH (p := ⟨tn, 1, none⟩) (by rw [etn]; exact Nat.le_refl _) (.int .i64 cy)
                          go_wp2
                          go_roundw
                          case rel => exact ⟨i + 1, by omega, by go_num, by rw [Hst.out]; exact N9, W9⟩
                          case measure => simp [intOf]; omega
                      ·
                        as_aux_lemma =>
                          rw [if_neg (fun h => h.elim hnp (fun h => h.elim hz1 (fun h => hf h.2)))] at hst
                          have Hst := Lib.hid hst; clear hst
                          have Hnp := Lib.hid hnp; clear hnp
                          go_upto_region 19 with (fail)
                          refine wp_region_calm (S := Since (wb.drew)) 12 (rs := [0, 1, 2, 3, 4, 5, 6, 7, 8, 9, 10, 11, 12, 13, 14, 15, 16, 17, 18, 19, 20, 21, 22]) rfl rfl (by kernel_rfl) (by kernel_rfl) (Since.refl _) ?_
                          refine Chain.step (v := ?_) rfl (Or.inr ⟨by rfl, Or.inl ?_⟩) ?_
                          rotate_left
                          · intro wx hx
                            obtain ⟨⟨z0, z1⟩, ⟨z2, z3⟩, z4, z5⟩ := Hs.out wx ((V7.bl (bl_drew wb)).bl hx.below)
                            go_simp
                            try with_reducible rfl
                          try simp only [Act.put, List.setIfInBounds_toArray, List.set_cons_zero, List.set_cons_succ]
                          refine Chain.step (v := ?_) rfl (Or.inr ⟨by rfl, Or.inl ?_⟩) ?_
                          rotate_left
                          · intro wx hx
                            obtain ⟨⟨z0, z1⟩, ⟨z2, z3⟩, z4, z5⟩ := Hs.out wx ((V7.bl (bl_drew wb)).bl hx.below)
                            go_simp
                            try with_reducible rfl
                          try simp only [Act.put, List.setIfInBounds_toArray, List.set_cons_zero, List.set_cons_succ]
                          refine Chain.step (v := ?_) rfl (Or.inr ⟨by rfl, Or.inl ?_⟩) ?_
                          rotate_left
                          · intro wx hx
                            obtain ⟨⟨z0, z1⟩, ⟨z2, z3⟩, z4, z5⟩ := Hs.out wx ((V7.bl (bl_drew wb)).bl hx.below)
                            go_simp
                            exact ite_two hnn
                          try simp only [Act.put, List.setIfInBounds_toArray, List.set_cons_zero, List.set_cons_succ]
                          refine Chain.step (v := ?_) rfl (Or.inr ⟨by rfl, Or.inl ?_⟩) ?_
                          rotate_left
                          · intro wx hx
                            obtain ⟨⟨z0, z1⟩, ⟨z2, z3⟩, z4, z5⟩ := Hs.out wx ((V7.bl (bl_drew wb)).bl hx.below)
                            go_simp
                            try with_reducible rfl
                          try simp only [Act.put, List.setIfInBounds_toArray, List.set_cons_zero, List.set_cons_succ]
                          refine Chain.step (v := ?_) rfl (Or.inr ⟨by rfl, Or.inl ?_⟩) ?_
                          rotate_left
                          · intro wx hx
                            obtain ⟨⟨z0, z1⟩, ⟨z2, z3⟩, z4, z5⟩ := Hs.out wx ((V7.bl (bl_drew wb)).bl hx.below)
                            go_simp
                            try with_reducible rfl
                          try simp only [Act.put, List.setIfInBounds_toArray, List.set_cons_zero, List.set_cons_succ]
                          refine Chain.step (v := ?_) rfl (Or.inr ⟨by rfl, Or.inl ?_⟩) ?_
                          rotate_left
                          · intro wx hx
                            obtain ⟨⟨z0, z1⟩, ⟨z2, z3⟩, z4, z5⟩ := Hs.out wx ((V7.bl (bl_drew wb)).bl hx.below)
                            go_simp
                            try with_reducible rfl
                          try simp only [Act.put, List.setIfInBounds_toArray, List.set_cons_zero, List.set_cons_succ]
                          refine Chain.step (v := ?_) rfl (Or.inr ⟨by rfl, Or.inl ?_⟩) ?_
                          rotate_left
                          · intro wx hx
                            obtain ⟨⟨z0, z1⟩, ⟨z2, z3⟩, z4, z5⟩ := Hs.out wx ((V7.bl (bl_drew wb)).bl hx.below)
                            go_simp
                            try with_reducible rfl
                          try simp only [Act.put, List.setIfInBounds_toArray, List.set_cons_zero, List.set_cons_succ]
                          refine Chain.step (v := ?_) rfl (Or.inr ⟨by rfl, Or.inl ?_⟩) ?_
                          rotate_left
                          · intro wx hx
                            obtain ⟨⟨z0, z1⟩, ⟨z2, z3⟩, z4, z5⟩ := Hs.out wx ((V7.bl (bl_drew wb)).bl hx.below)
                            go_simp
                            try with_reducible rfl
                          try simp only [Act.put, List.setIfInBounds_toArray, List.set_cons_zero, List.set_cons_succ]
                          refine Chain.step (v := ?_) rfl (Or.inr ⟨by rfl, Or.inl ?_⟩) ?_
                          rotate_left
                          · intro wx hx
                            obtain ⟨⟨z0, z1⟩, ⟨z2, z3⟩, z4, z5⟩ := Hs.out wx ((V7.bl (bl_drew wb)).bl hx.below)
                            go_simp
                            try with_reducible rfl
                          try simp only [Act.put, List.setIfInBounds_toArray, List.set_cons_zero, List.set_cons_succ]
                          refine Chain.step (v := ?_) rfl (Or.inr ⟨by rfl, Or.inl ?_⟩) ?_
                          rotate_left
                          · intro wx hx
                            obtain ⟨⟨z0, z1⟩, ⟨z2, z3⟩, z4, z5⟩ := Hs.out wx ((V7.bl (bl_drew wb)).bl hx.below)
                            go_simp
                            try with_reducible rfl
                          try simp only [Act.put, List.setIfInBounds_toArray, List.set_cons_zero, List.set_cons_succ]
                          refine Chain.step (v := ?_) rfl (Or.inr ⟨by rfl, Or.inl ?_⟩) ?_
                          rotate_left
                          · intro wx hx
                            obtain ⟨⟨z0, z1⟩, ⟨z2, z3⟩, z4, z5⟩ := Hs.out wx ((V7.bl (bl_drew wb)).bl hx.below)
                            go_simp
                            try with_reducible rfl
                          try simp only [Act.put, List.setIfInBounds_toArray, List.set_cons_zero, List.set_cons_succ]
                          refine Chain.step (v := ?_) rfl (Or.inr ⟨by rfl, Or.inl ?_⟩) ?_
                          rotate_left
                          · intro wx hx
                            obtain ⟨⟨z0, z1⟩, ⟨z2, z3⟩, z4, z5⟩ := Hs.out wx ((V7.bl (bl_drew wb)).bl hx.below)
                            go_simp
                            try with_reducible rfl
                          try simp only [Act.put, List.setIfInBounds_toArray, List.set_cons_zero, List.set_cons_succ]
                          refine Chain.step (v := ?_) rfl (Or.inr ⟨by rfl, Or.inl ?_⟩) ?_
                          rotate_left
                          · intro wx hx
                            obtain ⟨⟨z0, z1⟩, ⟨z2, z3⟩, z4, z5⟩ := Hs.out wx ((V7.bl (bl_drew wb)).bl hx.below)
                            go_simp
                            try with_reducible rfl
                          try simp only [Act.put, List.setIfInBounds_toArray, List.set_cons_zero, List.set_cons_succ]
                          refine Chain.step (v := ?_) rfl (Or.inr ⟨by rfl, Or.inl ?_⟩) ?_
                          rotate_left
                          · intro wx hx
                            obtain ⟨⟨z0, z1⟩, ⟨z2, z3⟩, z4, z5⟩ := Hs.out wx ((V7.bl (bl_drew wb)).bl hx.below)
                            go_simp
                            try with_reducible rfl
                          try simp only [Act.put, List.setIfInBounds_toArray, List.set_cons_zero, List.set_cons_succ]
                          refine Chain.step (v := ?_) rfl (Or.inr ⟨by rfl, Or.inl ?_⟩) ?_
                          rotate_left
                          · intro wx hx
                            obtain ⟨⟨z0, z1⟩, ⟨z2, z3⟩, z4, z5⟩ := Hs.out wx ((V7.bl (bl_drew wb)).bl hx.below)
                            go_simp
                            try with_reducible rfl
                          try simp only [Act.put, List.setIfInBounds_toArray, List.set_cons_zero, List.set_cons_succ]
                          refine Chain.step (v := ?_) rfl (Or.inr ⟨by rfl, Or.inl ?_⟩) ?_
                          rotate_left
                          · intro wx hx
                            obtain ⟨⟨z0, z1⟩, ⟨z2, z3⟩, z4, z5⟩ := Hs.out wx ((V7.bl (bl_drew wb)).bl hx.below)
                            go_simp
                            try with_reducible rfl
                          try simp only [Act.put, List.setIfInBounds_toArray, List.set_cons_zero, List.set_cons_succ]
                          refine Chain.step (v := _) rfl (Or.inr ⟨by rfl, Or.inr ⟨35, #[.agg #[.int .i64 ax, .int .i64 ay], .agg #[.int .i64 cx, .int .i64 cy]], fun wx hx => ⟨?_, by with_reducible exact ((Cf.out wx).mono (fun e w' h => ⟨h.1, hx.bl h.2⟩))⟩⟩⟩) ?_
                          · go_simp
                            try with_reducible rfl
                          try simp only [Act.put, List.setIfInBounds_toArray, List.set_cons_zero, List.set_cons_succ]
                          refine Chain.step (v := ?_) rfl (Or.inr ⟨by rfl, Or.inl ?_⟩) ?_
                          rotate_left
                          · intro wx hx
                            obtain ⟨⟨z0, z1⟩, ⟨z2, z3⟩, z4, z5⟩ := Hs.out wx ((V7.bl (bl_drew wb)).bl hx.below)
                            go_simp
                            try with_reducible rfl
                          try simp only [Act.put, List.setIfInBounds_toArray, List.set_cons_zero, List.set_cons_succ]
                          refine Chain.step (v := ?_) rfl (Or.inr ⟨by rfl, Or.inl ?_⟩) ?_
                          rotate_left
                          · intro wx hx
                            obtain ⟨⟨z0, z1⟩, ⟨z2, z3⟩, z4, z5⟩ := Hs.out wx ((V7.bl (bl_drew wb)).bl hx.below)
                            go_simp
                            try with_reducible rfl
                          try simp only [Act.put, List.setIfInBounds_toArray, List.set_cons_zero, List.set_cons_succ]
                          refine Chain.step (v := _) rfl (Or.inr ⟨by rfl, Or.inr ⟨35, #[.agg #[.int .i64 ax, .int .i64 ay], .agg #[.int .i64 nx, .int .i64 ny]], fun wx hx => ⟨?_, by with_reducible exact ((Cg.out wx).mono (fun e w' h => ⟨h.1, hx.bl h.2⟩))⟩⟩⟩) ?_
                          · go_simp
                            try with_reducible rfl
                          try simp only [Act.put, List.setIfInBounds_toArray, List.set_cons_zero, List.set_cons_succ]
                          refine Chain.step (v := ?_) rfl (Or.inr ⟨by rfl, Or.inl ?_⟩) ?_
                          rotate_left
                          · intro wx hx
                            obtain ⟨⟨z0, z1⟩, ⟨z2, z3⟩, z4, z5⟩ := Hs.out wx ((V7.bl (bl_drew wb)).bl hx.below)
                            go_simp
                            try with_reducible rfl
                          try simp only [Act.put, List.setIfInBounds_toArray, List.set_cons_zero, List.set_cons_succ]
                          refine Chain.step (v := ?_) rfl (Or.inr ⟨by rfl, Or.inl ?_⟩) ?_
                          rotate_left
                          · intro wx hx
                            obtain ⟨⟨z0, z1⟩, ⟨z2, z3⟩, z4, z5⟩ := Hs.out wx ((V7.bl (bl_drew wb)).bl hx.below)
                            go_simp
                            try with_reducible rfl
                          try simp only [Act.put, List.setIfInBounds_toArray, List.set_cons_zero, List.set_cons_succ]
                          refine Chain.step (v := ?_) rfl (Or.inr ⟨by rfl, Or.inl ?_⟩) ?_
                          rotate_left
                          · intro wx hx
                            obtain ⟨⟨z0, z1⟩, ⟨z2, z3⟩, z4, z5⟩ := Hs.out wx ((V7.bl (bl_drew wb)).bl hx.below)
                            go_simp
                            try with_reducible rfl
                          try simp only [Act.put, List.setIfInBounds_toArray, List.set_cons_zero, List.set_cons_succ]
                          intro wc hwc
                          have V8 := (V7.bl (bl_drew _)).bl hwc.below
                          clear hwc
                          have W8 := W.bl V8.below
                          have N8 := N.bl V8.below
                          go_wp2
                          go_roundw
                          case rel => exact ⟨i + 1, by omega, by go_num, by rw [Hst.out]; exact N8, W8⟩
                          case measure => simp [intOf]; omega
                    ·
                      as_aux_lemma =>
                        rw [if_neg (fun h => h.elim hnp (fun h => h.elim hz1 (fun h => hz0 h.1)))] at hst
                        have hz3 : (z == 0) = false := by rw [beq_eq_false_iff_ne]; exact hz0
                        have Hst := Lib.hid hst; clear hst
                        have Hnp := Lib.hid hnp; clear hnp
                        go_upto_region 19 with (fail)
                        refine wp_region_calm (S := Since (wb.drew)) 12 (rs := [0, 1, 2, 3, 4, 5, 6, 7, 8, 9, 10, 11, 12, 13, 14, 15, 16, 17, 18, 19, 20, 21, 22]) rfl rfl (by kernel_rfl) (by kernel_rfl) (Since.refl _) ?_
                        refine Chain.step (v := ?_) rfl (Or.inr ⟨by rfl, Or.inl ?_⟩) ?_
                        rotate_left
                        · intro wx hx
                          obtain ⟨⟨z0, z1⟩, ⟨z2, z3⟩, z4, z5⟩ := Hs.out wx ((V7.bl (bl_drew wb)).bl hx.below)
                          go_simp
                          try with_reducible rfl
                        try simp only [Act.put, List.setIfInBounds_toArray, List.set_cons_zero, List.set_cons_succ]
                        refine Chain.step (v := ?_) rfl (Or.inr ⟨by rfl, Or.inl ?_⟩) ?_
                        rotate_left
                        · intro wx hx
                          obtain ⟨⟨z0, z1⟩, ⟨z2, z3⟩, z4, z5⟩ := Hs.out wx ((V7.bl (bl_drew wb)).bl hx.below)
                          go_simp
                          try with_reducible rfl
                        try simp only [Act.put, List.setIfInBounds_toArray, List.set_cons_zero, List.set_cons_succ]
                        refine Chain.step (v := ?_) rfl (Or.inr ⟨by rfl, Or.inl ?_⟩) ?_
                        rotate_left
                        · intro wx hx
                          obtain ⟨⟨z0, z1⟩, ⟨z2, z3⟩, z4, z5⟩ := Hs.out wx ((V7.bl (bl_drew wb)).bl hx.below)
                          go_simp
                          exact ite_two hnn
                        try simp only [Act.put, List.setIfInBounds_toArray, List.set_cons_zero, List.set_cons_succ]
                        refine Chain.step (v := ?_) rfl (Or.inr ⟨by rfl, Or.inl ?_⟩) ?_
                        rotate_left
                        · intro wx hx
                          obtain ⟨⟨z0, z1⟩, ⟨z2, z3⟩, z4, z5⟩ := Hs.out wx ((V7.bl (bl_drew wb)).bl hx.below)
                          go_simp
                          try with_reducible rfl
                        try simp only [Act.put, List.setIfInBounds_toArray, List.set_cons_zero, List.set_cons_succ]
                        refine Chain.step (v := ?_) rfl (Or.inr ⟨by rfl, Or.inl ?_⟩) ?_
                        rotate_left
                        · intro wx hx
                          obtain ⟨⟨z0, z1⟩, ⟨z2, z3⟩, z4, z5⟩ := Hs.out wx ((V7.bl (bl_drew wb)).bl hx.below)
                          go_simp
                          try with_reducible rfl
                        try simp only [Act.put, List.setIfInBounds_toArray, List.set_cons_zero, List.set_cons_succ]
                        refine Chain.step (v := ?_) rfl (Or.inr ⟨by rfl, Or.inl ?_⟩) ?_
                        rotate_left
                        · intro wx hx
                          obtain ⟨⟨z0, z1⟩, ⟨z2, z3⟩, z4, z5⟩ := Hs.out wx ((V7.bl (bl_drew wb)).bl hx.below)
                          go_simp
                          try with_reducible rfl
                        try simp only [Act.put, List.setIfInBounds_toArray, List.set_cons_zero, List.set_cons_succ]
                        refine Chain.step (v := ?_) rfl (Or.inr ⟨by rfl, Or.inl ?_⟩) ?_
                        rotate_left
                        · intro wx hx
                          obtain ⟨⟨z0, z1⟩, ⟨z2, z3⟩, z4, z5⟩ := Hs.out wx ((V7.bl (bl_drew wb)).bl hx.below)
                          go_simp
                          try with_reducible rfl
                        try simp only [Act.put, List.setIfInBounds_toArray, List.set_cons_zero, List.set_cons_succ]
                        refine Chain.step (v := ?_) rfl (Or.inr ⟨by rfl, Or.inl ?_⟩) ?_
                        rotate_left
                        · intro wx hx
                          obtain ⟨⟨z0, z1⟩, ⟨z2, z3⟩, z4, z5⟩ := Hs.out wx ((V7.bl (bl_drew wb)).bl hx.below)
                          go_simp
                          try with_reducible rfl
                        try simp only [Act.put, List.setIfInBounds_toArray, List.set_cons_zero, List.set_cons_succ]
                        refine Chain.step (v := ?_) rfl (Or.inr ⟨by rfl, Or.inl ?_⟩) ?_
                        rotate_left
                        · intro wx hx
                          obtain ⟨⟨z0, z1⟩, ⟨z2, z3⟩, z4, z5⟩ := Hs.out wx ((V7.bl (bl_drew wb)).bl hx.below)
                          go_simp
                          try with_reducible rfl
                        try simp only [Act.put, List.setIfInBounds_toArray, List.set_cons_zero, List.set_cons_succ]
                        refine Chain.step (v := ?_) rfl (Or.inr ⟨by rfl, Or.inl ?_⟩) ?_
                        rotate_left
                        · intro wx hx
                          obtain ⟨⟨z0, z1⟩, ⟨z2, z3⟩, z4, z5⟩ := Hs.out wx ((V7.bl (bl_drew wb)).bl hx.below)
                          go_simp
                          try with_reducible rfl
                        try simp only [Act.put, List.setIfInBounds_toArray, List.set_cons_zero, List.set_cons_succ]
                        refine Chain.step (v := ?_) rfl (Or.inr ⟨by rfl, Or.inl ?_⟩) ?_
                        rotate_left
                        · intro wx hx
                          obtain ⟨⟨z0, z1⟩, ⟨z2, z3⟩, z4, z5⟩ := Hs.out wx ((V7.bl (bl_drew wb)).bl hx.below)
                          go_simp
                          try with_reducible rfl
                        try simp only [Act.put, List.setIfInBounds_toArray, List.set_cons_zero, List.set_cons_succ]
                        refine Chain.step rfl (Or.inl ⟨by rfl, rfl⟩) ?_
                        try simp only [Act.put, List.setIfInBounds_toArray, List.set_cons_zero, List.set_cons_succ]
                        refine Chain.step rfl (Or.inl ⟨by rfl, rfl⟩) ?_
                        try simp only [Act.put, List.setIfInBounds_toArray, List.set_cons_zero, List.set_cons_succ]
                        refine Chain.step rfl (Or.inl ⟨by rfl, rfl⟩) ?_
                        try simp only [Act.put, List.setIfInBounds_toArray, List.set_cons_zero, List.set_cons_succ]
                        refine Chain.step rfl (Or.inl ⟨by rfl, rfl⟩) ?_
                        try simp only [Act.put, List.setIfInBounds_toArray, List.set_cons_zero, List.set_cons_succ]
                        refine Chain.step rfl (Or.inl ⟨by rfl, rfl⟩) ?_
                        try simp only [Act.put, List.setIfInBounds_toArray, List.set_cons_zero, List.set_cons_succ]
                        refine Chain.step rfl (Or.inl ⟨by rfl, rfl⟩) ?_
                        try simp only [Act.put, List.setIfInBounds_toArray, List.set_cons_zero, List.set_cons_succ]
                        refine Chain.step rfl (Or.inl ⟨by rfl, rfl⟩) ?_
                        try simp only [Act.put, List.setIfInBounds_toArray, List.set_cons_zero, List.set_cons_succ]
                        refine Chain.step rfl (Or.inl ⟨by rfl, rfl⟩) ?_
                        try simp only [Act.put, List.setIfInBounds_toArray, List.set_cons_zero, List.set_cons_succ]
                        refine Chain.step rfl (Or.inl ⟨by rfl, rfl⟩) ?_
                        try simp only [Act.put, List.setIfInBounds_toArray, List.set_cons_zero, List.set_cons_succ]
                        refine Chain.step rfl (Or.inl ⟨by rfl, rfl⟩) ?_
                        try simp only [Act.put, List.setIfInBounds_toArray, List.set_cons_zero, List.set_cons_succ]
                        refine Chain.step (v := ?_) rfl (Or.inr ⟨by rfl, Or.inl ?_⟩) ?_
                        rotate_left
                        · intro wx hx
                          obtain ⟨⟨z0, z1⟩, ⟨z2, z3⟩, z4, z5⟩ := Hs.out wx ((V7.bl (bl_drew wb)).bl hx.below)
                          go_simp
                          try with_reducible rfl
                        try simp only [Act.put, List.setIfInBounds_toArray, List.set_cons_zero, List.set_cons_succ]
                        refine Chain.step (v := ?_) rfl (Or.inr ⟨by rfl, Or.inl ?_⟩) ?_
                        rotate_left
                        · intro wx hx
                          obtain ⟨⟨z0, z1⟩, ⟨z2, z3⟩, z4, z5⟩ := Hs.out wx ((V7.bl (bl_drew wb)).bl hx.below)
                          go_simp
                          try with_reducible rfl
                        try simp only [Act.put, List.setIfInBounds_toArray, List.set_cons_zero, List.set_cons_succ]
                        intro wc hwc
                        have V8 := (V7.bl (bl_drew _)).bl hwc.below
                        clear hwc
                        have W8 := W.bl V8.below
                        have N8 := N.bl V8.below
                        go_wp2
                        go_roundw
                        case rel => exact ⟨i + 1, by omega, by go_num, by rw [Hst.out]; exact N8, W8⟩
                        case measure => simp [intOf]; omega
            · obtain rfl : i = k := by omega
              have hq := scanP_all L (ax, ay)
              rw [en] at hq
              have A8 := A7.bl W.below
              have F8 := F7.bl W.below
              have O8 := O7.bl W.below
              have U8 := U7.bl W.below
              have hmm := Em.out
              have hgi := HG.out
              rw [hmm] at hgi
              have hnext := hgi.next j
              have hback := hgi.back
              have hfresh := hgi.fresh (j + 1) (by omega)
              clear hgi
              rw [← Ep.out] at hq
              obtain ⟨⟨qx, qy⟩, eq⟩ : ∃ q, scanP L (ax, ay) i = q := ⟨_, rfl⟩
              rw [Ep.out, eq] at hq
              rw [eq] at N
              dsimp only at N
              have n0 := N.cell 0 rfl
              have n1 := N.cell 1 rfl
              have a0 := A8.cell 0 rfl
              have a1 := A8.cell 1 rfl
              have p0 := A8.frozen 0
              have p1 := A8.frozen 1
              have f0 := F8.cell 0 rfl
              have f1 := F8.cell 1 rfl
              have A9 : Blk ((wr.setCell ⟨ta, 0, none⟩ (.int .i64 qx)).setCell ⟨ta, 1, none⟩ (.int .i64 qy)) ta #[.int .i64 qx, .int .i64 qy] 28 := (A8.set 0 (.int .i64 qx)).set 1 (.int .i64 qy)
              have F9 := (F8.other (a := ⟨ta, 0, none⟩) (by simp; omega) (.int .i64 qx)).other (a := ⟨ta, 1, none⟩) (by simp; omega) (.int .i64 qy)
              have O9 := (O8.otherH (a := ⟨ta, 0, none⟩) (fun g e => by have e2 : g' = g := Option.some.inj e; exact e2 ▸ hgt7) (.int .i64 qx)).otherH (a := ⟨ta, 1, none⟩) (fun g e => by have e2 : g' = g := Option.some.inj e; exact e2 ▸ hgt7) (.int .i64 qy)
              have U9 := (U8.setH (p := ⟨ta, 0, none⟩) (by show w2.heap.size ≤ ta; omega) (.int .i64 qx)).setH (p := ⟨ta, 1, none⟩) (by show w2.heap.size ≤ ta; omega) (.int .i64 qy)
              have g0 := A9.cell 0 rfl
              have g1 := A9.cell 1 rfl
              have h0 := F9.cell 0 rfl
              have h1 := F9.cell 1 rfl
              clear O7 U7 F7 A7 A8 F8 O8 U8 N W
              by_cases hlast : j + 1 < R.length
              · have hj1 := hnext hlast
                rw [Ep.out, ← hq] at hj1
                have hne := hfresh hlast
                rw [← hj1] at hne
                have hnx : qx = mx → ¬ qy = my := fun e1 e2 => hne (by rw [e1, e2])
                have r9 : GwRel R (mx, my) tf ta w2 ((wr.setCell ⟨ta, 0, none⟩ (.int .i64 qx)).setCell ⟨ta, 1, none⟩ (.int .i64 qy)) (.slice (some ⟨g', 0, none⟩) (j + 1) cap) (j + 1) :=
                  ⟨⟨g', cap, rfl, O9, hgt7⟩, by rw [← hj1]; exact A9, F9, U9⟩
                clear A9 F9 O9 U9 hne hfresh hnext hback
                have R9 := Lib.hid r9; clear r9
                have Hq := Lib.hid hq; clear hq
                have Hj1 := Lib.hid hj1; clear hj1
                have Eq := Lib.hid eq; clear eq
                by_cases hq1 : qx = mx
                all_goals (try have hq2 := hnx hq1)
                all_goals clear hnx
                all_goals go_wp2
                all_goals go_roundw
                all_goals first
                  | exact ⟨j + 1, hlast, R9.out⟩
                  | (have r9' := R9.out; rw [hq1] at r9'; exact ⟨j + 1, hlast, r9'⟩)
                  | (simp [lenOfV]; omega)
              · have hjl : j = R.length - 1 := by omega
                rw [← hjl, Ep.out, ← hq] at hback
                obtain ⟨hm1, hm2⟩ := Prod.mk.inj hback
                have htR : R.take (j + 1) = R := by rw [List.take_of_length_le (by omega)]
                rw [htR] at O9
                have O10 := O9.mono (B' := w.heap.size) (by omega)
                have S10 := S.bl U9.below
                rw [hm1, hm2] at O10 S10
                have o11 := O10
                have s11 := S10.below
                clear A9 F9 O9 U9 hfresh hnext O10 S10 hback
                have O11 := Lib.hid o11; clear o11
                have S11 := Lib.hid s11; clear s11
                have Hq := Lib.hid hq; clear hq
                have Eq := Lib.hid eq; clear eq
                have HtR := Lib.hid htR; clear htR
                go_wp2
                go_ret2
                exact ⟨_, rfl, by rw [HA.out]; exact O11.out, S11.out⟩
end Go.Proofs.Ytjplikkehhpomaa
