/- Contract of the program's InvertGrey. -/
import Derived.Test.YtedgjcmimdblgaaGreyI
import Derived.Test.YtedgjcmimdblgaaGreyR
set_option linter.unusedVariables false
set_option linter.unusedSimpArgs false
namespace Go.Proofs.Ytedgjcmimdblgaa
open Go.RowKit

theorem Box.cat0 {w : World} {b : Nat} {v : Value} {t : TypeId} (h : Box w b v t) : w.cell? ⟨b, 0, none⟩ = some v := h.cell
set_option maxRecDepth 100000 in
set_option maxHeartbeats 2000000 in
theorem gsizes_any (a : Nat) (p : Option Addr) (c : Nat) (L : List (List Int)) (w : World) (h0 : 0 < L.length) (hn : L.length ≤ 16) (hi : (L.getD 0 []).length ≤ 16) (B : Box w a (.slice p L.length c) 27) (hr : RdSS w p L) :
    Calls Try.prog 38 #[.pointer (some ⟨a, 0, none⟩)] w fun e w' => e = .returned (.tuple #[.int .i64 ((L.getD 0 []).length : Nat), .int .i64 (L.length : Nat)]) ∧ Below w.heap.size w w' := by
  obtain ⟨vs, hrv, hri⟩ := hr
  obtain ⟨b, o, rfl, hb2, hc⟩ := hrv.at (k := 0) (by omega)
  obtain ⟨q0, c0, e0, r0⟩ := hri 0 (by omega)
  have x0 := hc 0 (by omega)
  rw [e0, Nat.add_zero] at x0
  have a0 := B.cell
  generalize (L.getD 0 []).length = W at *
  have hl1 : (0 : Int) < (L.length : Int) := by omega
  generalize L.length = H at *
  clear r0 hri hrv e0 hc B
  go_enter Try.func38, Try.ntmps38
  go_wp2_with fail
  go_quiet (fail)
  go_wp2
  go_ret2
  exact ⟨rfl, by (repeat' (first | exact Below.refl _ _ | assumption | refine Below.drew ?_ | refine below_drewN ?_ _ | refine Below.alloc ?_ ?_ _ | refine Below.setCell ?_ ?_ _ | go_size))⟩
set_option maxRecDepth 100000 in
set_option maxHeartbeats 2000000 in
theorem gat_any (a : Nat) (p : Option Addr) (c : Nat) (L : List (List Int)) (x y : Nat) (w : World) (hn : L.length ≤ 16) (hy : y < L.length) (hx : x < (L.getD y []).length) (hi : (L.getD y []).length ≤ 16) (B : Box w a (.slice p L.length c) 27) (hr : RdSS w p L) :
    Calls Try.prog 24 #[.pointer (some ⟨a, 0, none⟩), .agg #[.int .i64 x, .int .i64 y]] w fun e w' => e = .returned (.int .i64 ((L.getD y []).getD x 0)) ∧ Below w.heap.size w w' := by
  have hy0 := bl_alloc w (.cells #[.int .i64 x, .int .i64 y] 46)
  have S := Blk.new w #[.int .i64 x, .int .i64 y] 46
  replace B := B.bl hy0
  obtain ⟨vs, hrv, hri⟩ := hr.bl hy0
  obtain ⟨b, o, rfl, hb2, hc⟩ := hrv.at (k := y) hy
  obtain ⟨q0, c0, e0, r0⟩ := hri y hy
  have x0 := hc y hy
  rw [e0] at x0
  obtain ⟨b1, o1, rfl, hb3, hc1⟩ := r0.at (k := x) hx
  have x1 := hc1 x hx
  rw [intAt] at x1
  have a0 := B.cell
  have s0 := S.cell 0 rfl
  have s1 := S.cell 1 rfl
  generalize (L.getD y []).getD x 0 = z at *
  generalize (L.getD y []).length = W at *
  generalize L.length = H at *
  have hx0 : (0 : Int) ≤ (x : Int) := Int.natCast_nonneg _
  have hy1 : (0 : Int) ≤ (y : Int) := Int.natCast_nonneg _
  have hx2 : (x : Int) < (W : Int) := by omega
  have hy2 : (y : Int) < (H : Int) := by omega
  clear r0 hri hrv e0 hc hc1 B S
  go_enter Try.func24, Try.ntmps24
  go_wp2_with fail
  go_quiet (fail)
  go_wp2
  go_ret
  exact ⟨rfl, hy0.trans ((bl_drewN _ _).mono (by simp))⟩
set_option maxRecDepth 100000 in
set_option maxHeartbeats 2000000 in
theorem ginv1_any (a : Nat) (p : Option Addr) (c : Nat) (L : List (List Int)) (x y : Nat) (w : World) (hn : L.length ≤ 16) (hy : y < L.length) (hx : x < (L.getD y []).length) (hi : (L.getD y []).length ≤ 16) (hz : 0 ≤ (L.getD y []).getD x 0 ∧ (L.getD y []).getD x 0 ≤ 99) (B : Box w a (.slice p L.length c) 27) (hr : RdSS w p L) :
    Calls Try.prog 23 #[.agg #[.int .i64 x, .int .i64 y], .pointer (some ⟨a, 0, none⟩)] w fun e w' => e = .returned (.int .i64 (99 - (L.getD y []).getD x 0)) ∧ Below w.heap.size w w' := by
  have hy0 := bl_alloc w (.cells #[.int .i64 x, .int .i64 y] 46)
  have S := Blk.new w #[.int .i64 x, .int .i64 y] 46
  have s0 := S.cell 0 rfl
  have s1 := S.cell 1 rfl
  have c1 := gat_any a p c L x y _ hn hy hx hi (B.bl hy0) (hr.bl hy0)
  generalize (L.getD y []).getD x 0 = z at *
  obtain ⟨z0, z1⟩ := hz
  have C1 := Lib.hid c1; clear c1
  clear B hr S hi hx hy hn
  go_enter Try.func23, Try.ntmps23
  go_wp2_with fail
  with_reducible (refine C1.out.mono ?_)
  rintro e w1 ⟨rfl, hb⟩
  go_wp2
  go_ret
  exact ⟨rfl, hy0.trans (hb.mono (by simp))⟩
theorem callFunc_ginv1 : ∀ args w, (callFunc 23 args).run Try.prog w = .ok (.enter 23 args) w := fun args w => by kernel_rfl
theorem callFunc_remade1 : ∀ args w, (callFunc 41 args).run Try.prog w = .ok (.enter 41 args) w := fun args w => by kernel_rfl
set_option maxRecDepth 100000 in
set_option maxHeartbeats 2000000 in
theorem remade1_any (b a : Nat) (p : Option Addr) (c : Nat) (L : List (List Int)) (x y : Nat) (w : World) (hn : L.length ≤ 16) (hy : y < L.length) (hx : x < (L.getD y []).length) (hi : (L.getD y []).length ≤ 16) (hz : 0 ≤ (L.getD y []).getD x 0 ∧ (L.getD y []).getD x 0 ≤ 99) (B : Box w a (.slice p L.length c) 27) (F : Box w b (.func (.func 23) #[] #[.pointer (some ⟨a, 0, none⟩)]) 47) (hr : RdSS w p L) :
    Calls Try.prog 41 #[.int .i64 x, .int .i64 y, .pointer (some ⟨b, 0, none⟩)] w fun e w' => e = .returned (.int .i64 (99 - (L.getD y []).getD x 0)) ∧ Below w.heap.size w w' := by
  have f0 := F.cell
  have c1 := ginv1_any a p c L x y w hn hy hx hi hz B hr
  generalize (L.getD y []).getD x 0 = z at *
  have hcf := callFunc_ginv1
  have C1 := Lib.hid c1; clear c1
  clear B hr F hi hx hy hn hz
  go_enter Try.func41, Try.ntmps41
  go_wp2_with fail
  with_reducible (refine C1.out.mono ?_)
  rintro e w1 ⟨rfl, hb⟩
  go_wp2
  go_ret
  exact ⟨rfl, hb⟩
set_option maxRecDepth 100000 in
set_option maxHeartbeats 4000000 in
theorem remade_any (a : Nat) (p : Option Addr) (c : Nat) (L : List (List Int)) (w : World) (hok : okG L 99 = true) (B : Box w a (.slice p L.length c) 27) (hr : RdSS w p L) :
    Calls Try.prog 22 #[.pointer (some ⟨a, 0, none⟩), .func (.func 23) #[] #[.pointer (some ⟨a, 0, none⟩)]] w fun e w' => ∃ v, e = .returned (.agg #[v]) ∧ OwnSS w.heap.size w' v (invG L) ∧ Below w.heap.size w w' := by
  obtain ⟨o1, o2, o3, o4, o5, o6⟩ := okG_true hok
  have hv : invG L = gridL (L.getD 0 []).length L.length (fun i => 99 - L.flatten.getD i 0) := by rw [invG, if_pos hok]
  have hlen : ∀ y, y < L.length → (L.getD y []).length = (L.getD 0 []).length := fun y hy => o5 _ (getD_memL hy)
  have hat : ∀ x y, x < (L.getD 0 []).length → y < L.length → (L.getD y []).getD x 0 = L.flatten.getD (y * (L.getD 0 []).length + x) 0 := fun x y hx hy => (flat_at o5 hx y).symm
  have hbd : ∀ x y, x < (L.getD 0 []).length → y < L.length → 0 ≤ (L.getD y []).getD x 0 ∧ (L.getD y []).getD x 0 ≤ 99 := fun x y hx hy => o6 _ (getD_memL hy) _ (getD_memG (by rw [hlen y hy]; exact hx))
  have hy1 := bl_alloc w (.cells #[.func (.func 23) #[] #[.pointer (some ⟨a, 0, none⟩)]] 47)
  have F := Box.new w (.func (.func 23) #[] #[.pointer (some ⟨a, 0, none⟩)]) 47
  have hy2 := bl_alloc (w.alloc (.cells #[.func (.func 23) #[] #[.pointer (some ⟨a, 0, none⟩)]] 47)) (.cells #[.slice none 0 0] 27)
  have Z := Box.new (w.alloc (.cells #[.func (.func 23) #[] #[.pointer (some ⟨a, 0, none⟩)]] 47)) (.slice none 0 0) 27
  simp only [World.size_alloc] at Z
  have S := ((Since.refl w).bl hy1).bl hy2
  replace B := B.bl hy1
  replace hr := hr.bl hy1
  replace B := B.bl hy2
  replace hr := hr.bl hy2
  replace F := F.bl hy2
  have cs := gsizes_any a p c L _ o1 o2 o4 B hr
  have cb := fun w => blank_any (L.getD 0 []).length L.length w o3 o4 o1 o2
  obtain ⟨W, eW⟩ : ∃ W, (L.getD 0 []).length = W := ⟨_, rfl⟩
  have r1 := fun x y w' (hx : x < W) (hy : y < L.length) => remade1_any w.heap.size a p c L x y w' o2 hy (by rw [hlen y hy, eW]; exact hx) (by rw [hlen y hy]; exact o4) (hbd x y (by rw [eW]; exact hx) hy)
  simp only [eW] at hv cs cb hat o3 o4
  obtain ⟨gL, egL⟩ : ∃ gL, (gridL W L.length fun i => 99 - L.flatten.getD i 0) = gL := ⟨_, rfl⟩
  rw [egL] at hv
  rw [hv]
  have hcf := callFunc_remade1
  have Cs := Lib.hid cs; clear cs
  have Cb := Lib.hid cb; clear cb
  have Hv := Lib.hid hv; clear hv
  have Hat := Lib.hid hat; clear hat
  have Hbd := Lib.hid hbd; clear hbd
  have R1 := Lib.hid r1; clear r1
  have EW := Lib.hid eW; clear eW
  have EgL := Lib.hid egL; clear egL
  have Hlen := Lib.hid hlen; clear hlen
  have O5 := Lib.hid o5; clear o5
  have O6 := Lib.hid o6; clear o6
  clear hok hy1 hy2
  go_enter Try.func22, Try.ntmps22
  go_wp2_with fail
  with_reducible (refine Cs.out.mono ?_)
  rintro e w1 ⟨rfl, hb⟩
  replace S := S.bl hb
  replace B := B.bl hb
  replace F := F.bl hb
  replace Z := Z.bl hb
  replace hr := hr.bl hb
  clear hb Cs
  go_wp2_with fail
  with_reducible (refine (Cb.out _).mono ?_)
  rintro e w2 ⟨m, g, rfl, I, hm, hg, hb⟩
  replace S := S.bl hb
  replace B := B.bl hb
  replace F := F.bl hb
  replace Z := Z.bl hb
  replace hr := hr.bl hb
  clear hb Cb hm hg
  have cg := grid_any m g W L.length (fun _ => false) 41 #[.pointer (some ⟨w.heap.size, 0, none⟩)] (fun i => 99 - L.flatten.getD i 0) w2 I hcf
    (fun x y w' hx hy hb => by
      have h1 := R1.out x y w' hx hy (B.bl hb) (F.bl hb) (hr.bl hb)
      rw [Hat.out x y hx hy] at h1
      exact h1)
  rw [EgL.out] at cg
  have hsz := S.size
  have Cg := Lib.hid cg; clear cg
  clear I R1
  go_wp2_with fail
  with_reducible (refine Cg.out.mono ?_)
  rintro e w3 ⟨v, rfl, ⟨vs, O⟩, hb⟩
  have hlt := Z.lt
  replace S := S.bl hb
  replace Z := Z.bl hb
  clear hb Cg
  obtain ⟨q, d, rfl⟩ := O.form
  have f0 := Z.frozen
  have f1 := Z.cell
  have e0 := (Z.set (.slice q gL.length d)).cell
  have o8 := OwnIntss.setG O (a := ⟨w.heap.size + 1, 0, none⟩) (by simp; omega) (.slice q gL.length d)
  have s8 := S.setG (show w.heap.size ≤ w.heap.size + 1 by omega) (p := ⟨w.heap.size + 1, 0, none⟩) (.slice q gL.length d)
  have O8 := Lib.hid o8; clear o8
  have S8 := Lib.hid s8; clear s8
  go_wp2
  exact bodyPost_ret (v := .agg #[.slice q gL.length d]) (by simp [results, Try.results22, go_sem, e0]) rfl ⟨_, rfl, ⟨_, O8.out.mono (by omega)⟩, S8.out.below⟩
set_option maxRecDepth 100000 in
set_option maxHeartbeats 4000000 in
theorem invertGrey_any (p : Option Addr) (c : Nat) (L : List (List Int)) (w : World) (hn : L.length ≤ 1048576) (hi : ∀ l ∈ L, l.length ≤ 1048576) (hr : RdSS w p L) :
    Calls Try.prog 11 #[.agg #[.slice p L.length c]] w fun e w' => ∃ v, e = .returned (.tuple #[.agg #[v], .bool (okG L 99)]) ∧ OwnSS w.heap.size w' v (invG L) ∧ Below w.heap.size w w' := by
  have hy1 := bl_alloc w (.cells #[.slice p L.length c] 27)
  have hy2 := bl_alloc (w.alloc (.cells #[.slice p L.length c] 27)) (.cells #[.slice none 0 0] 27)
  have S := ((Since.refl w).bl hy1).bl hy2
  have A := (Box.new w (.slice p L.length c) 27).bl hy2
  have B := Box.new (w.alloc (.cells #[.slice p L.length c] 27)) (.slice none 0 0) 27
  have R := (hr.bl hy1).bl hy2
  simp only [World.size_alloc] at B
  have ci := validGrey_any p c L _ hn hi R
  cases hok : okG L 99
  · have hv : invG L = [] := by simp [invG, hok]
    rw [hv]
    rw [hok] at ci
    have x0 := A.cell
    have Ci := Lib.hid ci; clear ci
    have Hok := Lib.hid hok; clear hok
    have Hv := Lib.hid hv; clear hv
    clear hr hy1 hy2
    go_enter Try.func11, Try.ntmps11
    go_wp2_with fail
    with_reducible (refine Ci.out.mono ?_)
    rintro e w1 ⟨rfl, hb⟩
    replace S := S.bl hb
    replace B := B.bl hb
    clear hb R A
    have b0 := B.cell
    have b1 := B.frozen
    have b2 := (B.set (.slice none 0 0)).cell
    have S2 := S.setG (show w.heap.size ≤ w.heap.size + 1 by omega) (p := ⟨w.heap.size + 1, 0, none⟩) (.slice none 0 0)
    go_wp2
    refine bodyPost_ret (v := .tuple #[.agg #[.slice none 0 0], .bool false]) (by simp [results, Try.results11, go_sem, b2]) rfl ⟨_, rfl, ⟨_, OwnIntss.nil _ _⟩, S2.below⟩
  · have cr := fun w' => remade_any w.heap.size p c L w' hok
    rw [hok] at ci
    have x0 := A.cell
    obtain ⟨gL, egL⟩ : ∃ gL, invG L = gL := ⟨_, rfl⟩
    simp only [egL] at cr ⊢
    have Ci := Lib.hid ci; clear ci
    have Hok := Lib.hid hok; clear hok
    have Cr := Lib.hid cr; clear cr
    have EgL := Lib.hid egL; clear egL
    clear hr hy1 hy2
    go_enter Try.func11, Try.ntmps11
    go_wp2_with fail
    with_reducible (refine Ci.out.mono ?_)
    rintro e w1 ⟨rfl, hb⟩
    replace S := S.bl hb
    replace A := A.bl hb
    replace B := B.bl hb
    replace R := R.bl hb
    clear hb Ci
    have hs1 := S.size
    go_wp2_with fail
    with_reducible (refine (Cr.out _ A R).mono ?_)
    rintro e w2 ⟨v, rfl, ⟨vs, O⟩, hb⟩
    have hlt := B.lt
    replace S := S.bl hb
    replace B := B.bl hb
    clear hb Cr x0
    obtain ⟨q, d, rfl⟩ := O.form
    have b0 := B.cell
    have b1 := B.frozen
    have b2 := (B.set (.slice q gL.length d)).cell
    have o7 := OwnIntss.setG O (a := ⟨w.heap.size + 1, 0, none⟩) (by simp; omega) (.slice q gL.length d)
    have s2 := S.setG (show w.heap.size ≤ w.heap.size + 1 by omega) (p := ⟨w.heap.size + 1, 0, none⟩) (.slice q gL.length d)
    have O7 := Lib.hid o7; clear o7
    have S2 := Lib.hid s2; clear s2
    clear O
    go_wp2
    refine bodyPost_ret (v := .tuple #[.agg #[.slice q gL.length d], .bool true]) (by simp [results, Try.results11, go_sem, b2]) rfl ⟨_, rfl, ⟨_, O7.out.mono (by omega)⟩, S2.out.below⟩
end Go.Proofs.Ytedgjcmimdblgaa
