/- Contracts of the reference's leaves of trees. -/
import Derived.Test.YtnenogpagkepfaaTreeS6
import Derived.Test.YtnenogpagkepfaaLeafKit
set_option linter.unusedVariables false
set_option linter.unusedSimpArgs false
namespace Go.Proofs.Ytnenogpagkepfaa
open Go.RowKit

def LsOut (L : List QLeaf) (w : World) (e : Ending) (w' : World) : Prop := ∃ v, e = .returned v ∧ OwnLeaves false 79 w.heap.size w' v L ∧ Below w.heap.size w w'
theorem ls_joined {B : Nat} {w2 : World} {l m L : List QLeaf} {p : Option Addr} {cap : Nat} (e : l ++ m = L) (ho : w2.ownsRow B 79 5 (.slice p L.length cap) L.length (leafCells false l ++ leafCells false m)) : OwnLeaves false 79 B w2 (.slice p L.length cap) L :=
  ⟨_, _, rfl, by rw [show leafCells false L = leafCells false l ++ leafCells false m by rw [← e, leafCells_app]]; exact ho⟩
theorem wpList_append_N {P : Program} (w : World) {ops : Array Oper} {rest : List Oper} {o : Oper} {a : Act} {Q : Exit → Act → World → Prop} (hgd : o.guard = none) (s x : Operand) (t : TypeId)
    (ho : o.op = .call { callee := .builtin .append, args := #[s, x], argTypes := #[t, t] })
    (base : Nat) (e : TypeId) (i : TypeInfo) (z : Value) (size bytes : Nat) (ht : P.underlying t = some (.slice e)) (hi : P.info? e = some i) (hz : i.zero = some z)
    (hsize : i.size = size) (hby : i.bytes = bytes) (hzs : z.cells.size = size) (hsz : 0 < size)
    (v : Value) (n : Nat) (xs : List Value) (hs : a.eval s = v) (hown : w.ownsRow base e size v n xs)
    (ad : Addr) (m c : Nat) (news : List Value) (hx : a.eval x = .slice (some ad) m c) (hl : news.length = m * size) (hnews : ∀ j u, news[j]? = some u → w.cell? (ad.add j) = some u) (h1 : ∀ u ∈ news, u.oneCell' = true)
    (hm : 0 < m) (N : Nat) (hN : n + m = N) (h63 : N ≤ maxLen) (hbytes : N * bytes ≤ 140737488355328) (hbase : base ≤ w.heap.size) (H : Nat) (hH : w.heap.size = H)
    (h : ∀ g cap w', w'.ownsRow base e size (.slice (some ⟨g, 0, none⟩) N cap) N (xs ++ news) → w.grownBy w' v.ownBlock → (v.ownBlock = some g ∨ g = H) → g < w'.heap.size → wpList P ops Q rest (a.put o.dst (.slice (some ⟨g, 0, none⟩) N cap)) w') : wpList P ops Q (o :: rest) a w := by
  subst hN
  exact wpList_append_lies w hgd s x t ho base e i z size bytes ht hi hz hsize hby hzs hsz v n xs hs hown ad m c news hx hl hnews h1 hm h63 hbytes hbase H hH h
theorem addr_sz (p : ByteArray) (b : UInt8) : (p ++ addrB b).size = p.size + 1 := by rw [ByteArray.size_append]; rfl
theorem leaves_256 {k : Nat} {f : Nat → Nat → Bool} {x y : Nat} (hk : k ≤ 4) (x' y' : Nat) (p : ByteArray) : ((qt k f x y).leaves k x' y' p).length ≤ 256 := by
  have h1 := leaves_len k (qt k f x y) x' y' p (qt_deep k f x y)
  have h2 : 4 ^ k ≤ 4 ^ 4 := Nat.pow_le_pow_right (by omega) hk
  omega
set_option maxRecDepth 100000 in
set_option maxHeartbeats 4000000 in
theorem l02Leaves_any (a : Nat) (p : Option Addr) (c : Nat) (ss : List ByteArray) (k : Nat) : ∀ (x y : Nat) (X Y s : Int) (pr : ByteArray) (w : World) (P : PicAt w a p c ss) (hX : X = (x : Int)) (hY : Y = (y : Int)) (hs : s = ((2 ^ k : Nat) : Int)) (hk : k ≤ 4) (hx : x + 2 ^ k ≤ 16) (hy : y + 2 ^ k ≤ 16) (hp : pr.size + k ≤ 4),
    Calls Try.prog 78 #[.pointer (some ⟨a, 0, none⟩), .int .i64 X, .int .i64 Y, .int .i64 s, .string pr] w (LsOut ((qt k (pf (wid ss) ss.length (bits ss)) x y).leaves k x y pr) w) := by
  have leaf : ∀ (k x y : Nat) (X Y s : Int) (pr : ByteArray) (w : World) (P : PicAt w a p c ss) (hX : X = (x : Int)) (hY : Y = (y : Int)) (hs : s = ((2 ^ k : Nat) : Int)) (hk : k ≤ 4) (hx : x + 2 ^ k ≤ 16) (hy : y + 2 ^ k ≤ 16), uni k (pf (wid ss) ss.length (bits ss)) x y = true →
      Calls Try.prog 78 #[.pointer (some ⟨a, 0, none⟩), .int .i64 X, .int .i64 Y, .int .i64 s, .string pr] w (LsOut [⟨x, y, 2 ^ k, pf (wid ss) ss.length (bits ss) x y, pr⟩] w) := by
    intro k x y X Y s pr w P hX hY hs hk hx hy hu
    have c1 := l02Same_any a p c ss k x y X Y s w P hX hY hs hk (by have := pow_le4 hk; omega) (by have := pow_le4 hk; omega)
    rw [hu] at c1
    have c2 := fun n => l01Black_any a p c ss X Y (w.drewN n) (P.drewN n)
    have e1 : px (wid ss) ss.length (bits ss) X Y = pf (wid ss) ss.length (bits ss) x y := by rw [hX, hY]; rfl
    simp only [e1] at c2
    have hres : ∀ (b : Bool) (n : Nat), LsOut [⟨x, y, 2 ^ k, b, pr⟩] w (.returned (.slice (some ⟨w.heap.size, 0, none⟩) 1 1)) ((w.drewN n).alloc (.cells #[.int .i64 X, .int .i64 Y, .int .i64 s, .int .i64 (if b then 1 else 0), .string pr] 79)) := by
      intro b n
      rw [hX, hY, hs]
      exact ⟨_, rfl, OwnLeaves.one (im := false) (T := 79) (w := w.drewN n) ⟨x, y, 2 ^ k, b, pr⟩, (bl_drewN w n).alloc (by simp) _⟩
    cases hb : pf (wid ss) ss.length (bits ss) x y
    · simp only [hb] at c2
      have hr := hres false
      clear e1 hX hY hs hu hb hres
      have C1 := Lib.hid c1; clear c1
      have C2 := Lib.hid c2; clear c2
      have Hr := Lib.hid hr; clear hr
      go_enter Try.func78, Try.ntmps78
      go_wp2_with fail
      with_reducible (refine C1.out.mono ?_)
      rintro e w1 ⟨rfl, n1, rfl⟩
      go_wp2_with fail
      with_reducible (refine (C2.out _).mono ?_)
      rintro e w1 ⟨rfl, n2, rfl⟩
      go_wp2_with fail
      go_ret
      exact Hr.out _
    · simp only [hb] at c2
      have hr := hres true
      clear e1 hX hY hs hu hb hres
      have C1 := Lib.hid c1; clear c1
      have C2 := Lib.hid c2; clear c2
      have Hr := Lib.hid hr; clear hr
      go_enter Try.func78, Try.ntmps78
      go_wp2_with fail
      with_reducible (refine C1.out.mono ?_)
      rintro e w1 ⟨rfl, n1, rfl⟩
      go_wp2_with fail
      with_reducible (refine (C2.out _).mono ?_)
      rintro e w1 ⟨rfl, n2, rfl⟩
      go_wp2_with fail
      go_ret
      exact Hr.out _
  induction k with
  | zero =>
    intro x y X Y s pr w P hX hY hs hk hx hy hp
    exact leaf 0 x y X Y s pr w P hX hY hs hk hx hy (uni0 _ _ _)
  | succ k ih =>
    intro x y X Y s pr w P hX hY hs hk hx hy hp
    cases hu : uni (k + 1) (pf (wid ss) ss.length (bits ss)) x y
    · have c1 := l02Same_any a p c ss (k + 1) x y X Y s w P hX hY hs hk (by have := pow_le4 hk; omega) (by have := pow_le4 hk; omega)
      rw [hu] at c1
      rw [qt, if_neg (by rw [hu]; simp)]
      have hM : 2 ^ (k + 1) = 2 ^ k + 2 ^ k := by rw [Nat.pow_succ]; omega
      have hM1 := pow_le4 (k := k) (by omega)
      rw [hM] at hs hx hy
      have ih2 := fun x y X Y s pr w P hX hY hs hx hy hp => ih x y X Y s pr w P hX hY hs (by omega) hx hy hp
      have hl0 := leaves_256 (k := k) (f := pf (wid ss) ss.length (bits ss)) (x := x) (y := y) (by omega) x y (pr ++ addrB 48)
      have hl1 := leaves_256 (k := k) (f := pf (wid ss) ss.length (bits ss)) (x := x + 2 ^ k) (y := y) (by omega) (x + 2 ^ k) y (pr ++ addrB 49)
      have hl2 := leaves_256 (k := k) (f := pf (wid ss) ss.length (bits ss)) (x := x) (y := y + 2 ^ k) (by omega) x (y + 2 ^ k) (pr ++ addrB 50)
      have hl3 := leaves_256 (k := k) (f := pf (wid ss) ss.length (bits ss)) (x := x + 2 ^ k) (y := y + 2 ^ k) (by omega) (x + 2 ^ k) (y + 2 ^ k) (pr ++ addrB 51)
      have hp1 := leaves_pos k (qt k (pf (wid ss) ss.length (bits ss)) (x + 2 ^ k) y) (x + 2 ^ k) y (pr ++ addrB 49)
      have hp2 := leaves_pos k (qt k (pf (wid ss) ss.length (bits ss)) x (y + 2 ^ k)) x (y + 2 ^ k) (pr ++ addrB 50)
      have hp3 := leaves_pos k (qt k (pf (wid ss) ss.length (bits ss)) (x + 2 ^ k) (y + 2 ^ k)) (x + 2 ^ k) (y + 2 ^ k) (pr ++ addrB 51)
      have azs := fun b => addr_sz pr b
      have i0 := fun s' w P hs' => ih2 x y X Y s' (pr ++ addrB 48) w P hX hY hs' (by omega) (by omega) (by rw [azs]; omega)
      have i1 := fun X' s' w P hX' hs' => ih2 (x + 2 ^ k) y X' Y s' (pr ++ addrB 49) w P hX' hY hs' (by omega) (by omega) (by rw [azs]; omega)
      have i2 := fun Y' s' w P hY' hs' => ih2 x (y + 2 ^ k) X Y' s' (pr ++ addrB 50) w P hX hY' hs' (by omega) (by omega) (by rw [azs]; omega)
      have i3 := fun X' Y' s' w P hX' hY' hs' => ih2 (x + 2 ^ k) (y + 2 ^ k) X' Y' s' (pr ++ addrB 51) w P hX' hY' hs' (by omega) (by omega) (by rw [azs]; omega)
      simp only [QT.leaves, Nat.add_sub_cancel]
      generalize (qt k (pf (wid ss) ss.length (bits ss)) x y).leaves k x y (pr ++ addrB 48) = L0 at *
      generalize (qt k (pf (wid ss) ss.length (bits ss)) (x + 2 ^ k) y).leaves k (x + 2 ^ k) y (pr ++ addrB 49) = L1 at *
      generalize (qt k (pf (wid ss) ss.length (bits ss)) x (y + 2 ^ k)).leaves k x (y + 2 ^ k) (pr ++ addrB 50) = L2 at *
      generalize (qt k (pf (wid ss) ss.length (bits ss)) (x + 2 ^ k) (y + 2 ^ k)).leaves k (x + 2 ^ k) (y + 2 ^ k) (pr ++ addrB 51) = L3 at *
      unfold addrB LsOut at i0 i1 i2 i3
      have hgoal : ∀ e w', LsOut (L0 ++ L1 ++ L2 ++ L3) w e w' → LsOut (L0 ++ (L1 ++ (L2 ++ L3))) w e w' := by intro e w' h; simpa only [List.append_assoc] using h
      with_reducible (refine Calls.mono ?_ hgoal)
      clear hgoal
      obtain ⟨LA, eA⟩ : ∃ LA, L0 ++ L1 = LA := ⟨_, rfl⟩
      obtain ⟨LB, eB⟩ : ∃ LB, LA ++ L2 = LB := ⟨_, rfl⟩
      obtain ⟨LC, eC⟩ : ∃ LC, LB ++ L3 = LC := ⟨_, rfl⟩
      obtain ⟨eA1, eA2⟩ : LA.length ≤ L0.length + L1.length ∧ L0.length + L1.length ≤ LA.length := by rw [← eA, List.length_append]; omega
      obtain ⟨eB1, eB2⟩ : LB.length ≤ LA.length + L2.length ∧ LA.length + L2.length ≤ LB.length := by rw [← eB, List.length_append]; omega
      obtain ⟨eC1, eC2⟩ : LC.length ≤ LB.length + L3.length ∧ LB.length + L3.length ≤ LC.length := by rw [← eC, List.length_append]; omega
      rw [eA, eB, eC]
      obtain ⟨M, eM⟩ : ∃ M, 2 ^ k = M := ⟨_, rfl⟩
      simp only [eM] at hs hx hy hM1 i0 i1 i2 i3
      have hX1 : X ≤ x := by omega
      have hX2 : x ≤ X := by omega
      have hY1 : Y ≤ y := by omega
      have hY2 : y ≤ Y := by omega
      have hs1 : s ≤ 2 * (M : Int) := by omega
      have hs2 : 2 * (M : Int) ≤ s := by omega
      obtain ⟨j0, hi, hz0, hz1, hz2⟩ := info_parts info_sleaf
      clear ih ih2 leaf azs hM
      have S := Since.refl w
      have HX := Lib.hid hX; clear hX
      have HY := Lib.hid hY; clear hY
      have Hs := Lib.hid hs; clear hs
      have C1 := Lib.hid c1; clear c1
      have Hu := Lib.hid hu; clear hu
      have I0 := Lib.hid i0; clear i0
      have I1 := Lib.hid i1; clear i1
      have I2 := Lib.hid i2; clear i2
      have I3 := Lib.hid i3; clear i3
      have EM := Lib.hid eM; clear eM
      have EA := Lib.hid eA; clear eA
      have EB := Lib.hid eB; clear eB
      have EC := Lib.hid eC; clear eC
      go_enter Try.func78, Try.ntmps78
      go_wp2_with fail
      with_reducible (refine C1.out.mono ?_)
      rintro e w1 ⟨rfl, n1, rfl⟩
      replace S := S.bl (bl_drewN w n1)
      go_wp2_with fail
      with_reducible (refine (I0.out _ _ (P.bl S.below) (by omega)).mono ?_)
      rintro e w1 ⟨v0, rfl, O, hb⟩
      obtain ⟨q0, d0, rfl⟩ := O.form
      replace O := O.mono S.size
      replace S := S.bl hb
      clear hb
      go_wp2_with fail
      with_reducible (refine (I1.out _ _ _ (P.bl S.below) (by omega) (by omega)).mono ?_)
      rintro e w2 ⟨v1, rfl, O1, hb1⟩
      obtain ⟨g1, d1, rfl, hg1, hlt1, hnews1⟩ := O1.at hp1
      have hlc1 := leafCells_len false L1
      replace O := O.bl hb1
      replace S := S.bl hb1
      obtain ⟨_, hown⟩ := O.own
      have hS := S.size
      clear hb1 O
      have Hown := Lib.hid hown; clear hown
      have Hnews1 := Lib.hid hnews1; clear hnews1
      have Hlc1 := Lib.hid hlc1; clear hlc1
      have HS := Lib.hid S; clear S
      go_wp2_with (at_builtin; refine wpList_append_N _ rfl _ _ 74 rfl w.heap.size 79 j0 _ 5 48 Try.underlying74 hi hz0 hz1 hz2 rfl (by decide) _ L0.length _ rfl Hown.out ⟨g1, 0, none⟩ L1.length d1 (leafCells false L1) rfl Hlc1.out Hnews1.out (leaf_ones _ _) hp1 LA.length (by omega) (by unfold maxLen; omega) (by omega) hS _ rfl ?_; intro g1' cap1 w14 hown1 hgr1 hat1 hlt14)
      have S : Since w w14 := ⟨below_own HS.out.below hgr1 (own_ge Hown.out) hS⟩
      have O' := ls_joined EA.out hown1
      have O := O'
      clear O' Hown hgr1 hat1 hS hown1 Hlc1 Hnews1 hg1 hlt1 hlt14 O1
      go_wp2_with fail
      with_reducible (refine (I2.out _ _ _ (P.bl S.below) (by omega) (by omega)).mono ?_)
      rintro e w3 ⟨v2, rfl, O2, hb2⟩
      obtain ⟨g2, d2, rfl, hg2, hlt2, hnews2⟩ := O2.at hp2
      have hlc2 := leafCells_len false L2
      replace O := O.bl hb2
      replace S := S.bl hb2
      obtain ⟨_, hown⟩ := O.own
      have hS := S.size
      clear hb2 O
      have Hown := Lib.hid hown; clear hown
      have Hnews2 := Lib.hid hnews2; clear hnews2
      have Hlc2 := Lib.hid hlc2; clear hlc2
      have HS := Lib.hid S; clear S
      go_wp2_with (at_builtin; refine wpList_append_N _ rfl _ _ 74 rfl w.heap.size 79 j0 _ 5 48 Try.underlying74 hi hz0 hz1 hz2 rfl (by decide) _ LA.length _ rfl Hown.out ⟨g2, 0, none⟩ L2.length d2 (leafCells false L2) rfl Hlc2.out Hnews2.out (leaf_ones _ _) hp2 LB.length (by omega) (by unfold maxLen; omega) (by omega) hS _ rfl ?_; intro g2' cap2 w24 hown2 hgr2 hat2 hlt24)
      have S : Since w w24 := ⟨below_own HS.out.below hgr2 (own_ge Hown.out) hS⟩
      have O' := ls_joined EB.out hown2
      have O := O'
      clear O' Hown hgr2 hat2 hS hown2 Hlc2 Hnews2 hg2 hlt2 hlt24 O2
      go_wp2_with fail
      with_reducible (refine (I3.out _ _ _ _ (P.bl S.below) (by omega) (by omega) (by omega)).mono ?_)
      rintro e w4 ⟨v3, rfl, O3, hb3⟩
      obtain ⟨g3, d3, rfl, hg3, hlt3, hnews3⟩ := O3.at hp3
      have hlc3 := leafCells_len false L3
      replace O := O.bl hb3
      replace S := S.bl hb3
      obtain ⟨_, hown⟩ := O.own
      have hS := S.size
      clear hb3 O
      have Hown := Lib.hid hown; clear hown
      have Hnews3 := Lib.hid hnews3; clear hnews3
      have Hlc3 := Lib.hid hlc3; clear hlc3
      have HS := Lib.hid S; clear S
      go_wp2_with (at_builtin; refine wpList_append_N _ rfl _ _ 74 rfl w.heap.size 79 j0 _ 5 48 Try.underlying74 hi hz0 hz1 hz2 rfl (by decide) _ LB.length _ rfl Hown.out ⟨g3, 0, none⟩ L3.length d3 (leafCells false L3) rfl Hlc3.out Hnews3.out (leaf_ones _ _) hp3 LC.length (by omega) (by unfold maxLen; omega) (by omega) hS _ rfl ?_; intro g3' cap3 w34 hown3 hgr3 hat3 hlt34)
      have S : Since w w34 := ⟨below_own HS.out.below hgr3 (own_ge Hown.out) hS⟩
      have O' := ls_joined EC.out hown3
      have O := O'
      clear O' Hown hgr3 hat3 hS hown3 Hlc3 Hnews3 hg3 hlt3 hlt34 O3
      go_wp2
      go_ret
      exact ⟨_, rfl, O, S.below⟩
    · rw [qt, if_pos hu]
      exact leaf (k + 1) x y X Y s pr w P hX hY hs hk hx hy hu
end Go.Proofs.Ytnenogpagkepfaa
