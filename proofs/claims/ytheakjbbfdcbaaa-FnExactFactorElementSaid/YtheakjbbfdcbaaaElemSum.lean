/- Contracts of the sums of offsets, the program's. -/
import Derived.Test.YtheakjbbfdcbaaaSpCompact
import Derived.Test.YtheakjbbfdcbaaaElemCmp
import Derived.Test.YtheakjbbfdcbaaaElemMir
set_option linter.unusedVariables false
set_option linter.unusedSimpArgs false
namespace Go.Proofs.Ytheakjbbfdcbaaa
open Go.RowKit Go.Sort

theorem setL_len (l : List (Int × Int)) : (setL l).length ≤ l.length := by
  have h1 := cmpL_len (srtL l)
  rw [srtL_len] at h1
  exact h1
theorem setL_rising {l : List (Int × Int)} (h : Rising l) : setL l = l := by rw [setL, set_rising h, cmp_rising h]
set_option maxRecDepth 100000 in
set_option maxHeartbeats 4000000 in
theorem elementOf_g (B g c : Nat) (l : List (Int × Int)) (w : World) (hl : l.length ≤ 1048576) (O : OwnSpots B w (.slice (some ⟨g, 0, none⟩) l.length c) l) :
    Calls Try.prog 65 #[.slice (some ⟨g, 0, none⟩) l.length c] w fun e w' => e = .returned (.agg #[.slice (some ⟨g, 0, none⟩) (setL l).length c]) ∧ OwnSpots B w' (.slice (some ⟨g, 0, none⟩) (setL l).length c) (setL l) ∧ w.grownBy w' (some g) := by
  have S := World.grownBy_alloc w (.cells #[.slice none 0 0] 28) (some g)
  have B0 := Box.new w (.slice none 0 0) 28
  have O1 := O.bl (bl_alloc w (.cells #[.slice none 0 0] 28))
  have hge := O.ge g rfl
  have c1 := sort_any O1 rfl hl
  have hsl := srtL_len l
  have c2 := fun w' (h : OwnSpots B w' (.slice (some ⟨g, 0, none⟩) l.length c) (srtL l)) => compact_any (B := B) g c (srtL l) w' (by omega) (by rw [hsl]; exact h)
  have hset : cmpL (srtL l) = setL l := rfl
  simp only [hsl, hset] at c2
  obtain ⟨M, eM⟩ : ∃ M, setL l = M := ⟨_, rfl⟩
  simp only [eM] at c2 ⊢
  obtain ⟨n, en⟩ : ∃ n, l.length = n := ⟨_, rfl⟩
  simp only [en] at c1 c2 ⊢
  have C1 := Lib.hid c1; clear c1
  have C2 := Lib.hid c2; clear c2
  have En := Lib.hid en; clear en
  have EM := Lib.hid eM; clear eM
  have Hsl := Lib.hid hsl; clear hsl
  have Hset := Lib.hid hset; clear hset
  go_enter Try.func65, Try.ntmps65
  go_wp2_with fail
  refine C1.out.mono ?_
  rintro e w1 ⟨rfl, O2, hg⟩
  have B1 := B0.grown hg (by intro e; cases e; omega)
  have S1 := grown_trans S hg
  go_wp2_with fail
  refine (C2.out _ O2).mono ?_
  rintro e w2 ⟨rfl, O3, hg2⟩
  have hs1 := S1.size
  have B2 := B1.grown hg2 (by intro e; cases e; omega)
  have S2 := grown_trans S1 hg2
  have f0 := B2.frozen
  have f1 := B2.cell
  have e0 := (B2.set (.slice (some ⟨g, 0, none⟩) M.length c)).cell
  have o4 : OwnSpots B (w2.setCell ⟨w.heap.size, 0, none⟩ (.slice (some ⟨g, 0, none⟩) M.length c)) (.slice (some ⟨g, 0, none⟩) M.length c) M := by
    obtain ⟨p', c', hv, ho⟩ := O3
    exact ⟨p', c', hv, own_other ho (by simp [Value.ownBlock]; omega) _⟩
  have g4 := grown_set S2 (p := ⟨w.heap.size, 0, none⟩) (by simp) (.slice (some ⟨g, 0, none⟩) M.length c)
  have O4 := Lib.hid o4; clear o4
  have G4 := Lib.hid g4; clear g4
  clear O3 O2 C1 C2 S S1 S2 hg hg2 B0 B1 B2
  go_wp2
  exact bodyPost_ret (v := .agg #[.slice (some ⟨g, 0, none⟩) M.length c]) (by simp [results, Try.results65, go_sem, e0]) rfl ⟨rfl, O4.out, G4.out⟩
/-- What comes of a list of offsets. -/
def toldL (l : List (Int × Int)) : List (Int × Int) := if okEl (setL l) then setL l else []
set_option maxRecDepth 100000 in
set_option maxHeartbeats 4000000 in
theorem toldElement_g (B g c : Nat) (l : List (Int × Int)) (w : World) (hl : l.length ≤ 1048576) (O : OwnSpots B w (.slice (some ⟨g, 0, none⟩) l.length c) l) :
    Calls Try.prog 58 #[.slice (some ⟨g, 0, none⟩) l.length c] w fun e w' => ∃ v, e = .returned (.tuple #[.agg #[v], .bool (okEl (setL l))]) ∧ OwnSpots B w' v (toldL l) ∧ w.grownBy w' (some g) := by
  have S := World.grownBy_alloc w (.cells #[.slice none 0 0] 28) (some g)
  have B0 := Box.new w (.slice none 0 0) 28
  have O1 := O.bl (bl_alloc w (.cells #[.slice none 0 0] 28))
  have hge := O.ge g rfl
  have c1 := elementOf_g B g c l _ hl O1
  have hsl := setL_len l
  have c2 := fun w' R => validElement_any (some ⟨g, 0, none⟩) c (setL l) w' (by omega) R
  have hR : toldL l = if okEl (setL l) then setL l else [] := rfl
  obtain ⟨M, eM⟩ : ∃ M, setL l = M := ⟨_, rfl⟩
  rw [eM] at c1 c2 hR ⊢
  obtain ⟨n, en⟩ : ∃ n, l.length = n := ⟨_, rfl⟩
  rw [en] at c1 ⊢
  cases hok : okEl M
  all_goals
    rw [hok] at hR
    simp only [hok] at c2
    have C1 := Lib.hid c1; clear c1
    have C2 := Lib.hid c2; clear c2
    have Hok := Lib.hid hok; clear hok
    have En := Lib.hid en; clear en
    have EM := Lib.hid eM; clear eM
    have HR := Lib.hid hR; clear hR
    have Hsl := Lib.hid hsl; clear hsl
    go_enter Try.func58, Try.ntmps58
    go_wp2_with fail
    refine C1.out.mono ?_
    rintro e w1 ⟨rfl, O2, hg⟩
    have S1 := grown_trans S hg
    have hs1 := S1.size
    have hs2 := hg.size
    rw [World.size_alloc] at hs2
    have B1 := (B0.grown hg (by intro e; cases e; omega)).alloc (.cells #[.slice (some ⟨g, 0, none⟩) M.length c] 28)
    have O3 := O2.bl (bl_alloc w1 (.cells #[.slice (some ⟨g, 0, none⟩) M.length c] 28))
    have S2 := grown_below S1 (bl_alloc w1 (.cells #[.slice (some ⟨g, 0, none⟩) M.length c] 28)) hs1
    have X1 := Box.new w1 (.slice (some ⟨g, 0, none⟩) M.length c) 28
    have R2 := O3.rd
    go_wp2_with fail
    refine (C2.out _ R2).mono ?_
    rintro e w2 ⟨rfl, hb2⟩
    have S3 := grown_below S2 hb2 S2.size
    have B2 := B1.bl hb2
    have X2 := X1.bl hb2
    have O4 := O3.bl hb2
    have f0 := B2.frozen
    have f1 := B2.cell
    have f2 := X2.cell
    have o5 : ∀ v, OwnSpots B (w2.setCell ⟨w.heap.size, 0, none⟩ v) (.slice (some ⟨g, 0, none⟩) M.length c) M := fun v => by
      obtain ⟨p', c', hv, ho⟩ := O4
      exact ⟨p', c', hv, own_other ho (by simp [Value.ownBlock]; omega) _⟩
    have g5 := fun v => grown_set S3 (p := ⟨w.heap.size, 0, none⟩) (by simp) v
    have e0 := fun v => (B2.set v).cell
    have O5 := Lib.hid o5; clear o5
    have G5 := Lib.hid g5; clear g5
    clear O4 O3 O2 O1 S S1 S2 S3 hg hb2 C1 C2 B0 B1 B2 X1 X2 R2
  · have e1 := e0 (.slice none 0 0)
    have E0 := Lib.hid e0; clear e0
    go_wp2
    exact bodyPost_ret (v := .tuple #[.agg #[.slice none 0 0], .bool false]) (by simp [results, Try.results58, go_sem, e1]) rfl ⟨_, rfl, by rw [HR.out]; exact OwnSpots.nil _ _, G5.out _⟩
  · have e1 := e0 (.slice (some ⟨g, 0, none⟩) M.length c)
    have E0 := Lib.hid e0; clear e0
    go_wp2
    exact bodyPost_ret (v := .tuple #[.agg #[.slice (some ⟨g, 0, none⟩) M.length c], .bool true]) (by simp [results, Try.results58, go_sem, e1]) rfl ⟨_, rfl, by rw [HR.out]; exact O5.out _, G5.out _⟩
/-- Bounded offsets. -/
def Small (l : List (Int × Int)) : Prop := ∀ s ∈ l, (-100 ≤ s.1 ∧ s.1 ≤ 100) ∧ -100 ≤ s.2 ∧ s.2 ≤ 100
set_option maxHeartbeats 4000000 in
theorem plus_any (a b x y : Int) (w : World) (h1 : -100 ≤ a ∧ a ≤ 100) (h2 : -100 ≤ b ∧ b ≤ 100) (h3 : -100 ≤ x ∧ x ≤ 100) (h4 : -100 ≤ y ∧ y ≤ 100) :
    Calls Try.prog 42 #[.agg #[.int .i64 a, .int .i64 b], .agg #[.int .i64 x, .int .i64 y]] w fun e w' => e = .returned (.agg #[.int .i64 (a + x), .int .i64 (b + y)]) ∧ Below w.heap.size w w' := by
  have A := ((Blk.new w #[.int .i64 a, .int .i64 b] 45).alloc (.cells #[.int .i64 x, .int .i64 y] 45)).alloc (.cells #[.int .i64 0, .int .i64 0] 45)
  have B := (Blk.new (w.alloc (.cells #[.int .i64 a, .int .i64 b] 45)) #[.int .i64 x, .int .i64 y] 45).alloc (.cells #[.int .i64 0, .int .i64 0] 45)
  simp only [World.size_alloc] at B
  have S := (((Since.refl w).alloc (.cells #[.int .i64 a, .int .i64 b] 45)).alloc (.cells #[.int .i64 x, .int .i64 y] 45)).alloc (.cells #[.int .i64 0, .int .i64 0] 45)
  have a0 := A.cell 0 rfl
  have a1 := A.cell 1 rfl
  have b0 := B.cell 0 rfl
  have b1 := B.cell 1 rfl
  clear A B
  go_enter Try.func42, Try.ntmps42
  go_wp2
  exact bodyPost_ret (v := .agg #[.int .i64 (a + x), .int .i64 (b + y)]) (by simp [results, Try.results42, go_sem]) rfl ⟨rfl, by first | exact S.below | exact (S.below.setCell (by simp; omega) _).setCell (by simp; omega) _ | (repeat' (first | exact Below.refl _ _ | assumption | refine Below.drew ?_ | refine below_drewN ?_ _ | refine Below.alloc ?_ ?_ _ | refine Below.setCell ?_ ?_ _ | go_size))⟩
end Go.Proofs.Ytheakjbbfdcbaaa
