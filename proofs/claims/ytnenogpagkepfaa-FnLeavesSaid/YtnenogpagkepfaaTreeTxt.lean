/- Contracts of the program's treeText, treeOf. -/
import Derived.Test.YtnenogpagkepfaaTreeQ2
set_option linter.unusedVariables false
set_option linter.unusedSimpArgs false
namespace Go.Proofs.Ytnenogpagkepfaa
open Go.RowKit

theorem colB_inj {a b : Bool} (h : colB a = colB b) : a = b := by cases a <;> cases b <;> first | rfl | exact absurd h (by decide)
/-- Four quarters of one colour are one square of one colour. -/
theorem four_uni (k : Nat) (f : Nat → Nat → Bool) (x y : Nat) : four (qt k f x y) (qt k f (x + 2 ^ k) y) (qt k f x (y + 2 ^ k)) (qt k f (x + 2 ^ k) (y + 2 ^ k)) = uni (k + 1) f x y := by
  rw [Bool.eq_iff_iff, four_iff, uni_split]
  constructor
  · rintro ⟨p, h0, h1, h2, h3⟩
    have a0 := qt_leaf h0
    have a1 := qt_leaf h1
    have a2 := qt_leaf h2
    have a3 := qt_leaf h3
    exact ⟨a0.2, a1.2, a2.2, a3.2, by rw [← a0.1, ← a1.1], by rw [← a0.1, ← a2.1], by rw [← a0.1, ← a3.1]⟩
  · rintro ⟨h0, h1, h2, h3, e1, e2, e3⟩
    exact ⟨f x y, (qt_uni k f x y).2 h0, by rw [(qt_uni k f _ _).2 h1, e1], by rw [(qt_uni k f _ _).2 h2, e2], by rw [(qt_uni k f _ _).2 h3, e3]⟩
/-- Are the texts of four squares one sign? -/
def ttS (a b c d : ByteArray) : Bool := decide (a.size = 1) && (decide (b = a) && decide (b.size = 1)) && (decide (c = a) && decide (c.size = 1)) && (decide (d = a) && decide (d.size = 1))
theorem ttS_four (a b c d : QT) : ttS (bytesOf a.print) (bytesOf b.print) (bytesOf c.print) (bytesOf d.print) = four a b c d := by
  rw [Bool.eq_iff_iff, four_iff]
  simp only [ttS, Bool.and_eq_true, decide_eq_true_eq, bytesOf_size]
  constructor
  · rintro ⟨⟨⟨h0, h1, h2⟩, h3, h4⟩, h5, h6⟩
    obtain ⟨p, rfl⟩ := print_one h0
    obtain ⟨q, rfl⟩ := print_one h2
    obtain ⟨r, rfl⟩ := print_one h4
    obtain ⟨s, rfl⟩ := print_one h6
    have e1 := bytesOf_inj h1
    have e2 := bytesOf_inj h3
    have e3 := bytesOf_inj h5
    simp only [QT.print, List.cons.injEq, and_true] at e1 e2 e3
    have := colB_inj e1
    have := colB_inj e2
    have := colB_inj e3
    subst_vars
    exact ⟨_, rfl, rfl, rfl, rfl⟩
  · rintro ⟨p, rfl, rfl, rfl, rfl⟩
    simp [QT.print]
theorem bytesOf_app (l m : List UInt8) : bytesOf l ++ bytesOf m = bytesOf (l ++ m) := by
  apply ByteArray.ext
  simp [bytesOf, ByteArray.data_append]
theorem print_node (a b c d : QT) : (⟨#[40]⟩ : ByteArray) ++ ((((⟨#[]⟩ ++ bytesOf a.print) ++ bytesOf b.print) ++ bytesOf c.print) ++ bytesOf d.print) ++ ⟨#[41]⟩ = bytesOf (QT.node a b c d).print := by
  have e0 : (⟨#[]⟩ : ByteArray) = bytesOf [] := rfl
  have e1 : (⟨#[40]⟩ : ByteArray) = bytesOf [40] := rfl
  have e2 : (⟨#[41]⟩ : ByteArray) = bytesOf [41] := rfl
  rw [e0, e1, e2]
  simp only [bytesOf_app]
  simp [QT.print]
theorem tt_same {B F : ByteArray} (h : B.toList = F.toList) : ((B.size : Int) == 1) = (true && (decide (B = F) && decide (B.size = 1))) := by
  rw [bytes_toList h, Bool.eq_iff_iff]
  simp
  omega
theorem tt_diff {B F : ByteArray} (h : ¬ B.toList = F.toList) : false = (true && (decide (B = F) && decide (B.size = 1))) := by
  have : ¬ B = F := fun e => h (by rw [e])
  simp [this]
theorem tt_empty {F : ByteArray} (h : 1 ≤ F.size) : F.toList.isEmpty = false := by
  rw [ByteArray.toList_eq]
  cases hF : F.data.toList with
  | nil =>
    have : F.data.size = 0 := by rw [← Array.length_toList, hF]; rfl
    have h2 : F.data.size = F.size := rfl
    omega
  | cons a l => rfl
/-- The loop of treeText: the text so far, the first text, are all the same. -/
def TtRel (w : World) (bq : Nat) (V : Array Value) (A B C D : ByteArray) (o f s i : Value) (wr : World) : Prop :=
  ∃ (j : Nat) (ji : Int) (O F : ByteArray) (S : Bool), j ≤ 4 ∧ ji = (j : Int) ∧ i = .int .i64 ji ∧ o = .string O ∧ f = .string F ∧ s = .bool S ∧ Since w wr ∧ Blk wr bq V 81 ∧
    (j = 0 → O = ⟨#[]⟩ ∧ F = ⟨#[]⟩ ∧ S = true) ∧ (j = 1 → O = ⟨#[]⟩ ++ A ∧ F = A ∧ S = decide (A.size = 1)) ∧ (j = 2 → O = (⟨#[]⟩ ++ A) ++ B ∧ F = A ∧ S = (decide (A.size = 1) && (decide (B = A) && decide (B.size = 1)))) ∧
    (j = 3 → O = ((⟨#[]⟩ ++ A) ++ B) ++ C ∧ F = A ∧ S = (decide (A.size = 1) && (decide (B = A) && decide (B.size = 1)) && (decide (C = A) && decide (C.size = 1)))) ∧ (j = 4 → O = (((⟨#[]⟩ ++ A) ++ B) ++ C) ++ D ∧ F = A ∧ S = ttS A B C D)
set_option maxRecDepth 100000 in
set_option maxHeartbeats 4000000 in
theorem treeText_any (m g W H : Nat) (f : Nat → Bool) (k : Nat) : ∀ (x y : Nat) (X Y s : Int) (w : World) (I : Img w m g W H f) (hX : X = (x : Int)) (hY : Y = (y : Int)) (hs : s = ((2 ^ k : Nat) : Int)) (hk : k ≤ 4) (hx : x + 2 ^ k ≤ 16) (hy : y + 2 ^ k ≤ 16),
    Calls Try.prog 82 #[.pointer (some ⟨m, 0, none⟩), .agg #[.int .i64 X, .int .i64 Y, .int .i64 s]] w fun e w' => e = .returned (.string (bytesOf (qt k (pf W H f) x y).print)) ∧ Below w.heap.size w w' := by
  induction k with
  | zero =>
    intro x y X Y s w I hX hY hs hk hx hy
    have hs1 : s = 1 := by rw [hs]; rfl
    subst hs1
    have I1 := I.bl (bl_alloc w (.cells #[.int .i64 X, .int .i64 Y, .int .i64 1] 81))
    have c1 := get_any m g W H f X Y _ I1
    have e1 : px W H f X Y = pf W H f x y := by rw [hX, hY]; rfl
    rw [e1] at c1
    have S := (Since.refl w).alloc (.cells #[.int .i64 X, .int .i64 Y, .int .i64 1] 81)
    have hr : bytesOf (qt 0 (pf W H f) x y).print = ⟨#[colB (pf W H f x y)]⟩ := rfl
    rw [hr]
    clear I I1 hs hr
    cases hb : pf W H f x y
    all_goals
      rw [hb] at c1 e1
      have C1 := Lib.hid c1; clear c1
      have HX := Lib.hid hX; clear hX
      have HY := Lib.hid hY; clear hY
      have E1 := Lib.hid e1; clear e1
      have Hb := Lib.hid hb; clear hb
      go_enter Try.func82, Try.ntmps82
      go_wp2_with fail
      with_reducible (refine C1.out.mono ?_)
      rintro e w1 ⟨rfl, n1, rfl⟩
      have S2 := S.bl (bl_drewN _ n1)
      clear S
      go_wp2
      go_ret
      exact ⟨rfl, S2.below⟩
  | succ k ih =>
    intro x y X Y s w I hX hY hs hk hx hy
    have hM : 2 ^ (k + 1) = 2 * 2 ^ k := by rw [Nat.pow_succ]; omega
    have hM1 := pow_le4 (k := k) (by omega)
    rw [hM] at hs hx hy
    have hM8 : 2 ^ k ≤ 8 := by omega
    have t4 : (s == 1) = false := by rw [← Bool.not_eq_true, beq_iff_eq]; omega
    have cq := fun w => quarters_any X Y s (2 ^ k) w (by omega) (by omega) (by omega) (by omega) (by rw [hs]; omega) hM8
    have i0 := fun (w : World) I => ih x y X Y ((2 ^ k : Nat) : Int) w I hX hY rfl (by omega) (by omega) (by omega)
    have i1 := fun (w : World) I => ih (x + 2 ^ k) y (X + ((2 ^ k : Nat) : Int)) Y ((2 ^ k : Nat) : Int) w I (by omega) hY rfl (by omega) (by omega) (by omega)
    have i2 := fun (w : World) I => ih x (y + 2 ^ k) X (Y + ((2 ^ k : Nat) : Int)) ((2 ^ k : Nat) : Int) w I hX (by omega) rfl (by omega) (by omega) (by omega)
    have i3 := fun (w : World) I => ih (x + 2 ^ k) (y + 2 ^ k) (X + ((2 ^ k : Nat) : Int)) (Y + ((2 ^ k : Nat) : Int)) ((2 ^ k : Nat) : Int) w I (by omega) (by omega) rfl (by omega) (by omega) (by omega)
    have hfu := four_uni k (pf W H f) x y
    have hts := ttS_four (qt k (pf W H f) x y) (qt k (pf W H f) (x + 2 ^ k) y) (qt k (pf W H f) x (y + 2 ^ k)) (qt k (pf W H f) (x + 2 ^ k) (y + 2 ^ k))
    rw [hfu] at hts
    have hnd := print_node (qt k (pf W H f) x y) (qt k (pf W H f) (x + 2 ^ k) y) (qt k (pf W H f) x (y + 2 ^ k)) (qt k (pf W H f) (x + 2 ^ k) (y + 2 ^ k))
    have hz := fun x y => bytesOf_size (qt k (pf W H f) x y).print
    have hpl := fun x y => print_len k (qt k (pf W H f) x y) (qt_deep k _ x y)
    have hpp := fun x y => print_pos (qt k (pf W H f) x y)
    have h4k : 4 ^ k ≤ 4 ^ 3 := Nat.pow_le_pow_right (by omega) (by omega)
    have hsz : ∀ x y, (bytesOf (qt k (pf W H f) x y).print).size ≤ 200 ∧ 1 ≤ (bytesOf (qt k (pf W H f) x y).print).size := fun x y => by
      have h1 := hz x y
      have h2 := hpl x y
      have h3 := hpp x y
      omega
    have hA := hsz x y
    have hB := hsz (x + 2 ^ k) y
    have hC := hsz x (y + 2 ^ k)
    have hD := hsz (x + 2 ^ k) (y + 2 ^ k)
    have hres : bytesOf (qt (k + 1) (pf W H f) x y).print = if ttS (bytesOf (qt k (pf W H f) x y).print) (bytesOf (qt k (pf W H f) (x + 2 ^ k) y).print) (bytesOf (qt k (pf W H f) x (y + 2 ^ k)).print) (bytesOf (qt k (pf W H f) (x + 2 ^ k) (y + 2 ^ k)).print) then bytesOf (qt k (pf W H f) x y).print else
        (⟨#[40]⟩ : ByteArray) ++ ((((⟨#[]⟩ ++ bytesOf (qt k (pf W H f) x y).print) ++ bytesOf (qt k (pf W H f) (x + 2 ^ k) y).print) ++ bytesOf (qt k (pf W H f) x (y + 2 ^ k)).print) ++ bytesOf (qt k (pf W H f) (x + 2 ^ k) (y + 2 ^ k)).print) ++ ⟨#[41]⟩ := by
      rw [hts, hnd, qt]
      cases hu : uni (k + 1) (pf W H f) x y
      · rfl
      · rw [if_pos rfl, if_pos rfl, (qt_uni k (pf W H f) x y).2 (uni_split.1 hu).1]
    clear hfu hts hnd hz hpl hpp h4k hsz ih
    obtain ⟨A, eA⟩ : ∃ A, bytesOf (qt k (pf W H f) x y).print = A := ⟨_, rfl⟩
    obtain ⟨B, eB⟩ : ∃ B, bytesOf (qt k (pf W H f) (x + 2 ^ k) y).print = B := ⟨_, rfl⟩
    obtain ⟨C, eC⟩ : ∃ C, bytesOf (qt k (pf W H f) x (y + 2 ^ k)).print = C := ⟨_, rfl⟩
    obtain ⟨D, eD⟩ : ∃ D, bytesOf (qt k (pf W H f) (x + 2 ^ k) (y + 2 ^ k)).print = D := ⟨_, rfl⟩
    rw [eA] at hA
    rw [eB] at hB
    rw [eC] at hC
    rw [eD] at hD
    rw [eA, eB, eC, eD] at hres
    simp only [eA] at i0
    simp only [eB] at i1
    simp only [eC] at i2
    simp only [eD] at i3
    obtain ⟨zA1, zA2⟩ := hA
    obtain ⟨zB1, zB2⟩ := hB
    obtain ⟨zC1, zC2⟩ := hC
    obtain ⟨zD1, zD2⟩ := hD
    rw [hres]
    have S := (Since.refl w).alloc (.cells #[.int .i64 X, .int .i64 Y, .int .i64 s] 81)
    have B0 := Blk.new w #[.int .i64 X, .int .i64 Y, .int .i64 s] 81
    have x0 := B0.cell 0 rfl
    have x1 := B0.cell 1 rfl
    have x2 := B0.cell 2 rfl
    obtain ⟨Mi, eMi⟩ : ∃ z : Int, ((2 ^ k : Nat) : Int) = z := ⟨_, rfl⟩
    simp only [eMi] at cq i0 i1 i2 i3
    have hMi0 : 1 ≤ Mi := by omega
    have hMi1 : Mi ≤ 8 := by omega
    obtain ⟨res, eres⟩ : ∃ r, (if ttS A B C D = true then A else ⟨#[40]⟩ ++ ((((⟨#[]⟩ ++ A) ++ B) ++ C) ++ D) ++ ⟨#[41]⟩) = r := ⟨_, rfl⟩
    rw [eres]
    have HX := Lib.hid hX; clear hX
    have HY := Lib.hid hY; clear hY
    have Hs := Lib.hid hs; clear hs
    have HM := Lib.hid hM; clear hM
    have HM8 := Lib.hid hM8; clear hM8
    have Cq := Lib.hid cq; clear cq
    have I0 := Lib.hid i0; clear i0
    have I1 := Lib.hid i1; clear i1
    have I2 := Lib.hid i2; clear i2
    have I3 := Lib.hid i3; clear i3
    have EA := Lib.hid eA; clear eA
    have EB := Lib.hid eB; clear eB
    have EC := Lib.hid eC; clear eC
    have ED := Lib.hid eD; clear eD
    have Hres := Lib.hid hres; clear hres
    have EMi := Lib.hid eMi; clear eMi
    have Eres := Lib.hid eres; clear eres
    clear hx hy hM1
    go_enter Try.func82, Try.ntmps82
    go_wp2_with fail
    with_reducible (refine (Cq.out _).mono ?_)
    rintro e w1 ⟨bq, rfl, Q, hbq, hb⟩
    replace S := S.bl hb
    simp only [World.size_alloc] at hbq
    clear hb B0 x0 x1 x2
    go_wp2_with fail
    go_loopw [5, 6, 7, 23] (fun o f s i wr => TtRel w bq (quarV X Y Mi) A B C D o f s i wr) (fun _ _ _ i _ => 4 - (intOf i).toNat)
    case atStart => exact ⟨0, 0, _, _, _, by omega, rfl, rfl, rfl, rfl, rfl, S, Q, fun _ => ⟨rfl, rfl, rfl⟩, fun h => absurd h (by omega), fun h => absurd h (by omega), fun h => absurd h (by omega), fun h => absurd h (by omega)⟩
    case round =>
      clear S Q
      obtain ⟨j, ji, O, F, Sm, hj, hji, rfl, rfl, rfl, rfl, S, Q, r0, r1, r2, r3, r4⟩ := hrel
      have hji1 : ji ≤ j := by omega
      have hji2 : (j : Int) ≤ ji := by omega
      clear hji
      have J2 := I.bl S.below
      by_cases hj4 : j < 4
      · have hj5 : j = 0 ∨ j = 1 ∨ j = 2 ∨ j = 3 := by omega
        rcases hj5 with rfl | rfl | rfl | rfl
        · obtain rfl : ji = 0 := by omega
          obtain ⟨rfl, rfl, hS⟩ := r0 rfl
          have q0 := Q.cell 0 rfl
          have q1 := Q.cell 1 rfl
          have q2 := Q.cell 2 rfl
          have q0' : wr.cell? ⟨bq, 0, none⟩ = some (.int .i64 (X)) := q0
          have q1' : wr.cell? ⟨bq, 1, none⟩ = some (.int .i64 (Y)) := q1
          have q2' : wr.cell? ⟨bq, 2, none⟩ = some (.int .i64 Mi) := q2
          have cj := I0.out _ (J2.bl (bl_alloc wr (.cells #[.int .i64 (X), .int .i64 (Y), .int .i64 Mi] 81)))
          have Sa := S.alloc (.cells #[.int .i64 (X), .int .i64 (Y), .int .i64 Mi] 81)
          have Qa := Q.alloc (.cells #[.int .i64 (X), .int .i64 (Y), .int .i64 Mi] 81)
          clear q0 q1 q2 r0 r1 r2 r3 r4 S Q
          have Cj := Lib.hid cj; clear cj
          have HS := Lib.hid hS; clear hS
          go_wp2_with fail
          with_reducible (refine Cj.out.mono ?_)
          rintro e w2 ⟨rfl, hb⟩
          have Sb := Sa.bl hb
          have Qb := Qa.bl hb
          clear hb Sa Qa q0' q1' q2' J2
          have hSm : Sm = true := HS.out
          subst hSm
          cases a1 : decide (A.size = 1)
          · have a2 : ((A.size : Int) == 1) = false := by rw [← Bool.not_eq_true, beq_iff_eq]; simp at a1; omega
            have a3 : (A.toList == A.toList) = true := beq_self_eq_true _
            have A1 := Lib.hid a1; clear a1
            go_wp2
            go_roundw
            case rel =>
              refine ⟨1, 1, _, _, _, by omega, rfl, by go_num, rfl, rfl, rfl, Sb, Qb, ?_, ?_, ?_, ?_, ?_⟩
              · exact fun h => absurd h (by omega)
              · exact fun _ => ⟨rfl, rfl, A1.out.symm⟩
              · exact fun h => absurd h (by omega)
              · exact fun h => absurd h (by omega)
              · exact fun h => absurd h (by omega)
            case measure => simp [intOf]
          · have a2 : ((A.size : Int) == 1) = true := by rw [beq_iff_eq]; simp at a1; omega
            have a3 : (A.toList == A.toList) = true := beq_self_eq_true _
            have A1 := Lib.hid a1; clear a1
            go_wp2
            go_roundw
            case rel =>
              refine ⟨1, 1, _, _, _, by omega, rfl, by go_num, rfl, rfl, rfl, Sb, Qb, ?_, ?_, ?_, ?_, ?_⟩
              · exact fun h => absurd h (by omega)
              · exact fun _ => ⟨rfl, rfl, A1.out.symm⟩
              · exact fun h => absurd h (by omega)
              · exact fun h => absurd h (by omega)
              · exact fun h => absurd h (by omega)
            case measure => simp [intOf]
        · obtain rfl : ji = 1 := by omega
          obtain ⟨rfl, rfl, hS⟩ := r1 rfl
          have q0 := Q.cell 3 rfl
          have q1 := Q.cell 4 rfl
          have q2 := Q.cell 5 rfl
          have q0' : wr.cell? ⟨bq, 3, none⟩ = some (.int .i64 (X + Mi)) := q0
          have q1' : wr.cell? ⟨bq, 4, none⟩ = some (.int .i64 (Y)) := q1
          have q2' : wr.cell? ⟨bq, 5, none⟩ = some (.int .i64 Mi) := q2
          have cj := I1.out _ (J2.bl (bl_alloc wr (.cells #[.int .i64 (X + Mi), .int .i64 (Y), .int .i64 Mi] 81)))
          have Sa := S.alloc (.cells #[.int .i64 (X + Mi), .int .i64 (Y), .int .i64 Mi] 81)
          have Qa := Q.alloc (.cells #[.int .i64 (X + Mi), .int .i64 (Y), .int .i64 Mi] 81)
          clear q0 q1 q2 r0 r1 r2 r3 r4 S Q
          have Cj := Lib.hid cj; clear cj
          have HS := Lib.hid hS; clear hS
          go_wp2_with fail
          with_reducible (refine Cj.out.mono ?_)
          rintro e w2 ⟨rfl, hb⟩
          have Sb := Sa.bl hb
          have Qb := Qa.bl hb
          clear hb Sa Qa q0' q1' q2' J2
          have fe := tt_empty zA2
          cases Sm
          · go_wp2
            go_roundw
            case rel =>
              refine ⟨2, 2, _, _, _, by omega, rfl, by go_num, rfl, rfl, rfl, Sb, Qb, ?_, ?_, ?_, ?_, ?_⟩
              · exact fun h => absurd h (by omega)
              · exact fun h => absurd h (by omega)
              · exact fun _ => ⟨rfl, rfl, by rw [← HS.out]; rfl⟩
              · exact fun h => absurd h (by omega)
              · exact fun h => absurd h (by omega)
            case measure => simp [intOf]
          · by_cases hBA : B.toList = F.toList
            · go_wp2
              go_roundw
              case rel =>
                refine ⟨2, 2, _, _, _, by omega, rfl, by go_num, rfl, rfl, rfl, Sb, Qb, ?_, ?_, ?_, ?_, ?_⟩
                · exact fun h => absurd h (by omega)
                · exact fun h => absurd h (by omega)
                · exact fun _ => ⟨rfl, rfl, by rw [← HS.out]; exact tt_same hBA⟩
                · exact fun h => absurd h (by omega)
                · exact fun h => absurd h (by omega)
              case measure => simp [intOf]
            · go_wp2
              go_roundw
              case rel =>
                refine ⟨2, 2, _, _, _, by omega, rfl, by go_num, rfl, rfl, rfl, Sb, Qb, ?_, ?_, ?_, ?_, ?_⟩
                · exact fun h => absurd h (by omega)
                · exact fun h => absurd h (by omega)
                · exact fun _ => ⟨rfl, rfl, by rw [← HS.out]; exact tt_diff hBA⟩
                · exact fun h => absurd h (by omega)
                · exact fun h => absurd h (by omega)
              case measure => simp [intOf]
        · obtain rfl : ji = 2 := by omega
          obtain ⟨rfl, rfl, hS⟩ := r2 rfl
          have q0 := Q.cell 6 rfl
          have q1 := Q.cell 7 rfl
          have q2 := Q.cell 8 rfl
          have q0' : wr.cell? ⟨bq, 6, none⟩ = some (.int .i64 (X)) := q0
          have q1' : wr.cell? ⟨bq, 7, none⟩ = some (.int .i64 (Y + Mi)) := q1
          have q2' : wr.cell? ⟨bq, 8, none⟩ = some (.int .i64 Mi) := q2
          have cj := I2.out _ (J2.bl (bl_alloc wr (.cells #[.int .i64 (X), .int .i64 (Y + Mi), .int .i64 Mi] 81)))
          have Sa := S.alloc (.cells #[.int .i64 (X), .int .i64 (Y + Mi), .int .i64 Mi] 81)
          have Qa := Q.alloc (.cells #[.int .i64 (X), .int .i64 (Y + Mi), .int .i64 Mi] 81)
          clear q0 q1 q2 r0 r1 r2 r3 r4 S Q
          have Cj := Lib.hid cj; clear cj
          have HS := Lib.hid hS; clear hS
          go_wp2_with fail
          with_reducible (refine Cj.out.mono ?_)
          rintro e w2 ⟨rfl, hb⟩
          have Sb := Sa.bl hb
          have Qb := Qa.bl hb
          clear hb Sa Qa q0' q1' q2' J2
          have fe := tt_empty zA2
          cases Sm
          · go_wp2
            go_roundw
            case rel =>
              refine ⟨3, 3, _, _, _, by omega, rfl, by go_num, rfl, rfl, rfl, Sb, Qb, ?_, ?_, ?_, ?_, ?_⟩
              · exact fun h => absurd h (by omega)
              · exact fun h => absurd h (by omega)
              · exact fun h => absurd h (by omega)
              · exact fun _ => ⟨rfl, rfl, by rw [← HS.out]; rfl⟩
              · exact fun h => absurd h (by omega)
            case measure => simp [intOf]
          · by_cases hBA : C.toList = F.toList
            · go_wp2
              go_roundw
              case rel =>
                refine ⟨3, 3, _, _, _, by omega, rfl, by go_num, rfl, rfl, rfl, Sb, Qb, ?_, ?_, ?_, ?_, ?_⟩
                · exact fun h => absurd h (by omega)
                · exact fun h => absurd h (by omega)
                · exact fun h => absurd h (by omega)
                · exact fun _ => ⟨rfl, rfl, by rw [← HS.out]; exact tt_same hBA⟩
                · exact fun h => absurd h (by omega)
              case measure => simp [intOf]
            · go_wp2
              go_roundw
              case rel =>
                refine ⟨3, 3, _, _, _, by omega, rfl, by go_num, rfl, rfl, rfl, Sb, Qb, ?_, ?_, ?_, ?_, ?_⟩
                · exact fun h => absurd h (by omega)
                · exact fun h => absurd h (by omega)
                · exact fun h => absurd h (by omega)
                · exact fun _ => ⟨rfl, rfl, by rw [← HS.out]; exact tt_diff hBA⟩
                · exact fun h => absurd h (by omega)
              case measure => simp [intOf]
        · obtain rfl : ji = 3 := by omega
          obtain ⟨rfl, rfl, hS⟩ := r3 rfl
          have q0 := Q.cell 9 rfl
          have q1 := Q.cell 10 rfl
          have q2 := Q.cell 11 rfl
          have q0' : wr.cell? ⟨bq, 9, none⟩ = some (.int .i64 (X + Mi)) := q0
          have q1' : wr.cell? ⟨bq, 10, none⟩ = some (.int .i64 (Y + Mi)) := q1
          have q2' : wr.cell? ⟨bq, 11, none⟩ = some (.int .i64 Mi) := q2
          have cj := I3.out _ (J2.bl (bl_alloc wr (.cells #[.int .i64 (X + Mi), .int .i64 (Y + Mi), .int .i64 Mi] 81)))
          have Sa := S.alloc (.cells #[.int .i64 (X + Mi), .int .i64 (Y + Mi), .int .i64 Mi] 81)
          have Qa := Q.alloc (.cells #[.int .i64 (X + Mi), .int .i64 (Y + Mi), .int .i64 Mi] 81)
          clear q0 q1 q2 r0 r1 r2 r3 r4 S Q
          have Cj := Lib.hid cj; clear cj
          have HS := Lib.hid hS; clear hS
          go_wp2_with fail
          with_reducible (refine Cj.out.mono ?_)
          rintro e w2 ⟨rfl, hb⟩
          have Sb := Sa.bl hb
          have Qb := Qa.bl hb
          clear hb Sa Qa q0' q1' q2' J2
          have fe := tt_empty zA2
          cases Sm
          · go_wp2
            go_roundw
            case rel =>
              refine ⟨4, 4, _, _, _, by omega, rfl, by go_num, rfl, rfl, rfl, Sb, Qb, ?_, ?_, ?_, ?_, ?_⟩
              · exact fun h => absurd h (by omega)
              · exact fun h => absurd h (by omega)
              · exact fun h => absurd h (by omega)
              · exact fun h => absurd h (by omega)
              · exact fun _ => ⟨rfl, rfl, by rw [ttS, ← HS.out]; rfl⟩
            case measure => simp [intOf]
          · by_cases hBA : D.toList = F.toList
            · go_wp2
              go_roundw
              case rel =>
                refine ⟨4, 4, _, _, _, by omega, rfl, by go_num, rfl, rfl, rfl, Sb, Qb, ?_, ?_, ?_, ?_, ?_⟩
                · exact fun h => absurd h (by omega)
                · exact fun h => absurd h (by omega)
                · exact fun h => absurd h (by omega)
                · exact fun h => absurd h (by omega)
                · exact fun _ => ⟨rfl, rfl, by rw [ttS, ← HS.out]; exact tt_same hBA⟩
              case measure => simp [intOf]
            · go_wp2
              go_roundw
              case rel =>
                refine ⟨4, 4, _, _, _, by omega, rfl, by go_num, rfl, rfl, rfl, Sb, Qb, ?_, ?_, ?_, ?_, ?_⟩
                · exact fun h => absurd h (by omega)
                · exact fun h => absurd h (by omega)
                · exact fun h => absurd h (by omega)
                · exact fun h => absurd h (by omega)
                · exact fun _ => ⟨rfl, rfl, by rw [ttS, ← HS.out]; exact tt_diff hBA⟩
              case measure => simp [intOf]
      · obtain rfl : j = 4 := by omega
        obtain rfl : ji = 4 := by omega
        obtain ⟨rfl, rfl, hS⟩ := r4 rfl
        have hr := Eres.out
        rw [← hS] at hr
        clear r0 r1 r2 r3 r4 hS J2
        cases Sm
        all_goals
          have Hr := Lib.hid hr; clear hr
          go_wp2
          go_ret
          refine ⟨?_, S.below⟩
          rw [← Hr.out]
          rfl
end Go.Proofs.Ytnenogpagkepfaa
