/- Contracts of the square elements, the reference's and the program's. -/
import Derived.Test.YtheakjbbfdcbaaaElemI
set_option linter.unusedVariables false
set_option linter.unusedSimpArgs false
namespace Go.Proofs.Ytheakjbbfdcbaaa
open Go.RowKit

/-- An element that is being made in a variable: its block eb, the result's block r. -/
structure ElRel (l : List (Int × Int)) (r eb : Nat) (w wr : World) (p : Option Addr) (c : Nat) : Prop where
  box : Box wr eb (.slice p l.length c) 28
  own : wr.ownsRow (r + 1) 45 2 (.slice p l.length c) l.length (spotCells l)
  ne : some eb ≠ (Value.slice p l.length c).ownBlock
  res : Box wr r (.slice none 0 0) 28
  lt : r < eb
  ge : w.heap.size ≤ r
  since : Since w wr
theorem Since.setS {w a : World} (h : Since w a) {p : Addr} (hp : w.heap.size ≤ p.block) (v : Value) : Since w (a.setCell p v) := ⟨h.below.setCell hp v⟩
theorem ElRel.start {w : World} : ElRel [] w.heap.size (w.heap.size + 1 + 1) w (((w.alloc (.cells #[.slice none 0 0] 28)).alloc (.cells #[] 45)).alloc (.cells #[.slice (some ⟨w.heap.size + 1, 0, none⟩) 0 0] 28)) (some ⟨w.heap.size + 1, 0, none⟩) 0 := by
  have h1 := World.ownsRow_made (base := w.heap.size + 1) (e := 45) (size := 2) (w.alloc (.cells #[.slice none 0 0] 28)) #[] 0 (by simp) (by decide) rfl
  rw [World.size_alloc] at h1
  have h2 := Box.new ((w.alloc (.cells #[.slice none 0 0] 28)).alloc (.cells #[] 45)) (.slice (some ⟨w.heap.size + 1, 0, none⟩) 0 0) 28
  rw [World.size_alloc, World.size_alloc] at h2
  exact ⟨h2, own_below h1 (bl_alloc _ _) (Nat.le_refl _), by simp [Value.ownBlock], ((Box.new w _ _).alloc _).alloc _, by omega, Nat.le_refl _, (((Since.refl w).alloc _).alloc _).alloc _⟩
theorem ElRel.bl {l : List (Int × Int)} {r eb : Nat} {w wr w' : World} {p : Option Addr} {c : Nat} (h : ElRel l r eb w wr p c) (hb : Below wr.heap.size wr w') : ElRel l r eb w w' p c :=
  ⟨h.box.bl hb, own_below h.own hb (Nat.le_refl _), h.ne, h.res.bl hb, h.lt, h.ge, h.since.bl hb⟩
theorem ElRel.push {l : List (Int × Int)} {r eb : Nat} {w wr w2 : World} {p : Option Addr} {c g cap : Nat} {x y : Int} (h : ElRel l r eb w wr p c)
    (hown : w2.ownsRow (r + 1) 45 2 (.slice (some ⟨g, 0, none⟩) (l.length + 1) cap) (l.length + 1) (spotCells l ++ [.int .i64 x, .int .i64 y])) (hgr : wr.grownBy w2 (Value.slice p l.length c).ownBlock)
    (hat : (Value.slice p l.length c).ownBlock = some g ∨ wr.heap.size ≤ g) : ElRel (l ++ [(x, y)]) r eb w (w2.setCell ⟨eb, 0, none⟩ (.slice (some ⟨g, 0, none⟩) (l.length + 1) cap)) (some ⟨g, 0, none⟩) cap := by
  have hlb := h.box.lt
  have hge : ¬ eb = g := by
    rcases hat with h1 | h1
    · intro e
      exact h.ne (by rw [h1, e])
    · omega
  have hl : (l ++ [(x, y)]).length = l.length + 1 := by simp
  have hrl := h.lt
  have hrg := h.ge
  have hrb : some r ≠ (Value.slice p l.length c).ownBlock := fun e => by have := own_ge h.own _ e.symm; omega
  refine ⟨by rw [hl]; exact (h.box.grown hgr h.ne).set _, ?_, ?_, (h.res.grown hgr hrb).other (a := ⟨eb, 0, none⟩) (by simp; omega) _, h.lt, h.ge, ?_⟩
  · rw [hl, spotCells_snoc]
    exact own_other hown (by simp [Value.ownBlock]; omega) _
  · simp [Value.ownBlock]; omega
  · exact Since.setS ⟨below_own h.since.below hgr (fun i hi => by have := own_ge h.own i hi; omega) h.since.size⟩ (by simp; omega) _
def sqL (n : Nat) : List (Int × Int) := spotsTo n (fun _ => true) (n * n)
def sqB (k : Int) : Bool := inB k 1 5
def sqR (k : Int) : List (Int × Int) := if sqB k then sqL k.toNat else []
theorem sqT_succ {n x y : Nat} (hx : x < n) : spotsTo n (fun _ => true) (y * n + x + 1) = spotsTo n (fun _ => true) (y * n + x) ++ [((x : Int), (y : Int))] := by
  rw [spotsTo_succ, (at_mod hx).1, (at_mod hx).2]
  rfl
theorem sqB_nat {k : Int} (h : sqB k = true) : ∃ n : Nat, k = n ∧ 1 ≤ n ∧ n ≤ 5 := by
  have h1 : 1 ≤ k ∧ k ≤ 5 := by simpa [sqB, inB] using h
  exact ⟨k.toNat, by omega, by omega, by omega⟩
theorem sqL_ok {n : Nat} (h1 : 1 ≤ n) (h2 : n ≤ 5) : okEl (sqL n) = true := by
  have e : n = 1 ∨ n = 2 ∨ n = 3 ∨ n = 4 ∨ n = 5 := by omega
  rcases e with rfl | rfl | rfl | rfl | rfl <;> decide +kernel
theorem sqR_len (k : Int) : (sqR k).length ≤ 1048576 := by
  unfold sqR
  split
  · rename_i h
    obtain ⟨n, rfl, h1, h2⟩ := sqB_nat h
    have h3 := spotsTo_len n (fun _ => true) (n * n)
    have h4 : n * n ≤ 5 * 5 := Nat.mul_le_mul h2 h2
    rw [Int.toNat_natCast, sqL]
    omega
  · simp
set_option maxRecDepth 100000 in
set_option maxHeartbeats 4000000 in
theorem l03Square_any (n : Nat) (w : World) (h1 : 1 ≤ n) (h2 : n ≤ 5) :
    Calls Try.prog 57 #[.int .i64 n] w fun e w' => ∃ v, e = .returned (.agg #[v]) ∧ OwnSpots w.heap.size w' v (sqL n) ∧ Below w.heap.size w w' := by
  have r0 := ElRel.start (w := w)
  have hmul : ∀ y, y ≤ n → y * n ≤ 25 := fun y hy => Nat.le_trans (Nat.mul_le_mul hy (Nat.le_refl n)) (Nat.le_trans (Nat.mul_le_mul h2 h2) (by omega))
  have R0 := Lib.hid r0; clear r0
  have Hmul := Lib.hid hmul; clear hmul
  go_enter Try.func57, Try.ntmps57
  go_wp2
  generalize w.heap.size + 1 + 1 = eb at *
  go_loopw [4] (fun i wr => ∃ y : Nat, y ≤ n ∧ i = .int .i64 y ∧ ∃ p c, ElRel (spotsTo n (fun _ => true) (y * n)) w.heap.size eb w wr p c) (fun i _ => n - (intOf i).toNat)
  case atStart => exact ⟨0, Nat.zero_le _, rfl, _, _, by rw [Nat.zero_mul]; exact R0.out⟩
  case round =>
    clear R0
    obtain ⟨y, hy, rfl, p, c, r⟩ := hrel
    by_cases hyn : y < n
    · have hm := Hmul.out y hy
      have R := Lib.hid r; clear r
      go_wp2_with fail
      go_loopw [5] (fun i wr => ∃ x : Nat, x ≤ n ∧ i = .int .i64 x ∧ ∃ p c, ElRel (spotsTo n (fun _ => true) (y * n + x)) w.heap.size eb w wr p c) (fun i _ => n - (intOf i).toNat)
      case atStart => exact ⟨0, Nat.zero_le _, rfl, _, _, R.out⟩
      case round =>
        clear R
        obtain ⟨x, hx, rfl, p, c, r⟩ := hrel
        by_cases hxn : x < n
        · have hsu := sqT_succ (y := y) hxn
          have hle := spotsTo_len n (fun _ => true) (y * n + x)
          obtain ⟨l, el⟩ : ∃ l, spotsTo n (fun _ => true) (y * n + x) = l := ⟨_, rfl⟩
          rw [el] at hsu hle r
          have f1 := r.box.cell
          have hown := r.own
          have hbs : w.heap.size + 1 ≤ wr.heap.size := by have := r.box.lt; have := r.lt; omega
          obtain ⟨m, hm2⟩ : ∃ m, y * n = m := ⟨_, rfl⟩
          rw [hm2] at hm hle
          have hpush := fun g cap w2 h1 h2 h3 => r.push (g := g) (cap := cap) (w2 := w2) (x := (x : Int)) (y := (y : Int)) h1 h2 h3
          have hbx := fun w2 h2 => (r.box.grown (w' := w2) h2 r.ne)
          obtain ⟨k, ek⟩ : ∃ k, l.length = k := ⟨_, rfl⟩
          rw [ek] at f1 hown hle hpush hbx
          have Hsu := Lib.hid hsu; clear hsu
          have El := Lib.hid el; clear el
          have Ek := Lib.hid ek; clear ek
          have Hm2 := Lib.hid hm2; clear hm2
          have R := Lib.hid r; clear r
          have Hpush := Lib.hid hpush; clear hpush
          have Hbx := Lib.hid hbx; clear hbx
          go_wp2_with (at_builtin; refine wpList_push rfl _ _ 26 rfl (w.heap.size + 1) 45 (.agg #[.int .i64 0, .int .i64 0]) 2 16 Try.underlying26 info_spot rfl (by decide) (.slice p k c) k _ rfl hown _ 1 rfl rfl (one_spot _ _) (by omega) (by simp [maxLen]; omega) hbs ?_; intro g' cap w2 hown2 hgr hat hlt2; have hr3 := Hpush.out g' cap w2 hown2 hgr hat; have f2 := (Hbx.out w2 hgr).cell; have f3 := (Hbx.out w2 hgr).frozen)
          go_roundw
          case rel => exact ⟨x + 1, by omega, by go_num, _, _, by rw [← Nat.add_assoc, Hsu.out]; exact hr3⟩
          case measure => simp [intOf]; omega
        · obtain rfl : x = n := by omega
          have e1 : (y + 1) * x = y * x + x := by rw [Nat.add_mul, Nat.one_mul]
          have R := Lib.hid r; clear r
          have E1 := Lib.hid e1; clear e1
          go_wp2
          go_roundw
          case rel => exact ⟨y + 1, by omega, by go_num, _, _, by rw [E1.out]; exact R.out⟩
          case measure => simp [intOf]; omega
    · obtain rfl : y = n := by omega
      have f1 := r.box.cell
      have f2 := r.res.cell
      have f3 := r.res.frozen
      have e0 := (r.res.set (.slice p (spotsTo y (fun _ => true) (y * y)).length c)).cell
      have hrl := r.ge
      have O : OwnSpots w.heap.size (wr.setCell ⟨w.heap.size, 0, none⟩ (.slice p (spotsTo y (fun _ => true) (y * y)).length c)) (.slice p (spotsTo y (fun _ => true) (y * y)).length c) (sqL y) :=
        ⟨p, c, rfl, own_mono (own_other r.own (fun e => by have h9 : w.heap.size + 1 ≤ w.heap.size := own_ge r.own _ e.symm; omega) _) (by omega)⟩
      have S := r.since.setS (p := ⟨w.heap.size, 0, none⟩) (Nat.le_refl _) (.slice p (spotsTo y (fun _ => true) (y * y)).length c)
      have R := Lib.hid r; clear r
      go_wp2
      exact bodyPost_ret (v := .agg #[.slice p (spotsTo y (fun _ => true) (y * y)).length c]) (by simp [results, Try.results57, go_sem, e0]) rfl ⟨_, rfl, O, S.below⟩
theorem sq_r {k : Int} {n : Nat} (h : k = n) (h1 : 1 ≤ n) (h2 : n ≤ 5) : sqR k = sqL n := by
  have : sqB k = true := by subst h; simp [sqB, inB]; omega
  rw [sqR, if_pos this, h, Int.toNat_natCast]
set_option maxRecDepth 100000 in
set_option maxHeartbeats 4000000 in
theorem sSquare_any (k : Int) (w : World) : Calls Try.prog 25 #[.int .i64 k] w fun e w' => ∃ v, e = .returned (.tuple #[.agg #[v], .bool (sqB k)]) ∧ OwnSpots w.heap.size w' v (sqR k) ∧ Below w.heap.size w w' := by
  have S := (Since.refl w).alloc (.cells #[.slice none 0 0] 28)
  have B0 := Box.new w (.slice none 0 0) 28
  have c0 := fun w => l00In_any k 1 5 w
  change ∀ w, Calls _ _ _ _ (fun e w' => e = .returned (.bool (sqB k)) ∧ w = w') at c0
  cases hk : sqB k
  · have hR : sqR k = [] := by simp [sqR, hk]
    rw [hR]
    rw [hk] at c0
    have f0 := B0.frozen
    have f1 := B0.cell
    have e0 := (B0.set (.slice none 0 0)).cell
    have C0 := Lib.hid c0; clear c0
    have Hk := Lib.hid hk; clear hk
    have HR := Lib.hid hR; clear hR
    go_enter Try.func25, Try.ntmps25
    go_wp2_with fail
    refine (C0.out _).mono ?_
    rintro e w1 ⟨rfl, rfl⟩
    go_wp2
    exact bodyPost_ret (v := .tuple #[.agg #[.slice none 0 0], .bool false]) (by simp [results, Try.results25, go_sem, e0]) rfl ⟨_, rfl, OwnSpots.nil _ _, S.below⟩
  · obtain ⟨n, rfl, h1, h2⟩ := sqB_nat hk
    rw [sq_r rfl h1 h2]
    rw [hk] at c0
    have c1 := fun w => l03Square_any n w h1 h2
    have C0 := Lib.hid c0; clear c0
    have Hk := Lib.hid hk; clear hk
    have C1 := Lib.hid c1; clear c1
    go_enter Try.func25, Try.ntmps25
    go_wp2_with fail
    refine (C0.out _).mono ?_
    rintro e w1 ⟨rfl, rfl⟩
    go_wp2_with fail
    refine (C1.out _).mono ?_
    rintro e w1 ⟨v, rfl, O, hb⟩
    replace S := S.bl hb
    replace B0 := B0.bl hb
    obtain ⟨p, c, rfl⟩ := O.form
    have f0 := B0.frozen
    have f1 := B0.cell
    have e0 := (B0.set (.slice p (sqL n).length c)).cell
    rw [World.size_alloc] at O
    have O2 : OwnSpots w.heap.size (w1.setCell ⟨w.heap.size, 0, none⟩ (.slice p (sqL n).length c)) (.slice p (sqL n).length c) (sqL n) := by
      obtain ⟨p', c', hv, ho⟩ := O
      exact ⟨p', c', hv, own_mono (own_other ho (fun e => by have h9 : w.heap.size + 1 ≤ w.heap.size := own_ge ho _ e.symm; omega) _) (by omega)⟩
    have S2 := S.setS (p := ⟨w.heap.size, 0, none⟩) (Nat.le_refl _) (.slice p (sqL n).length c)
    go_wp2
    exact bodyPost_ret (v := .tuple #[.agg #[.slice p (sqL n).length c], .bool true]) (by simp [results, Try.results25, go_sem, e0]) rfl ⟨_, rfl, O2, S2.below⟩
set_option maxRecDepth 100000 in
set_option maxHeartbeats 4000000 in
theorem square_any (k : Int) (w : World) : Calls Try.prog 26 #[.int .i64 k] w fun e w' => ∃ v, e = .returned (.tuple #[.agg #[v], .bool (sqB k)]) ∧ OwnSpots w.heap.size w' v (sqR k) ∧ Below w.heap.size w w' := by
  have S := (Since.refl w).alloc (.cells #[.slice none 0 0] 28)
  have B0 := Box.new w (.slice none 0 0) 28
  have c0 := fun w => in_any k 1 5 w
  change ∀ w, Calls _ _ _ _ (fun e w' => e = .returned (.bool (sqB k)) ∧ w = w') at c0
  cases hk : sqB k
  · have hR : sqR k = [] := by simp [sqR, hk]
    rw [hR]
    rw [hk] at c0
    have f0 := B0.frozen
    have f1 := B0.cell
    have e0 := (B0.set (.slice none 0 0)).cell
    have C0 := Lib.hid c0; clear c0
    have Hk := Lib.hid hk; clear hk
    have HR := Lib.hid hR; clear hR
    go_enter Try.func26, Try.ntmps26
    go_wp2_with fail
    refine (C0.out _).mono ?_
    rintro e w1 ⟨rfl, rfl⟩
    go_wp2
    exact bodyPost_ret (v := .tuple #[.agg #[.slice none 0 0], .bool false]) (by simp [results, Try.results26, go_sem, e0]) rfl ⟨_, rfl, OwnSpots.nil _ _, S.below⟩
  · obtain ⟨n, rfl, h1, h2⟩ := sqB_nat hk
    rw [sq_r rfl h1 h2]
    rw [hk] at c0
    have hmul : ∀ y, y ≤ n → y * n ≤ 25 := fun y hy => Nat.le_trans (Nat.mul_le_mul hy (Nat.le_refl n)) (Nat.le_trans (Nat.mul_le_mul h2 h2) (by omega))
    have hlen : (sqL n).length ≤ 1048576 := by
      have := spotsTo_len n (fun _ => true) (n * n)
      have := hmul n (Nat.le_refl n)
      unfold sqL
      omega
    have hpos : 0 < (sqL n).length := by
      have h := sqL_ok h1 h2
      simp only [okEl, Bool.and_eq_true, inB] at h
      have := h.2
      simp at this
      omega
    have c1 := fun B g c w' O => toldElement_ok B g c (sqL n) w' hlen (sqL_ok h1 h2) O
    have O0 : OwnSpots (w.heap.size + 1) ((w.alloc (.cells #[.slice none 0 0] 28)).alloc (.cells #[] 45)) (.slice (some ⟨w.heap.size + 1, 0, none⟩) 0 0) [] := by
      have h1 := World.ownsRow_made (base := w.heap.size + 1) (e := 45) (size := 2) (w.alloc (.cells #[.slice none 0 0] 28)) #[] 0 (by simp) (by decide) rfl
      rw [World.size_alloc] at h1
      exact ⟨_, _, rfl, h1⟩
    replace S := S.alloc (.cells #[] 45)
    replace B0 := B0.alloc (.cells #[] 45)
    have C0 := Lib.hid c0; clear c0
    have Hk := Lib.hid hk; clear hk
    have C1 := Lib.hid c1; clear c1
    have Hmul := Lib.hid hmul; clear hmul
    go_enter Try.func26, Try.ntmps26
    go_wp2_with fail
    refine (C0.out _).mono ?_
    rintro e w1 ⟨rfl, rfl⟩
    go_wp2
    go_loopw [4, 13] (fun v i wr => ∃ y : Nat, y ≤ n ∧ i = .int .i64 y ∧ OwnSpots (w.heap.size + 1) wr v (spotsTo n (fun _ => true) (y * n)) ∧ Box wr w.heap.size (.slice none 0 0) 28 ∧ Since w wr) (fun _ i _ => n - (intOf i).toNat)
    case atStart => exact ⟨0, Nat.zero_le _, rfl, by rw [Nat.zero_mul]; exact O0, B0, S⟩
    case round =>
      clear O0 B0 S
      obtain ⟨y, hy, rfl, O, B, S⟩ := hrel
      by_cases hyn : y < n
      · have hm := Hmul.out y hy
        obtain ⟨p0, c0, rfl⟩ := O.form
        go_wp2_with fail
        go_loopw [4, 17] (fun v i wr => ∃ x : Nat, x ≤ n ∧ i = .int .i64 x ∧ OwnSpots (w.heap.size + 1) wr v (spotsTo n (fun _ => true) (y * n + x)) ∧ Box wr w.heap.size (.slice none 0 0) 28 ∧ Since w wr) (fun _ i _ => n - (intOf i).toNat)
        case atStart => exact ⟨0, Nat.zero_le _, rfl, O, B, S⟩
        case round =>
          clear O B S
          obtain ⟨x, hx, rfl, O, B, S⟩ := hrel
          by_cases hxn : x < n
          · have hsu := sqT_succ (y := y) hxn
            have hle := spotsTo_len n (fun _ => true) (y * n + x)
            obtain ⟨l, el⟩ : ∃ l, spotsTo n (fun _ => true) (y * n + x) = l := ⟨_, rfl⟩
            rw [el] at hsu hle O
            obtain ⟨p, c, rfl, hown⟩ := O
            have hbs : w.heap.size + 1 ≤ wr.heap.size := by have := B.lt; omega
            obtain ⟨m, hm2⟩ : ∃ m, y * n = m := ⟨_, rfl⟩
            rw [hm2] at hm hle
            obtain ⟨k, ek⟩ : ∃ k, l.length = k := ⟨_, rfl⟩
            rw [ek] at hown hle ⊢
            have Hsu := Lib.hid hsu; clear hsu
            have El := Lib.hid el; clear el
            have Ek := Lib.hid ek; clear ek
            have Hm2 := Lib.hid hm2; clear hm2
            go_wp2_with (at_builtin; refine wpList_push rfl _ _ 26 rfl (w.heap.size + 1) 45 (.agg #[.int .i64 0, .int .i64 0]) 2 16 Try.underlying26 info_spot rfl (by decide) (.slice p k c) k _ rfl hown _ 1 rfl rfl (one_spot _ _) (by omega) (by simp [maxLen]; omega) hbs ?_; intro g' cap w2 hown2 hgr hat hlt2)
            have hO : OwnSpots (w.heap.size + 1) w2 (.slice (some ⟨g', 0, none⟩) (k + 1) cap) (l ++ [((x : Int), (y : Int))]) := by
              refine ⟨some ⟨g', 0, none⟩, cap, by rw [List.length_append, Ek.out]; rfl, ?_⟩
              rw [List.length_append, Ek.out, spotCells_snoc]
              exact hown2
            have B2 := B.grown hgr (fun e => by have h9 : w.heap.size + 1 ≤ w.heap.size := own_ge hown _ e.symm; omega)
            have S2 : Since w w2 := ⟨below_own S.below hgr (fun i hi => by have := own_ge hown i hi; omega) S.size⟩
            go_roundw
            case rel => exact ⟨x + 1, by omega, by go_num, by rw [← Nat.add_assoc, Hsu.out]; exact hO, B2, S2⟩
            case measure => simp [intOf]; omega
          · obtain rfl : x = n := by omega
            obtain ⟨p1, c1, rfl⟩ := O.form
            have e1 : (y + 1) * x = y * x + x := by rw [Nat.add_mul, Nat.one_mul]
            have E1 := Lib.hid e1; clear e1
            go_wp2
            go_roundw
            case rel => exact ⟨y + 1, by omega, by go_num, by rw [E1.out]; exact O, B, S⟩
            case measure => simp [intOf]; omega
      · obtain rfl : y = n := by omega
        obtain ⟨g, c, rfl, hg⟩ := O.at hpos
        go_wp2_with fail
        refine (C1.out _ _ _ _ O).mono ?_
        rintro e w1 ⟨rfl, hb⟩
        replace S := S.bl hb
        replace B := B.bl hb
        replace O := O.bl hb
        have f0 := B.frozen
        have f1 := B.cell
        have e0 := (B.set (.slice (some ⟨g, 0, none⟩) (sqL y).length c)).cell
        have O2 : OwnSpots w.heap.size (w1.setCell ⟨w.heap.size, 0, none⟩ (.slice (some ⟨g, 0, none⟩) (sqL y).length c)) (.slice (some ⟨g, 0, none⟩) (sqL y).length c) (sqL y) := by
          obtain ⟨p', c', hv, ho⟩ := O
          exact ⟨p', c', hv, own_mono (own_other ho (fun e => by have h9 : w.heap.size + 1 ≤ w.heap.size := own_ge ho _ e.symm; omega) _) (by omega)⟩
        have S2 := S.setS (p := ⟨w.heap.size, 0, none⟩) (Nat.le_refl _) (.slice (some ⟨g, 0, none⟩) (sqL y).length c)
        go_wp2
        exact bodyPost_ret (v := .tuple #[.agg #[.slice (some ⟨g, 0, none⟩) (sqL y).length c], .bool true]) (by simp [results, Try.results26, go_sem, e0]) rfl ⟨_, rfl, O2, S2.below⟩
end Go.Proofs.Ytheakjbbfdcbaaa
