/- Contracts of the reference's functions on the pixels of a picture. -/
import Derived.Test.YtnenogpagkepfaaTold
import Derived.Test.YtnenogpagkepfaaSpots
set_option linter.unusedVariables false
namespace Go.Proofs.Ytnenogpagkepfaa
open Go.RowKit

/-- A valid picture behind a pointer: its rows lie in the variable of block a. -/
structure PicAt (w : World) (a : Nat) (p : Option Addr) (c : Nat) (ss : List ByteArray) : Prop where
  ok : okPic ss = true
  box : w.cell? ⟨a, 0, none⟩ = some (.slice p ss.length c)
  rd : Rd w p ss.length (strAt ss)

theorem PicAt.lt {w : World} {a : Nat} {p : Option Addr} {c : Nat} {ss : List ByteArray} (h : PicAt w a p c ss) : a < w.heap.size := World.block_lt_of_cell? _ _ h.box
theorem PicAt.bl {w w' : World} {a : Nat} {p : Option Addr} {c : Nat} {ss : List ByteArray} (h : PicAt w a p c ss) (hb : Below w.heap.size w w') : PicAt w' a p c ss :=
  ⟨h.ok, (hb.cell (p := ⟨a, 0, none⟩) h.lt).trans h.box, h.rd.bl hb⟩
theorem PicAt.drewN {w : World} {a : Nat} {p : Option Addr} {c : Nat} {ss : List ByteArray} (h : PicAt w a p c ss) (n : Nat) : PicAt (w.drewN n) a p c ss := h.bl (bl_drewN _ _)

set_option maxHeartbeats 400000 in
theorem l01Width_any (a : Nat) (p : Option Addr) (c : Nat) (ss : List ByteArray) (w : World) (h : PicAt w a p c ss) :
    Calls Try.prog 74 #[.pointer (some ⟨a, 0, none⟩)] w fun e w' => e = .returned (.int .i64 (wid ss)) ∧ w = w' := by
  have hd := okPic_dims h.ok
  obtain ⟨b, o, rfl, hb, hc⟩ := h.rd.at (k := 0) (by omega)
  have hc0 := hc 0 (by omega)
  rw [Nat.add_zero] at hc0
  have hx := h.box
  have hl0 : 0 < ss.length := by omega
  have HW : Hid (wid ss = (ss.getD 0 ByteArray.empty).size) := rfl
  obtain ⟨s0, es0⟩ : ∃ s0, ss.getD 0 ByteArray.empty = s0 := ⟨_, rfl⟩
  rw [strAt, es0] at hc0
  rw [es0] at HW
  rw [HW.out] at hd
  obtain ⟨hd1, hd2, hd3, hd4⟩ := hd
  clear es0 hc h
  go_enter Try.func74, Try.ntmps74
  go_wp2
  go_ret
  exact ⟨ret_int (by rw [HW.out]), rfl⟩
set_option maxHeartbeats 400000 in
theorem l01Height_any (a : Nat) (p : Option Addr) (c : Nat) (ss : List ByteArray) (w : World) (h : PicAt w a p c ss) :
    Calls Try.prog 75 #[.pointer (some ⟨a, 0, none⟩)] w fun e w' => e = .returned (.int .i64 (ss.length : Int)) ∧ w = w' := by
  have hd := okPic_dims h.ok
  have hx := h.box
  go_enter Try.func75, Try.ntmps75
  go_wp2
  go_ret
  exact ⟨rfl, rfl⟩
set_option maxHeartbeats 1000000 in
theorem l01Has_any (a : Nat) (p : Option Addr) (c : Nat) (ss : List ByteArray) (x y : Int) (w : World) (h : PicAt w a p c ss) :
    Calls Try.prog 102 #[.pointer (some ⟨a, 0, none⟩), .int .i64 x, .int .i64 y] w fun e w' => e = .returned (.bool (hasB (wid ss) ss.length x y)) ∧ w = w' := by
  have hd := okPic_dims h.ok
  have c1 := fun (w : World) (h : PicAt w a p c ss) => l01Width_any a p c ss w h
  have c2 := fun (w : World) (h : PicAt w a p c ss) => l01Height_any a p c ss w h
  obtain ⟨hd1, hd2, hd3, hd4⟩ := hd
  generalize wid ss = W at *
  have C1 := Lib.hid c1; clear c1
  have C2 := Lib.hid c2; clear c2
  cases hx : inB x 0 ((W : Int) - 1)
  all_goals
    go_enter Try.func102, Try.ntmps102
    go_wp2_with fail
    (try (refine (C1.out _ h).mono ?_; rintro e w1 ⟨rfl, rfl⟩))
    go_wp2_with (first | (go_at_call 54; refine (l00In_any _ _ _ _).mono ?_; rintro e w' ⟨rfl, rfl⟩) | (go_at_call 75; refine (C2.out _ h).mono ?_; rintro e w' ⟨rfl, rfl⟩))
    go_ret
    exact ⟨ret_bool (by simp [hasB, hx]), rfl⟩
set_option maxHeartbeats 1000000 in
theorem l01Black_any (a : Nat) (p : Option Addr) (c : Nat) (ss : List ByteArray) (x y : Int) (w : World) (h : PicAt w a p c ss) :
    Calls Try.prog 76 #[.pointer (some ⟨a, 0, none⟩), .int .i64 x, .int .i64 y] w fun e w' => e = .returned (.bool (px (wid ss) ss.length (bits ss) x y)) ∧ ∃ n, w' = w.drewN n := by
  have hd := okPic_dims h.ok
  obtain ⟨hd1, hd2, hd3, hd4⟩ := hd
  cases hh : hasB (wid ss) ss.length x y
  · have hcall := fun w (h : PicAt w a p c ss) => (l01Has_any a p c ss x y w h).mono fun e w' q => (⟨q.1.trans (by rw [hh]), q.2⟩ : e = .returned (.bool false) ∧ w = w')
    have hp : px (wid ss) ss.length (bits ss) x y = false := by rw [px, hh]; rfl
    have Hcall := Lib.hid hcall; clear hcall
    have Hh := Lib.hid hh; clear hh
    have Hp := Lib.hid hp; clear hp
    go_enter Try.func76, Try.ntmps76
    go_wp2_with fail
    refine (Hcall.out _ h).mono ?_
    rintro e w1 ⟨rfl, rfl⟩
    go_wp2
    go_ret
    exact ⟨ret_bool Hp.out.symm, 0, rfl⟩
  · have hcall := fun w (h : PicAt w a p c ss) => (l01Has_any a p c ss x y w h).mono fun e w' q => (⟨q.1.trans (by rw [hh]), q.2⟩ : e = .returned (.bool true) ∧ w = w')
    obtain ⟨xn, yn, rfl, rfl, hxW, hyH⟩ := hasB_nat hh
    have hr := okPic_row h.ok hyH
    obtain ⟨b, o, rfl, hb, hc⟩ := h.rd.at hyH
    have hcy := hc yn hyH
    have hbx := h.box
    have hp : px (wid ss) ss.length (bits ss) xn yn = bitAt ss xn yn := by rw [px_at hxW hyH, bits_at hxW]
    have hbt := bitAt_byte (ss := ss) (x := xn) (y := yn) (by rw [hr.1]; exact hxW)
    rw [strAt] at hcy
    obtain ⟨s, es⟩ : ∃ s, ss.getD yn ByteArray.empty = s := ⟨_, rfl⟩
    have hsz : s.size = wid ss := by rw [← es]; exact hr.1
    have hlt : xn < s.size := by omega
    have hs16 : s.size ≤ 16 := by omega
    have hv : bitAt ss xn yn = (s[xn] == 35) := by subst es; exact hbt
    have ht : ((s[xn].toNat : Int) == 35) = (s[xn] == 35) := byte_eqb s[xn] 35
    have hP := hp.trans (hv.trans ht.symm)
    rw [es] at hcy
    have Hcall := Lib.hid hcall; clear hcall
    have Hh := Lib.hid hh; clear hh
    have HP := Lib.hid hP; clear hP
    clear hp hbt hc hr es hsz hv ht
    go_enter Try.func76, Try.ntmps76
    go_wp2_with fail
    refine (Hcall.out _ h).mono ?_
    rintro e w1 ⟨rfl, rfl⟩
    go_wp2
    go_ret
    exact ⟨ret_bool HP.out.symm, 0, rfl⟩
theorem PicAt.row {w : World} {a : Nat} {p : Option Addr} {c : Nat} {ss : List ByteArray} (h : PicAt w a p c ss) {y : Nat} (hy : y < ss.length) :
    ∃ b o s, p = some ⟨b, o, none⟩ ∧ w.cell? ⟨b, o + y, none⟩ = some (.string s) ∧ s.size = wid ss ∧ s.size ≤ 16 ∧ ss.getD y ByteArray.empty = s ∧ ∀ x (hx : x < s.size), bits ss (y * wid ss + x) = ((s[x].toNat : Int) == 35) := by
  have hr := okPic_row h.ok hy
  have hd := okPic_dims h.ok
  obtain ⟨b, o, hp, hb, hc⟩ := h.rd.at hy
  have hcy := hc y hy
  rw [strAt] at hcy
  obtain ⟨s, es⟩ : ∃ s, ss.getD y ByteArray.empty = s := ⟨_, rfl⟩
  have hsz : s.size = wid ss := by rw [← es]; exact hr.1
  rw [es] at hcy
  refine ⟨b, o, s, hp, hcy, hsz, by omega, es, fun x hx => ?_⟩
  have hbt := bitAt_byte (ss := ss) (x := x) (y := y) (by rw [hr.1]; omega)
  rw [bits_at (by omega), hbt]
  subst es
  exact (byte_eqb _ 35).symm

/-- The first n pixels as cells. -/
def bitCells (f : Nat → Bool) (n : Nat) : List Value := (List.range n).map fun i => .bool (f i)
theorem bitCells_len (f : Nat → Bool) (n : Nat) : (bitCells f n).length = n := by simp [bitCells]
theorem bitCells_succ (f : Nat → Bool) (n : Nat) (b : Bool) (h : f n = b) : bitCells f (n + 1) = bitCells f n ++ [.bool b] := by simp [bitCells, List.range_succ, h]
theorem one_bool (b : Bool) : ∀ u ∈ (#[Value.bool b] : Array Value).toList, u.oneCell' = true := by simp [Value.oneCell']

/-- A list of n truth values of the call's own, in block g. -/
structure Bools (w : World) (g n : Nat) (f : Nat → Bool) : Prop where
  row : ∃ m F, n ≤ m ∧ w.rowIs g 4 m F ∧ ∀ i, i < n → F i = .bool (f i)
theorem Bools.lt {w : World} {g n : Nat} {f : Nat → Bool} (h : Bools w g n f) : g < w.heap.size := by
  obtain ⟨m, F, _, hr, _⟩ := h.row
  exact hr.lt
theorem Bools.bl {w w' : World} {g n : Nat} {f : Nat → Bool} (h : Bools w g n f) (hb : Below w.heap.size w w') : Bools w' g n f := by
  obtain ⟨m, F, h1, hr, h2⟩ := h.row
  exact ⟨m, F, h1, row_below hr hb hr.lt, h2⟩
theorem Bools.rd {w : World} {g n : Nat} {f : Nat → Bool} (h : Bools w g n f) : Rd w (some ⟨g, 0, none⟩) n (fun i => .bool (f i)) := by
  obtain ⟨m, F, h1, hr, h2⟩ := h.row
  exact (Rd.of_row hr h1).congr h2
theorem Bools.set {w : World} {g n : Nat} {f : Nat → Bool} (h : Bools w g n f) (i : Nat) (b : Bool) : Bools (w.setCell ⟨g, i, none⟩ (.bool b)) g n (fun j => if j = i then b else f j) := by
  obtain ⟨m, F, h1, hr, h2⟩ := h.row
  refine ⟨m, _, h1, hr.set i _, fun j hj => ?_⟩
  by_cases e : j = i
  · simp [e]
  · simp [e, h2 j hj]
theorem Bools.cell {w : World} {g n : Nat} {f : Nat → Bool} (h : Bools w g n f) {i : Nat} (hi : i < n) : w.cell? ⟨g, i, none⟩ = some (.bool (f i)) := by
  obtain ⟨m, F, h1, hr, h2⟩ := h.row
  rw [← h2 i hi]
  exact hr.cell (by omega)
theorem Bools.frozen {w : World} {g n : Nat} {f : Nat → Bool} (h : Bools w g n f) (i : Nat) : w.frozen? ⟨g, i, none⟩ = false := by
  obtain ⟨m, F, h1, hr, h2⟩ := h.row
  exact hr.frozen i
theorem Bools.congr {w : World} {g n : Nat} {f f' : Nat → Bool} (h : Bools w g n f) (e : ∀ i, i < n → f i = f' i) : Bools w g n f' := by
  obtain ⟨m, F, h1, hr, h2⟩ := h.row
  exact ⟨m, F, h1, hr, fun i hi => by rw [h2 i hi, e i hi]⟩
theorem Bools.drewN {w : World} {g n : Nat} {f : Nat → Bool} (h : Bools w g n f) (k : Nat) : Bools (w.drewN k) g n f := h.bl (bl_drewN _ _)
theorem Bools.of_own {w : World} {B n c : Nat} {p : Option Addr} {f : Nat → Bool} (h : w.ownsRow B 4 1 (.slice p n c) n (bitCells f n)) (hn : 0 < n) : ∃ g, p = some ⟨g, 0, none⟩ ∧ B ≤ g ∧ Bools w g n f := by
  rcases h.2 with ⟨_, h0⟩ | ⟨g, cap, cur, hv, hb, hg, h1, hm, hs, ht⟩
  · omega
  · simp only [Value.slice.injEq] at hv
    refine ⟨g, hv.1, hb, cur.size, fun i => (cur[i]?).getD undef, by omega, ⟨cur, hg, rfl, fun i hi => by simp [hi]⟩, fun i hi => ?_⟩
    have : (cur.toList.take (n * 1))[i]? = (bitCells f n)[i]? := by rw [ht]
    rw [List.getElem?_take, if_pos (by omega)] at this
    have h3 : cur[i]? = some (.bool (f i)) := by
      rw [← Array.getElem?_toList, this]
      simp [bitCells, hi]
    simp [h3]

theorem info_bool' : (Try.prog.info? 4).map (fun i => (i.zero, i.size, i.bytes)) = some (some (.bool false), 1, 1) := by kernel_rfl

/-- The loop of l01List: n pixels are there. -/
def ListRel (w : World) (N : Nat) (f : Nat → Bool) (n : Nat) (v : Value) (wr : World) : Prop :=
  ∃ p c, v = .slice p n c ∧ wr.ownsRow w.heap.size 4 1 (.slice p n c) n (bitCells f n) ∧ Since w wr

set_option maxHeartbeats 2000000 in
theorem l01List_any (a : Nat) (p : Option Addr) (c : Nat) (ss : List ByteArray) (w : World) (h : PicAt w a p c ss) :
    Calls Try.prog 111 #[.pointer (some ⟨a, 0, none⟩)] w fun e w' => ∃ g c', e = .returned (.slice (some ⟨g, 0, none⟩) (wid ss * ss.length) c') ∧ Bools w' g (wid ss * ss.length) (bits ss) ∧ w.heap.size ≤ g ∧ Below w.heap.size w w' := by
  have hd := okPic_dims h.ok
  obtain ⟨hd1, hd2, hd3, hd4⟩ := hd
  have hm := mul_256 hd4 hd2
  go_enter Try.func111, Try.ntmps111
  go_wp2
  go_loopw [3, 4] (fun v i wr => ∃ y : Nat, y ≤ ss.length ∧ i = .int .i64 y ∧ ListRel w 0 (bits ss) (y * wid ss) v wr) (fun _ i _ => ss.length - (intOf i).toNat)
  case atStart => 
    refine ⟨0, Nat.zero_le _, rfl, ?_⟩
    unfold ListRel
    exact ⟨_, _, by rw [Nat.zero_mul], by rw [Nat.zero_mul]; exact World.ownsRow_made w #[] 0 (Nat.le_refl _) (by decide) rfl, (Since.refl w).alloc _⟩
  case round =>
    obtain ⟨y, hy, rfl, q, d, rfl, hown, S⟩ := hrel
    have P := h.bl S.below
    have hx := P.box
    by_cases hyH : y < ss.length
    · obtain ⟨b, o, s, rfl, hcy, hsz, hs16, hes, hbit⟩ := P.row hyH
      have Hsz := Lib.hid hsz; clear hsz
      have Hes := Lib.hid hes; clear hes
      have Hbit := Lib.hid hbit; clear hbit
      have hsw1 : s.size ≤ wid ss := by rw [Hsz.out]; exact Nat.le_refl _
      have hsw2 : wid ss ≤ s.size := by rw [Hsz.out]; exact Nat.le_refl _
      go_wp2
      go_loopw [3, 5] (fun v i wr => ∃ x : Nat, x ≤ s.size ∧ i = .int .i64 x ∧ ListRel w 0 (bits ss) (y * wid ss + x) v wr) (fun _ i _ => s.size - (intOf i).toNat)
      case atStart => 
        refine ⟨0, Nat.zero_le _, rfl, ?_⟩
        unfold ListRel
        exact ⟨_, _, rfl, hown, S⟩
      case round =>
        clear hown S P hx hcy
        obtain ⟨x, hx, rfl, q, d, rfl, hown, S⟩ := hrel
        have P := h.bl S.below
        have hbx := P.box
        obtain ⟨b', o', s', hp', hcy, _, _, hes', _⟩ := P.row hyH
        simp only [Option.some.injEq, Addr.mk.injEq] at hp'
        obtain ⟨rfl, rfl, _⟩ := hp'
        obtain rfl : s = s' := Hes.out.symm.trans hes'
        have hsS := S.size
        by_cases hxs : x < s.size
        · have hb := Hbit.out x hxs
          have hlt : y * wid ss + x < wid ss * ss.length := at_lt (by omega) hyH
          have hsu := bitCells_succ (bits ss) (y * wid ss + x) _ hb
          have Hsu := Lib.hid hsu; clear hsu
          clear hb hes' P
          go_wp2_with (at_builtin; refine wpList_push rfl _ _ 62 rfl w.heap.size 4 (.bool false) 1 1 Try.underlying62 info_bool' rfl (by decide) (.slice q (y * wid ss + x) d) (y * wid ss + x) _ rfl hown _ 1 rfl rfl (one_bool _) (by omega) (by simp [maxLen]; omega) hsS ?_; intro g' cap w2 hown2 hgr hat hlt2)
          have S2 : Since w w2 := ⟨below_own S.below hgr (own_ge hown) hsS⟩
          go_roundw
          case rel =>
            refine ⟨x + 1, by omega, by go_num, ?_⟩
            unfold ListRel
            exact ⟨_, _, rfl, by rw [← Nat.add_assoc, Hsu.out]; exact hown2, S2⟩
          case measure => simp [intOf]; omega
        · obtain rfl : x = s.size := by omega
          have e1 : y * wid ss + s.size = (y + 1) * wid ss := by rw [Hsz.out, Nat.add_mul, Nat.one_mul]
          rw [e1] at hown
          clear hes' P
          go_wp2
          go_roundw
          case rel =>
            refine ⟨y + 1, by omega, by go_num, ?_⟩
            unfold ListRel
            exact ⟨_, _, by rw [e1], hown, S⟩
          case measure => simp [intOf]; omega
    · obtain rfl : y = ss.length := by omega
      rw [Nat.mul_comm] at hown
      obtain ⟨g, rfl, hg, hB⟩ := Bools.of_own hown (by rw [Nat.mul_comm]; have := at_lt (W := wid ss) (H := ss.length) (x := 0) (y := 0) (by omega) (by omega); rw [Nat.mul_comm]; omega)
      go_wp2
      go_ret
      exact ⟨g, d, by rw [Nat.mul_comm]; rfl, hB, hg, S.below⟩
theorem spotsTo_snoc_len (W : Nat) (f : Nat → Bool) (n : Nat) (b : Bool) (h : f n = b) : (spotsTo W f (n + 1)).length = (spotsTo W f n).length + (if b then 1 else 0) := by
  rw [spotsTo_succ, List.length_append, h]; cases b <;> simp

set_option maxHeartbeats 2000000 in
theorem l01Count_any (a : Nat) (p : Option Addr) (c : Nat) (ss : List ByteArray) (w : World) (h : PicAt w a p c ss) :
    Calls Try.prog 68 #[.pointer (some ⟨a, 0, none⟩)] w fun e w' => e = .returned (.int .i64 ((spotsTo (wid ss) (bits ss) (wid ss * ss.length)).length : Int)) ∧ w = w' := by
  have hd := okPic_dims h.ok
  obtain ⟨hd1, hd2, hd3, hd4⟩ := hd
  have hm := mul_256 hd4 hd2
  have hx := h.box
  go_enter Try.func68, Try.ntmps68
  go_wp2
  go_loop [3, 4] (fun v i => ∃ y : Nat, y ≤ ss.length ∧ i = .int .i64 y ∧ v = .int .i64 ((spotsTo (wid ss) (bits ss) (y * wid ss)).length : Int)) (fun _ i => ss.length - (intOf i).toNat)
  case atStart => exact ⟨0, Nat.zero_le _, rfl, by rw [Nat.zero_mul]; rfl⟩
  case round =>
    obtain ⟨y, hy, rfl, rfl⟩ := hrel
    by_cases hyH : y < ss.length
    · obtain ⟨b, o, s, rfl, hcy, hsz, hs16, hes, hbit⟩ := h.row hyH
      have Hsz := Lib.hid hsz; clear hsz
      have Hes := Lib.hid hes; clear hes
      have Hbit := Lib.hid hbit; clear hbit
      have hsw1 : s.size ≤ wid ss := by rw [Hsz.out]; exact Nat.le_refl _
      clear h
      go_wp2
      go_loop [3, 5] (fun v i => ∃ x : Nat, x ≤ s.size ∧ i = .int .i64 x ∧ v = .int .i64 ((spotsTo (wid ss) (bits ss) (y * wid ss + x)).length : Int)) (fun _ i => s.size - (intOf i).toNat)
      case atStart => exact ⟨0, Nat.zero_le _, rfl, rfl⟩
      case round =>
        obtain ⟨x, hx, rfl, rfl⟩ := hrel
        by_cases hxs : x < s.size
        · have hb := Hbit.out x hxs
          have hlt : y * wid ss + x < wid ss * ss.length := at_lt (by omega) hyH
          have hle := spotsTo_len (wid ss) (bits ss) (y * wid ss + x)
          cases ht : ((s[x].toNat : Int) == 35)
          all_goals
            rw [ht] at hb
            have hsu := spotsTo_snoc_len (wid ss) (bits ss) (y * wid ss + x) _ hb
            simp only [Bool.false_eq_true, if_false, if_true, Nat.add_zero, Nat.add_assoc] at hsu
            have Hsu := Lib.hid hsu; clear hsu
            clear hb
            go_wp2
            go_round
            case rel => exact ⟨x + 1, by omega, by go_num, val_int (by have := Hsu.out; omega)⟩
            case measure => simp [intOf]; omega
        · obtain rfl : x = s.size := by omega
          have e1 : y * wid ss + s.size = (y + 1) * wid ss := by rw [Hsz.out, Nat.add_mul, Nat.one_mul]
          have E1 := Lib.hid e1; clear e1
          go_wp2
          go_round
          case rel => exact ⟨y + 1, by omega, by go_num, by rw [E1.out]⟩
          case measure => simp [intOf]; omega
    · obtain rfl : y = ss.length := by omega
      go_wp2
      go_ret
      exact ⟨by rw [Nat.mul_comm]; rfl, rfl⟩
end Go.Proofs.Ytnenogpagkepfaa
