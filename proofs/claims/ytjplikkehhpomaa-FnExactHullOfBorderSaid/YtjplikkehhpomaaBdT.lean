/- Contracts of the turning of a border, the reference's and the program's. -/
import Derived.Test.YtjplikkehhpomaaBdA
set_option linter.unusedVariables false
set_option linter.unusedSimpArgs false
namespace Go.Proofs.Ytjplikkehhpomaa
open Go.RowKit

/-- How step i turns: 1 to the right, 3 to the left, 0 straight on. -/
def turnT (s : ByteArray) (i : Nat) : Int := (way s i - way s (lastOf s.size i) + 4) % 4
theorem turnT_in (s : ByteArray) (i : Nat) : 0 ≤ turnT s i ∧ turnT s i ≤ 3 := by unfold turnT; omega
def turn1 (t : Int) : Int := if t = 1 then 1 else if t = 3 then -1 else 0
theorem turn1_in (t : Int) : -1 ≤ turn1 t ∧ turn1 t ≤ 1 := by unfold turn1; split <;> (try split) <;> omega
theorem Bd.turn2 {x y : Int} {s : ByteArray} (h : Bd x y s) {i : Nat} (hi : i < s.size) : ¬ turnT s i = 2 := by
  have hlo := h.lo
  have h1 := (h.step i hi).turn
  have h2 := (h.step i hi).letter
  have h3 := (way_in s i).2
  have h4 := (h.step _ (lastOf_lt (n := s.size) (i := i) (by omega))).letter
  have h5 := (way_in s (lastOf s.size i)).2
  unfold turnT
  omega
def turnN (s : ByteArray) : Nat → Int
  | 0 => 0
  | k + 1 => turnN s k + turn1 (turnT s k)
theorem turnN_bd (s : ByteArray) : ∀ k : Nat, -(k : Int) ≤ turnN s k ∧ turnN s k ≤ (k : Int)
  | 0 => by simp [turnN]
  | k + 1 => by
    have ih := turnN_bd s k
    have := turn1_in (turnT s k)
    rw [turnN]
    push_cast
    omega
noncomputable def turnB (x y : Int) (s : ByteArray) : Int := if bdB x y s then turnN s s.size else 0
set_option maxRecDepth 100000 in
set_option maxHeartbeats 4000000 in
theorem l04Turn_any (g : Nat) (x y : Int) (s : ByteArray) (k : Nat) (w : World) (bd : Bd x y s) (hk : k < s.size) (B : Blk w g #[.int .i64 x, .int .i64 y, .string s] 30) :
    Calls Try.prog 50 #[.pointer (some ⟨g, 0, none⟩), .int .i64 k] w fun e w' => e = .returned (.int .i64 (turn1 (turnT s k))) ∧ Below w.heap.size w w' := by
  have hlo := bd.lo
  have hhi := bd.hi
  obtain ⟨L, eL⟩ : ∃ L, lastOf s.size k = L := ⟨_, rfl⟩
  have hL : L < s.size := eL ▸ lastOf_lt (n := s.size) (i := k) (by omega)
  have hq : Int.tmod ((k : Int) + (s.size : Int) - 1) (s.size : Int) = (L : Int) := by
    rw [← eL, lastOf, show (k : Int) + (s.size : Int) - 1 = ((k + s.size - 1 : Nat) : Int) by omega, Int.ofNat_tmod]
  have w1 : ∀ w, Calls Try.prog 47 #[.int .u8 s[k].toNat] w fun e w' => e = .returned (.int .i64 (way s k)) ∧ w' = w := fun w => by
    rw [byteAt_get hk]
    exact (l04Way_any _ w).mono fun e w' q => ⟨q.1, q.2.symm⟩
  have w2 : ∀ w, Calls Try.prog 47 #[.int .u8 s[L].toNat] w fun e w' => e = .returned (.int .i64 (way s L)) ∧ w' = w := fun w => by
    rw [byteAt_get hL]
    exact (l04Way_any _ w).mono fun e w' q => ⟨q.1, q.2.symm⟩
  have hv0 := (bd.step k hk).letter
  have hv3 := (way_in s k).2
  have hu0 := (bd.step L hL).letter
  have hu3 := (way_in s L).2
  have ht : turnT s k = (way s k - way s L + 4) % 4 := by rw [turnT, eL]
  have htm : Int.tmod (way s k - way s L + 4) 4 = turnT s k := by rw [ht]; exact Int.tmod_eq_emod_of_nonneg (by omega)
  have h4 := turnT_in s k
  obtain ⟨t, et⟩ : ∃ t, turnT s k = t := ⟨_, rfl⟩
  obtain ⟨V, ev⟩ : ∃ V, way s k = V := ⟨_, rfl⟩
  obtain ⟨U, eu⟩ : ∃ V, way s L = V := ⟨_, rfl⟩
  simp only [ev, eu, et] at w1 w2 hv0 hv3 hu0 hu3 htm h4 ⊢
  have k2 := B.cell 2 rfl
  have hw1 : IntKind.i64.wrap ((k : Int) + (s.size : Int)) = (k : Int) + (s.size : Int) := IntWalk.i64_in _ (by omega)
  have hw2 : IntKind.i64.wrap ((k : Int) + (s.size : Int) - 1) = (k : Int) + (s.size : Int) - 1 := IntWalk.i64_in _ (by omega)
  have hw3 : IntKind.i64.wrap (V - U) = V - U := IntWalk.i64_in _ (by omega)
  have hw4 : IntKind.i64.wrap (V - U + 4) = V - U + 4 := IntWalk.i64_in _ (by omega)
  have e4 : t = 0 ∨ t = 1 ∨ t = 2 ∨ t = 3 := by omega
  clear ht h4
  have W1 := Lib.hid w1; clear w1
  have W2 := Lib.hid w2; clear w2
  have Et := Lib.hid et; clear et
  have Ev := Lib.hid ev; clear ev
  have Eu := Lib.hid eu; clear eu
  have EL := Lib.hid eL; clear eL
  have Bd := Lib.hid bd; clear bd
  rcases e4 with rfl | rfl | rfl | rfl
  all_goals
    go_enter Try.func50, Try.ntmps50
    go_wp2_with fail
    go_quiet ((first | (go_at_call 47; with_reducible (exact Calls.quiet_of_same (W1.out _))) | (go_at_call 47; with_reducible (exact Calls.quiet_of_same (W2.out _)))))
    go_wp2
    go_ret
    exact ⟨by simp [turn1], by (repeat' (first | exact Below.refl _ _ | assumption | refine Below.drew ?_ | refine below_drewN ?_ _ | refine Below.alloc ?_ ?_ _ | refine Below.setCell ?_ ?_ _ | go_size))⟩
set_option maxRecDepth 100000 in
set_option maxHeartbeats 4000000 in
theorem sTurning_any (x y : Int) (s : ByteArray) (w : World) (hs : s.size ≤ maxLen) (hsm : small (x, y)) :
    Calls Try.prog 20 #[.agg #[.int .i64 x, .int .i64 y, .string s]] w fun e w' => e = .returned (.tuple #[.int .i64 (turnB x y s), .bool (bdB x y s)]) ∧ Below w.heap.size w w' := by
  have B := Blk.new w #[.int .i64 x, .int .i64 y, .string s] 30
  have S := (Since.refl w).alloc (.cells #[.int .i64 x, .int .i64 y, .string s] 30)
  have c := l04Is_any w.heap.size x y s _ hs hsm B
  cases hbd : bdB x y s
  · rw [hbd] at c
    have hA : turnB x y s = 0 := by simp [turnB, hbd]
    rw [hA]
    have C := Lib.hid c; clear c
    have Hbd := Lib.hid hbd; clear hbd
    have HA := Lib.hid hA; clear hA
    go_enter Try.func20, Try.ntmps20
    go_wp2_with fail
    refine C.out.mono ?_
    rintro e w1 ⟨rfl, hb⟩
    go_wp2
    go_ret2
    exact ⟨rfl, (S.bl hb).below⟩
  · rw [hbd] at c
    have bd := bdB_iff.1 hbd
    have hA : turnB x y s = turnN s s.size := by simp [turnB, hbd]
    rw [hA]
    have hlo := bd.lo
    have hhi := bd.hi
    have c2 := fun k w1 (hk : k < s.size) (B1 : Blk w1 w.heap.size #[.int .i64 x, .int .i64 y, .string s] 30) => l04Turn_any w.heap.size x y s k w1 bd hk B1
    clear hs
    have C := Lib.hid c; clear c
    have Hbd := Lib.hid hbd; clear hbd
    have HA := Lib.hid hA; clear hA
    have Bd := Lib.hid bd; clear bd
    have C2 := Lib.hid c2; clear c2
    go_enter Try.func20, Try.ntmps20
    go_wp2_with fail
    refine C.out.mono ?_
    rintro e w1 ⟨rfl, hb⟩
    replace S := S.bl hb
    replace B := B.bl hb
    go_wp2
    clear hb
    generalize w.heap.size = g at *
    go_loopw [4, 5] (fun v i wr => ∃ k : Nat, k ≤ s.size ∧ i = .int .i64 k ∧ v = .int .i64 (turnN s k) ∧ Blk wr g #[.int .i64 x, .int .i64 y, .string s] 30 ∧ Since w wr) (fun _ i _ => s.size - (intOf i).toNat)
    case atStart => exact ⟨0, Nat.zero_le _, rfl, rfl, B, S⟩
    case round =>
      clear B S
      obtain ⟨k, hk, rfl, rfl, B, S⟩ := hrel
      have k2 := B.cell 2 rfl
      have hab := turnN_bd s k
      by_cases hlt : k < s.size
      · have han : turnN s (k + 1) = turnN s k + turn1 (turnT s k) := rfl
        have ht1 := turn1_in (turnT s k)
        have c3 := C2.out k _ hlt B
        obtain ⟨A, eA⟩ : ∃ A, turnN s k = A := ⟨_, rfl⟩
        obtain ⟨V, eV⟩ : ∃ V, turn1 (turnT s k) = V := ⟨_, rfl⟩
        simp only [eA, eV] at han ht1 c3 hab ⊢
        have Han := Lib.hid han; clear han
        have EA := Lib.hid eA; clear eA
        have EV := Lib.hid eV; clear eV
        have C3 := Lib.hid c3; clear c3
        go_wp2_with fail
        refine C3.out.mono ?_
        rintro e w3 ⟨rfl, hb⟩
        have B2 := B.bl hb
        have S2 := S.bl hb
        go_wp2
        go_roundw
        case rel => exact ⟨k + 1, by omega, by go_num, by rw [Han.out], B2, S2⟩
        case measure => simp [intOf]; omega
      · obtain rfl : k = s.size := by omega
        go_wp2
        go_ret2
        exact ⟨rfl, S.below⟩
/-- The turns of the first n steps. -/
def turnL (s : ByteArray) (n : Nat) : List Int := (List.range n).map (turnT s)
theorem turnL_len (s : ByteArray) (n : Nat) : (turnL s n).length = n := by simp [turnL]
theorem turnL_succ (s : ByteArray) (n : Nat) : turnL s (n + 1) = turnL s n ++ [turnT s n] := by simp [turnL, List.range_succ]
theorem turnL_at {s : ByteArray} {n k : Nat} (h : k < n) (d : Int) : (turnL s n).getD k d = turnT s k := by
  simp [turnL, List.getD, List.getElem?_map, List.getElem?_range h]
theorem info_intB : (Try.prog.info? 3).map (fun i => (i.zero, i.size, i.bytes)) = some (some (.int .i64 0), 1, 8) := by kernel_rfl
theorem one_intB (x : Int) : ∀ u ∈ (#[Value.int .i64 x] : Array Value).toList, u.oneCell' = true := by simp [Value.oneCell']
def tCells (l : List Int) : List Value := l.map (Value.int .i64)
theorem tCells_at (l : List Int) : ∀ i (hi : i < (tCells l).length), (tCells l)[i] = .int .i64 (l.getD i 0) := by
  intro i hi
  have hi' : i < l.length := by simpa [tCells] using hi
  simp [tCells, List.getD, List.getElem?_eq_getElem hi']
/-- A slice of turns of the call's own. -/
def OwnT (B : Nat) (w : World) (v : Value) (l : List Int) : Prop := ∃ p c, v = .slice p l.length c ∧ w.ownsRow B 3 1 v l.length (tCells l)
theorem OwnT.bl {B : Nat} {w w' : World} {v : Value} {l : List Int} (h : OwnT B w v l) (hb : Below w.heap.size w w') : OwnT B w' v l := by
  obtain ⟨p, c, hv, ho⟩ := h
  exact ⟨p, c, hv, own_below ho hb (Nat.le_refl _)⟩
theorem OwnT.rd {B : Nat} {w : World} {v : Value} {s : ByteArray} {n : Nat} (h : OwnT B w v (turnL s n)) : ∃ p c, v = .slice p n c ∧ Rd w p n (fun i => .int .i64 ((turnL s n).getD i 0)) := by
  obtain ⟨p, c, rfl, ho⟩ := h
  have := Rd.of_own ho (tCells_at _)
  rw [show (tCells (turnL s n)).length = n by simp [tCells, turnL_len]] at this
  exact ⟨p, c, by rw [turnL_len], this⟩
/-- Where the making of the turns stands. -/
structure TuRel (x y : Int) (s : ByteArray) (b o : Nat) (w wr : World) (v : Value) (k : Nat) : Prop where
  rd : Rd wr (some ⟨b, o, none⟩) (s.size * 3) (triAt (edges x y s s.size))
  own : OwnT w.heap.size wr v (turnL s k)
  lt : b < w.heap.size
  since : Since w wr
theorem TuRel.bl {x y : Int} {s : ByteArray} {b o : Nat} {w wr w' : World} {v : Value} {k : Nat} (r : TuRel x y s b o w wr v k) (hb : Below wr.heap.size wr w') : TuRel x y s b o w w' v k :=
  ⟨r.rd.bl hb, r.own.bl hb, r.lt, r.since.bl hb⟩
set_option maxRecDepth 100000 in
set_option maxHeartbeats 4000000 in
theorem turns_any (x y : Int) (s : ByteArray) (b o c : Nat) (w : World) (bd : Bd x y s) (R : Rd w (some ⟨b, o, none⟩) (s.size * 3) (triAt (edges x y s s.size))) :
    Calls Try.prog 51 #[.slice (some ⟨b, o, none⟩) s.size c] w fun e w' => ∃ v, e = .returned v ∧ OwnT w.heap.size w' v (turnL s s.size) ∧ Below w.heap.size w w' := by
  have hlo := bd.lo
  have hhi := bd.hi
  have hb : b < w.heap.size := by
    obtain ⟨b', o', hq, hlt, _⟩ := R.at (k := 0) (by omega)
    cases hq
    exact hlt
  have r0 : TuRel x y s b o w (w.alloc (.cells #[] 3)) (.slice (some ⟨w.heap.size, 0, none⟩) 0 0) 0 :=
    ⟨R.alloc _, ⟨_, _, rfl, World.ownsRow_made w #[] 0 (Nat.le_refl _) (by decide) rfl⟩, hb, (Since.refl w).alloc _⟩
  clear R
  have Bd := Lib.hid bd; clear bd
  have R0 := Lib.hid r0; clear r0
  go_enter Try.func51, Try.ntmps51
  go_wp2
  go_loopw [3, 10] (fun v i wr => ∃ k : Nat, k ≤ s.size ∧ i = .int .i64 k ∧ TuRel x y s b o w wr v k) (fun _ i _ => s.size - (intOf i).toNat)
  case atStart => exact ⟨0, Nat.zero_le _, rfl, R0.out⟩
  case round =>
    clear R0
    obtain ⟨k, hk, rfl, r⟩ := hrel
    by_cases hlt : k < s.size
    · obtain ⟨L, eL⟩ : ∃ L, lastOf s.size k = L := ⟨_, rfl⟩
      have hL : L < s.size := eL ▸ lastOf_lt (n := s.size) (i := k) (by omega)
      have hq : Int.tmod ((k : Int) + (s.size : Int) - 1) (s.size : Int) = (L : Int) := by
        rw [← eL, lastOf, show (k : Int) + (s.size : Int) - 1 = ((k + s.size - 1 : Nat) : Int) by omega, Int.ofNat_tmod]
      obtain ⟨a0, a1, a2⟩ := edge_cells r.rd hlt
      obtain ⟨d0, d1, d2⟩ := edge_cells r.rd hL
      have hv0 := (Bd.out.step k hlt).letter
      have hv3 := (way_in s k).2
      have hu0 := (Bd.out.step L hL).letter
      have hu3 := (way_in s L).2
      have ht : turnT s k = (way s k - way s L + 4) % 4 := by rw [turnT, eL]
      have htm : Int.tmod (way s k - way s L + 4) 4 = turnT s k := by rw [ht]; exact Int.tmod_eq_emod_of_nonneg (by omega)
      have hes : turnL s (k + 1) = turnL s k ++ [turnT s k] := turnL_succ s k
      obtain ⟨q, c', rfl, ho⟩ := r.own
      have hel := turnL_len s k
      have S0 := r.since
      have hbw := r.lt
      obtain ⟨P1, e1⟩ : ∃ P, (pos x y s k).1 = P := ⟨_, rfl⟩
      obtain ⟨P2, e2⟩ : ∃ P, (pos x y s k).2 = P := ⟨_, rfl⟩
      obtain ⟨V, ev⟩ : ∃ P, way s k = P := ⟨_, rfl⟩
      obtain ⟨Q1, f1⟩ : ∃ P, (pos x y s L).1 = P := ⟨_, rfl⟩
      obtain ⟨Q2, f2⟩ : ∃ P, (pos x y s L).2 = P := ⟨_, rfl⟩
      obtain ⟨U, fv⟩ : ∃ P, way s L = P := ⟨_, rfl⟩
      obtain ⟨t, et⟩ : ∃ P, turnT s k = P := ⟨_, rfl⟩
      obtain ⟨Ls, eLs⟩ : ∃ L, turnL s k = L := ⟨_, rfl⟩
      simp only [e1, e2, ev, f1, f2, fv, et, eLs] at a0 a1 a2 d0 d1 d2 hv0 hv3 hu0 hu3 htm hes hel ho ⊢
      rw [hel] at ho
      rw [hel]
      have x7 := (Blk.new wr #[.int .i64 P1, .int .i64 P2, .int .i64 V] 56).alloc (.cells #[.int .i64 Q1, .int .i64 Q2, .int .i64 U] 56)
      have x8 := Blk.new (wr.alloc (.cells #[.int .i64 P1, .int .i64 P2, .int .i64 V] 56)) #[.int .i64 Q1, .int .i64 Q2, .int .i64 U] 56
      rw [World.size_alloc] at x8
      have r2 := (r.rd.bl (bl_alloc wr (.cells #[.int .i64 P1, .int .i64 P2, .int .i64 V] 56))).bl (bl_alloc _ (.cells #[.int .i64 Q1, .int .i64 Q2, .int .i64 U] 56))
      have S2 := (S0.bl (bl_alloc wr (.cells #[.int .i64 P1, .int .i64 P2, .int .i64 V] 56))).bl (bl_alloc _ (.cells #[.int .i64 Q1, .int .i64 Q2, .int .i64 U] 56))
      have ho2 := (ho.alloc (.cells #[.int .i64 P1, .int .i64 P2, .int .i64 V] 56)).alloc (.cells #[.int .i64 Q1, .int .i64 Q2, .int .i64 U] 56)
      replace d0 := d0.bl (bl_alloc wr (.cells #[.int .i64 P1, .int .i64 P2, .int .i64 V] 56))
      replace d1 := d1.bl (bl_alloc wr (.cells #[.int .i64 P1, .int .i64 P2, .int .i64 V] 56))
      replace d2 := d2.bl (bl_alloc wr (.cells #[.int .i64 P1, .int .i64 P2, .int .i64 V] 56))
      have A0 := a0.out
      have A1 := a1.out
      have A2 := a2.out
      have D0 := d0.out
      have D1 := d1.out
      have D2 := d2.out
      have hwz := S0.size
      clear a0 a1 a2 d0 d1 d2 ho S0
      have EL := Lib.hid eL; clear eL
      have R := Lib.hid r; clear r
      have R2 := Lib.hid r2; clear r2
      have X7 := Lib.hid x7; clear x7
      have X8 := Lib.hid x8; clear x8
      have Ho2 := Lib.hid ho2; clear ho2
      have E1 := Lib.hid e1; clear e1
      have E2 := Lib.hid e2; clear e2
      have Ev := Lib.hid ev; clear ev
      have F1 := Lib.hid f1; clear f1
      have F2 := Lib.hid f2; clear f2
      have Fv := Lib.hid fv; clear fv
      have Et := Lib.hid et; clear et
      have ELs := Lib.hid eLs; clear eLs
      have Hes := Lib.hid hes; clear hes
      have Hel := Lib.hid hel; clear hel
      go_upto_region 6 with (fail)
      generalize (wr.alloc (.cells #[.int .i64 P1, .int .i64 P2, .int .i64 V] 56)).alloc (.cells #[.int .i64 Q1, .int .i64 Q2, .int .i64 U] 56) = wb at *
      generalize wr.heap.size = g7 at *
      clear A0 A1 A2 D0 D1 D2
      have A2 := X7.out.cell 2 rfl
      have D2 := X8.out.cell 2 rfl
      have hsz := S2.size
      go_wp2_with (at_builtin; refine wpList_push rfl _ _ 72 rfl w.heap.size 3 (.int .i64 0) 1 8 Try.underlying72 info_intB rfl (by decide) (.slice q k c') k _ rfl Ho2.out _ 1 rfl rfl (one_intB _) (by omega) (by simp [maxLen]; omega) hsz ?_; intro g' cap w2 hown2 hgr hat hlt2)
      have hr3 : TuRel x y s b o w w2 (.slice (some ⟨g', 0, none⟩) (k + 1) cap) (k + 1) := by
        have hne : some b ≠ (Value.slice q k c').ownBlock := fun e => by have := own_ge Ho2.out _ e.symm; omega
        refine ⟨R2.out.grown hgr (fun b' o' e => ?_), ⟨some ⟨g', 0, none⟩, cap, by rw [turnL_len], ?_⟩, hbw, ⟨below_own S2.below hgr (own_ge Ho2.out) hsz⟩⟩
        · cases e
          exact hne
        · rw [turnL_len, Hes.out]
          simpa [tCells] using hown2
      clear hown2 hgr hat
      have Hr3 := Lib.hid hr3; clear hr3
      go_wp2
      go_roundw
      case rel => exact ⟨k + 1, by omega, by go_num, Hr3.out⟩
      case measure => simp [intOf]; omega
    · obtain rfl : k = s.size := by omega
      have R := Lib.hid r; clear r
      go_wp2
      go_ret
      exact ⟨_, rfl, R.out.own, R.out.since.below⟩
set_option maxHeartbeats 400000 in
theorem oneIf_b (b : Bool) (w : World) : Calls Try.prog 52 #[.bool b] w fun e w' => e = .returned (.int .i64 (if b = true then 1 else 0)) ∧ w' = w := by
  cases b
  all_goals
    go_enter Try.func52, Try.ntmps52
    go_wp2
    go_ret
    exact ⟨rfl, rfl⟩
set_option maxRecDepth 100000 in
set_option maxHeartbeats 4000000 in
theorem turningOf_any (x y : Int) (s : ByteArray) (w : World) (hs : s.size ≤ maxLen) (hsm : small (x, y)) :
    Calls Try.prog 21 #[.agg #[.int .i64 x, .int .i64 y, .string s]] w fun e w' => e = .returned (.tuple #[.int .i64 (turnB x y s), .bool (bdB x y s)]) ∧ Below w.heap.size w w' := by
  have B := Blk.new w #[.int .i64 x, .int .i64 y, .string s] 30
  have S := (Since.refl w).alloc (.cells #[.int .i64 x, .int .i64 y, .string s] 30)
  have c := isBorder_any x y s (w.alloc (.cells #[.int .i64 x, .int .i64 y, .string s] 30)) hs hsm
  cases hbd : bdB x y s
  · rw [hbd] at c
    have hA : turnB x y s = 0 := by simp [turnB, hbd]
    rw [hA]
    have C := Lib.hid c; clear c
    have Hbd := Lib.hid hbd; clear hbd
    have HA := Lib.hid hA; clear hA
    go_enter Try.func21, Try.ntmps21
    go_wp2_with fail
    refine C.out.mono ?_
    rintro e w1 ⟨rfl, hb⟩
    go_wp2
    go_ret2
    exact ⟨rfl, (S.bl hb).below⟩
  · rw [hbd] at c
    have bd := bdB_iff.1 hbd
    have hA : turnB x y s = turnN s s.size := by simp [turnB, hbd]
    rw [hA]
    have hlo := bd.lo
    have hhi := bd.hi
    have c2 := fun w1 (B1 : Blk w1 w.heap.size #[.int .i64 x, .int .i64 y, .string s] 30) => edges_ok w.heap.size x y s w1 hhi hsm B1 (fun i hi => (bd.step i hi).letter)
    have c3 := fun b o c w1 R1 => turns_any x y s b o c w1 bd R1
    have o1 := fun w => oneIf_b true w
    have o0 := fun w => oneIf_b false w
    clear hs
    have C := Lib.hid c; clear c
    have Hbd := Lib.hid hbd; clear hbd
    have HA := Lib.hid hA; clear hA
    have Bd := Lib.hid bd; clear bd
    have C2 := Lib.hid c2; clear c2
    have C3 := Lib.hid c3; clear c3
    have O0 := Lib.hid o0; clear o0
    have O1 := Lib.hid o1; clear o1
    go_enter Try.func21, Try.ntmps21
    go_wp2_with fail
    refine C.out.mono ?_
    rintro e w1 ⟨rfl, hb⟩
    replace S := S.bl hb
    replace B := B.bl hb
    go_wp2_with fail
    refine (C2.out _ B).mono ?_
    rintro e w2 ⟨v, rfl, own, hb2⟩
    replace S := S.bl hb2
    clear B hb hb2
    obtain ⟨q, c', rfl, hrd⟩ := edges_rd own
    obtain ⟨b, o, rfl, _⟩ := hrd.at (k := 0) (by omega)
    clear own
    go_wp2_with fail
    refine (C3.out _ _ _ _ hrd).mono ?_
    rintro e w3 ⟨v, rfl, own, hb2⟩
    replace S := S.bl hb2
    clear hb2 hrd
    obtain ⟨q, c'', rfl, hrd⟩ := own.rd
    clear own
    go_wp2
    go_loopw [6, 19] (fun v i wr => ∃ k : Nat, k ≤ s.size ∧ i = .int .i64 k ∧ v = .int .i64 (turnN s k) ∧ Rd wr q s.size (fun i => .int .i64 ((turnL s s.size).getD i 0)) ∧ Since w wr) (fun _ i _ => s.size - (intOf i).toNat)
    case atStart => exact ⟨0, Nat.zero_le _, rfl, rfl, hrd, S⟩
    case round =>
      clear hrd S
      obtain ⟨k, hk, rfl, rfl, R, S⟩ := hrel
      have hab := turnN_bd s k
      by_cases hlt : k < s.size
      · obtain ⟨b2, o2, rfl, hlt2, hc⟩ := R.at hlt
        have a0 := hc k hlt
        rw [turnL_at hlt] at a0
        clear hc
        have han : turnN s (k + 1) = turnN s k + turn1 (turnT s k) := rfl
        have h4 := turnT_in s k
        obtain ⟨A, eA⟩ : ∃ A, turnN s k = A := ⟨_, rfl⟩
        obtain ⟨t, et⟩ : ∃ t, turnT s k = t := ⟨_, rfl⟩
        simp only [eA, et] at han h4 a0 hab ⊢
        have e4 : t = 0 ∨ t = 1 ∨ t = 2 ∨ t = 3 := by omega
        clear h4
        rcases e4 with rfl | rfl | rfl | rfl
        all_goals
          have Han := Lib.hid han; clear han
          have EA := Lib.hid eA; clear eA
          have Et := Lib.hid et; clear et
          go_wp2_with (first | (go_at_call 52; with_reducible (refine (O0.out _).mono ?_; rintro e wx ⟨rfl, rfl⟩)) | (go_at_call 52; with_reducible (refine (O1.out _).mono ?_; rintro e wx ⟨rfl, rfl⟩)) | fail)
          go_roundw
          case rel => exact ⟨k + 1, by omega, by go_num, by rw [Han.out]; simp [turn1, Int.sub_eq_add_neg], by assumption, by assumption⟩
          case measure => simp [intOf]; omega
      · obtain rfl : k = s.size := by omega
        go_wp2
        go_ret2
        exact ⟨rfl, S.below⟩
end Go.Proofs.Ytjplikkehhpomaa
