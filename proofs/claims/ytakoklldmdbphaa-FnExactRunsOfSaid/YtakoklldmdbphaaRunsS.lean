/- Contract of the reference's RunsOf. -/
import Derived.Test.YtakoklldmdbphaaRuns
import Derived.Test.YtakoklldmdbphaaLawIS
set_option linter.unusedVariables false
namespace Go.Proofs.Ytakoklldmdbphaa
open Go.RowKit

/-- The loops of l04Runs. -/
def RsRel (w : World) (T : List Run) (v : Value) (wr : World) : Prop := ∃ q c, v = .slice q T.length c ∧ (∃ vs, OwnIntss w.heap.size wr (.slice q T.length c) (T.map runRow) vs) ∧ Since w wr
def RsIn (w : World) (W : Nat) (f : Nat → Bool) (y : Nat) (v i : Value) (wr : World) : Prop :=
  ∃ (x : Nat) (T : List Run), x ≤ W + 1 ∧ i = .int .i64 x ∧ (x ≤ W → x = 0 ∨ f (y * W + x - 1) = false) ∧ T = runsTo W f (y * W + min x W) ∧ RsRel w T v wr
def RsRun (w : World) (W : Nat) (f : Nat → Bool) (y a : Nat) (i : Value) (wr : World) (B : Prop) : Prop :=
  ∃ (k : Nat) (z : Int), a + k ≤ W ∧ i = .int .i64 z ∧ z = ((a + k : Nat) : Int) ∧ (∀ j, j < k → f (y * W + (a + j)) = true) ∧ B
theorem runs_push {w wo w2 : World} {T : List Run} {q : Option Addr} {c : Nat} (vs : Nat → Value) (h : OwnIntss w.heap.size wo (.slice q T.length c) (T.map runRow) vs) (t : Run) (hB : w.heap.size ≤ wo.heap.size) {g' cap : Nat}
    (hgr : (wo.alloc (.cells #[.int .i64 t.1, .int .i64 t.2.1, .int .i64 t.2.2] 2)).grownBy w2 (Value.slice q T.length c).ownBlock)
    (hat : (Value.slice q T.length c).ownBlock = some g' ∨ (wo.alloc (.cells #[.int .i64 t.1, .int .i64 t.2.1, .int .i64 t.2.2] 2)).heap.size ≤ g')
    (ho : w2.ownsRow w.heap.size 37 1 (.slice (some ⟨g', 0, none⟩) (T.length + 1) cap) (T.length + 1) ((List.range T.length).map vs ++ [.slice (some ⟨wo.heap.size, 0, none⟩) 3 3])) (S : Since w wo) : RsRel w (T ++ [t]) (.slice (some ⟨g', 0, none⟩) (T.length + 1) cap) w2 := by
  have hx : OwnInts wo.heap.size (wo.alloc (.cells #[.int .i64 t.1, .int .i64 t.2.1, .int .i64 t.2.2] 2)) (.slice (some ⟨wo.heap.size, 0, none⟩) 3 3) (runRow t) :=
    OwnInts.of_blk (runRow t) (Blk.new _ _ _) rfl (Nat.le_refl _) (by simp [maxLen])
  have hl : (T.map runRow).length = T.length := by simp
  have J := h.push (bl_alloc _ _) hx hB hgr (v' := .slice (some ⟨g', 0, none⟩) (T.length + 1) cap) (at_cases hat) ⟨_, _, by rw [hl]⟩ (by rw [hl]; exact ho)
  obtain ⟨_, _, _, hown⟩ := h.own
  refine ⟨_, _, by rw [List.length_append, List.length_singleton], ⟨fun i => if i = (T.map runRow).length then Value.slice (some ⟨wo.heap.size, 0, none⟩) 3 3 else vs i, ?_⟩, ⟨below_own (S.below.alloc hB _) hgr (own_ge hown) (by simp; omega)⟩⟩
  rw [List.length_append, List.length_singleton, List.map_append]
  exact J
set_option maxRecDepth 100000 in
set_option maxHeartbeats 4000000 in
theorem l04Runs_any (a : Nat) (p : Option Addr) (c : Nat) (ss : List ByteArray) (w : World) (P : PicAt w a p c ss) :
    Calls Try.prog 81 #[.pointer (some ⟨a, 0, none⟩)] w fun e w' => ∃ v, e = .returned v ∧ OwnSS w.heap.size w' v ((runsTo (wid ss) (bits ss) (wid ss * ss.length)).map runRow) ∧ Below w.heap.size w w' := by
  have hd := okPic_dims P.ok
  obtain ⟨hd1, hd2, hd3, hd4⟩ := hd
  have hm := mul_256 hd4 hd2
  have k2 := fun w' h => l01Width_any a p c ss w' h
  have k3 := fun w' h => l01Height_any a p c ss w' h
  have k4 := fun x y w' h => l01Black_any a p c ss x y w' h
  have J0 := OwnIntss.start (World.ownsRow_made (base := w.heap.size) (size := 1) (e := 37) w #[] 0 (Nat.le_refl _) (by decide) rfl) ⟨_, _, rfl⟩
  obtain ⟨W, eW⟩ : ∃ W, wid ss = W := ⟨_, rfl⟩
  obtain ⟨H, eH⟩ : ∃ H, ss.length = H := ⟨_, rfl⟩
  obtain ⟨f, ef⟩ : ∃ f, bits ss = f := ⟨_, rfl⟩
  rw [eW, eH] at hm
  rw [eW] at hd3 hd4
  rw [eH] at hd1 hd2
  simp only [eW, eH, ef] at k2 k3 k4
  rw [eW, eH, ef]
  have S0 := (Since.refl w).alloc (.cells #[] 37)
  have K2 := Lib.hid k2; clear k2
  have K3 := Lib.hid k3; clear k3
  have K4 := Lib.hid k4; clear k4
  have EW := Lib.hid eW; clear eW
  have EH := Lib.hid eH; clear eH
  have Ef := Lib.hid ef; clear ef
  go_enter Try.func81, Try.ntmps81
  go_wp2
  go_loopw [3, 4] (fun v i wr => ∃ (y : Nat) (T : List Run), y ≤ H ∧ i = .int .i64 y ∧ T = runsTo W f (y * W) ∧ RsRel w T v wr) (fun _ i _ => H - (intOf i).toNat)
  case atStart => exact ⟨0, [], Nat.zero_le _, rfl, by rw [Nat.zero_mul]; rfl, _, _, rfl, ⟨_, J0⟩, S0⟩
  case round =>
    clear J0 S0
    obtain ⟨y, T0, hy, rfl, hT0, R⟩ := hrel
    have HT0 := Lib.hid hT0; clear hT0
    have P1 : PicAt wr a p c ss := by
      obtain ⟨_, _, _, _, S⟩ := R
      exact P.bl S.below
    by_cases hyH : y < H
    · go_wp2_with fail
      with_reducible (refine (K3.out _ P1).mono ?_)
      rintro e w1 ⟨rfl, rfl⟩
      go_wp2_with fail
      go_loopw [3, 5] (fun v i wr => RsIn w W f y v i wr) (fun _ i _ => W + 1 - (intOf i).toNat)
      case atStart => exact ⟨0, _, by omega, rfl, fun _ => .inl rfl, by rw [Nat.zero_min]; exact HT0.out, R⟩
      case round =>
        clear R P1
        obtain ⟨x, T, hx, rfl, hst, hT, q, d, rfl, ⟨vs, J⟩, S⟩ := hrel
        have P1 := P.bl S.below
        by_cases hxW : x < W
        · have hmin : min x W = x := by omega
          have hst' := hst (by omega)
          have hpx := px_at (f := f) hxW hyH
          rw [hmin] at hT
          have hN : y * W + x < 256 := by have := at_lt hxW hyH; omega
          have hlen := runsTo_len W f (y * W + x)
          rw [← hT] at hlen
          have Hst' := Lib.hid hst'; clear hst'
          have Hpx := Lib.hid hpx; clear hpx
          have Hmin := Lib.hid hmin; clear hmin
          have HT := Lib.hid hT; clear hT
          clear hst
          go_wp2_with fail
          with_reducible (refine (K2.out _ P1).mono ?_)
          rintro e w1 ⟨rfl, rfl⟩
          go_wp2_with fail
          cases hf : f (y * W + x)
          · have c4 := (K4.out (x : Int) (y : Int) wr P1).mono (fun e w'' q => (⟨q.1.trans (by rw [Hpx.out, hf]), q.2⟩ : e = .returned (.bool false) ∧ ∃ n, w'' = wr.drewN n))
            have hw := runsTo_white (W := W) hf
            have hnx : f (y * W + (x + 1) - 1) = false := by rw [show y * W + (x + 1) - 1 = y * W + x by omega]; exact hf
            have C4 := Lib.hid c4; clear c4
            have Hf := Lib.hid hf; clear hf
            have Hw := Lib.hid hw; clear hw
            have Hnx := Lib.hid hnx; clear hnx
            with_reducible (refine C4.out.mono ?_)
            rintro e w1 ⟨rfl, n, rfl⟩
            replace J := J.bl (bl_drewN _ n)
            replace S := S.bl (bl_drewN _ n)
            clear hlen
            go_wp2
            go_roundw
            case rel =>
              exact ⟨x + 1, T, by omega, by go_num, fun _ => .inr Hnx.out, by rw [show min (x + 1) W = x + 1 by omega, ← Nat.add_assoc, Hw.out, HT.out], _, _, rfl, ⟨vs, J⟩, S⟩
            case measure => simp [intOf]; omega
          · have c4 := (K4.out (x : Int) (y : Int) wr P1).mono (fun e w'' q => (⟨q.1.trans (by rw [Hpx.out, hf]), q.2⟩ : e = .returned (.bool true) ∧ ∃ n, w'' = wr.drewN n))
            have C4 := Lib.hid c4; clear c4
            have Hf := Lib.hid hf; clear hf
            with_reducible (refine C4.out.mono ?_)
            rintro e w1 ⟨rfl, n, rfl⟩
            replace J := J.bl (bl_drewN _ n)
            replace S := S.bl (bl_drewN _ n)
            obtain ⟨wo, ewo⟩ : ∃ wo : World, wo = wr.drewN n := ⟨_, rfl⟩
            have hP := P1.drewN n
            go_wp2_with fail
            go_loopw [5] (fun i wr => RsRun w W f y x i wr ((∃ vs, OwnIntss w.heap.size wr (.slice q T.length d) (T.map runRow) vs) ∧ Since w wr)) (fun i _ => W - (intOf i).toNat)
            case atStart => exact ⟨0, (x : Int), by omega, rfl, rfl, fun j hj => absurd hj (Nat.not_lt_zero _), ⟨vs, J⟩, S⟩
            case round =>
              clear J S P1 hP ewo C4 vs
              obtain ⟨k, z, hk, rfl, hz, hall, ⟨vs, J⟩, S⟩ := hrel
              have hz1 : z ≤ (x : Int) + k := by omega
              have hz2 : (x : Int) + k ≤ z := by omega
              have P1 := P.bl S.below
              have hsS := S.size
              have c5 := K4.out z (y : Int) wr P1
              have hl : (List.map runRow T).length = T.length := by simp
              by_cases hkW : x + k < W
              · have hpk := px_at (f := f) hkW hyH
                have hzw : decide (z < (W : Int)) = true := by rw [decide_eq_true_eq]; omega
                rw [← hz] at hpk
                cases hfk : f (y * W + (x + k))
                · rw [hpk, hfk] at c5
                  obtain ⟨k', rfl⟩ : ∃ k', k = k' + 1 := by
                    cases k with
                    | zero => have := Hf.out; simp only [Nat.add_zero] at hfk; rw [this] at hfk; cases hfk
                    | succ k' => exact ⟨k', rfl⟩
                  have hrun := runsTo_run (W := W) (f := f) (a := x) (y := y) Hst'.out k' (by omega) hall
                  have hnx : f (y * W + (x + (k' + 1) + 1) - 1) = false := by rw [show y * W + (x + (k' + 1) + 1) - 1 = y * W + (x + (k' + 1)) by omega]; exact hfk
                  have hw := runsTo_white (W := W) hfk
                  have Hfk := Lib.hid hfk; clear hfk
                  have hz3 : ((k' : Int) + 1) = z - (x : Int) := by omega
                  rw [hz3] at hrun
                  have C5 := Lib.hid c5; clear c5
                  have Hrun := Lib.hid hrun; clear hrun
                  have Hnx := Lib.hid hnx; clear hnx
                  have Hw := Lib.hid hw; clear hw
                  have Hz := Lib.hid hz; clear hz
                  clear hall hpk hz3
                  go_wp2_with fail
                  with_reducible (refine C5.out.mono ?_)
                  rintro e w1 ⟨rfl, n2, rfl⟩
                  have J2 := J.bl (bl_drewN _ n2)
                  have S2 := S.bl (bl_drewN _ n2)
                  obtain ⟨_, _, hv2, hown⟩ := J2.own
                  clear hv2
                  rw [hl] at hown
                  have hown2 := own_below hown (bl_alloc (wr.drewN n2) (.cells #[.int .i64 y, .int .i64 x, .int .i64 (z - (x : Int))] 2)) (Nat.le_refl _)
                  clear hl C5
                  go_wp2_with (at_builtin; refine wpList_pushA (wr.heap.size + 1) (by simp) rfl _ _ 43 rfl w.heap.size 37 (.slice none 0 0) 1 24 Try.underlying43 info_ints rfl (by decide) (.slice q T.length d) T.length _ rfl hown2 _ 1 rfl rfl (one_slice _ _ _) (by omega) (by simp [maxLen]; omega) (by simp; omega) ?_; intro g' cap w2 hown3 hgr hat hlt2)
                  go_roundw
                  case rel =>
                    unfold RsIn
                    exact ⟨x + (k' + 1) + 1, T ++ [((y : Int), (x : Int), z - (x : Int))], by omega, val_int (by omega), fun h => .inr Hnx.out, by rw [show min (x + (k' + 1) + 1) W = x + (k' + 1) + 1 by omega, show y * W + (x + (k' + 1) + 1) = y * W + (x + (k' + 1)) + 1 by omega, Hw.out, Hrun.out, HT.out], runs_push vs J2 ((y : Int), (x : Int), z - (x : Int)) hsS hgr hat hown3 S2⟩
                  case measure => simp [intOf]; omega
                · rw [hpk, hfk] at c5
                  have hall2 : ∀ j, j < k + 1 → f (y * W + (x + j)) = true := by
                    intro j hj
                    by_cases e : j = k
                    · subst e; exact hfk
                    · exact hall j (by omega)
                  have C5 := Lib.hid c5; clear c5
                  have Hall2 := Lib.hid hall2; clear hall2
                  have Hfk := Lib.hid hfk; clear hfk
                  have Hpk := Lib.hid hpk; clear hpk
                  have Hz := Lib.hid hz; clear hz
                  clear hall hlen
                  go_wp2_with fail
                  with_reducible (refine C5.out.mono ?_)
                  rintro e w1 ⟨rfl, n2, rfl⟩
                  replace J := J.bl (bl_drewN _ n2)
                  replace S := S.bl (bl_drewN _ n2)
                  go_wp2
                  go_roundw
                  case rel => unfold RsRun; exact ⟨k + 1, z + 1, by omega, rfl, by omega, Hall2.out, ⟨vs, J⟩, S⟩
                  case measure => simp [intOf]; omega
              · have hkW2 : x + k = W := by omega
                have hpk : px W H f z (y : Int) = false := by
                  have : hasB W H z (y : Int) = false := by
                    simp only [hasB, inB, Bool.and_eq_false_iff, decide_eq_false_iff_not]
                    omega
                  rw [px, this]; rfl
                rw [hpk] at c5
                obtain ⟨k', rfl⟩ : ∃ k', k = k' + 1 := ⟨k - 1, by omega⟩
                have hrun := runsTo_run (W := W) (f := f) (a := x) (y := y) Hst'.out k' (by omega) hall
                have hnx : True := trivial
                have hw : True := trivial
                have hkW3 : x + (k' + 1) ≤ W := by omega
                have hkW4 : W ≤ x + (k' + 1) := by omega
                clear hkW2
                have hz3 : ((k' : Int) + 1) = z - (x : Int) := by omega
                rw [hz3] at hrun
                have C5 := Lib.hid c5; clear c5
                have Hrun := Lib.hid hrun; clear hrun
                have Hnx := Lib.hid hnx; clear hnx
                have Hw := Lib.hid hw; clear hw
                have Hz := Lib.hid hz; clear hz
                clear hall hpk hz3
                go_wp2_with fail
                with_reducible (refine C5.out.mono ?_)
                rintro e w1 ⟨rfl, n2, rfl⟩
                have J2 := J.bl (bl_drewN _ n2)
                have S2 := S.bl (bl_drewN _ n2)
                obtain ⟨_, _, hv2, hown⟩ := J2.own
                clear hv2
                rw [hl] at hown
                have hown2 := own_below hown (bl_alloc (wr.drewN n2) (.cells #[.int .i64 y, .int .i64 x, .int .i64 (z - (x : Int))] 2)) (Nat.le_refl _)
                clear hl C5
                go_wp2_with (at_builtin; refine wpList_pushA (wr.heap.size + 1) (by simp) rfl _ _ 43 rfl w.heap.size 37 (.slice none 0 0) 1 24 Try.underlying43 info_ints rfl (by decide) (.slice q T.length d) T.length _ rfl hown2 _ 1 rfl rfl (one_slice _ _ _) (by omega) (by simp [maxLen]; omega) (by simp; omega) ?_; intro g' cap w2 hown3 hgr hat hlt2)
                go_roundw
                case rel =>
                  unfold RsIn
                  exact ⟨x + (k' + 1) + 1, T ++ [((y : Int), (x : Int), z - (x : Int))], by omega, val_int (by omega), fun h => absurd h (by omega), by rw [show min (x + (k' + 1) + 1) W = x + (k' + 1) by omega, Hrun.out, HT.out], runs_push vs J2 ((y : Int), (x : Int), z - (x : Int)) hsS hgr hat hown3 S2⟩
                case measure => simp [intOf]; omega
        · have hxW2 : W ≤ x := by omega
          have hmin : min x W = W := by omega
          have e1 : y * W + W = (y + 1) * W := by rw [Nat.add_mul, Nat.one_mul]
          rw [hmin, e1] at hT
          have hxd : decide ((x : Int) < (W : Int)) = false := by rw [decide_eq_false_iff_not]; omega
          have Hmin := Lib.hid hmin; clear hmin
          have E1 := Lib.hid e1; clear e1
          have HT := Lib.hid hT; clear hT
          clear hst
          go_wp2_with fail
          with_reducible (refine (K2.out _ P1).mono ?_)
          rintro e w1 ⟨rfl, rfl⟩
          go_wp2
          go_roundw
          case rel => exact ⟨y + 1, T, by omega, by go_num, HT.out, _, _, rfl, ⟨vs, J⟩, S⟩
          case measure => simp [intOf]; omega
    · obtain rfl : y = H := by omega
      obtain ⟨q, d, rfl, ⟨vs, J⟩, S⟩ := R
      go_wp2_with fail
      with_reducible (refine (K3.out _ P1).mono ?_)
      rintro e w1 ⟨rfl, rfl⟩
      go_wp2
      go_ret
      exact ⟨_, rfl, by rw [Nat.mul_comm, ← HT0.out]; exact ⟨vs, J⟩, S.below⟩
set_option maxHeartbeats 1000000 in
theorem sRunsOf_any (p : Option Addr) (c : Nat) (ss : List ByteArray) (w : World) (hn : ss.length ≤ 1048576) (hs : ∀ s ∈ ss, s.size ≤ 1048576) (hr : Rd w p ss.length (strAt ss)) :
    Calls Try.prog 28 #[.agg #[.slice p ss.length c]] w fun e w' => ∃ v, e = .returned (.tuple #[v, .bool (okPic ss)]) ∧ OwnSS w.heap.size w' v (runsL ss) ∧ Below w.heap.size w w' := by
  have c0 := fun a w h1 h2 => l01Is_any a p c ss w hn hs h1 h2
  unfold runsL runsLT
  cases hok : okPic ss
  · rw [hok] at c0
    have C0 := Lib.hid c0; clear c0
    have Hok := Lib.hid hok; clear hok
    go_enter Try.func28, Try.ntmps28
    go_wp2_with fail
    refine (C0.out w.heap.size _ (by simp) (hr.alloc _)).mono ?_
    rintro e w1 ⟨rfl, n, rfl⟩
    go_wp2
    go_ret2
    exact ⟨_, rfl, ⟨_, OwnIntss.nil _ _⟩, by (repeat' (first | exact Below.refl _ _ | assumption | refine Below.drew ?_ | refine below_drewN ?_ _ | refine Below.alloc ?_ ?_ _ | refine Below.setCell ?_ ?_ _ | go_size))⟩
  · rw [hok] at c0
    have P0 : PicAt (w.alloc (.cells #[.slice p ss.length c] 30)) w.heap.size p c ss := ⟨hok, by simp, hr.alloc _⟩
    have c1 := fun w h => l04Runs_any w.heap.size p c ss w h
    have c2 := fun w' h => l04Runs_any w.heap.size p c ss w' h
    clear c1
    have S := (Since.refl w).alloc (.cells #[.slice p ss.length c] 30)
    have C0 := Lib.hid c0; clear c0
    have C2 := Lib.hid c2; clear c2
    have Hok := Lib.hid hok; clear hok
    go_enter Try.func28, Try.ntmps28
    go_wp2_with fail
    refine (C0.out w.heap.size _ P0.box P0.rd).mono ?_
    rintro e w1 ⟨rfl, n, rfl⟩
    replace S := S.bl (bl_drewN _ n)
    go_wp2_with fail
    refine (C2.out _ (P0.drewN n)).mono ?_
    rintro e w1 ⟨v, rfl, ⟨vs, O⟩, hb⟩
    replace S := S.bl hb
    go_wp2
    go_ret2
    exact ⟨_, rfl, ⟨vs, O.mono (by simp)⟩, S.below⟩
end Go.Proofs.Ytakoklldmdbphaa
