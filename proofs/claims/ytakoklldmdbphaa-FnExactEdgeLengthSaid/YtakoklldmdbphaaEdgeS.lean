/- Contract of the reference's EdgeLength. -/
import Derived.Test.YtakoklldmdbphaaEdge
set_option linter.unusedVariables false
namespace Go.Proofs.Ytakoklldmdbphaa
open Go.RowKit

set_option maxRecDepth 100000 in
set_option maxHeartbeats 2000000 in
theorem sEdgeLength_any (p : Option Addr) (c : Nat) (ss : List ByteArray) (w : World) (hn : ss.length ≤ 1048576) (hs : ∀ s ∈ ss, s.size ≤ 1048576) (hr : Rd w p ss.length (strAt ss)) :
    Calls Try.prog 20 #[.agg #[.slice p ss.length c]] w fun e w' => e = .returned (.tuple #[.int .i64 (edgeL ss), .bool (okPic ss)]) ∧ Below w.heap.size w w' := by
  have c0 := fun a w h1 h2 => l01Is_any a p c ss w hn hs h1 h2
  unfold edgeL
  cases hok : okPic ss
  · rw [hok] at c0
    have C0 := Lib.hid c0; clear c0
    have Hok := Lib.hid hok; clear hok
    go_enter Try.func20, Try.ntmps20
    go_wp2_with fail
    refine (C0.out w.heap.size _ (by simp) (hr.alloc _)).mono ?_
    rintro e w1 ⟨rfl, n, rfl⟩
    go_wp2
    go_ret2
    exact ⟨rfl, by (repeat' (first | exact Below.refl _ _ | assumption | refine Below.drew ?_ | refine below_drewN ?_ _ | refine Below.alloc ?_ ?_ _ | refine Below.setCell ?_ ?_ _ | go_size))⟩
  · rw [hok] at c0
    have hd := okPic_dims hok
    obtain ⟨hd1, hd2, hd3, hd4⟩ := hd
    have hm := mul_256 hd4 hd2
    have P0 : PicAt (w.alloc (.cells #[.slice p ss.length c] 30)) w.heap.size p c ss := ⟨hok, by simp, hr.alloc _⟩
    have S0 := (Since.refl w).alloc (.cells #[.slice p ss.length c] 30)
    have k1 := fun w h => l01Width_any w.heap.size p c ss w h
    have k2 := fun w' h => l01Width_any w.heap.size p c ss w' h
    have k3 := fun w' h => l01Height_any w.heap.size p c ss w' h
    have k4 := fun x y w' h => l01Black_any w.heap.size p c ss x y w' h
    clear k1
    obtain ⟨W, eW⟩ : ∃ W, wid ss = W := ⟨_, rfl⟩
    obtain ⟨f, ef⟩ : ∃ f, bits ss = f := ⟨_, rfl⟩
    rw [eW] at k2 k4 hm hd3 hd4
    rw [ef] at k4
    rw [eW, ef]
    have EW := Lib.hid eW; clear eW
    have Ef := Lib.hid ef; clear ef
    have C0 := Lib.hid c0; clear c0
    have Hok := Lib.hid hok; clear hok
    have K2 := Lib.hid k2; clear k2
    have K3 := Lib.hid k3; clear k3
    have K4 := Lib.hid k4; clear k4
    go_enter Try.func20, Try.ntmps20
    go_wp2_with fail
    refine (C0.out w.heap.size _ P0.box P0.rd).mono ?_
    rintro e w1 ⟨rfl, n, rfl⟩
    replace P0 := P0.drewN n
    replace S0 := S0.bl (bl_drewN _ n)
    generalize (w.alloc (.cells #[.slice p ss.length c] 30)).drewN n = w0 at *
    go_wp2
    go_loopw [4, 5] (fun v i wr => ∃ y : Nat, y ≤ ss.length ∧ i = .int .i64 y ∧ v = .int .i64 (edgesN W ss.length f (y * W)) ∧ PicAt wr w.heap.size p c ss ∧ Since w wr) (fun _ i _ => ss.length - (intOf i).toNat)
    case atStart => exact ⟨0, Nat.zero_le _, rfl, by rw [Nat.zero_mul]; rfl, P0, S0⟩
    case round =>
      clear P0 S0
      obtain ⟨y, hy, rfl, rfl, P, S⟩ := hrel
      by_cases hyH : y < ss.length
      · go_wp2_with fail
        refine (K3.out _ P).mono ?_
        rintro e w1 ⟨rfl, rfl⟩
        go_wp2_with fail
        go_loopw [4, 6] (fun v i wr => ∃ x : Nat, x ≤ W ∧ i = .int .i64 x ∧ v = .int .i64 (edgesN W ss.length f (y * W + x)) ∧ PicAt wr w.heap.size p c ss ∧ Since w wr) (fun _ i _ => W - (intOf i).toNat)
        case atStart => exact ⟨0, Nat.zero_le _, rfl, rfl, P, S⟩
        case round =>
          clear P S
          obtain ⟨x, hx, rfl, rfl, P, S⟩ := hrel
          by_cases hxW : x < W
          · have hpx := px_at (f := f) hxW hyH
            have hlt := at_lt hxW hyH
            have hb0 := edgesN_bd W ss.length f (y * W + x)
            have hsu := edgesN_at (H := ss.length) (f := f) (y := y) hxW
            have hK := edgeK_bd W ss.length f (x : Int) (y : Int)
            obtain ⟨E, eE⟩ : ∃ E, edgesN W ss.length f (y * W + x) = E := ⟨_, rfl⟩
            obtain ⟨ex, eex⟩ : ∃ ex, edgesN W ss.length f (y * W + (x + 1)) = ex := ⟨_, rfl⟩
            rw [eE] at hb0 hsu ⊢
            rw [eex] at hsu
            obtain ⟨hb1, hb2⟩ := hb0
            have Hpx := Lib.hid hpx; clear hpx
            have Hsu := Lib.hid hsu; clear hsu
            have HK := Lib.hid hK; clear hK
            have EE := Lib.hid eE; clear eE
            have Eex := Lib.hid eex; clear eex
            go_wp2_with fail
            refine (K2.out _ P).mono ?_
            rintro e w1 ⟨rfl, rfl⟩
            go_wp2_with fail
            cases hf : f (y * W + x)
            · have c4 := fun w' h => (K4.out (x : Int) (y : Int) w' h).mono (fun e w'' q => (⟨q.1.trans (by rw [Hpx.out, hf]), q.2⟩ : e = .returned (.bool false) ∧ ∃ n, w'' = w'.drewN n))
              have hs2 := Hsu.out
              rw [hf] at hs2
              simp only [Bool.false_eq_true, if_false, Int.add_zero] at hs2
              have C4 := Lib.hid c4; clear c4
              have Hf := Lib.hid hf; clear hf
              have Hs2 := Lib.hid hs2; clear hs2
              refine wp_loop_rounds 1 ?_
              rw [rounds_succ]
              go_wp2_with fail
              refine (C4.out _ P).mono ?_
              rintro e w1 ⟨rfl, k, rfl⟩
              replace P := P.drewN k
              replace S := S.bl (bl_drewN _ k)
              go_wp2
              go_roundw
              case rel => exact ⟨x + 1, by omega, by go_num, by rw [Eex.out, Hs2.out], P, S⟩
              case measure => simp [intOf]; omega
            · have c4 := fun w' h => (K4.out (x : Int) (y : Int) w' h).mono (fun e w'' q => (⟨q.1.trans (by rw [Hpx.out, hf]), q.2⟩ : e = .returned (.bool true) ∧ ∃ n, w'' = w'.drewN n))
              have hs2 := Hsu.out
              rw [hf] at hs2
              simp only [if_true] at hs2
              have C4 := Lib.hid c4; clear c4
              have Hf := Lib.hid hf; clear hf
              have Hs2 := Lib.hid hs2; clear hs2
              go_loopw [4, 7] (fun v i wr => ∃ k : Nat, k ≤ 4 ∧ i = .int .i64 k ∧ v = .int .i64 (E + edgeK W ss.length f (x : Int) (y : Int) k) ∧ PicAt wr w.heap.size p c ss ∧ Since w wr) (fun _ i _ => 4 - (intOf i).toNat)
              case atStart => exact ⟨0, Nat.zero_le _, rfl, val_int (by simp [edgeK]), P, S⟩
              case round =>
                clear P S
                obtain ⟨k, hk, rfl, rfl, P, S⟩ := hrel
                by_cases hk4 : k < 4
                · have hKk := HK.out k
                  have hks : edgeK W ss.length f (x : Int) (y : Int) (k + 1) = edgeK W ss.length f (x : Int) (y : Int) k + nB (px W ss.length f ((x : Int) + wayX k) ((y : Int) + wayY k)) := rfl
                  have bX := wayX_bd k
                  have bY := wayY_bd k
                  have cX := fun w => l04X_any (k : Int) w
                  have cY := fun w => l04Y_any (k : Int) w
                  generalize wayX (k : Int) = a at *
                  generalize wayY (k : Int) = b at *
                  have c5 := fun w' h => K4.out ((x : Int) + a) ((y : Int) + b) w' h
                  generalize edgeK W ss.length f (x : Int) (y : Int) k = u at *
                  generalize px W ss.length f ((x : Int) + a) ((y : Int) + b) = v at *
                  obtain ⟨hK1, hK2⟩ := hKk
                  obtain ⟨bX1, bX2⟩ := bX
                  obtain ⟨bY1, bY2⟩ := bY
                  have Hks := Lib.hid hks; clear hks
                  have CX := Lib.hid cX; clear cX
                  have CY := Lib.hid cY; clear cY
                  have C5 := Lib.hid c5; clear c5
                  go_wp2_with fail
                  refine (C4.out _ P).mono ?_
                  rintro e w1 ⟨rfl, n1, rfl⟩
                  have P1 := P.drewN n1
                  go_wp2_with fail
                  refine (CX.out _).mono ?_
                  rintro e w1 ⟨rfl, rfl⟩
                  go_wp2_with fail
                  refine (CY.out _).mono ?_
                  rintro e w1 ⟨rfl, rfl⟩
                  cases v
                  · go_wp2_with fail
                    refine (C5.out _ P1).mono ?_
                    rintro e w1 ⟨rfl, n2, rfl⟩
                    go_wp2
                    go_roundw
                    case rel => exact ⟨k + 1, by omega, by go_num, val_int (by rw [Hks.out]; simp [nB]; omega), P.drewN _, S.bl (bl_drewN _ _)⟩
                    case measure => simp [intOf]; omega
                  · go_wp2_with fail
                    refine (C5.out _ P1).mono ?_
                    rintro e w1 ⟨rfl, n2, rfl⟩
                    go_wp2
                    go_roundw
                    case rel => exact ⟨k + 1, by omega, by go_num, val_int (by rw [Hks.out]; simp [nB]), P.drewN _, S.bl (bl_drewN _ _)⟩
                    case measure => simp [intOf]; omega
                · obtain rfl : k = 4 := by omega
                  go_wp2
                  go_roundw
                  case rel => exact ⟨x + 1, by omega, by go_num, by rw [Eex.out, Hs2.out], P, S⟩
                  case measure => simp [intOf]; omega
          · obtain rfl : x = W := by omega
            have e1 : y * x + x = (y + 1) * x := by rw [Nat.add_mul, Nat.one_mul]
            have E1 := Lib.hid e1; clear e1
            go_wp2_with fail
            refine (K2.out _ P).mono ?_
            rintro e w1 ⟨rfl, rfl⟩
            go_wp2
            go_roundw
            case rel => exact ⟨y + 1, by omega, by go_num, by rw [E1.out], P, S⟩
            case measure => simp [intOf]; omega
      · obtain rfl : y = ss.length := by omega
        go_wp2_with fail
        refine (K3.out _ P).mono ?_
        rintro e w1 ⟨rfl, rfl⟩
        go_wp2
        go_ret2
        exact ⟨by rw [Nat.mul_comm]; rfl, S.below⟩
end Go.Proofs.Ytakoklldmdbphaa
