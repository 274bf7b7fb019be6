/- Contract of the reference's TurnPicture. -/
import Derived.Test.YteoodnhcghjjeaaSpecTurn
set_option linter.unusedVariables false
namespace Go.Proofs.Yteoodnhcghjjeaa
open Go.RowKit

set_option maxHeartbeats 4000000 in
theorem sTurnPicture_any (p : Option Addr) (c : Nat) (ss : List ByteArray) (kind : Int) (w : World) (hn : ss.length ≤ 1048576) (hs : ∀ s ∈ ss, s.size ≤ 1048576) (hr : Rd w p ss.length (strAt ss)) :
    Calls Try.prog 39 #[.agg #[.slice p ss.length c], .int .i64 kind] w fun e w' => ∃ v, e = .returned (.tuple #[.agg #[v], .bool (turnOk ss kind)]) ∧ OwnStrs w.heap.size w' v (turnL' ss kind) ∧ Below w.heap.size w w' := by
  have hy0 := bl_alloc w (.cells #[.slice p ss.length c] 28)
  have hy1 := bl_alloc (w.alloc (.cells #[.slice p ss.length c] 28)) (.cells #[.slice none 0 0] 28)
  have S := ((Since.refl w).bl hy0).bl hy1
  have P : PicVar ((w.alloc (.cells #[.slice p ss.length c] 28)).alloc (.cells #[.slice none 0 0] 28)) w.heap.size p c ss := ⟨by simp, (hr.alloc _).alloc _⟩
  have B := Box.new (w.alloc (.cells #[.slice p ss.length c] 28)) (.slice none 0 0) 28
  simp only [World.size_alloc] at B
  have c0 := fun w' (h : PicVar w' w.heap.size p c ss) => l01Is_any w.heap.size p c ss w' hn hs h.box h.rd
  have hx1 := B.cell
  have hx2 := B.frozen
  clear hy0 hy1
  cases hok : okPic ss
  · rw [hok] at c0
    have hv : turnL' ss kind = [] := by simp [turnL', turnOk, picIf, hok]
    have hv2 : turnOk ss kind = false := by simp [turnOk, hok]
    rw [hv, hv2]
    have C0 := Lib.hid c0; clear c0
    have Hok := Lib.hid hok; clear hok
    clear hv hv2
    go_enter Try.func39, Try.ntmps39
    go_wp2_with fail
    refine (C0.out _ P).mono ?_
    rintro e w1 ⟨rfl, n, rfl⟩
    replace B := B.bl (bl_drewN _ n)
    replace S := S.bl (bl_drewN _ n)
    have e0 := B.cell
    go_wp2
    refine bodyPost_ret (v := .tuple #[.agg #[.slice none 0 0], .bool false]) (by simp [results, Try.results39, go_sem, e0]) rfl ⟨_, rfl, OwnStrs.nil _ _, (S.set (by omega) _ _).below⟩
  · rw [hok] at c0
    have P1 := P.at hok
    cases hi : inB kind 0 3
    · have hv : turnL' ss kind = [] := by simp [turnL', turnOk, picIf, hok, hi]
      have hv2 : turnOk ss kind = false := by simp [turnOk, hok, hi]
      rw [hv, hv2]
      clear hv hv2
      have C0 := Lib.hid c0; clear c0
      have Hok := Lib.hid hok; clear hok
      go_enter Try.func39, Try.ntmps39
      go_wp2_with fail
      refine (C0.out _ P).mono ?_
      rintro e w1 ⟨rfl, n, rfl⟩
      replace B := B.bl (bl_drewN _ n)
      replace S := S.bl (bl_drewN _ n)
      have e0 := B.cell
      go_wp2_with (go_at_call 82; refine (l00In_any _ _ _ _).mono ?_; rintro e w' ⟨rfl, rfl⟩)
      refine bodyPost_ret (v := .tuple #[.agg #[.slice none 0 0], .bool false]) (by simp [results, Try.results39, go_sem, e0]) rfl ⟨_, rfl, OwnStrs.nil _ _, (S.set (by omega) _ _).below⟩
    · have dk := inB_true hi
      obtain ⟨k, rfl⟩ := Int.eq_ofNat_of_zero_le (show 0 ≤ kind by omega)
      have hv : turnL' ss k = render (turnW (wid ss) ss.length k) (turnW ss.length (wid ss) k) (turnG (wid ss) ss.length (bits ss) k) := by simp [turnL', turnOk, picIf, hok, hi]
      have hv2 : turnOk ss k = true := by simp [turnOk, hok, hi]
      rw [hv, hv2]
      obtain ⟨L, eL⟩ : ∃ L, render (turnW (wid ss) ss.length k) (turnW ss.length (wid ss) k) (turnG (wid ss) ss.length (bits ss) k) = L := ⟨_, rfl⟩
      have c1 := fun w' h => l01Turn_any w.heap.size p c ss k w' h (by omega)
      rw [eL] at c1 ⊢
      have C0 := Lib.hid c0; clear c0
      have C1 := Lib.hid c1; clear c1
      have Hok := Lib.hid hok; clear hok
      clear hv eL hv2 dk
      go_enter Try.func39, Try.ntmps39
      go_wp2_with fail
      refine (C0.out _ P).mono ?_
      rintro e w1 ⟨rfl, n, rfl⟩
      replace B := B.bl (bl_drewN _ n)
      replace S := S.bl (bl_drewN _ n)
      replace P1 := P1.bl (bl_drewN _ n)
      go_wp2_with (go_at_call 82; refine (l00In_any _ _ _ _).mono ?_; rintro e w' ⟨rfl, rfl⟩)
      refine (C1.out _ P1).mono ?_
      rintro e w2 ⟨v, rfl, O, hb⟩
      have hlt := B.lt
      replace B := B.bl hb
      replace S := S.bl hb
      clear hb
      have f0 := B.frozen
      have f1 := B.cell
      obtain ⟨p', c', rfl⟩ := O.form
      have e0 := (B.set (.slice p' L.length c')).cell
      have O2 := O.set (a := ⟨w.heap.size + 1, 0, none⟩) hlt (.slice p' L.length c')
      have S3 := S.set (b := w.heap.size + 1) (by omega) 0 (.slice p' L.length c')
      go_wp2
      refine bodyPost_ret (v := .tuple #[.agg #[.slice p' L.length c'], .bool true]) (by simp [results, Try.results39, go_sem, e0]) rfl ⟨_, rfl, O2.mono (by omega), S3.below⟩
end Go.Proofs.Yteoodnhcghjjeaa
