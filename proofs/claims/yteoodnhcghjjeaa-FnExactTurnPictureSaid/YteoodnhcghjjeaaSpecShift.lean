/- Contracts of the reference's ShiftPicture and TurnPicture. -/
import Derived.Test.YteoodnhcghjjeaaSpecMk
set_option linter.unusedVariables false
namespace Go.Proofs.Yteoodnhcghjjeaa
open Go.RowKit

/-- The pixels of a picture that is shifted. -/
def shiftF (W H : Nat) (f : Nat → Bool) (dx dy : Int) (i : Nat) : Bool := px W H f (((i % W : Nat) : Int) - dx) (((i / W : Nat) : Int) - dy)
def shiftOk (ss : List ByteArray) (dx dy : Int) : Bool := okPic ss && (inB dx (-16) 16 && inB dy (-16) 16)
def shiftL (ss : List ByteArray) (dx dy : Int) : List ByteArray := picIf (shiftOk ss dx dy) (render (wid ss) ss.length (shiftF (wid ss) ss.length (bits ss) dx dy))
/-- The pixels of a picture that is turned, by a kind from 0 to 3. -/
def turnF (W H : Nat) (f : Nat → Bool) (kind : Nat) (i : Nat) : Bool := match kind with
  | 0 => px W H f ((W : Int) - 1 - ((i % W : Nat) : Int)) ((i / W : Nat) : Int)
  | 1 => px W H f ((i % W : Nat) : Int) ((H : Int) - 1 - ((i / W : Nat) : Int))
  | 2 => px W H f ((i / H : Nat) : Int) ((i % H : Nat) : Int)
  | _ => px W H f ((i / H : Nat) : Int) ((H : Int) - 1 - ((i % H : Nat) : Int))
def turnW (W H kind : Nat) : Nat := if kind < 2 then W else H
def turnOk (ss : List ByteArray) (kind : Int) : Bool := okPic ss && inB kind 0 3
def turnL (ss : List ByteArray) (kind : Int) : List ByteArray := picIf (turnOk ss kind) (render (turnW (wid ss) ss.length kind.toNat) (turnW ss.length (wid ss) kind.toNat) (turnF (wid ss) ss.length (bits ss) kind.toNat))

/-- A loop that appends truth values: n are there, the variable of block rb is as it was. -/
def AppRel (w : World) (rb : Nat) (f : Nat → Bool) (n : Nat) (v : Value) (wr : World) : Prop :=
  ∃ p c, v = .slice p n c ∧ wr.ownsRow (w.heap.size + 1) 4 1 (.slice p n c) n (bitCells f n) ∧ Box wr rb (.slice none 0 0) 28 ∧ Since w wr

set_option maxHeartbeats 2000000 in
theorem l01Shift_any (a : Nat) (p : Option Addr) (c : Nat) (ss : List ByteArray) (dx dy : Int) (w : World) (P : PicAt w a p c ss) (hdx : -16 ≤ dx ∧ dx ≤ 16) (hdy : -16 ≤ dy ∧ dy ≤ 16) :
    Calls Try.prog 89 #[.pointer (some ⟨a, 0, none⟩), .int .i64 dx, .int .i64 dy] w fun e w' => ∃ v, e = .returned (.agg #[v]) ∧ OwnStrs w.heap.size w' v (render (wid ss) ss.length (shiftF (wid ss) ss.length (bits ss) dx dy)) ∧ Below w.heap.size w w' := by
  have d1 := okPic_dims P.ok
  have hm := mul_256 d1.2.2.2 d1.2.1
  obtain ⟨d11, d12, d13, d14⟩ := d1
  obtain ⟨x1, x2⟩ := hdx
  obtain ⟨y1, y2⟩ := hdy
  have k1 := fun w h => l01Width_any a p c ss w h
  have k2 := fun w h => l01Height_any a p c ss w h
  have k3 := fun x y w h => l01Black_any a p c ss x y w h
  obtain ⟨F, eF⟩ : ∃ F, shiftF (wid ss) ss.length (bits ss) dx dy = F := ⟨_, rfl⟩
  have hF : ∀ x y : Nat, x < wid ss → y < ss.length → F (y * wid ss + x) = px (wid ss) ss.length (bits ss) ((x : Int) - dx) ((y : Int) - dy) := fun x y hx hy => by
    rw [← eF, shiftF, (at_mod hx).1, (at_mod hx).2]
  have mkk := fun g k w' h => l01Make_any (some ⟨g, 0, none⟩) (wid ss) ss.length k F w' d13 d14 d12 h
  rw [eF]
  clear eF
  obtain ⟨L, eL⟩ : ∃ L, render (wid ss) ss.length F = L := ⟨_, rfl⟩
  rw [eL] at mkk ⊢
  have K1 := Lib.hid k1; clear k1
  have K2 := Lib.hid k2; clear k2
  have K3 := Lib.hid k3; clear k3
  have HF := Lib.hid hF; clear hF
  have Mkk := Lib.hid mkk; clear mkk
  have EL := Lib.hid eL; clear eL
  go_enter Try.func89, Try.ntmps89
  go_wp2
  go_loopw [7, 8] (fun v i wr => ∃ y : Nat, y ≤ ss.length ∧ i = .int .i64 y ∧ AppRel w w.heap.size F (y * wid ss) v wr) (fun _ i _ => ss.length - (intOf i).toNat)
  case atStart =>
    refine ⟨0, Nat.zero_le _, rfl, ?_⟩
    unfold AppRel
    refine ⟨_, _, by rw [Nat.zero_mul], ?_, (Box.new w (.slice none 0 0) 28).alloc _, ((Since.refl w).alloc _).alloc _⟩
    rw [Nat.zero_mul]
    have h0 := World.ownsRow_made (base := w.heap.size + 1) (size := 1) (e := 4) (w.alloc (.cells #[.slice none 0 0] 28)) #[] 0 (by simp) (by decide) rfl
    rw [World.size_alloc] at h0
    exact h0
  case round =>
    obtain ⟨y, hy, rfl, q, d, rfl, hown, B, S⟩ := hrel
    have P1 := P.bl S.below
    by_cases hyH : y < ss.length
    · go_wp2_with fail
      refine (K2.out _ P1).mono ?_
      rintro e w1 ⟨rfl, rfl⟩
      go_wp2
      go_loopw [7, 9] (fun v i wr => ∃ x : Nat, x ≤ wid ss ∧ i = .int .i64 x ∧ AppRel w w.heap.size F (y * wid ss + x) v wr) (fun _ i _ => wid ss - (intOf i).toNat)
      case atStart =>
        refine ⟨0, Nat.zero_le _, rfl, ?_⟩
        unfold AppRel
        exact ⟨_, _, rfl, hown, B, S⟩
      case round =>
        clear hown B S P1
        obtain ⟨x, hx, rfl, q, d, rfl, hown, B, S⟩ := hrel
        have P1 := P.bl S.below
        have hsS := S.size
        have hlb := B.lt
        by_cases hxs : x < wid ss
        · have hlt : y * wid ss + x < wid ss * ss.length := at_lt hxs hyH
          have hsu := bitCells_succ F (y * wid ss + x) _ (HF.out x y hxs hyH)
          have Hsu := Lib.hid hsu; clear hsu
          go_wp2_with fail
          refine (K1.out _ P1).mono ?_
          rintro e w1 ⟨rfl, rfl⟩
          go_wp2_with fail
          refine (K3.out _ _ _ P1).mono ?_
          rintro e w1 ⟨rfl, k, rfl⟩
          clear P1
          go_wp2_with (at_builtin; refine wpList_push rfl _ _ 68 rfl (w.heap.size + 1) 4 (.bool false) 1 1 Try.underlying68 info_bool' rfl (by decide) (.slice q (y * wid ss + x) d) (y * wid ss + x) _ rfl (own_drewN hown k) _ 1 rfl rfl (one_bool _) (by omega) (by simp [maxLen]; omega) (by simp; omega) ?_; intro g' cap w2 hown2 hgr hat hlt2)
          have B2 := (B.drew k).grown hgr (own_ne (own_drewN hown k) (by omega))
          have S2 : Since w w2 := ⟨below_own (below_drewN S.below k) hgr (fun k hk => by have := own_ge hown k hk; omega) hsS⟩
          go_roundw
          case rel =>
            refine ⟨x + 1, by omega, by go_num, ?_⟩
            unfold AppRel
            rw [← Nat.add_assoc, Hsu.out]
            exact ⟨_, _, rfl, hown2, B2, S2⟩
          case measure => simp [intOf]; omega
        · obtain rfl : x = wid ss := by omega
          have e1 : y * wid ss + wid ss = (y + 1) * wid ss := by rw [Nat.add_mul, Nat.one_mul]
          rw [e1] at hown
          go_wp2_with fail
          refine (K1.out _ P1).mono ?_
          rintro e w1 ⟨rfl, rfl⟩
          go_wp2
          go_roundw
          case rel =>
            refine ⟨y + 1, by omega, by go_num, ?_⟩
            unfold AppRel
            exact ⟨_, _, rfl, hown, B, S⟩
          case measure => simp [intOf]; omega
    · obtain rfl : y = ss.length := by omega
      rw [Nat.mul_comm] at hown
      obtain ⟨g, rfl, hg, L1⟩ := Bools.of_own hown (by have := Nat.mul_pos d13 d11; omega)
      have L2 := L1.rd
      have hlt := B.lt
      rw [show ss.length * wid ss = wid ss * ss.length from Nat.mul_comm _ _]
      go_wp2_with fail
      refine (K2.out _ P1).mono ?_
      rintro e w1 ⟨rfl, rfl⟩
      go_wp2_with fail
      refine (K1.out _ P1).mono ?_
      rintro e w1 ⟨rfl, rfl⟩
      go_wp2_with fail
      refine (Mkk.out g d _ L2).mono ?_
      rintro e w2 ⟨v, rfl, O, hb⟩
      replace B := B.bl hb
      replace S := S.bl hb
      clear hb L2 L1 hown
      have f0 := B.frozen
      have f1 := B.cell
      obtain ⟨p', c', rfl⟩ := O.form
      have e0 := (B.set (.slice p' L.length c')).cell
      have O2 := O.set (a := ⟨w.heap.size, 0, none⟩) hlt (.slice p' L.length c')
      have S3 := S.set (b := w.heap.size) (by omega) 0 (.slice p' L.length c')
      go_wp2
      refine bodyPost_ret (v := .agg #[.slice p' L.length c']) (by simp [results, Try.results89, go_sem, e0]) rfl ⟨_, rfl, O2.mono (by omega), S3.below⟩
set_option maxHeartbeats 4000000 in
theorem sShiftPicture_any (p : Option Addr) (c : Nat) (ss : List ByteArray) (dx dy : Int) (w : World) (hn : ss.length ≤ 1048576) (hs : ∀ s ∈ ss, s.size ≤ 1048576) (hr : Rd w p ss.length (strAt ss)) :
    Calls Try.prog 37 #[.agg #[.slice p ss.length c], .int .i64 dx, .int .i64 dy] w fun e w' => ∃ v, e = .returned (.tuple #[.agg #[v], .bool (shiftOk ss dx dy)]) ∧ OwnStrs w.heap.size w' v (shiftL ss dx dy) ∧ Below w.heap.size w w' := by
  have hy0 := bl_alloc w (.cells #[.slice p ss.length c] 28)
  have hy1 := bl_alloc (w.alloc (.cells #[.slice p ss.length c] 28)) (.cells #[.slice none 0 0] 28)
  have S := ((Since.refl w).bl hy0).bl hy1
  have P : PicVar ((w.alloc (.cells #[.slice p ss.length c] 28)).alloc (.cells #[.slice none 0 0] 28)) w.heap.size p c ss := ⟨by simp, (hr.alloc _).alloc _⟩
  have B := Box.new (w.alloc (.cells #[.slice p ss.length c] 28)) (.slice none 0 0) 28
  simp only [World.size_alloc] at B
  have c0 := fun w' (h : PicVar w' w.heap.size p c ss) => l01Is_any w.heap.size p c ss w' hn hs h.box h.rd
  have hx1 := B.cell
  have hx2 := B.frozen
  clear hy0 hy1
  cases hok : okPic ss
  · rw [hok] at c0
    have hv : shiftL ss dx dy = [] := by simp [shiftL, shiftOk, picIf, hok]
    have hv2 : shiftOk ss dx dy = false := by simp [shiftOk, hok]
    rw [hv, hv2]
    have C0 := Lib.hid c0; clear c0
    have Hok := Lib.hid hok; clear hok
    clear hv hv2
    go_enter Try.func37, Try.ntmps37
    go_wp2_with fail
    refine (C0.out _ P).mono ?_
    rintro e w1 ⟨rfl, n, rfl⟩
    replace B := B.bl (bl_drewN _ n)
    replace S := S.bl (bl_drewN _ n)
    have e0 := B.cell
    go_wp2
    refine bodyPost_ret (v := .tuple #[.agg #[.slice none 0 0], .bool false]) (by simp [results, Try.results37, go_sem, e0]) rfl ⟨_, rfl, OwnStrs.nil _ _, (S.set (by omega) _ _).below⟩
  · rw [hok] at c0
    have P1 := P.at hok
    cases hi : inB dx (-16) 16 && inB dy (-16) 16
    · have hv : shiftL ss dx dy = [] := by simp [shiftL, shiftOk, picIf, hok, hi]
      have hv2 : shiftOk ss dx dy = false := by simp [shiftOk, hok, hi]
      rw [hv, hv2]
      clear hv hv2
      cases h1 : inB dx (-16) 16
      all_goals
        have h2 : inB dx (-16) 16 = true → inB dy (-16) 16 = false := fun e => by rw [e] at hi; exact hi
        rw [h1] at h2
        (try have h3 := h2 rfl)
        have hi' := Lib.hid hi
        have C0 := Lib.hid c0
        have Hok := Lib.hid hok
        clear h2 hi c0 hok
        go_enter Try.func37, Try.ntmps37
        go_wp2_with fail
        refine (C0.out _ P).mono ?_
        rintro e w1 ⟨rfl, n, rfl⟩
        replace B := B.bl (bl_drewN _ n)
        replace S := S.bl (bl_drewN _ n)
        have e0 := B.cell
        go_wp2_with (go_at_call 82; refine (l00In_any _ _ _ _).mono ?_; rintro e w' ⟨rfl, rfl⟩)
        refine bodyPost_ret (v := .tuple #[.agg #[.slice none 0 0], .bool false]) (by simp [results, Try.results37, go_sem, e0]) rfl ⟨_, rfl, OwnStrs.nil _ _, (S.set (by omega) _ _).below⟩
    · have hh : inB dx (-16) 16 = true ∧ inB dy (-16) 16 = true := by simpa using hi
      obtain ⟨h1, h2⟩ := hh
      have hv : shiftL ss dx dy = render (wid ss) ss.length (shiftF (wid ss) ss.length (bits ss) dx dy) := by simp [shiftL, shiftOk, picIf, hok, hi]
      have hv2 : shiftOk ss dx dy = true := by simp [shiftOk, hok, hi]
      rw [hv, hv2]
      obtain ⟨L, eL⟩ : ∃ L, render (wid ss) ss.length (shiftF (wid ss) ss.length (bits ss) dx dy) = L := ⟨_, rfl⟩
      have c1 := fun w' h => l01Shift_any w.heap.size p c ss dx dy w' h (inB_true h1) (inB_true h2)
      rw [eL] at c1 ⊢
      have C0 := Lib.hid c0; clear c0
      have C1 := Lib.hid c1; clear c1
      have Hok := Lib.hid hok; clear hok
      have Hi := Lib.hid hi; clear hi
      clear hv eL hv2
      go_enter Try.func37, Try.ntmps37
      go_wp2_with fail
      refine (C0.out _ P).mono ?_
      rintro e w1 ⟨rfl, n, rfl⟩
      replace B := B.bl (bl_drewN _ n)
      replace S := S.bl (bl_drewN _ n)
      replace P1 := P1.bl (bl_drewN _ n)
      go_wp2_with (go_at_call 82; refine (l00In_any _ _ _ _).mono ?_; rintro e w' ⟨rfl, rfl⟩)
      refine (C1.out _ P1).mono ?_
      rintro e w2 ⟨v, rfl, O, hb⟩
      have hlt := B.lt
      replace B := B.bl hb
      replace S := S.bl hb
      clear hb
      have f0 := B.frozen
      have f1 := B.cell
      obtain ⟨p', c', rfl⟩ := O.form
      have e0 := (B.set (.slice p' L.length c')).cell
      have O2 := O.set (a := ⟨w.heap.size + 1, 0, none⟩) hlt (.slice p' L.length c')
      have S3 := S.set (b := w.heap.size + 1) (by omega) 0 (.slice p' L.length c')
      go_wp2
      refine bodyPost_ret (v := .tuple #[.agg #[.slice p' L.length c'], .bool true]) (by simp [results, Try.results37, go_sem, e0]) rfl ⟨_, rfl, O2.mono (by omega), S3.below⟩
end Go.Proofs.Yteoodnhcghjjeaa
