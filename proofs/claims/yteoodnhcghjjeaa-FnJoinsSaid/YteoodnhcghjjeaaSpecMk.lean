/- Contracts of the reference's functions that make pictures of pictures. -/
import Derived.Test.YteoodnhcghjjeaaSpecIn
import Derived.Test.YteoodnhcghjjeaaFrom0
set_option linter.unusedVariables false
namespace Go.Proofs.Yteoodnhcghjjeaa
open Go.RowKit

theorem Since.set {w a : World} (h : Since w a) {b : Nat} (hb : w.heap.size ≤ b) (i : Nat) (v : Value) : Since w (a.setCell ⟨b, i, none⟩ v) := ⟨h.below.setCell hb _⟩
theorem Bools.other {w : World} {g n : Nat} {f : Nat → Bool} (h : Bools w g n f) {a : Addr} (ha : g ≠ a.block) (v : Value) : Bools (w.setCell a v) g n f := by
  obtain ⟨m, F, h1, hr, h2⟩ := h.row
  exact ⟨m, F, h1, hr.of_block (Below.heap_setCell _ _ _ _ ha), h2⟩
theorem OwnStrs.set {B : Nat} {w : World} {v : Value} {ss : List ByteArray} (h : OwnStrs B w v ss) {a : Addr} (ha : a.block < B) (u : Value) : OwnStrs B (w.setCell a u) v ss := by
  obtain ⟨p, c, hv, ho⟩ := h
  exact ⟨p, c, hv, own_set ho ha u⟩
theorem Bools.at {w : World} {g n : Nat} {f : Nat → Bool} (h : Bools w g n f) {i : Nat} (hi : i < n) {b : Bool} (hb : f i = b) : w.cell? ⟨g, i, none⟩ = some (.bool b) := hb ▸ h.cell hi

theorem PicVar.since {w : World} {a : Nat} {p : Option Addr} {c : Nat} {ss : List ByteArray} (h : PicVar w a p c ss) : Since w w := Since.refl w
/-- The pixels of a picture where one is set. -/
def setF (ss : List ByteArray) (x y : Int) (b : Bool) (i : Nat) : Bool := if i = y.toNat * wid ss + x.toNat then b else bits ss i
def setL (ss : List ByteArray) (x y : Int) (b : Bool) : List ByteArray := picIf (okPic ss && hasB (wid ss) ss.length x y) (render (wid ss) ss.length (setF ss x y b))
set_option maxHeartbeats 2000000 in
theorem sSetPixel_any (p : Option Addr) (c : Nat) (ss : List ByteArray) (x y : Int) (b : Bool) (w : World) (hn : ss.length ≤ 1048576) (hs : ∀ s ∈ ss, s.size ≤ 1048576) (hr : Rd w p ss.length (strAt ss)) :
    Calls Try.prog 30 #[.agg #[.slice p ss.length c], .int .i64 x, .int .i64 y, .bool b] w fun e w' =>
      ∃ v, e = .returned (.tuple #[.agg #[v], .bool (okPic ss && hasB (wid ss) ss.length x y)]) ∧ OwnStrs w.heap.size w' v (setL ss x y b) ∧ Below w.heap.size w w' := by
  have hy0 := bl_alloc w (.cells #[.slice p ss.length c] 28)
  have hy1 := bl_alloc (w.alloc (.cells #[.slice p ss.length c] 28)) (.cells #[.slice none 0 0] 28)
  have S := ((Since.refl w).bl hy0).bl hy1
  have P : PicVar ((w.alloc (.cells #[.slice p ss.length c] 28)).alloc (.cells #[.slice none 0 0] 28)) w.heap.size p c ss := ⟨by simp, (hr.alloc _).alloc _⟩
  have B := Box.new (w.alloc (.cells #[.slice p ss.length c] 28)) (.slice none 0 0) 28
  simp only [World.size_alloc] at B
  have c0 := fun w' (h : PicVar w' w.heap.size p c ss) => l01Is_any w.heap.size p c ss w' hn hs h.box h.rd
  have c1 := fun w' h => l01Has_any w.heap.size p c ss x y w' h
  have hx1 := B.cell
  have hx2 := B.frozen
  cases hok : okPic ss
  · rw [hok] at c0
    have hv : setL ss x y b = [] := by simp [setL, picIf, hok]
    rw [hv]
    have C0 := Lib.hid c0; clear c0
    have C1 := Lib.hid c1; clear c1
    have Hok := Lib.hid hok; clear hok
    clear hv
    go_enter Try.func30, Try.ntmps30
    go_wp2_with fail
    refine (C0.out _ P).mono ?_
    rintro e w1 ⟨rfl, n, rfl⟩
    replace B := B.bl (bl_drewN _ n)
    replace S := S.bl (bl_drewN _ n)
    have e0 := B.cell
    go_wp2
    refine bodyPost_ret (v := .tuple #[.agg #[.slice none 0 0], .bool false]) (by simp [results, Try.results30, go_sem, e0]) rfl ⟨_, rfl, OwnStrs.nil _ _, (S.set (by omega) _ _).below⟩
  · rw [hok] at c0
    have P1 := P.at hok
    cases hh : hasB (wid ss) ss.length x y
    · have hv : setL ss x y b = [] := by simp [setL, picIf, hok, hh]
      rw [hv]
      have c2 := fun w h => (c1 w h).mono fun e w' q => (⟨q.1.trans (by rw [hh]), q.2⟩ : e = .returned (.bool false) ∧ w = w')
      have C0 := Lib.hid c0; clear c0
      have C2 := Lib.hid c2; clear c2
      have Hok := Lib.hid hok; clear hok
      have Hh := Lib.hid hh; clear hh
      clear hv c1
      go_enter Try.func30, Try.ntmps30
      go_wp2_with fail
      refine (C0.out _ P).mono ?_
      rintro e w1 ⟨rfl, n, rfl⟩
      replace B := B.bl (bl_drewN _ n)
      replace S := S.bl (bl_drewN _ n)
      replace P1 := P1.bl (bl_drewN _ n)
      have e0 := B.cell
      go_wp2_with fail
      refine (C2.out _ P1).mono ?_
      rintro e w1 ⟨rfl, rfl⟩
      go_wp2
      refine bodyPost_ret (v := .tuple #[.agg #[.slice none 0 0], .bool false]) (by simp [results, Try.results30, go_sem, e0]) rfl ⟨_, rfl, OwnStrs.nil _ _, (S.set (by omega) _ _).below⟩
    · have hv : setL ss x y b = render (wid ss) ss.length (setF ss x y b) := by simp [setL, picIf, hok, hh]
      rw [hv]
      have c2 := fun w h => (c1 w h).mono fun e w' q => (⟨q.1.trans (by rw [hh]), q.2⟩ : e = .returned (.bool true) ∧ w = w')
      obtain ⟨xn, yn, rfl, rfl, hxW, hyH⟩ := hasB_nat hh
      have d1 := okPic_dims hok
      have hm := mul_256 d1.2.2.2 d1.2.1
      have hlt := at_lt hxW hyH
      obtain ⟨hq0, hq1, hq2, hq3⟩ := at_int hxW hyH d1.2.2.2 d1.2.1
      obtain ⟨d11, d12, d13, d14⟩ := d1
      have C0 := Lib.hid c0; clear c0
      have C2 := Lib.hid c2; clear c2
      have Hok := Lib.hid hok; clear hok
      have Hh := Lib.hid hh; clear hh
      clear hv c1
      go_enter Try.func30, Try.ntmps30
      go_wp2_with fail
      refine (C0.out _ P).mono ?_
      rintro e w1 ⟨rfl, n, rfl⟩
      have T := P.since
      have P0 := P1
      replace B := B.bl (bl_drewN _ n)
      replace S := S.bl (bl_drewN _ n)
      replace P1 := P1.bl (bl_drewN _ n)
      replace T := T.bl (bl_drewN _ n)
      have e0 := B.cell
      go_wp2_with fail
      refine (C2.out _ P1).mono ?_
      rintro e w1 ⟨rfl, rfl⟩
      go_wp2_with fail
      refine (l01List_any _ p c ss _ P1).mono ?_
      rintro e w1 ⟨g, k, rfl, L, hg, hb⟩
      replace P1 := P1.bl hb
      replace S := S.bl hb
      replace B := B.bl hb
      replace T := T.bl hb
      clear hb e0 hx1 hx2
      have hgs := L.lt
      have l1 := L.cell hlt
      have l2 := L.frozen (yn * wid ss + xn)
      have hg' : w.heap.size + 1 + 1 ≤ g := by simpa using hg
      have T1 := T.set (b := g) (by simpa using hg) (yn * wid ss + xn) (.bool b)
      have P2 := P0.bl T1.below
      have B2 := B.other (a := ⟨g, yn * wid ss + xn, none⟩) (by simp; omega) (.bool b)
      have S2 := S.set (b := g) (by omega) (yn * wid ss + xn) (.bool b)
      have L2 := L.set (yn * wid ss + xn) b
      clear T L S B T1
      go_wp2_with fail
      refine (l01Width_any _ p c ss _ P1).mono ?_
      rintro e w2 ⟨rfl, rfl⟩
      go_wp2_with fail
      refine (l01Width_any _ p c ss _ P2).mono ?_
      rintro e w2 ⟨rfl, rfl⟩
      go_wp2_with fail
      refine (l01Make_any _ (wid ss) ss.length k (setF ss xn yn b) _ d13 d14 d12 (L2.congr (fun i _ => by simp only [setF, Int.toNat_natCast])).rd).mono ?_
      rintro e w2 ⟨v, rfl, O, hb⟩
      replace B2 := B2.bl hb
      replace S2 := S2.bl hb
      clear hb
      have f0 := B2.frozen
      have f1 := B2.cell
      have hs2 := S2.size
      have hx := (B2.set (.slice none 0 0)).lt
      obtain ⟨p', c', rfl⟩ := O.form
      have e0 := (B2.set (.slice p' (render (wid ss) ss.length (setF ss xn yn b)).length c')).cell
      have O2 := O.set (a := ⟨w.heap.size + 1, 0, none⟩) (by simp; omega) (.slice p' (render (wid ss) ss.length (setF ss xn yn b)).length c')
      have S3 := S2.set (b := w.heap.size + 1) (by omega) 0 (.slice p' (render (wid ss) ss.length (setF ss xn yn b)).length c')
      go_wp2
      refine bodyPost_ret (v := .tuple #[.agg #[.slice p' (render (wid ss) ss.length (setF ss xn yn b)).length c'], .bool true]) (by simp [results, Try.results30, go_sem, e0]) rfl ⟨_, rfl, O2.mono (by simp; omega), S3.below⟩
end Go.Proofs.Yteoodnhcghjjeaa
