/- Contracts of both readings of a picture's text. -/
import Derived.Test.YtdjjfgkcheimjaaDoorCut
import Derived.Test.YtdjjfgkcheimjaaDoorImgOf
import Derived.Test.YtdjjfgkcheimjaaDoorSpecPic
import Derived.Test.YtdjjfgkcheimjaaDoorShelfD
import Derived.Test.YtdjjfgkcheimjaaDoorLawKit
set_option linter.unusedVariables false
set_option linter.unusedSimpArgs false
namespace Go.Proofs.YtdjjfgkcheimjaaDoor
open Go.RowKit

def rpB (s : ByteArray) : Bool := okPic (cutS s 47)
def rpL (s : ByteArray) : List ByteArray := if okPic (cutS s 47) = true then cutS s 47 else []
theorem rp_no {s : ByteArray} (h : okPic (cutS s 47) = false) : rpL s = [] ∧ rpB s = false := ⟨by simp [rpL, h], h⟩
theorem rp_yes {s : ByteArray} (h : okPic (cutS s 47) = true) : rpL s = cutS s 47 ∧ rpB s = true := ⟨by simp [rpL, h], h⟩
theorem rpL_len {s : ByteArray} (hs : s.size ≤ 1048576) : (rpL s).length ≤ 1048576 := by
  unfold rpL
  split
  · rename_i h
    have := (okPic_dims h).2.1
    omega
  · simp
theorem own_rd {B : Nat} {w : World} {p : Option Addr} {d : Nat} {L : List ByteArray} (h : w.ownsRow B 9 1 (.slice p L.length d) L.length (L.map Value.string)) : Rd w p L.length (strAt L) := by
  rcases h.2 with ⟨_, h0⟩ | ⟨g, cap, cur, hv, hb, hg, _⟩
  · exact .inl h0
  · simp only [Value.slice.injEq] at hv
    obtain ⟨rfl, _, rfl⟩ := hv
    refine .inr ⟨g, 0, rfl, ?_⟩
    intro i hi
    have h1 := h.cells rfl i (strAt L i) (by simp [strAt, List.getD, List.getElem?_eq_getElem hi])
    rwa [Go.WideShapes.add_plain] at h1
set_option maxRecDepth 100000 in
set_option maxHeartbeats 4000000 in
theorem l01Read_any (s : ByteArray) (w : World) (hs : s.size ≤ 1048576) :
    Calls Tryd.prog 29 #[.string s] w fun e w' => ∃ v, e = .returned (.tuple #[.agg #[v], .bool (rpB s)]) ∧ OwnStrs w.heap.size w' v (rpL s) ∧ Below w.heap.size w w' := by
  have B := Box.new w (.slice none 0 0) 32
  have S := (Since.refl w).alloc (.cells #[.slice none 0 0] 32)
  have c0 := fun w' => l01Cut_any s 47 w' hs
  have hlen := cutS_len s 47
  have hsz : ∀ x ∈ cutS s 47, x.size ≤ 1048576 := fun x hx => Nat.le_trans (cutS_size x hx) hs
  have hr0 := @rp_no s
  have hr1 := @rp_yes s
  generalize cutS s 47 = L at *
  have c1 := fun a p c w h1 h2 => l01Is_big a p c L w (by omega) hsz h1 h2
  have C0 := Lib.hid c0; clear c0
  have C1 := Lib.hid c1; clear c1
  have Hr0 := Lib.hid hr0; clear hr0
  have Hr1 := Lib.hid hr1; clear hr1
  have Hsz := Lib.hid hsz; clear hsz
  go_enter Tryd.func29, Tryd.ntmps29
  go_wp2_with fail
  refine (C0.out _).mono ?_
  rintro e w1 ⟨v, rfl, ⟨p, d, rfl, ho⟩, hb⟩
  replace B := B.bl hb
  replace S := S.bl hb
  have hrd := own_rd ho
  have B2 := Box.new w1 (.slice p L.length d) 32
  have o2 := ho.alloc (.cells #[.slice p L.length d] 32)
  have hsz1 := S.size
  have hsz2 : w.heap.size + 1 ≤ w1.heap.size := by have := hb.size; simpa using this
  have S2 := S.alloc (.cells #[.slice p L.length d] 32)
  have B1 := B.alloc (.cells #[.slice p L.length d] 32)
  have k1 := C1.out w1.heap.size p d (w1.alloc (.cells #[.slice p L.length d] 32)) B2.cell (hrd.alloc _)
  clear hrd ho hb B
  cases hok : okPic L
  · rw [hok] at k1
    obtain ⟨v1, v2⟩ := Hr0.out hok
    have K1 := Lib.hid k1; clear k1
    have V1 := Lib.hid v1; clear v1
    have V2 := Lib.hid v2; clear v2
    have Hok := Lib.hid hok; clear hok
    go_wp2_with fail
    refine K1.out.mono ?_
    rintro e w3 ⟨rfl, n, rfl⟩
    replace B1 := B1.bl (bl_drewN _ n)
    replace S2 := S2.bl (bl_drewN _ n)
    have e0 := B1.cell
    have f0 := B1.frozen
    go_wp2
    rw [V1.out, V2.out]
    refine bodyPost_ret (v := .tuple #[.agg #[.slice none 0 0], .bool false]) (by simp [results, Tryd.results29, go_sem, e0]) rfl ⟨_, rfl, OwnStrs.nil _ _, S2.below.setCell (by simp) _⟩
  · rw [hok] at k1
    obtain ⟨v1, v2⟩ := Hr1.out hok
    have K1 := Lib.hid k1; clear k1
    have V1 := Lib.hid v1; clear v1
    have V2 := Lib.hid v2; clear v2
    have Hok := Lib.hid hok; clear hok
    go_wp2_with fail
    refine K1.out.mono ?_
    rintro e w3 ⟨rfl, n, rfl⟩
    have o3 := own_drewN o2 n
    replace B1 := B1.bl (bl_drewN _ n)
    replace S2 := S2.bl (bl_drewN _ n)
    replace B2 := B2.bl (bl_drewN _ n)
    have e0 := B1.cell
    have f0 := B1.frozen
    have e2 := B2.cell
    go_wp2
    rw [V1.out, V2.out]
    refine bodyPost_ret (v := .tuple #[.agg #[.slice p L.length d], .bool true]) (by simp [results, Tryd.results29, go_sem, e0]) rfl ⟨_, rfl, ⟨p, d, rfl, ?_⟩, S2.below.setCell (by simp) _⟩
    exact own_mono (own_set o3 (by simp) _) (by simp)
set_option maxRecDepth 100000 in
set_option maxHeartbeats 4000000 in
theorem specReadPicture_any (s : ByteArray) (w : World) (hs : s.size ≤ 1048576) :
    Calls Tryd.prog 15 #[.string s] w fun e w' => ∃ v, e = .returned (.tuple #[.agg #[v], .bool (rpB s)]) ∧ OwnStrs w.heap.size w' v (rpL s) ∧ Below w.heap.size w w' := by
  have B := Box.new w (.slice none 0 0) 32
  have S := (Since.refl w).alloc (.cells #[.slice none 0 0] 32)
  have c0 := fun w' => l01Read_any s w' hs
  generalize rpL s = L at *
  generalize rpB s = b at *
  have C0 := Lib.hid c0; clear c0
  go_enter Tryd.func15, Tryd.ntmps15
  go_wp2_with fail
  refine (C0.out _).mono ?_
  rintro e w1 ⟨v, rfl, ⟨p, d, rfl, ho⟩, hb⟩
  replace B := B.bl hb
  replace S := S.bl hb
  have e0 := B.cell
  have f0 := B.frozen
  go_wp2
  refine bodyPost_ret (v := .tuple #[.agg #[.slice p L.length d], .bool b]) (by simp [results, Tryd.results15, go_sem, e0]) rfl ⟨_, rfl, ⟨p, d, rfl, ?_⟩, S.below.setCell (by simp) _⟩
  exact own_mono (own_set ho (by simp) _) (by simp)
/-- The greatest length that the library's search takes for its fast road: some number. -/
def MaxT (w : World) : Prop := ∃ m, w.cell? ⟨3, 0, none⟩ = some (.int .i64 m)
theorem max_tab {w : World} (h : w.ShapedOpen Tryd.prog) : MaxT w := Go.Proofs.cell_of_shapedOpen_int (zero := #[.int .i64 0]) (t := 3) h (of_decide_eq_true (by kernel_rfl)) (by kernel_rfl) rfl (by kernel_rfl) (by kernel_rfl) Tryd.underlying3
theorem MaxT.bl {w w' : World} (h : MaxT w) (hb : Below w.heap.size w w') : MaxT w' := by
  obtain ⟨m, h⟩ := h
  exact ⟨m, (hb.cell (p := ⟨3, 0, none⟩) (World.block_lt_of_cell? _ _ h)).trans h⟩
theorem split_any (s : ByteArray) (c : UInt8) (w : World) (hs : s.size ≤ 1048576) (hM : MaxT w) :
    Calls Tryd.prog 26 #[.string s, .string ⟨#[c]⟩] w fun e w' => ∃ v, e = .returned v ∧ OwnStrs w.heap.size w' v (cutS s c) ∧ Below w.heap.size w w' := by
  obtain ⟨m, hm⟩ := hM
  refine (Tryd.strings_Split s ⟨#[c]⟩ m w (by omega) hm (Nat.le_refl 1)).mono ?_
  rintro e w' ⟨rfl, rfl⟩
  have h1 := Lib.splitB_all ⟨#[c]⟩ (Nat.le_refl 1) 0 _ s rfl
  rw [split_cut] at h1
  rw [split_cut, ← h1]
  have hl := cutS_len s c
  exact ⟨_, rfl, ⟨_, _, rfl, by simp, .inr ⟨w.heap.size, _, _, rfl, Nat.le_refl _, heap_alloc_new w _, Nat.le_refl _, by simp [maxLen]; omega, by simp, by simp [List.take_of_length_le]⟩⟩, bl_alloc _ _⟩
set_option maxRecDepth 100000 in
set_option maxHeartbeats 4000000 in
theorem implReadPicture_any (s : ByteArray) (w : World) (hs : s.size ≤ 1048576) (hM : MaxT w) :
    Calls Tryd.prog 16 #[.string s] w fun e w' => ∃ v, e = .returned (.tuple #[.agg #[v], .bool (rpB s)]) ∧ OwnStrs w.heap.size w' v (rpL s) ∧ Below w.heap.size w w' := by
  have B := Box.new w (.slice none 0 0) 32
  have S := (Since.refl w).alloc (.cells #[.slice none 0 0] 32)
  have c0 := split_any s 47 _ hs (hM.bl (bl_alloc w (.cells #[.slice none 0 0] 32)))
  have hlen := cutS_len s 47
  have hsz : ∀ x ∈ cutS s 47, x.size ≤ 1048576 := fun x hx => Nat.le_trans (cutS_size x hx) hs
  have hr0 := @rp_no s
  have hr1 := @rp_yes s
  generalize cutS s 47 = L at *
  have c1 := fun p c w h => validPicture_big p c L w (by omega) hsz h
  clear hM
  have C0 := Lib.hid c0; clear c0
  have C1 := Lib.hid c1; clear c1
  have Hr0 := Lib.hid hr0; clear hr0
  have Hr1 := Lib.hid hr1; clear hr1
  have Hsz := Lib.hid hsz; clear hsz
  go_enter Tryd.func16, Tryd.ntmps16
  go_wp2_with fail
  refine C0.out.mono ?_
  rintro e w1 ⟨v, rfl, ⟨p, d, rfl, ho⟩, hb⟩
  replace B := B.bl hb
  replace S := S.bl hb
  have hrd := own_rd ho
  have B2 := Box.new w1 (.slice p L.length d) 32
  have o2 := ho.alloc (.cells #[.slice p L.length d] 32)
  have hsz1 := S.size
  have hsz2 : w.heap.size + 1 ≤ w1.heap.size := by have := hb.size; simpa using this
  have S2 := S.alloc (.cells #[.slice p L.length d] 32)
  have B1 := B.alloc (.cells #[.slice p L.length d] 32)
  have k1 := C1.out p d (w1.alloc (.cells #[.slice p L.length d] 32)) (hrd.alloc _)
  have g2 := B2.cell
  clear hrd ho hb B
  cases hok : okPic L
  · rw [hok] at k1
    obtain ⟨v1, v2⟩ := Hr0.out hok
    have K1 := Lib.hid k1; clear k1
    have V1 := Lib.hid v1; clear v1
    have V2 := Lib.hid v2; clear v2
    have Hok := Lib.hid hok; clear hok
    go_wp2_with fail
    refine K1.out.mono ?_
    rintro e w3 ⟨rfl, hb3⟩
    replace B1 := B1.bl hb3
    replace S2 := S2.bl hb3
    have e0 := B1.cell
    have f0 := B1.frozen
    go_wp2
    rw [V1.out, V2.out]
    refine bodyPost_ret (v := .tuple #[.agg #[.slice none 0 0], .bool false]) (by simp [results, Tryd.results16, go_sem, e0]) rfl ⟨_, rfl, OwnStrs.nil _ _, S2.below.setCell (by simp) _⟩
  · rw [hok] at k1
    obtain ⟨v1, v2⟩ := Hr1.out hok
    have K1 := Lib.hid k1; clear k1
    have V1 := Lib.hid v1; clear v1
    have V2 := Lib.hid v2; clear v2
    have Hok := Lib.hid hok; clear hok
    go_wp2_with fail
    refine K1.out.mono ?_
    rintro e w3 ⟨rfl, hb3⟩
    have o3 := own_below o2 hb3 (Nat.le_refl _)
    clear g2
    replace B1 := B1.bl hb3
    replace S2 := S2.bl hb3
    replace B2 := B2.bl hb3
    have e0 := B1.cell
    have f0 := B1.frozen
    have e2 := B2.cell
    go_wp2
    rw [V1.out, V2.out]
    refine bodyPost_ret (v := .tuple #[.agg #[.slice p L.length d], .bool true]) (by simp [results, Tryd.results16, go_sem, e0]) rfl ⟨_, rfl, ⟨p, d, rfl, ?_⟩, S2.below.setCell (by simp) _⟩
    exact own_mono (own_set o3 (by simp) _) (by simp)
end Go.Proofs.YtdjjfgkcheimjaaDoor
