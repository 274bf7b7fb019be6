/- Contracts of the reference's and the program's RegionsOf. -/
import Derived.Test.YtakoklldmdbphaaGrid
import Derived.Test.YtakoklldmdbphaaFrom0
import Derived.Test.YtakoklldmdbphaaAllSpots
set_option linter.unusedVariables false
namespace Go.Proofs.Ytakoklldmdbphaa
open Go.RowKit

/-- The index of the nearest spot of each pixel. -/
def regD (W : Nat) (k : Int) (l : List (Int × Int)) (i : Nat) : Int := (leastN (farG k ((i % W : Nat) : Int) ((i / W : Nat) : Int)) l l.length : Nat)
theorem regD_at {W : Nat} {k : Int} {l : List (Int × Int)} {x y : Nat} (hx : x < W) : regD W k l (y * W + x) = (leastN (farG k x y) l l.length : Nat) := by rw [regD, (at_mod hx).1, (at_mod hx).2]
def regOk (W H k : Int) (l : List (Int × Int)) : Bool := sizeOkB W H && (inB k 0 2 && (inB l.length 1 64 && l.all (insB W H)))
def regL (W H k : Int) (l : List (Int × Int)) : List (List Int) := if regOk W H k l then gridL W.toNat H.toNat (regD W.toNat k l) else []
theorem OwnSS.nil (B : Nat) (w : World) : OwnSS B w (.slice none 0 0) [] := ⟨_, OwnIntss.nil B w⟩

theorem callFunc_regions1 : ∀ args w, (callFunc 90 args).run Try.prog w = .ok (.enter 90 args) w := fun args w => by kernel_rfl
theorem callFunc_regions2 : ∀ args w, (callFunc 93 args).run Try.prog w = .ok (.enter 93 args) w := fun args w => by kernel_rfl
set_option maxHeartbeats 4000000 in
theorem regions1_any (m g W H : Nat) (f : Nat → Bool) (x y : Int) (mb : Nat) (t : TypeId) (w : World) (I : Img w m g W H f) (M : Box w mb (.pointer (some ⟨m, 0, none⟩)) t) :
    Calls Try.prog 90 #[.agg #[.int .i64 x, .int .i64 y], .pointer (some ⟨mb, 0, none⟩)] w fun e w' => e = .returned (.bool (hasB W H x y)) ∧ Below w.heap.size w w' := by
  have hy := bl_alloc w (.cells #[.int .i64 x, .int .i64 y] 27)
  have m0 := (M.bl hy).cell
  have c0 := has_any m g W H f x y _ (I.bl hy)
  have hlt := M.lt
  have C0 := Lib.hid c0; clear c0
  clear I M
  go_enter Try.func90, Try.ntmps90
  go_wp2_with (go_at_call 91; refine C0.out.mono ?_; rintro e w1 ⟨rfl, rfl⟩)
  go_ret
  exact ⟨rfl, hy⟩
set_option maxHeartbeats 4000000 in
theorem regions2_any (k : Int) (q : Option Addr) (c : Nat) (l : List (Int × Int)) (x y kb lb : Nat) (t1 t2 : TypeId) (w : World) (hx : x < 16) (hy : y < 16) (h0 : 0 < l.length) (h1 : l.length ≤ 256) (hl : ∀ s ∈ l, (-1000 ≤ s.1 ∧ s.1 ≤ 1000) ∧ (-1000 ≤ s.2 ∧ s.2 ≤ 1000))
    (K : Box w kb (.int .i64 k) t1) (L : Box w lb (.slice q l.length c) t2) (R : Rd w q (l.length * 2) (spotAt l)) :
    Calls Try.prog 93 #[.int .i64 x, .int .i64 y, .pointer (some ⟨kb, 0, none⟩), .pointer (some ⟨lb, 0, none⟩)] w fun e w' => e = .returned (.int .i64 (leastN (farG k x y) l l.length : Nat)) ∧ Below w.heap.size w w' := by
  have k0 := K.cell
  have l0 := L.cell
  have c0 := least_any k x y q c l w (by omega) (by omega) hl h0 h1 R
  generalize leastN (farG k x y) l l.length = N at *
  generalize farG k x y (bestS (farG k x y) l) = D at *
  have C0 := Lib.hid c0; clear c0
  have Hl := Lib.hid hl; clear hl
  clear K L R
  go_enter Try.func93, Try.ntmps93
  go_wp2_with fail
  refine C0.out.mono ?_
  rintro e w1 ⟨rfl, hb⟩
  go_wp2
  go_ret
  exact ⟨rfl, hb⟩
set_option maxRecDepth 100000 in
set_option maxHeartbeats 4000000 in
theorem regionsOf_any (W H k : Int) (p : Option Addr) (c : Nat) (l : List (Int × Int)) (w : World) (hn : l.length ≤ 1048576) (hr : Rd w p (l.length * 2) (spotAt l)) :
    Calls Try.prog 36 #[.int .i64 W, .int .i64 H, .int .i64 k, .slice p l.length c] w fun e w' => ∃ v, e = .returned (.tuple #[v, .bool (regOk W H k l)]) ∧ OwnSS w.heap.size w' v (regL W H k l) ∧ Below w.heap.size w w' := by
  have S := ((Since.refl w).alloc (.cells #[.int .i64 k] 2)).alloc (.cells #[.slice p l.length c] 51)
  have R := (hr.alloc (.cells #[.int .i64 k] 2)).alloc (.cells #[.slice p l.length c] 51)
  have K := (Box.new w (.int .i64 k) 2).alloc (.cells #[.slice p l.length c] 51)
  have L := Box.new (w.alloc (.cells #[.int .i64 k] 2)) (.slice p l.length c) 51
  simp only [World.size_alloc] at L
  have k0 := K.cell
  have l0 := L.cell
  have cs := fun (w : World) => sizeOk_any W H w
  have ck := fun (w : World) => kindOk_any k w
  have ci := fun (w : World) => in_any (l.length : Int) 1 64 w
  have hno : regOk W H k l = false → regL W H k l = [] := fun h => by simp [regL, h]
  cases h1 : sizeOkB W H
  · have hv : regOk W H k l = false := by simp [regOk, h1]
    rw [h1] at cs
    have hv2 := hno hv
    rw [hv, hv2]
    have Cs := Lib.hid cs; clear cs
    have H1 := Lib.hid h1; clear h1
    have Hv := Lib.hid hv; clear hv
    have Hv2 := Lib.hid hv2; clear hv2
    clear hno ck ci
    go_enter Try.func36, Try.ntmps36
    go_wp2_with (go_at_call 85; refine (Cs.out _).mono ?_; rintro e w1 ⟨rfl, rfl⟩)
    go_ret2
    exact ⟨_, rfl, OwnSS.nil _ _, S.below⟩
  · cases h2 : inB k 0 2
    · have hv : regOk W H k l = false := by simp [regOk, h2]
      rw [h1] at cs
      rw [h2] at ck
      have hv2 := hno hv
      rw [hv, hv2]
      have Cs := Lib.hid cs; clear cs
      have Ck := Lib.hid ck; clear ck
      have H1 := Lib.hid h1; clear h1
      have H2 := Lib.hid h2; clear h2
      have Hv := Lib.hid hv; clear hv
      have Hv2 := Lib.hid hv2; clear hv2
      clear hno ci
      go_enter Try.func36, Try.ntmps36
      go_wp2_with (first | (go_at_call 85; refine (Cs.out _).mono ?_; rintro e w1 ⟨rfl, rfl⟩) | (go_at_call 86; refine (Ck.out _).mono ?_; rintro e w1 ⟨rfl, rfl⟩))
      go_ret2
      exact ⟨_, rfl, OwnSS.nil _ _, S.below⟩
    · cases h3 : inB (l.length : Int) 1 64
      · have hv : regOk W H k l = false := by simp [regOk, h3]
        rw [h1] at cs
        rw [h2] at ck
        rw [h3] at ci
        have hv2 := hno hv
        rw [hv, hv2]
        have Cs := Lib.hid cs; clear cs
        have Ck := Lib.hid ck; clear ck
        have Ci := Lib.hid ci; clear ci
        have H1 := Lib.hid h1; clear h1
        have H2 := Lib.hid h2; clear h2
        have H3 := Lib.hid h3; clear h3
        have Hv := Lib.hid hv; clear hv
        have Hv2 := Lib.hid hv2; clear hv2
        clear hno
        go_enter Try.func36, Try.ntmps36
        go_wp2_with (first | (go_at_call 85; refine (Cs.out _).mono ?_; rintro e w1 ⟨rfl, rfl⟩) | (go_at_call 86; refine (Ck.out _).mono ?_; rintro e w1 ⟨rfl, rfl⟩) | (go_at_call 87; refine (Ci.out _).mono ?_; rintro e w1 ⟨rfl, rfl⟩))
        go_ret2
        exact ⟨_, rfl, OwnSS.nil _ _, S.below⟩
      · have hh : inB W 1 16 = true ∧ inB H 1 16 = true := by simpa [sizeOkB] using h1
        have d1 := inB_true hh.1
        have d2 := inB_true hh.2
        have d3 := inB_true h3
        obtain ⟨Wn, rfl⟩ := Int.eq_ofNat_of_zero_le (show 0 ≤ W by omega)
        obtain ⟨Hn, rfl⟩ := Int.eq_ofNat_of_zero_le (show 0 ≤ H by omega)
        have hv : regOk Wn Hn k l = l.all (insB Wn Hn) := by simp [regOk, h1, h2, h3]
        have hv2 : l.all (insB Wn Hn) = true → regL Wn Hn k l = gridL Wn Hn (regD Wn k l) := fun h => by simp [regL, hv, h]
        have hv3 : l.all (insB Wn Hn) = false → regL Wn Hn k l = [] := fun h => hno (by rw [hv]; exact h)
        rw [hv]
        rw [h1] at cs
        rw [h2] at ck
        rw [h3] at ci
        obtain ⟨d11, d12⟩ := d1
        obtain ⟨d21, d22⟩ := d2
        obtain ⟨d31, d32⟩ := d3
        have cb := fun w => blank_any Wn Hn w (by omega) (by omega) (by omega) (by omega)
        have Cs := Lib.hid cs; clear cs
        have Ck := Lib.hid ck; clear ck
        have Ci := Lib.hid ci; clear ci
        have Cb := Lib.hid cb; clear cb
        have H1 := Lib.hid h1; clear h1
        have H2 := Lib.hid h2; clear h2
        have H3 := Lib.hid h3; clear h3
        have Hv := Lib.hid hv; clear hv
        have Hv2 := Lib.hid hv2; clear hv2
        have Hv3 := Lib.hid hv3; clear hv3
        clear hno hh
        go_enter Try.func36, Try.ntmps36
        go_wp2_with (first | (go_at_call 85; refine (Cs.out _).mono ?_; rintro e w1 ⟨rfl, rfl⟩) | (go_at_call 86; refine (Ck.out _).mono ?_; rintro e w1 ⟨rfl, rfl⟩) | (go_at_call 87; refine (Ci.out _).mono ?_; rintro e w1 ⟨rfl, rfl⟩))
        refine (Cb.out _).mono ?_
        rintro e w1 ⟨m, g, rfl, I, hm, hg, hb⟩
        clear k0 l0
        replace S := S.bl hb
        replace R := R.bl hb
        replace K := K.bl hb
        replace L := L.bl hb
        clear hb
        have hy := bl_alloc w1 (.cells #[.pointer (some ⟨m, 0, none⟩)] 90)
        have M := Box.new w1 (.pointer (some ⟨m, 0, none⟩)) 90
        replace S := S.bl hy
        replace R := R.bl hy
        replace K := K.bl hy
        replace L := L.bl hy
        replace I := I.bl hy
        clear hy hm hg
        have k0 := K.cell
        have l0 := L.cell
        have m0 := M.cell
        have ca := all_any 90 #[.pointer (some ⟨w1.heap.size, 0, none⟩)] p c l (insB Wn Hn) _ hn R callFunc_regions1 (fun s w' hs hb => regions1_any m g Wn Hn _ s.1 s.2 _ _ w' (I.bl hb) (M.bl hb))
        cases ha : l.all (insB Wn Hn)
        · rw [ha] at ca
          have v3 := Hv3.out ha
          have Ca := Lib.hid ca; clear ca
          have Ha := Lib.hid ha; clear ha
          have V3 := Lib.hid v3; clear v3
          go_wp2_with fail
          refine Ca.out.mono ?_
          rintro e w2 ⟨rfl, hb⟩
          replace S := S.bl hb
          clear hb R K L I M k0 l0 m0
          go_wp2
          go_ret2
          exact ⟨_, by rw [Ha.out]; rfl, by rw [V3.out]; exact OwnSS.nil _ _, S.below⟩
        · rw [ha] at ca
          have v3 := Hv2.out ha
          have hbd : ∀ s ∈ l, (-1000 ≤ s.1 ∧ s.1 ≤ 1000) ∧ (-1000 ≤ s.2 ∧ s.2 ≤ 1000) := fun s hs => by
            obtain ⟨x, y, e1, e2, h1, h2⟩ := insB_nat (List.all_eq_true.1 ha s hs)
            omega
          have Ca := Lib.hid ca; clear ca
          have Ha := Lib.hid ha; clear ha
          have V3 := Lib.hid v3; clear v3
          go_wp2_with fail
          refine Ca.out.mono ?_
          rintro e w2 ⟨rfl, hb⟩
          clear k0 l0 m0
          replace S := S.bl hb
          replace R := R.bl hb
          replace K := K.bl hb
          replace L := L.bl hb
          replace I := I.bl hb
          replace M := M.bl hb
          clear hb
          have m0 := M.cell
          have cg := grid_any m g Wn Hn _ 93 #[.pointer (some ⟨w.heap.size, 0, none⟩), .pointer (some ⟨w.heap.size + 1, 0, none⟩)] (regD Wn k l) w2 I callFunc_regions2
            (fun x y w' hx hy hb => by
              rw [regD_at hx]
              exact regions2_any k p c l x y _ _ _ _ w' (by omega) (by omega) (by omega) (by omega) hbd (K.bl hb) (L.bl hb) (R.bl hb))
          have hsz := S.size
          have Cg := Lib.hid cg; clear cg
          have Hbd := Lib.hid hbd; clear hbd
          clear R K L I M
          go_wp2_with fail
          refine Cg.out.mono ?_
          rintro e w3 ⟨v, rfl, ⟨vs, O⟩, hb⟩
          replace S := S.bl hb
          clear hb m0
          obtain ⟨q', c', rfl⟩ := O.form
          have O2 : OwnSS w.heap.size w3 _ (gridL Wn Hn (regD Wn k l)) := ⟨vs, O.mono hsz⟩
          clear O
          go_wp2
          go_ret2
          exact ⟨_, by rw [Ha.out]; rfl, by rw [V3.out]; exact O2, S.below⟩
end Go.Proofs.Ytakoklldmdbphaa
