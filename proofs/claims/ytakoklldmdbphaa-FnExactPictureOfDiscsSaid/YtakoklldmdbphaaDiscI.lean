/- Contract of the program's PictureOfDiscs. -/
import Derived.Test.YtakoklldmdbphaaDiscs
import Derived.Test.YtakoklldmdbphaaFar
import Derived.Test.YtakoklldmdbphaaTold
import Derived.Test.YtakoklldmdbphaaEach
set_option linter.unusedVariables false
set_option linter.unusedSimpArgs false
namespace Go.Proofs.Ytakoklldmdbphaa
open Go.RowKit

/-- Does a disc have a pixel? -/
def holdsD (k : Int) (d : Int × Int × Int) (x y : Int) : Bool := decide (farZ k d.1 d.2.1 x y < d.2.2)
def dsF (k : Int) (ds : List (Int × Int × Int)) (W i : Nat) : Bool := ds.any fun d => holdsD k d ((i % W : Nat) : Int) ((i / W : Nat) : Int)
theorem dsF_at {k : Int} {ds : List (Int × Int × Int)} {W x y : Nat} (hx : x < W) : dsF k ds W (y * W + x) = ds.any fun d => holdsD k d x y := by rw [dsF, (at_mod hx).1, (at_mod hx).2]
def discB (W H : Int) (d : Int × Int × Int) : Bool := inB d.1 0 (W - 1) && inB d.2.1 0 (H - 1) && inB d.2.2 1 512
def dsOk (W H k : Int) (ds : List (Int × Int × Int)) : Bool := sizeOkB W H && inB k 0 2 && decide (ds.length ≤ 256) && ds.all (discB W H)
def dsP (W H k : Int) (ds : List (Int × Int × Int)) : List ByteArray := if dsOk W H k ds then render W.toNat H.toNat (dsF k ds W.toNat) else []
theorem getD_memD {l : List (Int × Int × Int)} {k : Nat} (h : k < l.length) : l.getD k (0, 0, 0) ∈ l := by simp [List.getD, List.getElem?_eq_getElem h]
theorem discs_take {l : List (Int × Int × Int)} {j : Nat} (h : j < l.length) : l.take (j + 1) = l.take j ++ [l.getD j (0, 0, 0)] := by
  rw [List.take_succ_eq_append_getElem h]; simp [List.getD, List.getElem?_eq_getElem h]
theorem discB_bd {W H : Int} {d : Int × Int × Int} (h : discB W H d = true) (hW : W ≤ 16) (hH : H ≤ 16) : (-1000 ≤ d.1 ∧ d.1 ≤ 1000) ∧ (-1000 ≤ d.2.1 ∧ d.2.1 ≤ 1000) ∧ 1 ≤ d.2.2 ∧ d.2.2 ≤ 512 := by
  simp only [discB, Bool.and_eq_true] at h
  have h1 := inB_true h.1.1
  have h2 := inB_true h.1.2
  have h3 := inB_true h.2
  omega
set_option maxRecDepth 100000 in
set_option maxHeartbeats 2000000 in
theorem discHas_any (k : Int) (a b r x y : Int) (w : World) (h1 : -1000 ≤ a ∧ a ≤ 1000) (h2 : -1000 ≤ b ∧ b ≤ 1000) (h3 : -1000 ≤ x ∧ x ≤ 1000) (h4 : -1000 ≤ y ∧ y ≤ 1000) :
    Calls Try.prog 121 #[.agg #[.int .i64 a, .int .i64 b, .int .i64 r], .int .i64 k, .agg #[.int .i64 x, .int .i64 y]] w fun e w' => e = .returned (.bool (holdsD k (a, b, r) x y)) ∧ Below w.heap.size w w' := by
  have A := (Blk.new w #[.int .i64 a, .int .i64 b, .int .i64 r] 135).alloc (.cells #[.int .i64 x, .int .i64 y] 27)
  have B := Blk.new (w.alloc (.cells #[.int .i64 a, .int .i64 b, .int .i64 r] 135)) #[.int .i64 x, .int .i64 y] 27
  simp only [World.size_alloc] at B
  have S := ((Since.refl w).alloc (.cells #[.int .i64 a, .int .i64 b, .int .i64 r] 135)).alloc (.cells #[.int .i64 x, .int .i64 y] 27)
  have C1 := A.cat 0 rfl
  have C2 := A.cat 1 rfl
  have C3 := A.cat 2 rfl
  have C4 := B.cat 0 rfl
  have C5 := B.cat 1 rfl
  have cf := fun w => far_any k a b x y w h1 h2 h3 h4
  have hv : holdsD k (a, b, r) x y = decide (farZ k a b x y < r) := rfl
  rw [hv]
  generalize farZ k a b x y = D at *
  have Cf := Lib.hid cf; clear cf
  have Hv := Lib.hid hv; clear hv
  clear A B h1 h2 h3 h4
  go_enter Try.func121, Try.ntmps121
  go_wp2
  go_region_held3 (fun w' => w'.cell? ⟨w.heap.size, 0, none⟩ = some (.int .i64 a) ∧ w'.cell? ⟨w.heap.size, 1, none⟩ = some (.int .i64 b) ∧ w'.cell? ⟨w.heap.size, 2, none⟩ = some (.int .i64 r) ∧ w'.cell? ⟨w.heap.size + 1, 0, none⟩ = some (.int .i64 x) ∧ w'.cell? ⟨w.heap.size + 1, 1, none⟩ = some (.int .i64 y))
    (first | ((repeat' (apply And.intro)) <;> (refine CellAt.out ?_; (repeat (first | assumption | exact Blk.cat (Blk.new _ _ _) _ rfl | refine CellAt.bl ?_ (bl_alloc _ _) | refine CellAt.bl ?_ (bl_drew _) | refine CellAt.bl ?_ (bl_drewN _ _) | refine CellAt.bl ?_ (by assumption) | refine CellAt.other ?_ (by intro e; injection e; omega) _)))))
    ((first | (go_at_call 96; refine (Cf.out _).mono ?_; rintro e w1 ⟨rfl, hb1⟩)))
  have S2 : Since w w1 := by (repeat (first | assumption | exact Blk.new _ _ _ | exact Since.refl _ | refine ArgRd.bl ?_ (bl_alloc _ _) | refine ArgRd.bl ?_ (bl_drew _) | refine ArgRd.bl ?_ (by assumption) | refine Copy.bl ?_ (bl_alloc _ _) | refine Copy.bl ?_ (bl_drew _) | refine Copy.bl ?_ (by assumption) | refine OwnStrs.bl ?_ (bl_alloc _ _) | refine OwnStrs.bl ?_ (bl_drew _) | refine OwnStrs.bl ?_ (by assumption) | refine Blk.bl ?_ (bl_alloc _ _) | refine Blk.bl ?_ (bl_drew _) | refine Blk.bl ?_ (by assumption) | refine Since.bl ?_ (bl_alloc _ _) | refine Since.bl ?_ (bl_drew _) | refine Since.bl ?_ (by assumption) | refine Blk.other ?_ (by (try dsimp only); (try simp only [World.size_alloc, World.size_setCell, szDrew]); omega) _))
  go_wp2
  go_ret
  exact ⟨rfl, S2.below⟩
set_option maxHeartbeats 4000000 in
theorem indexDiscs_any (kb : FuncId) (capb : Array Value) (p : Option Addr) (c : Nat) (l : List (Int × Int × Int)) (q : Int × Int × Int → Bool) (w : World) (hn : l.length ≤ 1048576) (hr : Rd w p (l.length * 3) (discAt l))
    (hk : ∀ args w, (callFunc kb args).run Try.prog w = .ok (.enter kb args) w)
    (hcall : ∀ s w', s ∈ l → Below w.heap.size w w' → Calls Try.prog kb (#[.agg #[.int .i64 s.1, .int .i64 s.2.1, .int .i64 s.2.2]] ++ capb) w' fun e w'' => e = .returned (.bool (q s)) ∧ Below w'.heap.size w' w'') :
    Calls Try.prog 139 #[.slice p l.length c, .func (.func kb) #[] capb] w fun e w' => ∃ z : Int, e = .returned (.int .i64 z) ∧ decide (0 ≤ z) = l.any q ∧ Below w.heap.size w w' := by
  go_enter Try.func139, Try.ntmps139
  go_wp2
  go_loopw [8] (fun i wr => ∃ j : Nat, j ≤ l.length ∧ i = .int .i64 j ∧ (l.take j).any q = false ∧ Since w wr) (fun i _ => l.length - (intOf i).toNat)
  case atStart => exact ⟨0, Nat.zero_le _, rfl, by simp, Since.refl w⟩
  case round =>
    obtain ⟨j, hj, rfl, hno, S⟩ := hrel
    by_cases hlt : j < l.length
    · obtain ⟨b, o, rfl, hb, hc⟩ := (hr.below S.below (Nat.le_refl _)).at (k := j * 3) (by omega)
      have a0 := hc (j * 3) (by omega)
      have a1 := hc (j * 3 + 1) (by omega)
      have a2 := hc (j * 3 + 2) (by omega)
      rw [discAt_x] at a0
      rw [discAt_y, ← Nat.add_assoc] at a1
      rw [discAt_r, ← Nat.add_assoc] at a2
      have hj0 : (0 : Int) ≤ (j : Int) := Int.natCast_nonneg _
      have hj1 : (j : Int) < (l.length : Int) := by omega
      have hcl := hcall (l.getD j (0, 0, 0)) wr (getD_memD hlt) S.below
      have hsu : (l.take (j + 1)).any q = ((l.take j).any q || q (l.getD j (0, 0, 0))) := by rw [discs_take hlt]; simp [List.any_append]
      have hyes : q (l.getD j (0, 0, 0)) = true → l.any q = true := fun h => List.any_eq_true.2 ⟨_, getD_memD hlt, h⟩
      rw [hno] at hsu
      generalize (l.getD j (0, 0, 0)).1 = u at *
      generalize (l.getD j (0, 0, 0)).2.1 = v at *
      generalize (l.getD j (0, 0, 0)).2.2 = r at *
      cases hq : q (l.getD j (0, 0, 0))
      · rw [hq] at hcl hsu
        have Hcl := Lib.hid hcl; clear hcl
        have Hsu := Lib.hid hsu; clear hsu
        have Hno := Lib.hid hno; clear hno
        have Hq := Lib.hid hq; clear hq
        clear hc hr hcall hyes
        go_wp2_with fail
        refine Hcl.out.mono ?_
        rintro e w1 ⟨rfl, hb1⟩
        have S1 := S.bl hb1
        clear hb1 S a0 a1 a2
        go_wp2
        go_roundw
        case rel => exact ⟨j + 1, by omega, by go_num, Hsu.out, S1⟩
        case measure => simp [intOf]; omega
      · rw [hq] at hcl
        have hy := hyes hq
        have Hcl := Lib.hid hcl; clear hcl
        have Hsu := Lib.hid hsu; clear hsu
        have Hno := Lib.hid hno; clear hno
        have Hq := Lib.hid hq; clear hq
        have Hy := Lib.hid hy; clear hy
        clear hc hr hcall hyes
        go_wp2_with fail
        refine Hcl.out.mono ?_
        rintro e w1 ⟨rfl, hb1⟩
        have S1 := S.bl hb1
        clear hb1 S a0 a1 a2
        go_wp2
        go_ret
        exact ⟨_, rfl, by rw [Hy.out]; simp, S1.below⟩
    · obtain rfl : j = l.length := by omega
      rw [List.take_of_length_le (Nat.le_refl _)] at hno
      have Hno := Lib.hid hno; clear hno
      go_wp2
      go_ret
      exact ⟨_, rfl, by rw [Hno.out]; rfl, S.below⟩
set_option maxHeartbeats 4000000 in
theorem containsDiscs_any (kb : FuncId) (capb : Array Value) (p : Option Addr) (c : Nat) (l : List (Int × Int × Int)) (q : Int × Int × Int → Bool) (w : World) (hn : l.length ≤ 1048576) (hr : Rd w p (l.length * 3) (discAt l))
    (hk : ∀ args w, (callFunc kb args).run Try.prog w = .ok (.enter kb args) w)
    (hcall : ∀ s w', s ∈ l → Below w.heap.size w w' → Calls Try.prog kb (#[.agg #[.int .i64 s.1, .int .i64 s.2.1, .int .i64 s.2.2]] ++ capb) w' fun e w'' => e = .returned (.bool (q s)) ∧ Below w'.heap.size w' w'') :
    Calls Try.prog 119 #[.slice p l.length c, .func (.func kb) #[] capb] w fun e w' => e = .returned (.bool (l.any q)) ∧ Below w.heap.size w w' := by
  have c0 := indexDiscs_any kb capb p c l q w hn hr hk hcall
  have C0 := Lib.hid c0; clear c0
  clear hcall hr
  go_enter Try.func119, Try.ntmps119
  go_wp2_with fail
  refine C0.out.mono ?_
  rintro e w1 ⟨z, rfl, hz, hb⟩
  have Hz := Lib.hid hz; clear hz
  go_wp2
  go_ret
  exact ⟨ret_bool Hz.out, hb⟩
theorem callFunc_ds11 : ∀ args w, (callFunc 120 args).run Try.prog w = .ok (.enter 120 args) w := fun args w => by kernel_rfl
theorem callFunc_ds1 : ∀ args w, (callFunc 118 args).run Try.prog w = .ok (.enter 118 args) w := fun args w => by kernel_rfl
set_option maxHeartbeats 2000000 in
theorem ds11_any (k : Int) (a b r x y : Int) (kb xb yb : Nat) (t1 t2 t3 : TypeId) (w : World) (h1 : -1000 ≤ a ∧ a ≤ 1000) (h2 : -1000 ≤ b ∧ b ≤ 1000) (h3 : -1000 ≤ x ∧ x ≤ 1000) (h4 : -1000 ≤ y ∧ y ≤ 1000)
    (K : Box w kb (.int .i64 k) t1) (X : Box w xb (.int .i64 x) t2) (Y : Box w yb (.int .i64 y) t3) :
    Calls Try.prog 120 #[.agg #[.int .i64 a, .int .i64 b, .int .i64 r], .pointer (some ⟨kb, 0, none⟩), .pointer (some ⟨xb, 0, none⟩), .pointer (some ⟨yb, 0, none⟩)] w fun e w' => e = .returned (.bool (holdsD k (a, b, r) x y)) ∧ Below w.heap.size w w' := by
  have hy := bl_alloc w (.cells #[.int .i64 a, .int .i64 b, .int .i64 r] 135)
  have A := Blk.new w #[.int .i64 a, .int .i64 b, .int .i64 r] 135
  replace K := K.bl hy
  replace X := X.bl hy
  replace Y := Y.bl hy
  have k0 := K.cell
  have x0 := X.cell
  have y0 := Y.cell
  have a0 := A.cell 0 rfl
  have a1 := A.cell 1 rfl
  have a2 := A.cell 2 rfl
  have ch := fun w => discHas_any k a b r x y w h1 h2 h3 h4
  generalize holdsD k (a, b, r) x y = v at *
  have Ch := Lib.hid ch; clear ch
  clear K X Y A h1 h2 h3 h4
  go_enter Try.func120, Try.ntmps120
  go_wp2_with fail
  with_reducible (refine (Ch.out _).mono ?_)
  rintro e w1 ⟨rfl, hb⟩
  have hb2 := bl_trans hy hb
  clear hb hy
  go_wp2
  go_ret
  exact ⟨rfl, hb2⟩
set_option maxHeartbeats 2000000 in
theorem ds1_any (W H k : Int) (q : Option Addr) (c : Nat) (l : List (Int × Int × Int)) (x y db kb : Nat) (t1 t2 : TypeId) (w : World) (hW : W ≤ 16) (hH : H ≤ 16) (hx : x < 16) (hy : y < 16) (h1 : l.length ≤ 256) (hl : ∀ s ∈ l, discB W H s = true)
    (D : Box w db (.slice q l.length c) t1) (K : Box w kb (.int .i64 k) t2) (R : Rd w q (l.length * 3) (discAt l)) :
    Calls Try.prog 118 #[.int .i64 x, .int .i64 y, .pointer (some ⟨db, 0, none⟩), .pointer (some ⟨kb, 0, none⟩)] w fun e w' => e = .returned (.bool (l.any fun d => holdsD k d x y)) ∧ Below w.heap.size w w' := by
  have hy1 := bl_alloc w (.cells #[.int .i64 x] 2)
  have X := Box.new w (.int .i64 x) 2
  have hy2 := bl_alloc (w.alloc (.cells #[.int .i64 x] 2)) (.cells #[.int .i64 y] 2)
  have Y := Box.new (w.alloc (.cells #[.int .i64 x] 2)) (.int .i64 y) 2
  simp only [World.size_alloc] at Y
  replace D := D.bl hy1
  replace K := K.bl hy1
  replace R := R.bl hy1
  replace D := D.bl hy2
  replace K := K.bl hy2
  replace R := R.bl hy2
  replace X := X.bl hy2
  have S := ((Since.refl w).bl hy1).bl hy2
  have d0 := D.cell
  have cc := containsDiscs_any 120 #[.pointer (some ⟨kb, 0, none⟩), .pointer (some ⟨w.heap.size, 0, none⟩), .pointer (some ⟨w.heap.size + 1, 0, none⟩)] q c l (fun d => holdsD k d x y) _ (by omega) R callFunc_ds11
    (fun s w' hs hb => by
      have h := discB_bd (hl s hs) hW hH
      exact ds11_any k s.1 s.2.1 s.2.2 x y kb _ _ _ _ _ w' h.1 h.2.1 (by omega) (by omega) (K.bl hb) (X.bl hb) (Y.bl hb))
  generalize (l.any fun d => holdsD k d x y) = v at *
  have Cc := Lib.hid cc; clear cc
  clear K X Y D R hy1 hy2 hl
  go_enter Try.func118, Try.ntmps118
  go_wp2_with fail
  with_reducible (refine Cc.out.mono ?_)
  rintro e w1 ⟨rfl, hb⟩
  replace S := S.bl hb
  clear hb d0
  go_wp2
  go_ret
  exact ⟨rfl, S.below⟩
set_option maxRecDepth 100000 in
set_option maxHeartbeats 4000000 in
theorem pictureOfDiscs_any (W H k : Int) (p : Option Addr) (c : Nat) (l : List (Int × Int × Int)) (w : World) (hn : l.length ≤ 1048576) (hr : Rd w p (l.length * 3) (discAt l)) :
    Calls Try.prog 58 #[.int .i64 W, .int .i64 H, .int .i64 k, .slice p l.length c] w fun e w' => ∃ v, e = .returned (.tuple #[.agg #[v], .bool (dsOk W H k l)]) ∧ OwnStrs w.heap.size w' v (dsP W H k l) ∧ Below w.heap.size w w' := by
  have hy1 := bl_alloc w (.cells #[.int .i64 k] 2)
  have K := Box.new w (.int .i64 k) 2
  have hy2 := bl_alloc (w.alloc (.cells #[.int .i64 k] 2)) (.cells #[.slice p l.length c] 79)
  have D := Box.new (w.alloc (.cells #[.int .i64 k] 2)) (.slice p l.length c) 79
  simp only [World.size_alloc] at D
  have hy3 := bl_alloc ((w.alloc (.cells #[.int .i64 k] 2)).alloc (.cells #[.slice p l.length c] 79)) (.cells #[.slice none 0 0] 30)
  have B := Box.new ((w.alloc (.cells #[.int .i64 k] 2)).alloc (.cells #[.slice p l.length c] 79)) (.slice none 0 0) 30
  simp only [World.size_alloc] at B
  have R := hr
  replace R := R.bl hy1
  replace R := R.bl hy2
  replace K := K.bl hy2
  replace R := R.bl hy3
  replace K := K.bl hy3
  replace D := D.bl hy3
  have S := (((Since.refl w).bl hy1).bl hy2).bl hy3
  have cs := fun w => sizeOk_any W H w
  have ck := fun w => kindOk_any k w
  have k0 := K.cell
  have d0 := D.cell
  have hv0 : dsOk W H k l = false → dsP W H k l = [] := fun h => by rw [dsP, h]; rfl
  have hdef : dsOk W H k l = (sizeOkB W H && inB k 0 2 && decide (l.length ≤ 256) && l.all (discB W H)) := rfl
  have b0 := B.cell
  have b1 := B.frozen
  have b2 := (B.set (.slice none 0 0)).cell
  have s0 := fun w' (h : Since w w') => Since.below ⟨h.below.setCell (p := ⟨w.heap.size + 1 + 1, 0, none⟩) (by simp; omega) (.slice none 0 0)⟩
  cases h1 : sizeOkB W H
  · have hv : dsOk W H k l = false := by rw [hdef, h1]; rfl
    have hv2 := hv0 hv
    simp only [h1] at cs
    have Cs := Lib.hid cs; clear cs
    have Ck := Lib.hid ck; clear ck
    have H1 := Lib.hid h1; clear h1
    have Hv := Lib.hid hv; clear hv
    have Hv2 := Lib.hid hv2; clear hv2
    have S0 := Lib.hid s0; clear s0
    clear hdef hv0 hr hy1 hy2 hy3 R
    go_enter Try.func58, Try.ntmps58
    go_wp2_with fail
    with_reducible (refine (Cs.out _).mono ?_)
    rintro e w1 ⟨rfl, rfl⟩
    go_wp2
    exact bodyPost_ret (v := .tuple #[.agg #[.slice none 0 0], .bool false]) (by simp [results, Try.results58, go_sem, b2]) rfl ⟨_, by rw [Hv.out], by rw [Hv2.out]; exact OwnStrs.nil _ _, by first | exact S0.out _ S | exact S.below⟩
  · cases h2 : inB k 0 2
    · have hv : dsOk W H k l = false := by rw [hdef, h2]; simp
      have hv2 := hv0 hv
      simp only [h1] at cs
      simp only [h2] at ck
      have Cs := Lib.hid cs; clear cs
      have Ck := Lib.hid ck; clear ck
      have H1 := Lib.hid h1; clear h1
      have H2 := Lib.hid h2; clear h2
      have Hv := Lib.hid hv; clear hv
      have Hv2 := Lib.hid hv2; clear hv2
      have S0 := Lib.hid s0; clear s0
      clear hdef hv0 hr hy1 hy2 hy3 R
      go_enter Try.func58, Try.ntmps58
      go_wp2_with fail
      with_reducible (refine (Cs.out _).mono ?_)
      rintro e w1 ⟨rfl, rfl⟩
      go_wp2_with fail
      with_reducible (refine (Ck.out _).mono ?_)
      rintro e w1 ⟨rfl, rfl⟩
      go_wp2
      exact bodyPost_ret (v := .tuple #[.agg #[.slice none 0 0], .bool false]) (by simp [results, Try.results58, go_sem, b2]) rfl ⟨_, by rw [Hv.out], by rw [Hv2.out]; exact OwnStrs.nil _ _, by first | exact S0.out _ S | exact S.below⟩
    · simp only [h1] at cs
      simp only [h2] at ck
      by_cases h3 : l.length ≤ 256
      · have hdef2 : dsOk W H k l = l.all (discB W H) := by rw [hdef, h1, h2, decide_eq_true h3]; rfl
        have hh : inB W 1 16 = true ∧ inB H 1 16 = true := by simpa [sizeOkB] using h1
        have e1 := inB_true hh.1
        have e2 := inB_true hh.2
        have hv1 : dsOk W H k l = true → dsP W H k l = render W.toNat H.toNat (dsF k l W.toNat) := fun h => by rw [dsP, h]; rfl
        obtain ⟨Wn, rfl⟩ := Int.eq_ofNat_of_zero_le (show 0 ≤ W by omega)
        obtain ⟨Hn, rfl⟩ := Int.eq_ofNat_of_zero_le (show 0 ≤ H by omega)
        rw [Int.toNat_natCast, Int.toNat_natCast] at hv1
        have cb := fun w => blank_any Wn Hn w (by omega) (by omega) (by omega) (by omega)
        have Cs := Lib.hid cs; clear cs
        have Ck := Lib.hid ck; clear ck
        have H1 := Lib.hid h1; clear h1
        have H2 := Lib.hid h2; clear h2
        have Hv1 := Lib.hid hv1; clear hv1
        have Hv0 := Lib.hid hv0; clear hv0
        have S0 := Lib.hid s0; clear s0
        have Hdef2 := Lib.hid hdef2; clear hdef2
        have Hdef := Lib.hid hdef; clear hdef
        have Cb := Lib.hid cb; clear cb
        clear hr hy1 hy2 hy3 hh b0 b1 b2
        go_enter Try.func58, Try.ntmps58
        go_wp2_with fail
        with_reducible (refine (Cs.out _).mono ?_)
        rintro e w1 ⟨rfl, rfl⟩
        go_wp2_with fail
        with_reducible (refine (Ck.out _).mono ?_)
        rintro e w1 ⟨rfl, rfl⟩
        go_wp2_with fail
        with_reducible (refine (Cb.out _).mono ?_)
        rintro e w1 ⟨m, g, rfl, I, -, -, hb⟩
        replace S := S.bl hb
        replace R := R.bl hb
        replace K := K.bl hb
        replace D := D.bl hb
        replace B := B.bl hb
        clear hb k0 d0 Cb
        have d0 := D.cell
        go_wp2_with fail
        clear d0
        go_loopw [33] (fun i wr => ∃ j : Nat, j ≤ l.length ∧ i = .int .i64 j ∧ (l.take j).all (discB Wn Hn) = true ∧ Since w1 wr) (fun i _ => l.length - (intOf i).toNat)
        case atStart => exact ⟨0, Nat.zero_le _, rfl, by simp, Since.refl _⟩
        case round =>
          obtain ⟨j, hj, rfl, hall, T⟩ := hrel
          have I2 := I.bl T.below
          by_cases hlt : j < l.length
          · obtain ⟨b, o, rfl, hb, hc⟩ := (R.bl T.below).at (k := j * 3) (by omega)
            have a0 := hc (j * 3) (by omega)
            have a1 := hc (j * 3 + 1) (by omega)
            have a2 := hc (j * 3 + 2) (by omega)
            rw [discAt_x] at a0
            rw [discAt_y, ← Nat.add_assoc] at a1
            rw [discAt_r, ← Nat.add_assoc] at a2
            have hj0 : (0 : Int) ≤ (j : Int) := Int.natCast_nonneg _
            have hj1 : (j : Int) < (l.length : Int) := by omega
            have hsu : (l.take (j + 1)).all (discB Wn Hn) = ((l.take j).all (discB Wn Hn) && discB Wn Hn (l.getD j (0, 0, 0))) := by rw [discs_take hlt]; simp [List.all_append]
            rw [hall, Bool.true_and] at hsu
            have hno : discB Wn Hn (l.getD j (0, 0, 0)) = false → l.all (discB Wn Hn) = false := fun h => by
              rw [List.all_eq_false]
              exact ⟨_, getD_memD hlt, by rw [h]; simp⟩
            have hd : discB Wn Hn (l.getD j (0, 0, 0)) = (hasB Wn Hn (l.getD j (0, 0, 0)).1 (l.getD j (0, 0, 0)).2.1 && inB (l.getD j (0, 0, 0)).2.2 1 512) := rfl
            rw [hd] at hsu hno
            clear hd hc
            generalize (l.getD j (0, 0, 0)).1 = u at *
            generalize (l.getD j (0, 0, 0)).2.1 = v at *
            generalize (l.getD j (0, 0, 0)).2.2 = r at *
            have hya := bl_alloc wr (.cells #[.int .i64 u, .int .i64 v, .int .i64 r] 135)
            have E := Blk.new wr #[.int .i64 u, .int .i64 v, .int .i64 r] 135
            have f0 := E.cell 0 rfl
            have f1 := E.cell 1 rfl
            have f2 := E.cell 2 rfl
            have T2 := T.bl hya
            have ch := has_any m g Wn Hn _ u v _ (I2.bl hya)
            have ci := fun w => in_any r 1 512 w
            cases e3 : hasB Wn Hn u v
            · rw [e3] at ch hno
              have hv : dsOk Wn Hn k l = false := by rw [Hdef2.out]; exact hno rfl
              have hv2 := Hv0.out hv
              have B2 := B.bl T2.below
              have b0 := B2.cell
              have b1 := B2.frozen
              have b2 := (B2.set (.slice none 0 0)).cell
              have S2 := S.bl T2.below
              have Ch := Lib.hid ch; clear ch
              have Ci := Lib.hid ci; clear ci
              have E3 := Lib.hid e3; clear e3
              have Hv := Lib.hid hv; clear hv
              have Hv2 := Lib.hid hv2; clear hv2
              have Hsu := Lib.hid hsu; clear hsu
              have Hall := Lib.hid hall; clear hall
              clear hno hya E I2
              go_wp2_with fail
              with_reducible (refine Ch.out.mono ?_)
              rintro e w2 ⟨rfl, rfl⟩
              go_wp2
              exact bodyPost_ret (v := .tuple #[.agg #[.slice none 0 0], .bool false]) (by simp [results, Try.results58, go_sem, b2]) rfl ⟨_, by rw [Hv.out], by rw [Hv2.out]; exact OwnStrs.nil _ _, S0.out _ S2⟩
            · cases e4 : inB r 1 512
              · rw [e3] at ch
                rw [e3, e4] at hno
                simp only [e4] at ci
                have hv : dsOk Wn Hn k l = false := by rw [Hdef2.out]; exact hno rfl
                have hv2 := Hv0.out hv
                have B2 := B.bl T2.below
                have b0 := B2.cell
                have b1 := B2.frozen
                have b2 := (B2.set (.slice none 0 0)).cell
                have S2 := S.bl T2.below
                have Ch := Lib.hid ch; clear ch
                have Ci := Lib.hid ci; clear ci
                have E3 := Lib.hid e3; clear e3
                have E4 := Lib.hid e4; clear e4
                have Hv := Lib.hid hv; clear hv
                have Hv2 := Lib.hid hv2; clear hv2
                have Hsu := Lib.hid hsu; clear hsu
                have Hall := Lib.hid hall; clear hall
                clear hno hya E I2
                go_wp2_with fail
                with_reducible (refine Ch.out.mono ?_)
                rintro e w2 ⟨rfl, rfl⟩
                go_wp2_with fail
                with_reducible (refine (Ci.out _).mono ?_)
                rintro e w2 ⟨rfl, rfl⟩
                go_wp2
                exact bodyPost_ret (v := .tuple #[.agg #[.slice none 0 0], .bool false]) (by simp [results, Try.results58, go_sem, b2]) rfl ⟨_, by rw [Hv.out], by rw [Hv2.out]; exact OwnStrs.nil _ _, S0.out _ S2⟩
              · rw [e3] at ch
                rw [e3, e4] at hsu
                simp only [e4] at ci
                have Ch := Lib.hid ch; clear ch
                have Ci := Lib.hid ci; clear ci
                have E3 := Lib.hid e3; clear e3
                have E4 := Lib.hid e4; clear e4
                have Hsu := Lib.hid hsu; clear hsu
                have Hall := Lib.hid hall; clear hall
                clear hno hya E I2
                go_wp2_with fail
                with_reducible (refine Ch.out.mono ?_)
                rintro e w2 ⟨rfl, rfl⟩
                go_wp2_with fail
                with_reducible (refine (Ci.out _).mono ?_)
                rintro e w2 ⟨rfl, rfl⟩
                go_wp2
                go_roundw
                case rel => exact ⟨j + 1, by omega, by go_num, Hsu.out, T2⟩
                case measure => simp [intOf]; omega
          · obtain rfl : j = l.length := by omega
            rw [List.take_of_length_le (Nat.le_refl _)] at hall
            have hv : dsOk Wn Hn k l = true := by rw [Hdef2.out]; exact hall
            have hv2 := Hv1.out hv
            have hmem : ∀ s ∈ l, discB Wn Hn s = true := List.all_eq_true.1 hall
            have K2 := K.bl T.below
            have D2 := D.bl T.below
            have B2 := B.bl T.below
            have S2 := S.bl T.below
            have R2 := R.bl T.below
            have hBlt := B2.lt
            have cm := made_any 118 #[.pointer (some ⟨w.heap.size + 1, 0, none⟩), .pointer (some ⟨w.heap.size, 0, none⟩)] Wn Hn (dsF k l Wn) wr (by omega) (by omega) (by omega) (by omega) callFunc_ds1
              (fun x y w' hx hy hb => by
                rw [dsF_at hx]
                exact ds1_any Wn Hn k p c l x y _ _ _ _ w' (by omega) (by omega) (by omega) (by omega) h3 hmem (D2.bl hb) (K2.bl hb) (R2.bl hb))
            have ct := fun m g w I => told_any m g Wn Hn (dsF k l Wn) w I
            have hrl := render_len Wn Hn (dsF k l Wn)
            obtain ⟨rr, er⟩ : ∃ rr, render Wn Hn (dsF k l Wn) = rr := ⟨_, rfl⟩
            simp only [er] at ct hrl
            have Cm := Lib.hid cm; clear cm
            have Ct := Lib.hid ct; clear ct
            have Hv := Lib.hid hv; clear hv
            have Hv2 := Lib.hid hv2; clear hv2
            have Hall := Lib.hid hall; clear hall
            have Hmem := Lib.hid hmem; clear hmem
            have Er := Lib.hid er; clear er
            have Hrl := Lib.hid hrl; clear hrl
            clear I2 K D R K2 D2 R2 I B S
            go_wp2_with fail
            with_reducible (refine Cm.out.mono ?_)
            rintro e w2 ⟨m', g', rfl, I', -, -, hb⟩
            replace S2 := S2.bl hb
            replace B2 := B2.bl hb
            clear hb Cm
            go_wp2_with fail
            with_reducible (refine (Ct.out _ _ _ I').mono ?_)
            rintro e w3 ⟨v, rfl, O, hb⟩
            have hlt2 := B2.lt
            replace S2 := S2.bl hb
            replace B2 := B2.bl hb
            clear hb Ct I'
            obtain ⟨q, d, rfl⟩ := O.form
            have b0 := B2.cell
            have b1 := B2.frozen
            have b2 := (B2.set (.slice q rr.length d)).cell
            have o1 : OwnStrs w.heap.size (w3.setCell ⟨w.heap.size + 1 + 1, 0, none⟩ (.slice q rr.length d)) (.slice q rr.length d) rr := by
              obtain ⟨p', c', hq, ho⟩ := O
              exact ⟨p', c', hq, own_mono (own_set ho (by simpa using hlt2) _) (by omega)⟩
            have s1 : Below w.heap.size w (w3.setCell ⟨w.heap.size + 1 + 1, 0, none⟩ (.slice q rr.length d)) := S2.below.setCell (by simp; omega) _
            have O1 := Lib.hid o1; clear o1
            have S1 := Lib.hid s1; clear s1
            clear O B2 S2
            go_wp2
            exact bodyPost_ret (v := .tuple #[.agg #[.slice q rr.length d], .bool true]) (by simp [results, Try.results58, go_sem, b2]) rfl ⟨_, by rw [Hv.out], by rw [Hv2.out, Er.out]; exact O1.out, S1.out⟩
      · have hv : dsOk W H k l = false := by rw [hdef, decide_eq_false h3]; simp
        have hv2 := hv0 hv
        have h4 : 256 < l.length := by omega
        have Cs := Lib.hid cs; clear cs
        have Ck := Lib.hid ck; clear ck
        have H1 := Lib.hid h1; clear h1
        have H2 := Lib.hid h2; clear h2
        have Hv := Lib.hid hv; clear hv
        have Hv2 := Lib.hid hv2; clear hv2
        have S0 := Lib.hid s0; clear s0
        clear hdef hv0 hr hy1 hy2 hy3 R h3
        go_enter Try.func58, Try.ntmps58
        go_wp2_with fail
        with_reducible (refine (Cs.out _).mono ?_)
        rintro e w1 ⟨rfl, rfl⟩
        go_wp2_with fail
        with_reducible (refine (Ck.out _).mono ?_)
        rintro e w1 ⟨rfl, rfl⟩
        go_wp2
        exact bodyPost_ret (v := .tuple #[.agg #[.slice none 0 0], .bool false]) (by simp [results, Try.results58, go_sem, b2]) rfl ⟨_, by rw [Hv.out], by rw [Hv2.out]; exact OwnStrs.nil _ _, by first | exact S0.out _ S | exact S.below⟩
end Go.Proofs.Ytakoklldmdbphaa
