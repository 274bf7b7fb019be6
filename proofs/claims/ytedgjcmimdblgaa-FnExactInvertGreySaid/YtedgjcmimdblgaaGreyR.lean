/- Contracts of the reference's l07Rows and InvertGrey. -/
import Derived.Test.YtedgjcmimdblgaaGreyS
import Derived.Test.YtedgjcmimdblgaaGridG
set_option linter.unusedVariables false
set_option linter.unusedSimpArgs false
namespace Go.Proofs.Ytedgjcmimdblgaa
open Go.RowKit

set_option maxRecDepth 100000 in
set_option maxHeartbeats 2000000 in
theorem l07Rows_any (p : Option Addr) (c W H : Nat) (l : List Int) (w : World) (hW0 : 0 < W) (hW : W ≤ 16) (hH : H ≤ 16) (hl : l.length = H * W) (hcap : l.length ≤ c) (hcm : c ≤ maxLen) (hr : Rd w p l.length (intAt l)) (dd : Nat → Int) (hdd : ∀ i, i < l.length → dd i = l.getD i 0) :
    Calls Try.prog 20 #[.int .i64 (W : Int), .slice p l.length c] w fun e w' => ∃ v, e = .returned v ∧ OwnSS w.heap.size w' v (gridL W H dd) ∧ Below w.heap.size w w' := by
  have hm : H * W ≤ 256 := Nat.le_trans (Nat.mul_le_mul hH hW) (by omega)
  have J0 := OwnIntss.start (World.ownsRow_made (base := w.heap.size) (size := 1) (e := 40) w #[] 0 (Nat.le_refl _) (by decide) rfl) ⟨_, _, rfl⟩
  have S0 := (Since.refl w).alloc (.cells #[] 40)
  obtain ⟨N, eN⟩ : ∃ N, l.length = N := ⟨_, rfl⟩
  have hN : N ≤ 256 := by omega
  unfold maxLen at hcm
  rw [eN] at hr hcap hdd ⊢
  have Hl := Lib.hid hl; clear hl
  have Hm := Lib.hid hm; clear hm
  have Hdd := Lib.hid hdd; clear hdd
  go_enter Try.func20, Try.ntmps20
  go_wp2
  go_loopw [5, 6] (fun v i wr => ∃ y Y : Nat, y ≤ H ∧ Y = y * W ∧ Y ≤ N ∧ i = .int .i64 Y ∧ (∃ vs, OwnIntss w.heap.size wr v (gridL W y dd) vs) ∧ Since w wr) (fun _ i _ => N - (intOf i).toNat)
  case atStart => exact ⟨0, 0, Nat.zero_le _, by simp, Nat.zero_le _, rfl, ⟨_, J0⟩, S0⟩
  case round =>
    clear J0 S0
    obtain ⟨y, Y, hy, hY, hYN, rfl, ⟨vs, J⟩, S⟩ := hrel
    obtain ⟨q, d, rfl⟩ := J.form
    obtain ⟨_, _, hv, hown⟩ := J.own
    simp only [Value.slice.injEq] at hv
    obtain ⟨rfl, _, rfl⟩ := hv
    by_cases hlt : Y < N
    · have hyH : y < H := by
        rcases Nat.lt_or_ge y H with h | h
        · exact h
        · have h1 := Nat.mul_le_mul_right W h
          have h2 := Hl.out
          omega
      have hYW : Y + W ≤ N := by
        have h1 := Nat.mul_le_mul_right W (show y + 1 ≤ H from hyH)
        rw [Nat.add_mul, Nat.one_mul] at h1
        have h2 := Hl.out
        omega
      obtain ⟨b, o, rfl, hb, hc⟩ := (hr.below S.below (Nat.le_refl _)).at (k := Y) hlt
      have hrow : ∀ i, i < W → wr.cell? ⟨b, o + Y + i, none⟩ = some (intAt (rowL W (fun x => dd (Y + x))) i) := fun i hi => by
        rw [Nat.add_assoc, hc (Y + i) (by omega), intAt, intAt, rowL_at _ _ _ hi, Hdd.out _ (by omega)]
      have hR : Rd wr (some ⟨b, o + Y, none⟩) (rowL W (fun x => dd (Y + x))).length (intAt (rowL W (fun x => dd (Y + x)))) := by
        rw [rowL_len]
        exact .inr ⟨b, o + Y, rfl, hrow⟩
      have co := l00OwnI_any (some ⟨b, o + Y, none⟩) (c - Y) (rowL W (fun x => dd (Y + x))) wr (by rw [rowL_len]; exact hW0) (by rw [rowL_len]; omega) hR
      have hgs := gridL_succ W y dd
      rw [← hY] at hgs
      rw [rowL_len] at co
      have hY0 : (0 : Int) ≤ (Y : Int) := Int.natCast_nonneg _
      have hY1 : (Y : Int) < (N : Int) := by omega
      have hY2 : (Y : Int) + (W : Int) ≤ (c : Int) := by omega
      have hY3 : Y + W ≤ c := by omega
      have Co := Lib.hid co; clear co
      have Hgs := Lib.hid hgs; clear hgs
      have Hrow := Lib.hid hrow; clear hrow
      have HY := Lib.hid hY; clear hY
      have EN := Lib.hid eN; clear eN
      have Hc := Lib.hid hc; clear hc
      clear hR
      go_wp2_with fail
      with_reducible (refine Co.out.mono ?_)
      rintro e w1 ⟨v, rfl, O, hb1⟩
      obtain ⟨q2, d2, rfl⟩ := O.form
      have hsz := S.size
      have hown' := own_below hown hb1 (Nat.le_refl _)
      have hS1 := S.below.trans (hb1.mono hsz)
      have hsz1 := hS1.size
      have hgl : (gridL W y dd).length ≤ 16 := by rw [gridL_len]; omega
      clear Co
      go_wp2_with (at_builtin; refine wpList_push rfl _ _ 22 rfl w.heap.size 40 (.slice none 0 0) 1 24 Try.underlying22 info_ints rfl (by decide) (.slice q (gridL W y dd).length d) (gridL W y dd).length _ rfl hown' _ 1 rfl rfl (one_slice _ _ _) (by omega) (by simp [maxLen]; omega) hsz1 ?_; intro g' cap w2 hown2 hgr hat hlt2)
      have J2 := OwnIntss.push J hb1 O hsz hgr (at_cases hat) ⟨_, _, rfl⟩ hown2
      rw [← Hgs.out] at J2
      have S2 : Since w w2 := ⟨below_own hS1 hgr (own_ge hown') hsz1⟩
      have hY4 : Y + W = (y + 1) * W := by rw [Nat.add_mul, Nat.one_mul, HY.out]
      have HY4 := Lib.hid hY4; clear hY4
      clear hown hown' hown2 hgr O hb1
      go_roundw
      case rel => exact ⟨y + 1, Y + W, by omega, HY4.out, hYW, by go_num, ⟨_, J2⟩, S2⟩
      case measure => simp [intOf]; omega
    · obtain rfl : Y = N := by omega
      have hyH : y = H := by
        rcases Nat.lt_or_ge y H with h | h
        · have h1 := Nat.mul_le_mul_right W (show y + 1 ≤ H from h)
          rw [Nat.add_mul, Nat.one_mul] at h1
          have h2 := Hl.out
          omega
        · omega
      subst hyH
      have HY := Lib.hid hY; clear hY
      go_wp2
      go_ret
      exact ⟨_, rfl, ⟨vs, J⟩, S.below⟩
theorem OwnIntss.setG {B : Nat} {w : World} {v : Value} {L : List (List Int)} {vs : Nat → Value} (h : OwnIntss B w v L vs) {a : Addr} (ha : a.block < B) (u : Value) : OwnIntss B (w.setCell a u) v L vs := by
  obtain ⟨p, c, hv, ho⟩ := h.own
  refine ⟨⟨p, c, hv, own_set ho ha u⟩, fun i hi => ?_, h.apart, h.apart0⟩
  obtain ⟨p', c', hv', ho'⟩ := h.inner i hi
  exact ⟨p', c', hv', own_set ho' ha u⟩
/-- The numbers of rows, each taken from 99. -/
def invG (L : List (List Int)) : List (List Int) := if okG L 99 then gridL (L.getD 0 []).length L.length (fun i => 99 - L.flatten.getD i 0) else []
theorem okG_true {L : List (List Int)} {most : Int} (h : okG L most = true) : 1 ≤ L.length ∧ L.length ≤ 16 ∧ 1 ≤ (L.getD 0 []).length ∧ (L.getD 0 []).length ≤ 16 ∧ (∀ l ∈ L, l.length = (L.getD 0 []).length) ∧ ∀ l ∈ L, ∀ z ∈ l, 0 ≤ z ∧ z ≤ most := by
  simp only [okG, Bool.and_eq_true, List.all_eq_true, okRowG, decide_eq_true_eq] at h
  obtain ⟨h1, h2, h3⟩ := h
  have a := inB_true h1
  have b := inB_true h2
  exact ⟨by omega, by omega, by omega, by omega, fun l hl => (h3 l hl).1, fun l hl z hz => inB_true ((h3 l hl).2 z hz)⟩
theorem rd_row {B : Nat} {w : World} {p : Option Addr} {n c : Nat} {l : List Int} (h : OwnInts B w (.slice p n c) l) (h0 : 0 < l.length) : ∃ g m f, p = some ⟨g, 0, none⟩ ∧ B ≤ g ∧ l.length ≤ m ∧ w.rowIs g 2 m f ∧ ∀ i, i < l.length → f i = intAt l i := by
  have hr := h.rd
  rcases h.row.2 with e | ⟨g, m, f, hp, h1, h2, h3, h4⟩
  · subst e; simp at h0
  · refine ⟨g, m, f, hp, h1, h3, h4, fun i hi => ?_⟩
    obtain ⟨b, o, e, _, hc⟩ := hr.at hi
    rw [hp] at e
    cases e
    have e1 := h4.cell (i := i) (by omega)
    have e2 := hc i hi
    rw [Nat.zero_add, e1] at e2
    exact Option.some.inj e2
set_option maxRecDepth 100000 in
set_option maxHeartbeats 4000000 in
theorem sInvertGrey_any (p : Option Addr) (c : Nat) (L : List (List Int)) (w : World) (hn : L.length ≤ 1048576) (hi : ∀ l ∈ L, l.length ≤ 1048576) (hr : RdSS w p L) :
    Calls Try.prog 10 #[.agg #[.slice p L.length c]] w fun e w' => ∃ v, e = .returned (.tuple #[.agg #[v], .bool (okG L 99)]) ∧ OwnSS w.heap.size w' v (invG L) ∧ Below w.heap.size w w' := by
  have hy1 := bl_alloc w (.cells #[.slice p L.length c] 27)
  have hy2 := bl_alloc (w.alloc (.cells #[.slice p L.length c] 27)) (.cells #[.slice none 0 0] 27)
  have S := ((Since.refl w).bl hy1).bl hy2
  have A := (Box.new w (.slice p L.length c) 27).bl hy2
  have B := Box.new (w.alloc (.cells #[.slice p L.length c] 27)) (.slice none 0 0) 27
  have R := (hr.bl hy1).bl hy2
  simp only [World.size_alloc] at B
  have ci := l07Is_any w.heap.size p c L _ hn hi A.cell R
  cases hok : okG L 99
  · have hv : invG L = [] := by simp [invG, hok]
    rw [hv]
    rw [hok] at ci
    have Ci := Lib.hid ci; clear ci
    have Hok := Lib.hid hok; clear hok
    have Hv := Lib.hid hv; clear hv
    clear hr hy1 hy2
    go_enter Try.func10, Try.ntmps10
    go_wp2_with fail
    with_reducible (refine Ci.out.mono ?_)
    rintro e w1 ⟨rfl, hb⟩
    replace S := S.bl hb
    replace B := B.bl hb
    clear hb R A
    have b0 := B.cell
    have b1 := B.frozen
    have b2 := (B.set (.slice none 0 0)).cell
    have S2 := S.setG (show w.heap.size ≤ w.heap.size + 1 by omega) (p := ⟨w.heap.size + 1, 0, none⟩) (.slice none 0 0)
    go_wp2
    refine bodyPost_ret (v := .tuple #[.agg #[.slice none 0 0], .bool false]) (by simp [results, Try.results10, go_sem, b2]) rfl ⟨_, rfl, ⟨_, OwnIntss.nil _ _⟩, S2.below⟩
  · obtain ⟨o1, o2, o3, o4, o5, o6⟩ := okG_true hok
    have hv : invG L = gridL (L.getD 0 []).length L.length (fun i => 99 - L.flatten.getD i 0) := by rw [invG, if_pos hok]
    have hfl := flat_len o5
    have hfb : ∀ i, i < L.flatten.length → 0 ≤ L.flatten.getD i 0 ∧ L.flatten.getD i 0 ≤ 99 := fun i hi => by
      have hm : L.flatten.getD i 0 ∈ L.flatten := getD_memG hi
      obtain ⟨l, hl, hz⟩ := List.mem_flatten.1 hm
      exact o6 l hl _ hz
    have cl := fun w h => l07List_any p c (L.getD 0 []).length L w o3 o4 o2 o5 h
    have cw := fun w' h1 h2 => l07Width_any w.heap.size p c L w' o1 hn hi h1 h2
    obtain ⟨W, eW⟩ : ∃ W, (L.getD 0 []).length = W := ⟨_, rfl⟩
    rw [eW] at hv hfl o3 o4 o5
    rw [hv]
    rw [hok] at ci
    simp only [eW] at cl cw
    obtain ⟨fl, efl⟩ : ∃ fl, L.flatten = fl := ⟨_, rfl⟩
    simp only [efl] at hfl hfb cl ⊢
    have hm : L.length * W ≤ 256 := Nat.le_trans (Nat.mul_le_mul o2 o4) (by omega)
    have hN0 : 0 < fl.length := by rw [hfl]; exact Nat.mul_pos o1 o3
    have hN1 : fl.length ≤ 256 := by omega
    obtain ⟨gL, egL⟩ : ∃ gL, (gridL W L.length fun i => 99 - fl.getD i 0) = gL := ⟨_, rfl⟩
    rw [egL]
    have cr := fun p c l w h1 h2 h3 h4 => l07Rows_any p c W L.length l w o3 o4 o2 h1 h2 h3 h4
    have Ci := Lib.hid ci; clear ci
    have Hok := Lib.hid hok; clear hok
    have Hv := Lib.hid hv; clear hv
    have Hfl := Lib.hid hfl; clear hfl
    have Hfb := Lib.hid hfb; clear hfb
    have Cl := Lib.hid cl; clear cl
    have Cw := Lib.hid cw; clear cw
    have O5 := Lib.hid o5; clear o5
    have O6 := Lib.hid o6; clear o6
    have Cr := Lib.hid cr; clear cr
    have EW := Lib.hid eW; clear eW
    have Efl := Lib.hid efl; clear efl
    have Hm := Lib.hid hm; clear hm
    have Hi := Lib.hid hi; clear hi
    have EgL := Lib.hid egL; clear egL
    clear hr hy1 hy2
    go_enter Try.func10, Try.ntmps10
    go_wp2_with fail
    with_reducible (refine Ci.out.mono ?_)
    rintro e w1 ⟨rfl, hb⟩
    replace S := S.bl hb
    replace R := R.bl hb
    replace A := A.bl hb
    replace B := B.bl hb
    clear hb Ci
    have a0 := A.cell
    go_wp2_with fail
    with_reducible (refine (Cl.out _ R).mono ?_)
    rintro e w2 ⟨v, rfl, O, hb2⟩
    clear a0 Cl
    obtain ⟨q, d, rfl⟩ := O.form
    obtain ⟨hd1, hd2⟩ := O.cap
    obtain ⟨g, m, f, rfl, hg, hm1, hrow, hf⟩ := rd_row O hN0
    clear O
    have T0 : Since w1 w2 := ⟨hb2⟩
    clear hb2
    go_wp2_with fail
    go_loopw [14] (fun i wr => ∃ k : Nat, k ≤ fl.length ∧ i = .int .i64 k ∧ wr.rowIs g 2 m (fun i => if i < k then .int .i64 (99 - fl.getD i 0) else f i) ∧ Since w1 wr) (fun i _ => fl.length - (intOf i).toNat)
    case atStart => exact ⟨0, Nat.zero_le _, rfl, hrow.congr (fun i _ => by simp), T0⟩
    case round =>
      clear hrow T0
      obtain ⟨k, hk, rfl, hrow, T⟩ := hrel
      by_cases hlt : k < fl.length
      · have hc := hrow.cell (i := k) (by omega)
        rw [if_neg (by omega), hf k hlt, intAt] at hc
        have hfz := hrow.frozen k
        have hbd := Hfb.out k hlt
        have r1 : (wr.setCell ⟨g, k, none⟩ (.int .i64 (99 - fl.getD k 0))).rowIs g 2 m (fun i => if i < k + 1 then .int .i64 (99 - fl.getD i 0) else f i) := (hrow.set k (.int .i64 (99 - fl.getD k 0))).congr (fun i _ => by
          by_cases e : i = k
          · subst e; simp
          · by_cases l : i < k
            · simp [e, l, show i < k + 1 by omega]
            · simp [e, l, show ¬ i < k + 1 by omega])
        have t1 : Since w1 (wr.setCell ⟨g, k, none⟩ (.int .i64 (99 - fl.getD k 0))) := T.setG (show w1.heap.size ≤ g from hg) _
        have hk0 : (0 : Int) ≤ (k : Int) := Int.natCast_nonneg _
        have hk1 : (k : Int) < (fl.length : Int) := by omega
        have R1 := Lib.hid r1; clear r1
        obtain ⟨z, ez⟩ : ∃ z, fl.getD k 0 = z := ⟨_, rfl⟩
        rw [ez] at hc hbd t1
        have r2 := R1.out
        rw [ez] at r2
        obtain ⟨hbd1, hbd2⟩ := hbd
        have R2 := Lib.hid r2; clear r2
        have T1 := Lib.hid t1; clear t1
        have Ez := Lib.hid ez; clear ez
        clear hrow T R1
        go_wp2
        go_roundw
        case rel => exact ⟨k + 1, by omega, by go_num, R2.out, T1.out⟩
        case measure => simp [intOf]; omega
      · obtain rfl : k = fl.length := by omega
        have R1 := R.bl T.below
        have A1 := A.bl T.below
        have B1 := B.bl T.below
        have S1 := S.bl T.below
        have a0 := A1.cell
        have c2 := Cw.out _ a0 R1
        have hrd : Rd wr (some ⟨g, 0, none⟩) (fl.map fun z => 99 - z).length (intAt (fl.map fun z => 99 - z)) := by
          rw [List.length_map]
          refine (Rd.of_row hrow (by omega)).congr (fun i hi => ?_)
          rw [if_pos hi, intAt]
          simp [List.getD, hi]
        have c3 := Cr.out (some ⟨g, 0, none⟩) d _ wr (by rw [List.length_map]; exact Hfl.out) (by rw [List.length_map]; exact hd1) hd2 hrd (fun i => 99 - fl.getD i 0) (fun i hi => by
          rw [List.length_map] at hi
          simp [List.getD, hi])
        rw [List.length_map, EgL.out] at c3
        have C2 := Lib.hid c2; clear c2
        have C3 := Lib.hid c3; clear c3
        clear hrow hrd hf R A B R1 A1 S Cr Cw
        go_wp2_with fail
        with_reducible (refine C2.out.mono ?_)
        rintro e w3 ⟨rfl, rfl⟩
        go_wp2_with fail
        with_reducible (refine C3.out.mono ?_)
        rintro e w4 ⟨v, rfl, ⟨vs, O⟩, hb⟩
        have hlt1 := B1.lt
        have hs1 := S1.size
        replace B1 := B1.bl hb
        replace S1 := S1.bl hb
        clear hb C2 C3 a0
        obtain ⟨q2, d2, rfl⟩ := O.form
        have b0 := B1.cell
        have b1 := B1.frozen
        have b2 := (B1.set (.slice q2 gL.length d2)).cell
        have o7 := OwnIntss.setG O (a := ⟨w.heap.size + 1, 0, none⟩) hlt1 (.slice q2 gL.length d2)
        have s2 := S1.setG (show w.heap.size ≤ w.heap.size + 1 by omega) (p := ⟨w.heap.size + 1, 0, none⟩) (.slice q2 gL.length d2)
        have O7 := Lib.hid o7; clear o7
        have S2 := Lib.hid s2; clear s2
        clear O S1 B1
        go_wp2
        refine bodyPost_ret (v := .tuple #[.agg #[.slice q2 gL.length d2], .bool true]) (by simp [results, Try.results10, go_sem, b2]) rfl ⟨_, rfl, ⟨_, O7.out.mono (by omega)⟩, S2.out.below⟩
end Go.Proofs.Ytedgjcmimdblgaa
