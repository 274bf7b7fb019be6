/- Contracts of the mirrored element, the reference's and the program's. -/
import Derived.Test.YtheakjbbfdcbaaaElemPut
import Derived.Test.YtheakjbbfdcbaaaElemSq
set_option linter.unusedVariables false
set_option linter.unusedSimpArgs false
namespace Go.Proofs.Ytheakjbbfdcbaaa
open Go.RowKit

def negS (s : Int × Int) : Int × Int := (-s.1, -s.2)
/-- What the reference has after i offsets. -/
def mirN (l : List (Int × Int)) : Nat → List (Int × Int)
  | 0 => []
  | i + 1 => putS (mirN l i) (negS (l.getD i (0, 0)))
def mirL (l : List (Int × Int)) : List (Int × Int) := (l.map negS).reverse
theorem befB_neg {a b : Int × Int} (h : befB a b = true) : befB (negS b) (negS a) = true := by
  rw [befB_iff] at *
  simp only [negS]
  omega
theorem putS_front {m : List (Int × Int)} {o : Int × Int} (h : ∀ a r, m = a :: r → befB o a = true) : putS m o = o :: m := by
  cases m with
  | nil => simp [putS, befN]
  | cons a r =>
    have h1 := h a r rfl
    have h2 : befB a o = false := by rw [befB_no]; rw [befB_iff] at h1; omega
    have h3 : befN o (a :: r) = 0 := by simp [befN, h2]
    have h4 : ¬ a = o := by
      rintro rfl
      rw [h1] at h2
      cases h2
    rw [putS, h3]
    simp [h4]
theorem mirN_eq {l : List (Int × Int)} (hr : Rising l) : ∀ i, i ≤ l.length → mirN l i = ((l.take i).map negS).reverse
  | 0, _ => by simp [mirN]
  | i + 1, hi => by
    rw [mirN, mirN_eq hr i (by omega)]
    have e1 : l.getD i (0, 0) = l[i] := by simp [List.getD, List.getElem?_eq_getElem (show i < l.length by omega)]
    have e2 : l.take (i + 1) = l.take i ++ [l[i]] := by rw [List.take_succ_eq_append_getElem (by omega)]
    rw [e1, e2, List.map_append, List.reverse_append, putS_front]
    · rfl
    · intro a r he
      have ha : a ∈ ((l.take i).map negS).reverse := by rw [he]; simp
      rw [List.mem_reverse, List.mem_map] at ha
      obtain ⟨b, hb, rfl⟩ := ha
      obtain ⟨j, hj, rfl⟩ := List.getElem_of_mem hb
      rw [List.length_take] at hj
      rw [List.getElem_take]
      exact befB_neg (List.pairwise_iff_getElem.1 hr j i (by omega) (by omega) (by omega))
theorem mir_rising {l : List (Int × Int)} (hr : Rising l) : Rising (mirL l) := by
  unfold Rising mirL
  rw [List.pairwise_reverse, List.pairwise_map]
  exact hr.imp fun {a b} h => befB_neg h
theorem mir_srt {l : List (Int × Int)} (hr : Rising l) : srtL (l.map negS) = mirL l :=
  srt_of_perm (List.reverse_perm _).symm (mir_rising hr)
theorem okEl_in {l : List (Int × Int)} (h : okEl l = true) : (∀ s ∈ l, (-4 ≤ s.1 ∧ s.1 ≤ 4) ∧ (-4 ≤ s.2 ∧ s.2 ≤ 4)) ∧ 1 ≤ l.length ∧ l.length ≤ 50 := by
  simp only [okEl, Bool.and_eq_true, List.all_eq_true] at h
  refine ⟨fun s hs => ?_, ?_⟩
  · obtain ⟨i, hi, rfl⟩ := List.getElem_of_mem hs
    have := h.1 i (List.mem_range.2 hi)
    simp only [elB, Bool.and_eq_true, inB, decide_eq_true_eq] at this
    have e1 : l.getD i (0, 0) = l[i] := by simp [List.getD, List.getElem?_eq_getElem hi]
    rw [e1] at this
    exact ⟨this.1.1, this.1.2⟩
  · have := h.2
    simp only [inB, Bool.and_eq_true, decide_eq_true_eq] at this
    omega
theorem okEl_of {l : List (Int × Int)} (hr : Rising l) (hi : ∀ s ∈ l, (-4 ≤ s.1 ∧ s.1 ≤ 4) ∧ (-4 ≤ s.2 ∧ s.2 ≤ 4)) (h1 : 1 ≤ l.length) (h2 : l.length ≤ 50) : okEl l = true := by
  simp only [okEl, Bool.and_eq_true, List.all_eq_true]
  refine ⟨fun i hi' => ?_, by simp [inB]; omega⟩
  have hl := List.mem_range.1 hi'
  have e1 : l.getD i (0, 0) = l[i] := by simp [List.getD, List.getElem?_eq_getElem hl]
  have h3 := hi _ (List.getElem_mem hl)
  simp only [elB, e1, Bool.and_eq_true, Bool.or_eq_true, decide_eq_true_eq, inB]
  refine ⟨⟨h3.1, h3.2⟩, ?_⟩
  by_cases h0 : i = 0
  · exact .inl h0
  · have e2 : l.getD (i - 1) (0, 0) = l[i - 1] := by simp [List.getD, List.getElem?_eq_getElem (show i - 1 < l.length by omega)]
    rw [e2]
    exact .inr (List.pairwise_iff_getElem.1 hr (i - 1) i (by omega) hl (by omega))
theorem mir_ok {l : List (Int × Int)} (h : okEl l = true) : okEl (mirL l) = true := by
  obtain ⟨h1, h2, h3⟩ := okEl_in h
  refine okEl_of (mir_rising (okEl_rising h)) (fun s hs => ?_) (by simp [mirL]; omega) (by simp [mirL]; omega)
  simp only [mirL, List.mem_reverse, List.mem_map] at hs
  obtain ⟨t, ht, rfl⟩ := hs
  have := h1 t ht
  simp only [negS]
  omega
def mirR (l : List (Int × Int)) : List (Int × Int) := if okEl l then mirL l else []
theorem mirR_len (l : List (Int × Int)) : (mirR l).length ≤ 1048576 := by
  unfold mirR
  split
  · rename_i h
    have := (okEl_in h).2.2
    simp [mirL]
    omega
  · simp
theorem ElRel.mk0 {w w1 : World} {r : Nat} (h : Box w1 r (.slice none 0 0) 28) (hs : Since w w1) (hr : w.heap.size ≤ r) :
    ElRel [] r (w1.heap.size + 1) w ((w1.alloc (.cells #[] 45)).alloc (.cells #[.slice (some ⟨w1.heap.size, 0, none⟩) 0 0] 28)) (some ⟨w1.heap.size, 0, none⟩) 0 := by
  have h0 := h.lt
  have h1 := World.ownsRow_made (base := r + 1) (e := 45) (size := 2) w1 #[] 0 (by omega) (by decide) rfl
  have h2 := Box.new (w1.alloc (.cells #[] 45)) (.slice (some ⟨w1.heap.size, 0, none⟩) 0 0) 28
  rw [World.size_alloc] at h2
  exact ⟨h2, own_below h1 (bl_alloc _ _) (Nat.le_refl _), by simp [Value.ownBlock], (h.alloc _).alloc _, by omega, hr, (hs.alloc _).alloc _⟩
theorem mirN_len (l : List (Int × Int)) (hr : Rising l) (i : Nat) (hi : i ≤ l.length) : (mirN l i).length = i := by
  rw [mirN_eq hr i hi]
  simp
  omega
theorem ElRel.put {m m' : List (Int × Int)} {r eb g c g' c' : Nat} {w wr w2 : World} (h : ElRel m r eb w wr (some ⟨g, 0, none⟩) c) (O : OwnSpots (r + 1) w2 (.slice (some ⟨g', 0, none⟩) m'.length c') m') (hgr : wr.grownBy w2 (some g)) (hg : g' = g ∨ wr.heap.size ≤ g') :
    ElRel m' r eb w (w2.setCell ⟨eb, 0, none⟩ (.slice (some ⟨g', 0, none⟩) m'.length c')) (some ⟨g', 0, none⟩) c' := by
  have hlb := h.box.lt
  have hne : ¬ eb = g := fun e => h.ne (by rw [e]; rfl)
  have hge : ¬ eb = g' := by omega
  have hrg := h.ge
  have hrl := h.lt
  have hgb : r + 1 ≤ g := own_ge h.own g rfl
  obtain ⟨p', d', hv, ho⟩ := O
  refine ⟨(h.box.grown hgr (by intro e; cases e; omega)).set _, own_other ho (by simp [Value.ownBlock]; omega) _, by simp [Value.ownBlock]; omega, (h.res.grown hgr (by intro e; cases e; omega)).other (a := ⟨eb, 0, none⟩) (by simp; omega) _, h.lt, h.ge, ?_⟩
  exact Since.setS ⟨below_grown h.since.below hgr h.since.size (by omega)⟩ (by simp; omega) _
theorem Rd.setS {w : World} {p : Option Addr} {m : Nat} {f : Nat → Value} (h : Rd w p m f) {a : Addr} (ha : ∀ b o, p = some ⟨b, o, none⟩ → b ≠ a.block) (v : Value) : Rd (w.setCell a v) p m f := by
  rcases h with h | ⟨b, o, hp, hc⟩
  · exact .inl h
  · exact .inr ⟨b, o, hp, fun i hi => (World.cell?_setCell_other _ _ _ _ (fun e => ha b o hp (by rw [e]))).trans (hc i hi)⟩
set_option maxRecDepth 100000 in
set_option maxHeartbeats 8000000 in
theorem sMirror_any (p : Option Addr) (c : Nat) (l : List (Int × Int)) (w : World) (hn : l.length ≤ 1048576) (hr : Rd w p (l.length * 2) (spotAt l)) :
    Calls Try.prog 29 #[.agg #[.slice p l.length c]] w fun e w' => ∃ v, e = .returned (.tuple #[.agg #[v], .bool (okEl l)]) ∧ OwnSpots w.heap.size w' v (mirR l) ∧ Below w.heap.size w w' := by
  have S := ((Since.refl w).alloc (.cells #[.slice p l.length c] 28)).alloc (.cells #[.slice none 0 0] 28)
  have A0 := (Box.new w (.slice p l.length c) 28).alloc (.cells #[.slice none 0 0] 28)
  have B0 := Box.new (w.alloc (.cells #[.slice p l.length c] 28)) (.slice none 0 0) 28
  have D0 := (hr.alloc (.cells #[.slice p l.length c] 28)).alloc (.cells #[.slice none 0 0] 28)
  rw [World.size_alloc] at B0
  have c0 := fun w' hA hR => l03Is_any w.heap.size p c l w' hn hA hR
  cases hok : okEl l
  · have hR : mirR l = [] := by simp [mirR, hok]
    rw [hR]
    rw [hok] at c0
    have c1 := c0 _ A0.cell D0
    have C1 := Lib.hid c1; clear c1
    have Hok := Lib.hid hok; clear hok
    have HR := Lib.hid hR; clear hR
    clear c0
    go_enter Try.func29, Try.ntmps29
    go_wp2_with fail
    refine C1.out.mono ?_
    rintro e w1 ⟨rfl, hb⟩
    replace S := S.bl hb
    have B1 := B0.bl hb
    have f0 := B1.frozen
    have f1 := B1.cell
    have e0 := (B1.set (.slice none 0 0)).cell
    go_wp2
    exact bodyPost_ret (v := .tuple #[.agg #[.slice none 0 0], .bool false]) (by simp [results, Try.results29, go_sem, e0]) rfl ⟨_, rfl, OwnSpots.nil _ _, by first | exact S.below | exact S.below.setCell (by simp) _⟩
  · have hR : mirR l = mirN l l.length := by rw [mirR, if_pos hok, mirN_eq (okEl_rising hok) _ (Nat.le_refl _), List.take_of_length_le (Nat.le_refl _)]; rfl
    rw [hR]
    rw [hok] at c0
    have c1 := c0 _ A0.cell D0
    obtain ⟨hin, hl1, hl2⟩ := okEl_in hok
    have hml := fun i hi => mirN_len l (okEl_rising hok) i hi
    have hms : ∀ i, mirN l (i + 1) = putS (mirN l i) (negS (l.getD i (0, 0))) := fun i => rfl
    have C1 := Lib.hid c1; clear c1
    have Hok := Lib.hid hok; clear hok
    have HR := Lib.hid hR; clear hR
    have Hin := Lib.hid hin; clear hin
    have Hml := Lib.hid hml; clear hml
    have Hms := Lib.hid hms; clear hms
    clear c0
    go_enter Try.func29, Try.ntmps29
    go_wp2_with fail
    refine C1.out.mono ?_
    rintro e w1 ⟨rfl, hb⟩
    replace S := S.bl hb
    have B1 := B0.bl hb
    have A1 := A0.bl hb
    have D1 := D0.bl hb
    have r0 := ElRel.mk0 B1 S (by omega)
    have hbase : ∀ b o, p = some ⟨b, o, none⟩ → b < w.heap.size := by
      intro b o e
      rcases hr with h | ⟨b', o', hq, hc⟩
      · omega
      · rw [hq] at e
        simp only [Option.some.injEq, Addr.mk.injEq] at e
        have : b' < w.heap.size := World.block_lt_of_cell? _ _ (hc 0 (by omega))
        omega
    have A2 := (A1.alloc (.cells #[] 45)).alloc (.cells #[.slice (some ⟨w1.heap.size, 0, none⟩) 0 0] 28)
    have D2 := (D1.alloc (.cells #[] 45)).alloc (.cells #[.slice (some ⟨w1.heap.size, 0, none⟩) 0 0] 28)
    have R0 := Lib.hid r0; clear r0
    clear B1 A1 D1 D0 A0 B0 hb C1 S
    go_wp2
    generalize w1.heap.size + 1 = eb at *
    go_loopw [5] (fun i wr => ∃ k : Nat, k ≤ l.length ∧ i = .int .i64 k ∧ Box wr w.heap.size (.slice p l.length c) 28 ∧ Rd wr p (l.length * 2) (spotAt l) ∧ ∃ g d, ElRel (mirN l k) (w.heap.size + 1) eb w wr (some ⟨g, 0, none⟩) d) (fun i _ => l.length - (intOf i).toNat)
    case atStart => exact ⟨0, Nat.zero_le _, rfl, A2, D2, _, _, R0.out⟩
    case round =>
      clear R0 A2 D2
      obtain ⟨k, hk, rfl, A, R, g, d, rr⟩ := hrel
      have a0 := A.cell
      by_cases hlt : k < l.length
      · obtain ⟨b, o, rfl, hbl, hc⟩ := R.at (k := k * 2) (by omega)
        have b0 := hc (k * 2) (by omega)
        have b1 := hc (k * 2 + 1) (by omega)
        rw [spotAt_x] at b0
        rw [spotAt_y, ← Nat.add_assoc] at b1
        clear hc
        have hbw : b < w.heap.size := hbase b o rfl
        have hrg := Hin.out (l.getD k (0, 0)) (by simp [List.getD, List.getElem?_eq_getElem hlt])
        have hml1 := Hml.out k hk
        have hms1 := Hms.out k
        obtain ⟨⟨u, v⟩, eu⟩ : ∃ s, l.getD k (0, 0) = s := ⟨_, rfl⟩
        rw [eu] at b0 b1 hrg hms1
        obtain ⟨⟨hu1, hu2⟩, hv1, hv2⟩ := hrg
        dsimp only at b0 b1 hu1 hu2 hv1 hv2
        have hw1 : IntKind.i64.wrap (-u) = -u := IntWalk.i64_in _ (by omega)
        have hw2 : IntKind.i64.wrap (-v) = -v := IntWalk.i64_in _ (by omega)
        have hk0 : (0 : Int) ≤ (k : Int) := Int.natCast_nonneg _
        have hk2 : (k : Int) < (l.length : Int) := by omega
        obtain ⟨M, eM⟩ : ∃ M, mirN l k = M := ⟨_, rfl⟩
        rw [eM] at hml1 hms1 rr
        have rd := rr.bl (bl_drew wr)
        have hgB : w.heap.size + 1 + 1 ≤ wr.drew.heap.size := by have := rd.res.lt; omega
        have cp := l03Put_any (w.heap.size + 1 + 1) g d M (-u) (-v) wr.drew (by omega) ⟨_, _, rfl, rd.own⟩ hgB
        have f1 := rr.box.cell
        have hbx := fun w2 h2 => (rd.box.grown (w' := w2) h2 rd.ne)
        have hput := fun w2 g' c' h1 h2 h3 => rd.put (w2 := w2) (m' := putS M (-u, -v)) (g' := g') (c' := c') h1 h2 h3
        have hms2 : mirN l (k + 1) = putS M (-u, -v) := hms1
        obtain ⟨N, eN⟩ : ∃ N, putS M (-u, -v) = N := ⟨_, rfl⟩
        rw [eN] at cp hput hms2
        rw [hml1] at cp f1 hbx
        have ha2 := fun w2 h2 h3 => ((A.bl (bl_drew wr)).grown (w' := w2) (r := some g) h2 h3)
        have hAg : ¬ w.heap.size = g := by have := own_ge rr.own g rfl; omega
        have hbg : Rd wr.drew (some ⟨b, o, none⟩) (l.length * 2) (spotAt l) := R.bl (bl_drew wr)
        have Hbw := Lib.hid hbw; clear hbw
        have Rr := Lib.hid rr; clear rr
        have Rd := Lib.hid rd; clear rd
        have Hput := Lib.hid hput; clear hput
        have Hms1 := Lib.hid hms1; clear hms1
        have Hms2 := Lib.hid hms2; clear hms2
        have EN := Lib.hid eN; clear eN
        have EM := Lib.hid eM; clear eM
        have Hml1 := Lib.hid hml1; clear hml1
        have Hbx := Lib.hid hbx; clear hbx
        have Cp := Lib.hid cp; clear cp
        have Ha2 := Lib.hid ha2; clear ha2
        have Eu := Lib.hid eu; clear eu
        have Hbg := Lib.hid hbg; clear hbg
        go_upto_region 7 with (fail)
        have hbb : ¬ b = g := by have := own_ge Rr.out.own g rfl; have := Hbw.out; omega
        have hbe : ¬ b = eb := by have := Rr.out.lt; have := Hbw.out; omega
        have hwe : ¬ w.heap.size = eb := by have := Rr.out.lt; omega
        have n1 : some w.heap.size ≠ (some g : Option Nat) := by intro e; cases e; exact hAg rfl
        have n2 : some b ≠ (some g : Option Nat) := by intro e; cases e; exact hbb rfl
        have N1 := Lib.hid n1; clear n1
        have N2 := Lib.hid n2; clear n2
        go_region_with (go_at_call 61; refine Cp.out.mono ?_; rintro e w3 ⟨g', c', rfl, O3, hgr, hg'⟩; have b3 := Hbx.out w3 hgr; have f2 := b3.cell; have f3 := b3.frozen)
        all_goals
          have A3 := (Ha2.out w3 hgr N1.out).other (a := ⟨eb, 0, none⟩) (by simp; omega) (.slice (some ⟨g', 0, none⟩) N.length c')
          have D3 := ((Hbg.out).grown hgr (by intro b' o' e; cases e; exact N2.out)).setS (a := ⟨eb, 0, none⟩) (by intro b' o' e; cases e; simp; omega) (.slice (some ⟨g', 0, none⟩) N.length c')
          have hr3 := Hput.out w3 g' c' O3 hgr hg'
          have Hr3 := Lib.hid hr3; clear hr3
          go_wp2
          go_roundw
          case rel => exact ⟨k + 1, by omega, by go_num, A3, D3, g', c', by rw [Hms2.out]; exact Hr3.out⟩
          case measure => simp [intOf]; omega
      · obtain rfl : k = l.length := by omega
        have hL := Hml.out _ (Nat.le_refl _)
        obtain ⟨M, eM⟩ : ∃ M, mirN l l.length = M := ⟨_, rfl⟩
        rw [eM] at rr hL
        have f1 := rr.box.cell
        have f2 := rr.res.cell
        have f3 := rr.res.frozen
        have e0 := (rr.res.set (.slice (some ⟨g, 0, none⟩) M.length d)).cell
        have O4 : OwnSpots w.heap.size (wr.setCell ⟨w.heap.size + 1, 0, none⟩ (.slice (some ⟨g, 0, none⟩) M.length d)) (.slice (some ⟨g, 0, none⟩) M.length d) M :=
          ⟨_, _, rfl, own_mono (own_other rr.own (fun e => by have h9 : w.heap.size + 1 + 1 ≤ w.heap.size + 1 := own_ge rr.own _ e.symm; omega) _) (by omega)⟩
        have S2 := rr.since.setS (p := ⟨w.heap.size + 1, 0, none⟩) (by simp) (.slice (some ⟨g, 0, none⟩) M.length d)
        have Rr := Lib.hid rr; clear rr
        have EM := Lib.hid eM; clear eM
        have HL := Lib.hid hL; clear hL
        go_wp2
        exact bodyPost_ret (v := .tuple #[.agg #[.slice (some ⟨g, 0, none⟩) M.length d], .bool true]) (by simp [results, Try.results29, go_sem, e0]) rfl ⟨_, rfl, by rw [EM.out]; exact O4, S2.below⟩
end Go.Proofs.Ytheakjbbfdcbaaa
