/- Contract of the mirrored element, the program's. -/
import Derived.Test.YtheakjbbfdcbaaaElemMir
set_option linter.unusedVariables false
set_option linter.unusedSimpArgs false
namespace Go.Proofs.Ytheakjbbfdcbaaa
open Go.RowKit

/-- What the program has after i offsets. -/
def negT (l : List (Int × Int)) (i : Nat) : List (Int × Int) := (l.take i).map negS
theorem negT_len {l : List (Int × Int)} {i : Nat} (h : i ≤ l.length) : (negT l i).length = i := by simp [negT]; omega
theorem negT_succ {l : List (Int × Int)} {i : Nat} (h : i < l.length) : negT l (i + 1) = negT l i ++ [negS (l.getD i (0, 0))] := by
  have e1 : l.getD i (0, 0) = l[i] := by simp [List.getD, List.getElem?_eq_getElem h]
  rw [negT, List.take_succ_eq_append_getElem h, List.map_append, e1]
  rfl
theorem negT_all (l : List (Int × Int)) : negT l l.length = l.map negS := by rw [negT, List.take_of_length_le (Nat.le_refl _)]
set_option maxRecDepth 100000 in
set_option maxHeartbeats 8000000 in
theorem mirror_any (p : Option Addr) (c : Nat) (l : List (Int × Int)) (w : World) (hn : l.length ≤ 1048576) (hr : Rd w p (l.length * 2) (spotAt l)) :
    Calls Try.prog 30 #[.agg #[.slice p l.length c]] w fun e w' => ∃ v, e = .returned (.tuple #[.agg #[v], .bool (okEl l)]) ∧ OwnSpots w.heap.size w' v (mirR l) ∧ Below w.heap.size w w' := by
  have S := ((Since.refl w).alloc (.cells #[.slice p l.length c] 28)).alloc (.cells #[.slice none 0 0] 28)
  have A0 := (Box.new w (.slice p l.length c) 28).alloc (.cells #[.slice none 0 0] 28)
  have B0 := Box.new (w.alloc (.cells #[.slice p l.length c] 28)) (.slice none 0 0) 28
  have D0 := (hr.alloc (.cells #[.slice p l.length c] 28)).alloc (.cells #[.slice none 0 0] 28)
  rw [World.size_alloc] at B0
  have c0 := validElement_any p c l _ hn D0
  cases hok : okEl l
  · have hR : mirR l = [] := by simp [mirR, hok]
    rw [hR]
    rw [hok] at c0
    have C0 := Lib.hid c0; clear c0
    have Hok := Lib.hid hok; clear hok
    have HR := Lib.hid hR; clear hR
    go_enter Try.func30, Try.ntmps30
    go_wp2_with fail
    refine C0.out.mono ?_
    rintro e w1 ⟨rfl, hb⟩
    replace S := S.bl hb
    have B1 := B0.bl hb
    have f0 := B1.frozen
    have f1 := B1.cell
    have e0 := (B1.set (.slice none 0 0)).cell
    go_wp2
    exact bodyPost_ret (v := .tuple #[.agg #[.slice none 0 0], .bool false]) (by simp [results, Try.results30, go_sem, e0]) rfl ⟨_, rfl, OwnSpots.nil _ _, by first | exact S.below | exact S.below.setCell (by simp) _⟩
  · rw [hok] at c0
    have hR : mirR l = mirL l := by rw [mirR, if_pos hok]
    rw [hR]
    obtain ⟨hin, hl1, hl2⟩ := okEl_in hok
    have hsrt := mir_srt (okEl_rising hok)
    have hmok := mir_ok hok
    obtain ⟨M, eM⟩ : ∃ M, mirL l = M := ⟨_, rfl⟩
    rw [eM] at hsrt hmok ⊢
    have hbase : ∀ b o, p = some ⟨b, o, none⟩ → b < w.heap.size := by
      intro b o e
      rcases hr with h | ⟨b', o', hq, hc⟩
      · omega
      · rw [hq] at e
        simp only [Option.some.injEq, Addr.mk.injEq] at e
        have : b' < w.heap.size := World.block_lt_of_cell? _ _ (hc 0 (by omega))
        omega
    have C0 := Lib.hid c0; clear c0
    have Hok := Lib.hid hok; clear hok
    have HR := Lib.hid hR; clear hR
    have Hin := Lib.hid hin; clear hin
    have Hsrt := Lib.hid hsrt; clear hsrt
    have Hmok := Lib.hid hmok; clear hmok
    have EM := Lib.hid eM; clear eM
    go_enter Try.func30, Try.ntmps30
    go_wp2_with fail
    refine C0.out.mono ?_
    rintro e w1 ⟨rfl, hb⟩
    replace S := S.bl hb
    have B1 := B0.bl hb
    have A1 := A0.bl hb
    have D1 := D0.bl hb
    have hw1 : w.heap.size + 1 + 1 ≤ w1.heap.size := by have := hb.size; simpa using this
    have O1 : OwnSpots w1.heap.size (w1.alloc (.cells #[] 45)) (.slice (some ⟨w1.heap.size, 0, none⟩) 0 0) (negT l 0) := ⟨_, _, rfl, World.ownsRow_made w1 #[] 0 (Nat.le_refl _) (by decide) rfl⟩
    have A2 := A1.alloc (.cells #[] 45)
    have B2 := B1.alloc (.cells #[] 45)
    have D2 := D1.alloc (.cells #[] 45)
    have S2 := S.alloc (.cells #[] 45)
    have a0 := A2.cell
    clear A1 B1 D1 A0 B0 D0 hb C0 S
    go_wp2
    clear a0 A2
    generalize w1.heap.size = gb at *
    go_loopw [4, 15] (fun v i wr => ∃ k : Nat, k ≤ l.length ∧ i = .int .i64 k ∧ OwnSpots gb wr v (negT l k) ∧ Box wr (w.heap.size + 1) (.slice none 0 0) 28 ∧ Rd wr p (l.length * 2) (spotAt l) ∧ Since w wr ∧ gb ≤ wr.heap.size) (fun _ i _ => l.length - (intOf i).toNat)
    case atStart => exact ⟨0, Nat.zero_le _, rfl, O1, B2, D2, S2, by have := (O1.ge _ rfl); omega⟩
    case round =>
      clear O1 B2 D2 S2
      obtain ⟨k, hk, rfl, O, B, D, S, hgw⟩ := hrel
      by_cases hlt : k < l.length
      · obtain ⟨b, o, rfl, hbl, hc⟩ := D.at (k := k * 2) (by omega)
        have b0 := hc (k * 2) (by omega)
        have b1 := hc (k * 2 + 1) (by omega)
        rw [spotAt_x] at b0
        rw [spotAt_y, ← Nat.add_assoc] at b1
        clear hc
        have hbw : b < w.heap.size := hbase b o rfl
        have hrg := Hin.out (l.getD k (0, 0)) (by simp [List.getD, List.getElem?_eq_getElem hlt])
        have hml := negT_len (l := l) hk
        have hms := negT_succ hlt
        obtain ⟨⟨u, v⟩, eu⟩ : ∃ s, l.getD k (0, 0) = s := ⟨_, rfl⟩
        rw [eu] at b0 b1 hrg hms
        obtain ⟨⟨hu1, hu2⟩, hv1, hv2⟩ := hrg
        dsimp only at b0 b1 hu1 hu2 hv1 hv2
        obtain ⟨N, eN⟩ : ∃ N, negT l k = N := ⟨_, rfl⟩
        rw [eN] at O hml hms
        obtain ⟨q, d, rfl, ho⟩ := O
        rw [hml] at ho ⊢
        have hya := bl_alloc wr (.cells #[.int .i64 u, .int .i64 v] 45)
        have X1 := Blk.new wr #[.int .i64 u, .int .i64 v] 45
        have y0 := X1.cell 0 rfl
        have y1 := X1.cell 1 rfl
        have ho2 := own_below ho hya (Nat.le_refl _)
        have B2 := B.bl hya
        have D2 := D.bl hya
        have S2 := S.bl hya
        have hsz2 : wr.heap.size + 1 ≤ (wr.alloc (.cells #[.int .i64 u, .int .i64 v] 45)).heap.size := by simp
        have Eu := Lib.hid eu; clear eu
        have EN := Lib.hid eN; clear eN
        have Hms := Lib.hid hms; clear hms
        have Ho := Lib.hid ho; clear ho
        have Hml := Lib.hid hml; clear hml
        have B := Lib.hid B; clear B
        have D := Lib.hid D; clear D
        have S := Lib.hid S; clear S
        go_upto_region 7 with (fail)
        generalize wr.alloc (.cells #[.int .i64 u, .int .i64 v] 45) = wa at *
        have hgw2 : gb ≤ wa.heap.size := by omega
        go_wp2_with (at_builtin; refine wpList_push rfl _ _ 26 rfl gb 45 (.agg #[.int .i64 0, .int .i64 0]) 2 16 Try.underlying26 info_spot rfl (by decide) (.slice q k d) k _ rfl ho2 _ 1 rfl rfl (one_spot _ _) (by omega) (by simp [maxLen]; omega) hgw2 ?_; intro g' cap w2 hown2 hgr hat hlt2)
        have hO : OwnSpots gb w2 (.slice (some ⟨g', 0, none⟩) (k + 1) cap) (N ++ [(-u, -v)]) := by
          refine ⟨some ⟨g', 0, none⟩, cap, by rw [List.length_append, Hml.out]; rfl, ?_⟩
          rw [List.length_append, Hml.out, spotCells_snoc]
          exact hown2
        have hgq := own_ge ho2
        have B3 := B2.grown hgr (fun e => by have := hgq _ e.symm; omega)
        have D3 := D2.grown hgr (fun b' o' e => by cases e; exact fun e => by have := hgq _ e.symm; omega)
        have S3 : Since w w2 := ⟨below_own S2.below hgr (fun i hi => by have := hgq i hi; omega) S2.size⟩
        have hgw3 : gb ≤ w2.heap.size := Nat.le_trans hgw2 hgr.size
        clear hown2 hgr hat ho2
        go_roundw
        case rel => exact ⟨k + 1, by omega, by go_num, by rw [Hms.out]; exact hO, B3, D3, S3, hgw3⟩
        case measure => simp [intOf]; omega
      · obtain rfl : k = l.length := by omega
        have hml := negT_len (l := l) (Nat.le_refl _)
        rw [negT_all] at O hml
        obtain ⟨N, eN⟩ : ∃ N, l.map negS = N := ⟨_, rfl⟩
        rw [eN] at O hml
        obtain ⟨g, d, rfl, hgb⟩ := O.at (by omega)
        have hsr := Hsrt.out
        rw [eN] at hsr
        have cT := toldElement_any gb g d N M wr (by omega) Hmok.out hsr O
        have hml2 : N.length ≤ 50 := by omega
        obtain ⟨n, en⟩ : ∃ n, N.length = n := ⟨_, rfl⟩
        rw [en] at cT ⊢
        have ct := cT
        clear cT
        have ho0 := (O.ge g rfl).1
        have Ct := Lib.hid ct; clear ct
        have EN := Lib.hid eN; clear eN
        have Hml := Lib.hid hml; clear hml
        have Hsr := Lib.hid hsr; clear hsr
        have En := Lib.hid en; clear en
        go_wp2_with fail
        refine Ct.out.mono ?_
        rintro e w3 ⟨rfl, O3, hgr⟩
        have B3 := B.grown hgr (by intro e; cases e; omega)
        have S3 := S.grown hgr (by omega)
        have f0 := B3.frozen
        have f1 := B3.cell
        have e0 := (B3.set (.slice (some ⟨g, 0, none⟩) n d)).cell
        have O4 : OwnSpots w.heap.size (w3.setCell ⟨w.heap.size + 1, 0, none⟩ (.slice (some ⟨g, 0, none⟩) n d)) (.slice (some ⟨g, 0, none⟩) n d) M := by
          obtain ⟨p', c', hv, ho⟩ := O3
          exact ⟨p', c', hv, own_mono (own_other ho (by simp [Value.ownBlock]; omega) _) (by omega)⟩
        have S4 := S3.setS (p := ⟨w.heap.size + 1, 0, none⟩) (by simp) (.slice (some ⟨g, 0, none⟩) n d)
        go_wp2
        exact bodyPost_ret (v := .tuple #[.agg #[.slice (some ⟨g, 0, none⟩) n d], .bool true]) (by simp [results, Try.results30, go_sem, e0]) rfl ⟨_, rfl, O4, S4.below⟩
end Go.Proofs.Ytheakjbbfdcbaaa
