/- Rows of numbers, made row by row: contracts of grid and l06Distances. -/
import Derived.Test.YtakoklldmdbphaaNearOf
import Derived.Test.YtakoklldmdbphaaLawInts
set_option linter.unusedVariables false
namespace Go.Proofs.Ytakoklldmdbphaa
open Go.RowKit

def rowL (W : Nat) (g : Nat → Int) : List Int := (List.range W).map g
theorem rowL_len (W : Nat) (g : Nat → Int) : (rowL W g).length = W := by simp [rowL]
theorem rowL_succ (W : Nat) (g : Nat → Int) : rowL (W + 1) g = rowL W g ++ [g W] := by simp [rowL, List.range_succ]
theorem rowL_congr {W : Nat} {g g' : Nat → Int} (h : ∀ i, i < W → g i = g' i) : rowL W g = rowL W g' := List.map_congr_left (fun i hi => h i (List.mem_range.1 hi))
/-- Numbers in reading order as rows. -/
def gridL (W H : Nat) (d : Nat → Int) : List (List Int) := (List.range H).map fun y => rowL W (fun x => d (y * W + x))
theorem gridL_len (W H : Nat) (d : Nat → Int) : (gridL W H d).length = H := by simp [gridL]
theorem gridL_succ (W H : Nat) (d : Nat → Int) : gridL W (H + 1) d = gridL W H d ++ [rowL W (fun x => d (H * W + x))] := by simp [gridL, List.range_succ]
theorem gridL_at (W H : Nat) (d : Nat → Int) (y : Nat) (h : y < H) : (gridL W H d).getD y [] = rowL W (fun x => d (y * W + x)) := by simp [gridL, List.getD, List.getElem?_map, List.getElem?_range h]
theorem rowL_at (W : Nat) (g : Nat → Int) (x : Nat) (h : x < W) : (rowL W g).getD x 0 = g x := by simp [rowL, List.getD, List.getElem?_map, List.getElem?_range h]
theorem gridL_congr {W H : Nat} {d d' : Nat → Int} (h : ∀ i, i < W * H → d i = d' i) : gridL W H d = gridL W H d' := by
  unfold gridL
  exact List.map_congr_left (fun y hy => rowL_congr (fun x hx => h _ (at_lt hx (List.mem_range.1 hy))))
theorem gridL_mem {W H : Nat} {d : Nat → Int} {l : List Int} (h : l ∈ gridL W H d) : l.length = W := by
  obtain ⟨y, _, rfl⟩ := List.mem_map.1 h
  exact rowL_len _ _
theorem gridL_lenTo (W H : Nat) (d : Nat → Int) (i : Nat) (h : i ≤ H) : lenTo (gridL W H d) i = i * W := by
  induction i with
  | zero => simp [lenTo]
  | succ i ih => rw [lenTo_succ _ _ (by rw [gridL_len]; omega), ih (by omega), gridL_at _ _ _ _ (by omega), rowL_len, Nat.add_mul, Nat.one_mul]

/-- A row that is being made: x of its numbers are there. -/
def RowRel (wo : World) (g : Nat → Int) (x : Nat) (v : Value) (wr : World) : Prop :=
  ∃ q d, v = .slice q x d ∧ wr.ownsRow wo.heap.size 2 1 (.slice q x d) x (intCells (rowL x g)) ∧ Below wo.heap.size wo wr
theorem one_i64 (x : Int) : ∀ u ∈ (#[Value.int .i64 x] : Array Value).toList, u.oneCell' = true := by simp [Value.oneCell']
theorem RowRel.own {wo wr : World} {g : Nat → Int} {x : Nat} {q : Option Addr} {d : Nat} (h : wr.ownsRow wo.heap.size 2 1 (.slice q x d) x (intCells (rowL x g))) : OwnInts wo.heap.size wr (.slice q x d) (rowL x g) :=
  ⟨q, d, by rw [rowL_len], by rw [rowL_len]; exact h⟩
theorem at_cases {v : Value} {g cap n : Nat} {w : World} (h : v.ownBlock = some g ∨ w.heap.size ≤ g) : v.ownBlock = (Value.slice (some ⟨g, 0, none⟩) n cap).ownBlock ∨ (∀ k, (Value.slice (some ⟨g, 0, none⟩) n cap).ownBlock = some k → w.heap.size ≤ k) := by
  rcases h with h | h
  · exact .inl h
  · exact .inr (fun k hk => by cases hk; exact h)

set_option maxRecDepth 100000 in
set_option maxHeartbeats 4000000 in
theorem grid_any (m g W H : Nat) (f : Nat → Bool) (kb : FuncId) (capb : Array Value) (d : Nat → Int) (w : World) (I : Img w m g W H f)
    (hk : ∀ args w, (callFunc kb args).run Try.prog w = .ok (.enter kb args) w)
    (hcall : ∀ (x y : Nat) w', x < W → y < H → Below w.heap.size w w' → Calls Try.prog kb (#[.int .i64 x, .int .i64 y] ++ capb) w' fun e w'' => e = .returned (.int .i64 (d (y * W + x))) ∧ Below w'.heap.size w' w'') :
    Calls Try.prog 92 #[.pointer (some ⟨m, 0, none⟩), .func (.func kb) #[] capb] w fun e w' => ∃ v, e = .returned v ∧ OwnSS w.heap.size w' v (gridL W H d) ∧ Below w.heap.size w w' := by
  have hW16 := I.w16
  have hH16 := I.h16
  have I0 := I.bl (bl_alloc w (.cells #[] 37))
  have e1 := I0.c1
  have J0 := OwnIntss.start (World.ownsRow_made (base := w.heap.size) (size := 1) (e := 37) w #[] 0 (Nat.le_refl _) (by decide) rfl) ⟨_, _, rfl⟩
  go_enter Try.func92, Try.ntmps92
  go_wp2
  go_loopw [5, 14] (fun v i wr => ∃ y : Nat, y ≤ H ∧ i = .int .i64 y ∧ (∃ vs, OwnIntss w.heap.size wr v (gridL W y d) vs) ∧ Since w wr) (fun _ i _ => H - (intOf i).toNat)
  case atStart => exact ⟨0, Nat.zero_le _, rfl, ⟨_, J0⟩, (Since.refl w).alloc _⟩
  case round =>
    clear e1 I0 J0
    obtain ⟨y, hy, rfl, ⟨vs, J⟩, S⟩ := hrel
    obtain ⟨q, c, rfl⟩ := J.form
    obtain ⟨_, _, _, hown⟩ := J.own
    obtain ⟨wo, ewo⟩ : ∃ wo : World, wo = wr := ⟨_, rfl⟩
    subst ewo
    by_cases hyH : y < H
    · have hsz := S.size
      have I1 := I.below S.below I.lt.1 I.lt.2
      have hlt1 := I1.lt
      have I2 := I1.bl (bl_alloc wo (.cells #[] 2))
      have e0 := I2.c0
      have R0 : RowRel wo (fun x => d (y * W + x)) 0 (.slice (some ⟨wo.heap.size, 0, none⟩) 0 0) (wo.alloc (.cells #[] 2)) := ⟨_, _, rfl, World.ownsRow_made wo #[] 0 (Nat.le_refl _) (by decide) rfl, bl_alloc _ _⟩
      have hl16 : (gridL W y d).length ≤ 16 := by rw [gridL_len]; omega
      clear I1 I2 hlt1
      go_wp2_with fail
      go_loopw [7, 22] (fun r i wr => ∃ x : Nat, x ≤ W ∧ i = .int .i64 x ∧ RowRel wo (fun x => d (y * W + x)) x r wr) (fun _ i _ => W - (intOf i).toNat)
      case atStart => exact ⟨0, Nat.zero_le _, rfl, R0⟩
      case round =>
        clear R0 e0
        obtain ⟨x, hx, rfl, q2, d2, rfl, hrow, hbj⟩ := hrel
        have hbs2 := hbj.size
        by_cases hxW : x < W
        · have hc := hcall x y wr hxW hyH (S.below.trans (hbj.mono hsz))
          have hsu : rowL (x + 1) (fun x => d (y * W + x)) = rowL x (fun x => d (y * W + x)) ++ [d (y * W + x)] := rowL_succ x _
          generalize d (y * W + x) = dv at *
          have Hc := Lib.hid hc; clear hc
          have Hsu := Lib.hid hsu; clear hsu
          clear hcall J hown
          go_wp2_with fail
          refine Hc.out.mono ?_
          rintro e w1 ⟨rfl, hb1⟩
          have hbj2 := hbj.trans (hb1.mono hbs2)
          have hrow2 := own_below hrow hb1 (Nat.le_refl _)
          have hbs3 := hbj2.size
          clear hb1 hbj hrow
          go_wp2_with (at_builtin; refine wpList_push rfl _ _ 37 rfl wo.heap.size 2 (.int .i64 0) 1 8 Try.underlying37 info_i64 rfl (by decide) (.slice q2 x d2) x _ rfl hrow2 _ 1 rfl rfl (one_i64 _) (by omega) (by simp [maxLen]; omega) hbs3 ?_; intro g' cap w2 hown2 hgr hat hlt2)
          have hb3 := below_own hbj2 hgr (own_ge hrow2) hbs3
          go_roundw
          case rel => exact ⟨x + 1, by omega, by go_num, _, _, rfl, by rw [Hsu.out, intCells_snoc]; exact hown2, hb3⟩
          case measure => simp [intOf]; omega
        · obtain rfl : x = W := by omega
          have hown' := own_below hown hbj (Nat.le_refl _)
          have hx1 := RowRel.own hrow
          have hS1 := S.below.trans (hbj.mono hsz)
          have hsz1 := hS1.size
          have hgs := gridL_succ x y d
          have Hgs := Lib.hid hgs; clear hgs
          go_wp2_with (at_builtin; refine wpList_push rfl _ _ 43 rfl w.heap.size 37 (.slice none 0 0) 1 24 Try.underlying43 info_ints rfl (by decide) (.slice q (gridL x y d).length c) (gridL x y d).length _ rfl hown' _ 1 rfl rfl (one_slice _ _ _) (by omega) (by simp [maxLen]; omega) hsz1 ?_; intro g' cap w2 hown2 hgr hat hlt2)
          have J2 := OwnIntss.push J hbj hx1 hsz hgr (at_cases hat) ⟨_, _, rfl⟩ hown2
          rw [← Hgs.out] at J2
          have S2 : Since w w2 := ⟨below_own hS1 hgr (own_ge hown') hsz1⟩
          go_roundw
          case rel => exact ⟨y + 1, by omega, by go_num, ⟨_, J2⟩, S2⟩
          case measure => simp [intOf]; omega
    · obtain rfl : y = H := by omega
      go_wp2
      go_ret
      exact ⟨_, rfl, ⟨vs, J⟩, S.below⟩
/-- The distances of the pixels of a picture. -/
def distD (ss : List ByteArray) (k : Int) (i : Nat) : Int := bestD (farG k ((i % wid ss : Nat) : Int) ((i / wid ss : Nat) : Int)) (spotsL ss)
theorem distD_at {ss : List ByteArray} {k : Int} {x y : Nat} (hx : x < wid ss) : distD ss k (y * wid ss + x) = bestD (farG k x y) (spotsL ss) := by rw [distD, (at_mod hx).1, (at_mod hx).2]
set_option maxRecDepth 100000 in
set_option maxHeartbeats 4000000 in
theorem l06Distances_any (a : Nat) (p : Option Addr) (c0 : Nat) (ss : List ByteArray) (k : Int) (w : World) (P : PicAt w a p c0 ss) :
    Calls Try.prog 105 #[.pointer (some ⟨a, 0, none⟩), .int .i64 k] w fun e w' => ∃ v, e = .returned v ∧ OwnSS w.heap.size w' v (gridL (wid ss) ss.length (distD ss k)) ∧ Below w.heap.size w w' := by
  have hd := okPic_dims P.ok
  obtain ⟨hd1, hd2, hd3, hd4⟩ := hd
  have k1 := fun w h => l01Width_any a p c0 ss w h
  have k2 := fun w h => l01Height_any a p c0 ss w h
  have k4 := fun x y w h h1 h2 => l06Nearest_any a p c0 ss k x y w h h1 h2
  have hdd : ∀ x y : Nat, x < wid ss → bestD (farG k x y) (spotsL ss) = distD ss k (y * wid ss + x) := fun x y hx => (distD_at hx).symm
  have J0 := OwnIntss.start (World.ownsRow_made (base := w.heap.size) (size := 1) (e := 37) w #[] 0 (Nat.le_refl _) (by decide) rfl) ⟨_, _, rfl⟩
  obtain ⟨d, ed⟩ : ∃ d, distD ss k = d := ⟨_, rfl⟩
  rw [ed] at hdd ⊢
  have K1 := Lib.hid k1; clear k1
  have K2 := Lib.hid k2; clear k2
  have K4 := Lib.hid k4; clear k4
  have Hdd := Lib.hid hdd; clear hdd
  have Ed := Lib.hid ed; clear ed
  go_enter Try.func105, Try.ntmps105
  go_wp2
  go_loopw [5, 6] (fun v i wr => ∃ y : Nat, y ≤ ss.length ∧ i = .int .i64 y ∧ (∃ vs, OwnIntss w.heap.size wr v (gridL (wid ss) y d) vs) ∧ Since w wr) (fun _ i _ => ss.length - (intOf i).toNat)
  case atStart => exact ⟨0, Nat.zero_le _, rfl, ⟨_, J0⟩, (Since.refl w).alloc _⟩
  case round =>
    clear J0
    obtain ⟨y, hy, rfl, ⟨vs, J⟩, S⟩ := hrel
    obtain ⟨q, c, rfl⟩ := J.form
    obtain ⟨_, _, _, hown⟩ := J.own
    obtain ⟨wo, ewo⟩ : ∃ wo : World, wo = wr := ⟨_, rfl⟩
    subst ewo
    have P1 := P.bl S.below
    by_cases hyH : y < ss.length
    · have hsz := S.size
      have R0 : RowRel wo (fun x => d (y * wid ss + x)) 0 (.slice (some ⟨wo.heap.size, 0, none⟩) 0 0) (wo.alloc (.cells #[] 2)) := ⟨_, _, rfl, World.ownsRow_made wo #[] 0 (Nat.le_refl _) (by decide) rfl, bl_alloc _ _⟩
      have hl16 : (gridL (wid ss) y d).length ≤ 16 := by rw [gridL_len]; omega
      go_wp2_with fail
      refine (K2.out _ P1).mono ?_
      rintro e w1 ⟨rfl, rfl⟩
      go_wp2_with fail
      go_loopw [7, 8] (fun r i wr => ∃ x : Nat, x ≤ wid ss ∧ i = .int .i64 x ∧ RowRel wo (fun x => d (y * wid ss + x)) x r wr) (fun _ i _ => wid ss - (intOf i).toNat)
      case atStart => exact ⟨0, Nat.zero_le _, rfl, R0⟩
      case round =>
        clear R0
        obtain ⟨x, hx, rfl, q2, d2, rfl, hrow, hbj⟩ := hrel
        have hbs2 := hbj.size
        have P2 := P1.bl hbj
        by_cases hxW : x < wid ss
        · have hc := K4.out (x : Int) (y : Int) wr P2 (by omega) (by omega)
          rw [Hdd.out x y hxW] at hc
          have hsu : rowL (x + 1) (fun x => d (y * wid ss + x)) = rowL x (fun x => d (y * wid ss + x)) ++ [d (y * wid ss + x)] := rowL_succ x _
          generalize d (y * wid ss + x) = dv at *
          generalize bestS (farG k x y) (spotsL ss) = E at *
          obtain ⟨e1, e2⟩ := E
          dsimp only at hc
          have Hc := Lib.hid hc; clear hc
          have Hsu := Lib.hid hsu; clear hsu
          clear J hown
          go_wp2_with fail
          refine (K1.out _ P2).mono ?_
          rintro e w1 ⟨rfl, rfl⟩
          go_wp2_with fail
          refine Hc.out.mono ?_
          rintro e w1 ⟨rfl, hb1⟩
          have hbj2 := (hbj.trans (hb1.mono hbs2)).trans ((bl_alloc w1 (.cells #[.int .i64 e1, .int .i64 e2] 27)).mono (Nat.le_trans hbs2 hb1.size))
          have hrow2 := own_below (own_below hrow hb1 (Nat.le_refl _)) (bl_alloc w1 (.cells #[.int .i64 e1, .int .i64 e2] 27)) (Nat.le_refl _)
          have hbs3 := hbj2.size
          clear hb1 hbj hrow P2
          go_wp2_with (at_builtin; refine wpList_pushA (w1.heap.size + 1) (by simp) rfl _ _ 37 rfl wo.heap.size 2 (.int .i64 0) 1 8 Try.underlying37 info_i64 rfl (by decide) (.slice q2 x d2) x _ rfl hrow2 _ 1 rfl rfl (one_i64 _) (by omega) (by simp [maxLen]; omega) hbs3 ?_; intro g' cap w2 hown2 hgr hat hlt2)
          have hb3 := below_own hbj2 hgr (own_ge hrow2) hbs3
          go_roundw
          case rel => exact ⟨x + 1, by omega, by go_num, _, _, rfl, by rw [Hsu.out, intCells_snoc]; exact hown2, hb3⟩
          case measure => simp [intOf]; omega
        · obtain rfl : x = wid ss := by omega
          have hown' := own_below hown hbj (Nat.le_refl _)
          have hx1 := RowRel.own hrow
          have hS1 := S.below.trans (hbj.mono hsz)
          have hsz1 := hS1.size
          have hgs := gridL_succ (wid ss) y d
          have Hgs := Lib.hid hgs; clear hgs
          go_wp2_with fail
          refine (K1.out _ P2).mono ?_
          rintro e w1 ⟨rfl, rfl⟩
          go_wp2_with (at_builtin; refine wpList_push rfl _ _ 43 rfl w.heap.size 37 (.slice none 0 0) 1 24 Try.underlying43 info_ints rfl (by decide) (.slice q (gridL (wid ss) y d).length c) (gridL (wid ss) y d).length _ rfl hown' _ 1 rfl rfl (one_slice _ _ _) (by omega) (by simp [maxLen]; omega) hsz1 ?_; intro g' cap w2 hown2 hgr hat hlt2)
          have J2 := OwnIntss.push J hbj hx1 hsz hgr (at_cases hat) ⟨_, _, rfl⟩ hown2
          rw [← Hgs.out] at J2
          have S2 : Since w w2 := ⟨below_own hS1 hgr (own_ge hown') hsz1⟩
          go_roundw
          case rel => exact ⟨y + 1, by omega, by go_num, ⟨_, J2⟩, S2⟩
          case measure => simp [intOf]; omega
    · obtain rfl : y = ss.length := by omega
      go_wp2_with fail
      refine (K2.out _ P1).mono ?_
      rintro e w1 ⟨rfl, rfl⟩
      go_wp2
      go_ret
      exact ⟨_, rfl, ⟨vs, J⟩, S.below⟩
end Go.Proofs.Ytakoklldmdbphaa
