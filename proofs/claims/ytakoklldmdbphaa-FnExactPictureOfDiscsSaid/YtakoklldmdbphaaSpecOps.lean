/- Contracts of the reference's CountBlack, SpotsOf and their parts. -/
import Derived.Test.YtakoklldmdbphaaSpecPix
set_option linter.unusedVariables false
namespace Go.Proofs.Ytakoklldmdbphaa
open Go.RowKit

/-- The number of black pixels of a picture, its black pixels; of no picture: none. -/
def spotsL (ss : List ByteArray) : List (Int × Int) := if okPic ss then spotsTo (wid ss) (bits ss) (wid ss * ss.length) else []
theorem spotsL_len (ss : List ByteArray) : (spotsL ss).length ≤ 256 := by
  unfold spotsL
  split
  · rename_i h
    have hd := okPic_dims h
    exact Nat.le_trans (spotsTo_len _ _ _) (mul_256 (by omega) (by omega))
  · simp


/-- The loop of l01Spots: n pixels are looked at. -/
def SpotRel (w : World) (W : Nat) (f : Nat → Bool) (n : Nat) (v : Value) (wr : World) : Prop :=
  ∃ p c, v = .slice p (spotsTo W f n).length c ∧ wr.ownsRow w.heap.size 27 2 (.slice p (spotsTo W f n).length c) (spotsTo W f n).length (spotCells (spotsTo W f n)) ∧ Since w wr
set_option maxHeartbeats 2000000 in
theorem l01Spots_any (a : Nat) (p : Option Addr) (c : Nat) (ss : List ByteArray) (w : World) (h : PicAt w a p c ss) :
    Calls Try.prog 64 #[.pointer (some ⟨a, 0, none⟩)] w fun e w' => ∃ v, e = .returned v ∧ OwnSpots w.heap.size w' v (spotsTo (wid ss) (bits ss) (wid ss * ss.length)) ∧ Below w.heap.size w w' := by
  have hd := okPic_dims h.ok
  obtain ⟨hd1, hd2, hd3, hd4⟩ := hd
  have hm := mul_256 hd4 hd2
  go_enter Try.func64, Try.ntmps64
  go_wp2
  go_loopw [3, 4] (fun v i wr => ∃ y : Nat, y ≤ ss.length ∧ i = .int .i64 y ∧ SpotRel w (wid ss) (bits ss) (y * wid ss) v wr) (fun _ i _ => ss.length - (intOf i).toNat)
  case atStart =>
    refine ⟨0, Nat.zero_le _, rfl, ?_⟩
    unfold SpotRel
    exact ⟨_, _, by rw [Nat.zero_mul]; rfl, by rw [Nat.zero_mul]; exact World.ownsRow_made (size := 2) w #[] 0 (Nat.le_refl _) (by decide) rfl, (Since.refl w).alloc _⟩
  case round =>
    obtain ⟨y, hy, rfl, q, d, rfl, hown, S⟩ := hrel
    have P := h.bl S.below
    have c2 := l01Height_any a p c ss wr P
    have C2 := Lib.hid c2; clear c2
    by_cases hyH : y < ss.length
    · go_wp2_with (go_at_call 72; refine C2.out.mono ?_; rintro e w1 ⟨rfl, rfl⟩)
      go_loopw [3, 5] (fun v i wr => ∃ x : Nat, x ≤ wid ss ∧ i = .int .i64 x ∧ SpotRel w (wid ss) (bits ss) (y * wid ss + x) v wr) (fun _ i _ => wid ss - (intOf i).toNat)
      case atStart =>
        refine ⟨0, Nat.zero_le _, rfl, ?_⟩
        unfold SpotRel
        exact ⟨_, _, rfl, hown, S⟩
      case round =>
        clear hown S P C2
        obtain ⟨x, hx, rfl, q, d, rfl, hown, S⟩ := hrel
        have P := h.bl S.below
        have hsS := S.size
        have c1 := l01Width_any a p c ss wr P
        have C1 := Lib.hid c1; clear c1
        by_cases hxs : x < wid ss
        · have hlt : y * wid ss + x < wid ss * ss.length := at_lt hxs hyH
          have hle := spotsTo_len (wid ss) (bits ss) (y * wid ss + x)
          have hsu := spotsTo_succ (wid ss) (bits ss) (y * wid ss + x)
          rw [(at_mod hxs).1, (at_mod hxs).2] at hsu
          have c3 := (l01Black_any a p c ss (x : Int) (y : Int) wr P).mono (fun e w' q => (⟨q.1.trans (by rw [px_at hxs hyH]), q.2⟩ : e = .returned (.bool (bits ss (y * wid ss + x))) ∧ ∃ n, w' = wr.drewN n))
          cases hb : bits ss (y * wid ss + x)
          · rw [hb] at hsu c3
            rw [if_neg (by simp), List.append_nil] at hsu
            have C3 := Lib.hid c3; clear c3
            have Hsu := Lib.hid hsu; clear hsu
            have Hb := Lib.hid hb; clear hb
            clear P
            go_wp2_with fail
            refine C1.out.mono ?_
            rintro e w1 ⟨rfl, rfl⟩
            go_wp2_with fail
            refine C3.out.mono ?_
            rintro e w1 ⟨rfl, k, rfl⟩
            have S2 : Since w (wr.drewN k) := S.bl (bl_drewN _ _)
            go_wp2
            go_roundw
            case rel =>
              refine ⟨x + 1, by omega, by go_num, ?_⟩
              unfold SpotRel
              rw [← Nat.add_assoc, Hsu.out]
              exact ⟨_, _, rfl, own_drewN hown k, S2⟩
            case measure => simp [intOf]; omega
          · rw [hb] at hsu c3
            rw [if_pos rfl] at hsu
            have C3 := Lib.hid c3; clear c3
            have Hsu := Lib.hid hsu; clear hsu
            have Hb := Lib.hid hb; clear hb
            clear P
            go_wp2_with fail
            refine C1.out.mono ?_
            rintro e w1 ⟨rfl, rfl⟩
            go_wp2_with fail
            refine C3.out.mono ?_
            rintro e w1 ⟨rfl, k, rfl⟩
            go_wp2_with (at_builtin; refine wpList_push rfl _ _ 51 rfl w.heap.size 27 (.agg #[.int .i64 0, .int .i64 0]) 2 16 Try.underlying51 info_spot rfl (by decide) (.slice q (spotsTo (wid ss) (bits ss) (y * wid ss + x)).length d) (spotsTo (wid ss) (bits ss) (y * wid ss + x)).length _ rfl (own_drewN hown k) _ 1 rfl rfl (one_spot _ _) (by omega) (by simp [maxLen]; omega) hsS ?_; intro g' cap w2 hown2 hgr hat hlt2)
            have S2 : Since w w2 := ⟨below_own (below_drewN S.below k) hgr (own_ge hown) hsS⟩
            go_roundw
            case rel =>
              refine ⟨x + 1, by omega, by go_num, ?_⟩
              unfold SpotRel
              rw [← Nat.add_assoc, Hsu.out, spotCells_snoc, List.length_append]
              exact ⟨_, _, rfl, hown2, S2⟩
            case measure => simp [intOf]; omega
        · obtain rfl : x = wid ss := by omega
          have e1 : y * wid ss + wid ss = (y + 1) * wid ss := by rw [Nat.add_mul, Nat.one_mul]
          rw [e1] at hown
          clear P
          go_wp2_with fail
          refine C1.out.mono ?_
          rintro e w1 ⟨rfl, rfl⟩
          go_wp2
          go_roundw
          case rel =>
            refine ⟨y + 1, by omega, by go_num, ?_⟩
            unfold SpotRel
            exact ⟨_, _, rfl, hown, S⟩
          case measure => simp [intOf]; omega
    · obtain rfl : y = ss.length := by omega
      rw [Nat.mul_comm] at hown
      go_wp2_with (go_at_call 72; refine C2.out.mono ?_; rintro e w1 ⟨rfl, rfl⟩)
      go_ret
      exact ⟨_, by rw [Nat.mul_comm]; rfl, ⟨q, d, rfl, hown⟩, S.below⟩
end Go.Proofs.Ytakoklldmdbphaa
