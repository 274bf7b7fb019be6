/- Contracts of the reference's TurnPicture. -/
import Derived.Test.YteoodnhcghjjeaaSpecShift
set_option linter.unusedVariables false
namespace Go.Proofs.Yteoodnhcghjjeaa
open Go.RowKit

/-- The pixel (x, y) of a picture that is turned by a kind from 0 to 3. -/
def turnP (W H : Nat) (f : Nat → Bool) (kind x y : Nat) : Bool := match kind with
  | 0 => px W H f ((W : Int) - 1 - (x : Int)) (y : Int)
  | 1 => px W H f (x : Int) ((H : Int) - 1 - (y : Int))
  | 2 => px W H f (y : Int) (x : Int)
  | _ => px W H f (y : Int) ((H : Int) - 1 - (x : Int))
def turnG (W H : Nat) (f : Nat → Bool) (kind i : Nat) : Bool := turnP W H f kind (i % turnW W H kind) (i / turnW W H kind)
theorem turnG_at {W H : Nat} {f : Nat → Bool} {kind x y : Nat} (hx : x < turnW W H kind) : turnG W H f kind (y * turnW W H kind + x) = turnP W H f kind x y := by
  rw [turnG, (at_mod hx).1, (at_mod hx).2]
def turnL' (ss : List ByteArray) (kind : Int) : List ByteArray := picIf (turnOk ss kind) (render (turnW (wid ss) ss.length kind.toNat) (turnW ss.length (wid ss) kind.toNat) (turnG (wid ss) ss.length (bits ss) kind.toNat))
theorem turnW_bounds {W H k : Nat} (h1 : 1 ≤ W) (h2 : W ≤ 16) (h3 : 1 ≤ H) (h4 : H ≤ 16) : 1 ≤ turnW W H k ∧ turnW W H k ≤ 16 := by
  unfold turnW
  split <;> omega

set_option maxHeartbeats 4000000 in
theorem l01Turn_any (a : Nat) (p : Option Addr) (c : Nat) (ss : List ByteArray) (kind : Nat) (w : World) (P : PicAt w a p c ss) (hk : kind ≤ 3) :
    Calls Try.prog 92 #[.pointer (some ⟨a, 0, none⟩), .int .i64 kind] w fun e w' => ∃ v, e = .returned (.agg #[v]) ∧ OwnStrs w.heap.size w' v (render (turnW (wid ss) ss.length kind) (turnW ss.length (wid ss) kind) (turnG (wid ss) ss.length (bits ss) kind)) ∧ Below w.heap.size w w' := by
  have d1 := okPic_dims P.ok
  obtain ⟨d11, d12, d13, d14⟩ := d1
  have k1 := fun w h => l01Width_any a p c ss w h
  have k2 := fun w h => l01Height_any a p c ss w h
  have k3 := fun x y w h => l01Black_any a p c ss x y w h
  obtain ⟨F, eF⟩ : ∃ F, turnG (wid ss) ss.length (bits ss) kind = F := ⟨_, rfl⟩
  have hF : ∀ x y : Nat, x < turnW (wid ss) ss.length kind → F (y * turnW (wid ss) ss.length kind + x) = turnP (wid ss) ss.length (bits ss) kind x y := fun x y hx => by rw [← eF]; exact turnG_at hx
  obtain ⟨v1, v2⟩ := turnW_bounds (k := kind) d13 d14 d11 d12
  obtain ⟨u1, u2⟩ := turnW_bounds (k := kind) d11 d12 d13 d14
  have hV : turnW (wid ss) ss.length kind = if kind < 2 then wid ss else ss.length := rfl
  have hU : turnW ss.length (wid ss) kind = if kind < 2 then ss.length else wid ss := rfl
  generalize turnW (wid ss) ss.length kind = V at *
  generalize turnW ss.length (wid ss) kind = U at *
  have hm := mul_256 v2 u2
  have mkk := fun g k w' h => l01Make_any (some ⟨g, 0, none⟩) V U k F w' v1 v2 u2 h
  rw [eF]
  obtain ⟨L, eL⟩ : ∃ L, render V U F = L := ⟨_, rfl⟩
  rw [eL] at mkk ⊢
  have S := ((Since.refl w).alloc (.cells #[.slice none 0 0] 28)).alloc (.cells #[] 4)
  have B := (Box.new w (.slice none 0 0) 28).alloc (.cells #[] 4)
  have h0 := World.ownsRow_made (base := w.heap.size + 1) (size := 1) (e := 4) (w.alloc (.cells #[.slice none 0 0] 28)) #[] 0 (by simp) (by decide) rfl
  rw [World.size_alloc] at h0
  have P0 := P.bl (bl_alloc w (.cells #[.slice none 0 0] 28))
  rcases (show kind = 0 ∨ kind = 1 ∨ kind = 2 ∨ kind = 3 by omega) with rfl | rfl | rfl | rfl
  all_goals
    (first | (rw [if_pos (by decide)] at hV hU) | (rw [if_neg (by decide)] at hV hU))
    have hV1 : V ≤ _ := Nat.le_of_eq hV
    have hV2 : _ ≤ V := Nat.le_of_eq hV.symm
    have hU1 : U ≤ _ := Nat.le_of_eq hU
    have hU2 : _ ≤ U := Nat.le_of_eq hU.symm
    have HV := Lib.hid hV
    have HU := Lib.hid hU
    have K1 := Lib.hid k1
    have K2 := Lib.hid k2
    have K3 := Lib.hid k3
    have HF := Lib.hid hF
    have Mkk := Lib.hid mkk
    clear hV hU k1 k2 k3 hF mkk eF eL
    go_enter Try.func92, Try.ntmps92
    go_wp2_with fail
    refine (K1.out _ P0).mono ?_
    rintro e w1 ⟨rfl, rfl⟩
    go_wp2_with fail
    refine (K2.out _ P0).mono ?_
    rintro e w1 ⟨rfl, rfl⟩
    go_wp2
    go_loopw [9, 10] (fun v i wr => ∃ y : Nat, y ≤ U ∧ i = .int .i64 y ∧ AppRel w w.heap.size F (y * V) v wr) (fun _ i _ => U - (intOf i).toNat)
    case atStart =>
      refine ⟨0, Nat.zero_le _, rfl, ?_⟩
      unfold AppRel
      refine ⟨_, _, by rw [Nat.zero_mul], ?_, B, S⟩
      rw [Nat.zero_mul]
      exact h0
    case round =>
      clear B S h0 P0
      obtain ⟨y, hy, rfl, q, d, rfl, hown, B, S⟩ := hrel
      have P1 := P.bl S.below
      by_cases hyH : y < U
      · go_wp2
        go_loopw [9, 11] (fun v i wr => ∃ x : Nat, x ≤ V ∧ i = .int .i64 x ∧ AppRel w w.heap.size F (y * V + x) v wr) (fun _ i _ => V - (intOf i).toNat)
        case atStart =>
          refine ⟨0, Nat.zero_le _, rfl, ?_⟩
          unfold AppRel
          exact ⟨_, _, rfl, hown, B, S⟩
        case round =>
          clear hown B S P1
          obtain ⟨x, hx, rfl, q, d, rfl, hown, B, S⟩ := hrel
          have P1 := P.bl S.below
          have hsS := S.size
          have hlb := B.lt
          by_cases hxs : x < V
          · have hlt : y * V + x < V * U := at_lt hxs hyH
            have hsu := bitCells_succ F (y * V + x) _ (HF.out x y hxs)
            have Hsu := Lib.hid hsu
            clear hsu
            go_wp2_with fail
            refine (K3.out _ _ _ P1).mono ?_
            rintro e w1 ⟨rfl, k, rfl⟩
            clear P1
            go_wp2_with (at_builtin; refine wpList_push rfl _ _ 68 rfl (w.heap.size + 1) 4 (.bool false) 1 1 Try.underlying68 info_bool' rfl (by decide) (.slice q (y * V + x) d) (y * V + x) _ rfl (own_drewN hown k) _ 1 rfl rfl (one_bool _) (by omega) (by simp [maxLen]; omega) (by simp; omega) ?_; intro g' cap w2 hown2 hgr hat hlt2)
            have B2 := (B.drew k).grown hgr (own_ne (own_drewN hown k) (by omega))
            have S2 : Since w w2 := ⟨below_own (below_drewN S.below k) hgr (fun k hk => by have := own_ge hown k hk; omega) hsS⟩
            go_roundw
            case rel =>
              refine ⟨x + 1, by omega, by go_num, ?_⟩
              unfold AppRel
              rw [← Nat.add_assoc, Hsu.out]
              exact ⟨_, _, rfl, hown2, B2, S2⟩
            case measure => simp [intOf]; omega
          · obtain rfl : x = V := by omega
            have e1 : y * x + x = (y + 1) * x := by rw [Nat.add_mul, Nat.one_mul]
            rw [e1] at hown
            go_wp2
            go_roundw
            case rel =>
              refine ⟨y + 1, by omega, by go_num, ?_⟩
              unfold AppRel
              exact ⟨_, _, by rw [e1], hown, B, S⟩
            case measure => simp [intOf]; omega
      · obtain rfl : y = U := by omega
        rw [Nat.mul_comm] at hown
        obtain ⟨g, rfl, hg, L1⟩ := Bools.of_own hown (by have := Nat.mul_pos v1 u1; omega)
        have L2 := L1.rd
        have hlt := B.lt
        rw [Nat.mul_comm y V]
        have eV' := HV.out
        subst eV'
        go_wp2_with fail
        refine (Mkk.out g d _ L2).mono ?_
        rintro e w2 ⟨v, rfl, O, hb⟩
        replace B := B.bl hb
        replace S := S.bl hb
        clear hb L2 L1 hown
        have f0 := B.frozen
        have f1 := B.cell
        obtain ⟨p', c', rfl⟩ := O.form
        have e0 := (B.set (.slice p' L.length c')).cell
        have O2 := O.set (a := ⟨w.heap.size, 0, none⟩) hlt (.slice p' L.length c')
        have S3 := S.set (b := w.heap.size) (by omega) 0 (.slice p' L.length c')
        go_wp2
        refine bodyPost_ret (v := .agg #[.slice p' L.length c']) (by simp [results, Try.results92, go_sem, e0]) rfl ⟨_, rfl, O2.mono (by omega), S3.below⟩
end Go.Proofs.Yteoodnhcghjjeaa
