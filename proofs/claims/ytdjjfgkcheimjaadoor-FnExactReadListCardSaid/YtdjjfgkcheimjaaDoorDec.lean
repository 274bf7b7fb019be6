/- Contracts of both Decimal: the decimal numeral of a number. -/
import Derived.Test.YtdjjfgkcheimjaaDoorDoorKit
import Derived.Test.YtdjjfgkcheimjaaDoorShelfD
import Derived.Lib.ItoaNum
set_option linter.unusedVariables false
set_option linter.unusedSimpArgs false
namespace Go.Proofs.YtdjjfgkcheimjaaDoor
open Go.RowKit

/-- The numeral of a number. -/
def decS (n : Int) : ByteArray := ⟨(Go.Lib.itoa n).toArray⟩
def decI (u : Nat) : List Int := (Go.Lib.decDigits u).map fun b => (b.toNat : Int)
theorem decI_small {u : Nat} (h : u < 10) : decI u = [48 + (u : Int)] := by
  rw [decI, Go.Lib.decDigits, dif_pos h]
  simp only [List.map_cons, List.map_nil, List.cons.injEq, and_true]
  rw [UInt8.toNat_ofNat_of_lt' (by simp [UInt8.size]; omega)]
  omega
theorem decI_big {u : Nat} (h : 10 ≤ u) : decI u = decI (u / 10) ++ [48 + ((u % 10 : Nat) : Int)] := by
  rw [decI, Go.Lib.decDigits, dif_neg (by omega), List.map_append, ← decI]
  congr 1
  simp only [List.map_cons, List.map_nil, List.cons.injEq, and_true]
  rw [UInt8.toNat_ofNat_of_lt' (by simp [UInt8.size]; omega)]
  omega
/-- What the loop of l01Dec has: the digits so far, what is left. -/
def DecInv (u m : Nat) (xs : List Int) : Prop := decI u = (if xs ≠ [] ∧ m = 0 then [] else decI m) ++ xs
theorem dec_start (u : Nat) : DecInv u u [] := by unfold DecInv; simp
theorem dec_step {u m : Nat} {xs : List Int} (h : DecInv u m xs) (hc : xs = [] ∨ m ≠ 0) : DecInv u (m / 10) ((48 + ((m % 10 : Nat) : Int)) :: xs) := by
  unfold DecInv at h ⊢
  have h1 : decI u = decI m ++ xs := by
    rw [h, if_neg]
    rintro ⟨a, b⟩
    rcases hc with h | h
    · exact a h
    · exact h b
  rw [h1]
  by_cases hm : m < 10
  · rw [if_pos ⟨by simp, by omega⟩, decI_small hm, Nat.mod_eq_of_lt hm]
    rfl
  · rw [if_neg (by rintro ⟨_, b⟩; omega), decI_big (by omega)]
    simp
theorem dec_end {u : Nat} {xs : List Int} (h : DecInv u 0 xs) (hx : xs ≠ []) : xs = decI u := by
  unfold DecInv at h
  rw [if_pos ⟨hx, rfl⟩] at h
  exact h.symm
theorem tmod_abs (r : Int) : (r.tmod 10).natAbs = r.natAbs % 10 ∧ (r.tdiv 10).natAbs = r.natAbs / 10 := by
  refine ⟨?_, ?_⟩
  · exact Int.natAbs_tmod r 10
  · exact Int.natAbs_tdiv r 10
theorem byte_back (b : UInt8) : UInt8.ofNat ((b.toNat : Int)).toNat = b := by rw [Int.toNat_natCast, UInt8.ofNat_toNat]
theorem str_dec (u : Nat) : strOfNums (decI u) = ⟨(Go.Lib.decDigits u).toArray⟩ := by
  unfold strOfNums decI
  rw [List.map_map]
  congr 2
  rw [show ((fun n : Int => UInt8.ofNat n.toNat) ∘ fun b : UInt8 => (b.toNat : Int)) = id from funext byte_back, List.map_id]
theorem decS_pos {n : Int} (h : ¬ n < 0) : decS n = strOfNums (decI n.natAbs) := by
  rw [str_dec, decS, Go.Lib.itoa, if_neg h]
  congr 3
  omega
theorem decS_neg {n : Int} (h : n < 0) : decS n = strOfNums (45 :: decI n.natAbs) := by
  have h1 := str_dec n.natAbs
  rw [decS, Go.Lib.itoa, if_pos h]
  unfold strOfNums at h1 ⊢
  rw [List.map_cons]
  simp only [ByteArray.mk.injEq] at h1
  congr 1
  have h2 := congrArg Array.toList h1
  simp only [List.toList_toArray] at h2
  rw [h2]
  rfl
theorem decI_len : ∀ (k u : Nat), u < 10 ^ (k + 1) → (decI u).length ≤ k + 1 := by
  intro k
  induction k with
  | zero => intro u h; rw [decI_small (by simpa using h)]; simp
  | succ k ih =>
    intro u h
    by_cases hu : u < 10
    · rw [decI_small hu]; simp
    · rw [decI_big (by omega), List.length_append]
      have := ih (u / 10) (by rw [Nat.pow_succ] at h; omega)
      simp
      omega
theorem dec_len {u m : Nat} {xs : List Int} (h : DecInv u m xs) (hu : u ≤ 9223372036854775808) : xs.length ≤ 20 := by
  have h1 := decI_len 19 u (by have : (10 : Nat) ^ 20 = 100000000000000000000 := by decide
                               omega)
  rw [h, List.length_append] at h1
  omega
def u8Cells (xs : List Int) : List Value := xs.map (Value.int .u8)
theorem u8_len (xs : List Int) : (u8Cells xs).length = xs.length * 1 := by simp [u8Cells]
theorem u8_one (xs : List Int) : ∀ u ∈ u8Cells xs, u.oneCell' = true := by
  intro u hu
  obtain ⟨x, _, rfl⟩ := List.mem_map.1 hu
  rfl
/-- Where digits lie: a block of which they are the first cells. -/
theorem dec_at {B : Nat} {T : TypeId} {w : World} {q : Option Addr} {c : Nat} {xs : List Int} (ho : w.ownsRow B T 1 (.slice q xs.length c) xs.length (u8Cells xs)) (hl : 0 < xs.length) : ∃ g, q = some ⟨g, 0, none⟩ ∧ B ≤ g ∧ g < w.heap.size ∧ ∀ j u, (u8Cells xs)[j]? = some u → w.cell? ((⟨g, 0, none⟩ : Addr).add j) = some u := by
  rcases ho.2 with ⟨_, h0⟩ | ⟨g, cap, cur, hv, hb, hg, _⟩
  · omega
  · simp only [Value.slice.injEq] at hv
    obtain ⟨rfl, _, rfl⟩ := hv
    exact ⟨g, rfl, hb, (Array.getElem?_eq_some_iff.1 hg).1, ho.cells rfl⟩
theorem own_one {B : Nat} {T : TypeId} {wr : World} (v : Value) (h : B ≤ wr.heap.size) : (wr.alloc (.cells #[v] T)).ownsRow B T 1 (.slice (some ⟨wr.heap.size, 0, none⟩) 1 1) 1 [v] :=
  ⟨rfl, .inr ⟨wr.heap.size, 1, #[v], rfl, h, heap_alloc_new wr _, Nat.le_refl _, by simp [maxLen], rfl, by simp⟩⟩
theorem info_u8 : (Tryd.prog.info? 5).map (fun i => (i.zero, i.size, i.bytes)) = some (some (.int .u8 0), 1, 1) := by kernel_rfl
/-- The digits as they lie. -/
def DecAt (w : World) (xs : List Int) (v : Value) (wr : World) : Prop := ∃ q c, v = .slice q xs.length c ∧ wr.ownsRow w.heap.size 5 1 (.slice q xs.length c) xs.length (u8Cells xs) ∧ Since w wr
theorem dec_push {w w2 : World} {xs : List Int} {x : Int} {q : Option Addr} {cap : Nat} (ho : w2.ownsRow w.heap.size 5 1 (.slice q (1 + xs.length) cap) (1 + xs.length) ([.int .u8 x] ++ u8Cells xs)) (S : Since w w2) : DecAt w (x :: xs) (.slice q (1 + xs.length) cap) w2 := by
  have e : 1 + xs.length = (x :: xs).length := by simp; omega
  rw [e] at ho ⊢
  exact ⟨_, _, rfl, ho, S⟩
theorem dec_conv {B : Nat} {w : World} {q : Option Addr} {c : Nat} {xs : List Int} (ho : w.ownsRow B 5 1 (.slice q xs.length c) xs.length (u8Cells xs)) (hl : 0 < xs.length) :
    (convert 57 9 (.slice q xs.length c)).run Tryd.prog w = .ok (.string (strOfNums xs)) w := by
  obtain ⟨g, rfl, _, _, hc⟩ := dec_at ho hl
  refine run_convert_bytes_arg (P := Tryd.prog) w 57 5 Tryd.underlying57 Tryd.underlying5 g 0 xs.length c xs rfl (fun i hi => ?_) 9 Tryd.underlying9
  have := hc i (.int .u8 (xs.getD i 0)) (by simp [u8Cells, List.getD, List.getElem?_eq_getElem hi])
  rwa [Go.WideShapes.add_plain] at this
theorem dec_conv' {B : Nat} {w : World} {q : Option Addr} {c : Nat} {xs : List Int} {x : Int} (ho : w.ownsRow B 5 1 (.slice q (1 + xs.length) c) (1 + xs.length) ([.int .u8 x] ++ u8Cells xs)) :
    (convert 57 9 (.slice q (1 + xs.length) c)).run Tryd.prog w = .ok (.string (strOfNums (x :: xs))) w := by
  have e : 1 + xs.length = (x :: xs).length := by simp; omega
  rw [e] at ho ⊢
  exact dec_conv ho (by simp)
set_option maxRecDepth 100000 in
set_option maxHeartbeats 4000000 in
theorem l01Dec_any (n : Int) (w : World) (h0 : -9223372036854775808 ≤ n) (h1 : n ≤ 9223372036854775807) :
    Calls Tryd.prog 27 #[.int .i64 n] w fun e w' => e = .returned (.string (decS n)) ∧ Below w.heap.size w w' := by
  have S0 := (Since.refl w).alloc (.cells #[] 5)
  have T0 := World.ownsRow_made (base := w.heap.size) (size := 1) (e := 5) w #[] 0 (Nat.le_refl _) (by decide) rfl
  go_enter Tryd.func27, Tryd.ntmps27
  go_wp2
  go_loopw [3, 4] (fun v i wr => ∃ (r : Int) (xs : List Int), i = .int .i64 r ∧ -9223372036854775808 ≤ r ∧ r ≤ 9223372036854775807 ∧ (0 ≤ n → 0 ≤ r) ∧ DecInv n.natAbs r.natAbs xs ∧ DecAt w xs v wr ∧ (xs = [] → v = .slice (some ⟨w.heap.size, 0, none⟩) 0 0)) (fun v i _ => (intOf i).natAbs + (match v with | .slice _ 0 _ => 1 | _ => 0))
  case atStart => exact ⟨n, [], rfl, h0, h1, fun h => h, dec_start _, ⟨_, _, rfl, T0, S0⟩, fun _ => rfl⟩
  case round =>
    clear T0 S0
    obtain ⟨r, xs, rfl, hr0, hr1, hsg, hinv, ⟨q, c, rfl, hown, S⟩, hemp⟩ := hrel
    have hxl := dec_len hinv (by omega)
    obtain ⟨ht, hq⟩ := tmod_abs r
    have htr : -9 ≤ r.tmod 10 ∧ r.tmod 10 ≤ 9 := by omega
    obtain ⟨t, et⟩ : ∃ t, r.tmod 10 = t := ⟨_, rfl⟩
    obtain ⟨d, ed⟩ : ∃ d, r.tdiv 10 = d := ⟨_, rfl⟩
    rw [et] at ht htr
    rw [ed] at hq
    obtain ⟨t1, t2⟩ := htr
    have hsg2 : 0 ≤ n → 0 ≤ d := fun h => by have := hsg h; rw [← ed]; exact Int.tdiv_nonneg this (by omega)
    have hd1 : -9223372036854775808 ≤ d ∧ d ≤ 9223372036854775807 := by omega
    obtain ⟨d1, d2⟩ := hd1
    by_cases hx : xs = []
    · subst hx
      have hqc := hemp rfl
      simp only [Value.slice.injEq, List.length_nil] at hqc
      obtain ⟨rfl, _, rfl⟩ := hqc
      have hst := dec_step hinv (.inl rfl)
      rw [← hq] at hst
      by_cases ht0 : t < 0
      · have hd : ((-t : Int)) = ((r.natAbs % 10 : Nat) : Int) := by omega
        rw [← hd] at hst
        have Sn := S.alloc (.cells #[.int .u8 (48 + -t)] 5)
        have tn := own_one (T := 5) (.int .u8 (48 + -t)) S.size
        have Hst := Lib.hid hst; clear hst
        have Hinv := Lib.hid hinv; clear hinv
        have Hsg := Lib.hid hsg; clear hsg
        have Hsg2 := Lib.hid hsg2; clear hsg2
        have Ht := Lib.hid ht; clear ht
        have Hq := Lib.hid hq; clear hq
        have Hd := Lib.hid hd; clear hd
        go_wp2
        go_roundw
        case rel => exact ⟨d, [48 + -t], rfl, d1, d2, Hsg2.out, Hst.out, ⟨_, _, rfl, tn, Sn⟩, fun h => by cases h⟩
        case measure => have := Hq.out; simp [intOf]; omega
      · have hd : ((t : Int)) = ((r.natAbs % 10 : Nat) : Int) := by omega
        rw [← hd] at hst
        have Sn := S.alloc (.cells #[.int .u8 (48 + t)] 5)
        have tn := own_one (T := 5) (.int .u8 (48 + t)) S.size
        have Hst := Lib.hid hst; clear hst
        have Hinv := Lib.hid hinv; clear hinv
        have Hsg := Lib.hid hsg; clear hsg
        have Hsg2 := Lib.hid hsg2; clear hsg2
        have Ht := Lib.hid ht; clear ht
        have Hq := Lib.hid hq; clear hq
        have Hd := Lib.hid hd; clear hd
        go_wp2
        go_roundw
        case rel => exact ⟨d, [48 + t], rfl, d1, d2, Hsg2.out, Hst.out, ⟨_, _, rfl, tn, Sn⟩, fun h => by cases h⟩
        case measure => have := Hq.out; simp [intOf]; omega
    · have hpos : 0 < xs.length := List.length_pos_iff.2 hx
      have hl0 : ((xs.length : Int) == 0) = false := by rw [beq_eq_false_iff_ne]; omega
      obtain ⟨j0, hi, hz0, hz1, hz2⟩ := info_parts info_u8
      by_cases hr : r = 0
      · subst hr
        have hend := dec_end hinv hx
        have hcv := dec_conv hown hpos
        by_cases hn : n < 0
        · have hdn := decS_neg hn
          rw [← hend] at hdn
          have Sn := S.alloc (.cells #[.int .u8 45] 5)
          have tn := own_one (T := 5) (.int .u8 45) S.size
          have hown' := own_below hown (bl_alloc wr (.cells #[.int .u8 45] 5)) (Nat.le_refl _)
          obtain ⟨g, rfl, hg, hgl, hnews⟩ := dec_at hown' hpos
          have hul := u8_len xs
          have Hinv := Lib.hid hinv; clear hinv
          have Hsg := Lib.hid hsg; clear hsg
          have Hsg2 := Lib.hid hsg2; clear hsg2
          have Ht := Lib.hid ht; clear ht
          have Hq := Lib.hid hq; clear hq
          have Hnews := Lib.hid hnews; clear hnews
          have Hul := Lib.hid hul; clear hul
          have Tn := Lib.hid tn; clear tn
          have Hend := Lib.hid hend; clear hend
          have Hdn := Lib.hid hdn; clear hdn
          have hS := Sn.size
          clear hown hown' hcv
          go_wp2_with (at_builtin; refine wpList_append_lies _ rfl _ _ 57 rfl w.heap.size 5 j0 _ 1 1 Tryd.underlying57 hi hz0 hz1 hz2 rfl (by decide) _ 1 _ rfl Tn.out ⟨g, 0, none⟩ xs.length c (u8Cells xs) rfl Hul.out Hnews.out (u8_one _) hpos (by unfold maxLen; omega) (by omega) hS _ rfl ?_; intro g' cap w2 hown2 hgr hat hlt2; have S2 : Since w w2 := ⟨below_own Sn.below hgr (own_ge Tn.out) hS⟩; have hcv : (convert 57 9 (.slice (some ⟨g', 0, none⟩) (1 + xs.length) cap)).run Tryd.prog w2 = .ok (.string (strOfNums (45 :: xs))) w2 := dec_conv' hown2)
          go_ret
          refine ⟨?_, S2.below⟩
          rw [Hdn.out]; rfl
        · have hdn := decS_pos hn
          rw [← hend] at hdn
          have Hinv := Lib.hid hinv; clear hinv
          have Hsg := Lib.hid hsg; clear hsg
          have Hsg2 := Lib.hid hsg2; clear hsg2
          have Ht := Lib.hid ht; clear ht
          have Hq := Lib.hid hq; clear hq
          have Hend := Lib.hid hend; clear hend
          have Hdn := Lib.hid hdn; clear hdn
          clear hown
          go_wp2
          go_ret
          refine ⟨?_, S.below⟩
          rw [Hdn.out]; rfl
      · have hrn : (r != 0) = true := by simp [hr]
        have hst := dec_step hinv (.inr (by omega))
        rw [← hq] at hst
        by_cases ht0 : t < 0
        · have hd : ((-t : Int)) = ((r.natAbs % 10 : Nat) : Int) := by omega
          rw [← hd] at hst
          have Sn := S.alloc (.cells #[.int .u8 (48 + -t)] 5)
          have tn := own_one (T := 5) (.int .u8 (48 + -t)) S.size
          have hown' := own_below hown (bl_alloc wr (.cells #[.int .u8 (48 + -t)] 5)) (Nat.le_refl _)
          obtain ⟨g, rfl, hg, hgl, hnews⟩ := dec_at hown' hpos
          have hul := u8_len xs
          have Hst := Lib.hid hst; clear hst
          have Hinv := Lib.hid hinv; clear hinv
          have Hsg := Lib.hid hsg; clear hsg
          have Hsg2 := Lib.hid hsg2; clear hsg2
          have Ht := Lib.hid ht; clear ht
          have Hq := Lib.hid hq; clear hq
          have Hd := Lib.hid hd; clear hd
          have Hnews := Lib.hid hnews; clear hnews
          have Hul := Lib.hid hul; clear hul
          have Tn := Lib.hid tn; clear tn
          have hS := Sn.size
          clear hown hown'
          go_wp2_with (at_builtin; refine wpList_append_lies _ rfl _ _ 57 rfl w.heap.size 5 j0 _ 1 1 Tryd.underlying57 hi hz0 hz1 hz2 rfl (by decide) _ 1 _ rfl Tn.out ⟨g, 0, none⟩ xs.length c (u8Cells xs) rfl Hul.out Hnews.out (u8_one _) hpos (by unfold maxLen; omega) (by omega) hS _ rfl ?_; intro g' cap w2 hown2 hgr hat hlt2)
          have S2 : Since w w2 := ⟨below_own Sn.below hgr (own_ge Tn.out) hS⟩
          go_roundw
          case rel => exact ⟨d, (48 + -t) :: xs, rfl, d1, d2, Hsg2.out, Hst.out, dec_push hown2 S2, fun h => by cases h⟩
          case measure =>
            have h1 := Hq.out
            have h2 : r.natAbs ≠ 0 := by omega
            have h3 : 1 + xs.length ≠ 0 := by omega
            simp only [intOf]
            split <;> split <;> simp_all <;> omega
        · have hd : ((t : Int)) = ((r.natAbs % 10 : Nat) : Int) := by omega
          rw [← hd] at hst
          have Sn := S.alloc (.cells #[.int .u8 (48 + t)] 5)
          have tn := own_one (T := 5) (.int .u8 (48 + t)) S.size
          have hown' := own_below hown (bl_alloc wr (.cells #[.int .u8 (48 + t)] 5)) (Nat.le_refl _)
          obtain ⟨g, rfl, hg, hgl, hnews⟩ := dec_at hown' hpos
          have hul := u8_len xs
          have Hst := Lib.hid hst; clear hst
          have Hinv := Lib.hid hinv; clear hinv
          have Hsg := Lib.hid hsg; clear hsg
          have Hsg2 := Lib.hid hsg2; clear hsg2
          have Ht := Lib.hid ht; clear ht
          have Hq := Lib.hid hq; clear hq
          have Hd := Lib.hid hd; clear hd
          have Hnews := Lib.hid hnews; clear hnews
          have Hul := Lib.hid hul; clear hul
          have Tn := Lib.hid tn; clear tn
          have hS := Sn.size
          clear hown hown'
          go_wp2_with (at_builtin; refine wpList_append_lies _ rfl _ _ 57 rfl w.heap.size 5 j0 _ 1 1 Tryd.underlying57 hi hz0 hz1 hz2 rfl (by decide) _ 1 _ rfl Tn.out ⟨g, 0, none⟩ xs.length c (u8Cells xs) rfl Hul.out Hnews.out (u8_one _) hpos (by unfold maxLen; omega) (by omega) hS _ rfl ?_; intro g' cap w2 hown2 hgr hat hlt2)
          have S2 : Since w w2 := ⟨below_own Sn.below hgr (own_ge Tn.out) hS⟩
          go_roundw
          case rel => exact ⟨d, (48 + t) :: xs, rfl, d1, d2, Hsg2.out, Hst.out, dec_push hown2 S2, fun h => by cases h⟩
          case measure =>
            have h1 := Hq.out
            have h2 : r.natAbs ≠ 0 := by omega
            have h3 : 1 + xs.length ≠ 0 := by omega
            simp only [intOf]
            split <;> split <;> simp_all <;> omega
theorem gPow : Tryd.prog.globalNamed "internal/strconv.uint64pow10" = some 0 := by kernel_rfl
end Go.Proofs.YtdjjfgkcheimjaaDoor
