/- Contracts of the reference's and the program's ApartBy. -/
import Derived.Test.YtakoklldmdbphaaNearOf
import Derived.Test.YtakoklldmdbphaaImplIn
set_option linter.unusedVariables false
namespace Go.Proofs.Ytakoklldmdbphaa
open Go.RowKit

/-- The greatest distance from a spot of l to the nearest one of m. -/
def apartZ (k : Int) (l m : List (Int × Int)) : Int := l.foldl (fun a s => max a (bestD (farG k s.1 s.2) m)) 0
theorem apartZ_snoc (k : Int) (l m : List (Int × Int)) (s : Int × Int) : apartZ k (l ++ [s]) m = max (apartZ k l m) (bestD (farG k s.1 s.2) m) := by simp [apartZ, List.foldl_append]
theorem apartZ_take (k : Int) (l m : List (Int × Int)) (j : Nat) (h : j < l.length) : apartZ k (l.take (j + 1)) m = max (apartZ k (l.take j) m) (bestD (farG k (l.getD j (0, 0)).1 (l.getD j (0, 0)).2) m) := by
  rw [List.take_succ_eq_append_getElem h, apartZ_snoc]
  simp [List.getD, List.getElem?_eq_getElem h]
def apOkB (ss ts : List ByteArray) (k : Int) : Bool := someB ss k && someB ts k && likeB ss ts
def apR (ss ts : List ByteArray) (k : Int) : Int := if apOkB ss ts k then max (apartZ k (spotsL ss) (spotsL ts)) (apartZ k (spotsL ts) (spotsL ss)) else 0

set_option maxRecDepth 100000 in
set_option maxHeartbeats 4000000 in
theorem apart_any (k : Int) (p q : Option Addr) (c d : Nat) (l m : List (Int × Int)) (w : World) (hl : ∀ s ∈ l, (-1000 ≤ s.1 ∧ s.1 ≤ 1000) ∧ (-1000 ≤ s.2 ∧ s.2 ≤ 1000)) (hm : ∀ s ∈ m, (-1000 ≤ s.1 ∧ s.1 ≤ 1000) ∧ (-1000 ≤ s.2 ∧ s.2 ≤ 1000))
    (h0 : 0 < m.length) (h1 : m.length ≤ 256) (h2 : l.length ≤ 256) (hr : Rd w p (l.length * 2) (spotAt l)) (hq : Rd w q (m.length * 2) (spotAt m)) :
    Calls Try.prog 113 #[.int .i64 k, .slice p l.length c, .slice q m.length d] w fun e w' => e = .returned (.int .i64 (apartZ k l m)) ∧ Below w.heap.size w w' := by
  have Hl := Lib.hid hl; clear hl
  have Hm := Lib.hid hm; clear hm
  go_enter Try.func113, Try.ntmps113
  go_wp2
  go_loopw [7, 14] (fun b i wr => ∃ j : Nat, j ≤ l.length ∧ i = .int .i64 j ∧ b = .int .i64 (apartZ k (l.take j) m) ∧ Since w wr) (fun _ i _ => l.length - (intOf i).toNat)
  case atStart => exact ⟨0, Nat.zero_le _, rfl, rfl, Since.refl w⟩
  case round =>
    obtain ⟨j, hj, rfl, rfl, S⟩ := hrel
    by_cases hlt : j < l.length
    · have hs1 := Hl.out _ (getD_memS hlt)
      obtain ⟨b, o, rfl, hb, hc⟩ := (hr.below S.below (Nat.le_refl _)).at (k := j * 2) (by omega)
      have hm2 := apartZ_take k l m j hlt
      have hbd : bestD (farG k (l.getD j (0, 0)).1 (l.getD j (0, 0)).2) m = farG k (l.getD j (0, 0)).1 (l.getD j (0, 0)).2 (bestS (farG k (l.getD j (0, 0)).1 (l.getD j (0, 0)).2) m) := by rw [bestD, if_neg (by omega)]
      rw [hbd] at hm2
      have a0 := hc (j * 2) (by omega)
      have a1 := hc (j * 2 + 1) (by omega)
      rw [spotAt_x] at a0
      rw [spotAt_y, ← Nat.add_assoc] at a1
      have hj0 : (0 : Int) ≤ (j : Int) := Int.natCast_nonneg _
      have hj1 : (j : Int) < (l.length : Int) := by omega
      generalize (l.getD j (0, 0)).1 = u at *
      generalize (l.getD j (0, 0)).2 = v at *
      have cl := fun w' h => least_any k u v q d m w' hs1.1 hs1.2 Hm.out h0 h1 h
      have Q := hq.below S.below (Nat.le_refl _)
      generalize apartZ k (l.take j) m = A at *
      generalize farG k u v (bestS (farG k u v) m) = D at *
      generalize leastN (farG k u v) m m.length = N at *
      have Hm2 := Lib.hid hm2; clear hm2
      have Cl := Lib.hid cl; clear cl
      have Hs1 := Lib.hid hs1; clear hs1
      clear hbd hr hc hq hb
      go_wp2_with fail
      refine (Cl.out _ (Q.alloc _)).mono ?_
      rintro e w1 ⟨rfl, hb1⟩
      have S1 := (S.alloc _).bl hb1
      clear hb1 a0 a1
      go_wp2
      go_roundw
      case rel => exact ⟨j + 1, by omega, by go_num, val_int (by rw [Hm2.out]; split <;> omega), S1⟩
      case measure => simp [intOf]; omega
    · obtain rfl : j = l.length := by omega
      have e1 : l.take l.length = l := List.take_of_length_le (Nat.le_refl _)
      have E1 := Lib.hid e1; clear e1
      go_wp2
      go_ret
      exact ⟨by rw [E1.out]; rfl, S.below⟩
set_option maxRecDepth 100000 in
set_option maxHeartbeats 4000000 in
theorem l06Apart_any (a b : Nat) (p q : Option Addr) (c d : Nat) (ss ts : List ByteArray) (k : Int) (w : World) (P : PicAt w a p c ss) (Q : PicAt w b q d ts) (h0 : 0 < (spotsL ts).length) :
    Calls Try.prog 111 #[.pointer (some ⟨a, 0, none⟩), .pointer (some ⟨b, 0, none⟩), .int .i64 k] w fun e w' => e = .returned (.int .i64 (apartZ k (spotsL ss) (spotsL ts))) ∧ Below w.heap.size w w' := by
  have hd := okPic_dims P.ok
  obtain ⟨hd1, hd2, hd3, hd4⟩ := hd
  have hsl : spotsL ss = spotsTo (wid ss) (bits ss) (wid ss * ss.length) := by rw [spotsL, if_pos P.ok]
  have k1 := fun w h => l01Width_any a p c ss w h
  have k2 := fun w h => l01Height_any a p c ss w h
  have k3 := fun x y w h => l01Black_any a p c ss x y w h
  have k4 := fun x y w h h1 h2 => l06Nearest_any b q d ts k x y w h h1 h2
  rw [hsl]
  obtain ⟨f, ef⟩ : ∃ f, bits ss = f := ⟨_, rfl⟩
  rw [ef] at k3 ⊢
  obtain ⟨m, em⟩ : ∃ m, spotsL ts = m := ⟨_, rfl⟩
  rw [em] at k4 h0 ⊢
  have K1 := Lib.hid k1; clear k1
  have K2 := Lib.hid k2; clear k2
  have K3 := Lib.hid k3; clear k3
  have K4 := Lib.hid k4; clear k4
  have Hsl := Lib.hid hsl; clear hsl
  have Ef := Lib.hid ef; clear ef
  have Em := Lib.hid em; clear em
  go_enter Try.func111, Try.ntmps111
  go_wp2
  go_loopw [7, 8] (fun v i wr => ∃ j : Nat, j ≤ ss.length ∧ i = .int .i64 j ∧ v = .int .i64 (apartZ k (spotsTo (wid ss) f (j * wid ss)) m) ∧ Since w wr) (fun _ i _ => ss.length - (intOf i).toNat)
  case atStart => exact ⟨0, Nat.zero_le _, rfl, by rw [Nat.zero_mul]; rfl, Since.refl w⟩
  case round =>
    obtain ⟨j, hj, rfl, rfl, S⟩ := hrel
    have P1 := P.bl S.below
    by_cases hjH : j < ss.length
    · go_wp2_with fail
      refine (K2.out _ P1).mono ?_
      rintro e w1 ⟨rfl, rfl⟩
      go_wp2
      go_loopw [7, 9] (fun v i wr => ∃ u : Nat, u ≤ wid ss ∧ i = .int .i64 u ∧ v = .int .i64 (apartZ k (spotsTo (wid ss) f (j * wid ss + u)) m) ∧ Since w wr) (fun _ i _ => wid ss - (intOf i).toNat)
      case atStart => exact ⟨0, Nat.zero_le _, rfl, rfl, S⟩
      case round =>
        clear S P1
        obtain ⟨u, hu, rfl, rfl, S⟩ := hrel
        have P1 := P.bl S.below
        have Q1 := Q.bl S.below
        by_cases huW : u < wid ss
        · have hlt : j * wid ss + u < wid ss * ss.length := at_lt huW hjH
          have hsu := spotsTo_succ (wid ss) f (j * wid ss + u)
          rw [(at_mod huW).1, (at_mod huW).2] at hsu
          have c3 := (K3.out (u : Int) (j : Int) wr P1).mono (fun e w' q => (⟨q.1.trans (by rw [px_at huW hjH]), q.2⟩ : e = .returned (.bool (f (j * wid ss + u))) ∧ ∃ n, w' = wr.drewN n))
          cases hb : f (j * wid ss + u)
          · rw [hb] at hsu c3
            rw [if_neg (by simp), List.append_nil] at hsu
            have C3 := Lib.hid c3; clear c3
            have Hsu := Lib.hid hsu; clear hsu
            have Hb := Lib.hid hb; clear hb
            go_wp2_with fail
            refine (K1.out _ P1).mono ?_
            rintro e w1 ⟨rfl, rfl⟩
            go_wp2_with fail
            refine C3.out.mono ?_
            rintro e w1 ⟨rfl, n, rfl⟩
            have S1 := S.bl (bl_drewN _ n)
            clear P1 S Q1
            go_wp2
            go_roundw
            case rel => exact ⟨u + 1, by omega, by go_num, by rw [← Nat.add_assoc, Hsu.out], S1⟩
            case measure => simp [intOf]; omega
          · rw [hb] at hsu c3
            rw [if_pos rfl] at hsu
            have hS := apartZ_snoc k (spotsTo (wid ss) f (j * wid ss + u)) m ((u : Int), (j : Int))
            rw [← hsu] at hS
            dsimp only at hS
            have c4 := fun w' h => K4.out (u : Int) (j : Int) w' h (by omega) (by omega)
            generalize apartZ k (spotsTo (wid ss) f (j * wid ss + u)) m = A at *
            generalize bestD (farG k u j) m = D at *
            generalize bestS (farG k u j) m = E at *
            obtain ⟨e1, e2⟩ := E
            dsimp only at c4
            have C3 := Lib.hid c3; clear c3
            have C4 := Lib.hid c4; clear c4
            have Hsu := Lib.hid hsu; clear hsu
            have Hb := Lib.hid hb; clear hb
            have HS := Lib.hid hS; clear hS
            go_wp2_with fail
            refine (K1.out _ P1).mono ?_
            rintro e w1 ⟨rfl, rfl⟩
            go_wp2_with fail
            refine C3.out.mono ?_
            rintro e w1 ⟨rfl, n, rfl⟩
            have S1 := S.bl (bl_drewN _ n)
            have Q2 := Q1.bl (bl_drewN _ n)
            clear P1 S Q1
            go_wp2_with fail
            refine (C4.out _ Q2).mono ?_
            rintro e w1 ⟨rfl, hb1⟩
            have S2 := (S1.bl hb1).alloc (.cells #[.int .i64 e1, .int .i64 e2] 27)
            clear hb1 S1 Q2
            go_wp2_with (go_at_call 66; refine (l00Max_any _ _ _).mono ?_; rintro e w1 ⟨rfl, rfl⟩)
            go_roundw
            case rel => exact ⟨u + 1, by omega, by go_num, by rw [← Nat.add_assoc, HS.out], S2⟩
            case measure => simp [intOf]; omega
        · obtain rfl : u = wid ss := by omega
          have e1 : j * wid ss + wid ss = (j + 1) * wid ss := by rw [Nat.add_mul, Nat.one_mul]
          have E1 := Lib.hid e1; clear e1
          go_wp2_with fail
          refine (K1.out _ P1).mono ?_
          rintro e w1 ⟨rfl, rfl⟩
          go_wp2
          go_roundw
          case rel => exact ⟨j + 1, by omega, by go_num, by rw [E1.out], S⟩
          case measure => simp [intOf]; omega
    · obtain rfl : j = ss.length := by omega
      have e1 : ss.length * wid ss = wid ss * ss.length := Nat.mul_comm _ _
      have E1 := Lib.hid e1; clear e1
      go_wp2_with fail
      refine (K2.out _ P1).mono ?_
      rintro e w1 ⟨rfl, rfl⟩
      go_wp2
      go_ret
      exact ⟨by rw [E1.out]; rfl, S.below⟩
set_option maxHeartbeats 4000000 in
theorem sApartBy_any (p q : Option Addr) (c d : Nat) (ss ts : List ByteArray) (k : Int) (w : World) (hn : ss.length ≤ 1048576) (hs : ∀ s ∈ ss, s.size ≤ 1048576) (hn2 : ts.length ≤ 1048576) (hs2 : ∀ s ∈ ts, s.size ≤ 1048576)
    (hr : Rd w p ss.length (strAt ss)) (hq : Rd w q ts.length (strAt ts)) :
    Calls Try.prog 53 #[.agg #[.slice p ss.length c], .agg #[.slice q ts.length d], .int .i64 k] w fun e w' => e = .returned (.tuple #[.int .i64 (apR ss ts k), .bool (apOkB ss ts k)]) ∧ Below w.heap.size w w' := by
  have P : PicVar ((w.alloc (.cells #[.slice p ss.length c] 30)).alloc (.cells #[.slice q ts.length d] 30)) w.heap.size p c ss := ⟨((Blk.new w #[.slice p ss.length c] 30).alloc _).cell 0 rfl, (hr.alloc _).alloc _⟩
  have Q : PicVar ((w.alloc (.cells #[.slice p ss.length c] 30)).alloc (.cells #[.slice q ts.length d] 30)) (w.heap.size + 1) q d ts := ⟨by simp, (hq.alloc _).alloc _⟩
  have S := ((Since.refl w).bl (bl_alloc w (.cells #[.slice p ss.length c] 30))).bl (bl_alloc _ (.cells #[.slice q ts.length d] 30))
  have c0 := fun w' h => l06Some_any w.heap.size p c ss k w' hn hs h
  have c1 := fun w' h => l06Some_any (w.heap.size + 1) q d ts k w' hn2 hs2 h
  have c2 := fun w' h h' => l01Like_any w.heap.size (w.heap.size + 1) p q c d ss ts w' hn hs hn2 hs2 h h'
  cases h1 : someB ss k
  · have hv : apOkB ss ts k = false := by simp [apOkB, h1]
    have hv2 : apR ss ts k = 0 := by simp [apR, hv]
    rw [hv, hv2]
    rw [h1] at c0
    have C0 := Lib.hid c0; clear c0
    have H1 := Lib.hid h1; clear h1
    clear hv hv2 c1 c2
    go_enter Try.func53, Try.ntmps53
    go_wp2_with fail
    refine (C0.out _ P).mono ?_
    rintro e w1 ⟨rfl, n, rfl⟩
    have S1 := S.bl (bl_drewN _ n)
    go_wp2
    go_ret2
    exact ⟨rfl, S1.below⟩
  · cases h2 : someB ts k
    · have hv : apOkB ss ts k = false := by simp [apOkB, h2]
      have hv2 : apR ss ts k = 0 := by simp [apR, hv]
      rw [hv, hv2]
      rw [h1] at c0
      rw [h2] at c1
      have C0 := Lib.hid c0; clear c0
      have H1 := Lib.hid h1; clear h1
      have C1 := Lib.hid c1; clear c1
      have H2 := Lib.hid h2; clear h2
      clear hv hv2 c2
      go_enter Try.func53, Try.ntmps53
      go_wp2_with fail
      refine (C0.out _ P).mono ?_
      rintro e w1 ⟨rfl, n, rfl⟩
      have S1 := S.bl (bl_drewN _ n)
      have Q1 := Q.bl (bl_drewN _ n)
      go_wp2_with fail
      refine (C1.out _ Q1).mono ?_
      rintro e w1 ⟨rfl, n2, rfl⟩
      have S2 := S1.bl (bl_drewN _ n2)
      rw [World.drewN_drewN] at S2
      go_wp2
      go_ret2
      exact ⟨rfl, S2.below⟩
    · cases h3 : likeB ss ts
      · have hv : apOkB ss ts k = false := by simp [apOkB, h3]
        have hv2 : apR ss ts k = 0 := by simp [apR, hv]
        rw [hv, hv2]
        rw [h1] at c0
        rw [h2] at c1
        rw [h3] at c2
        have C0 := Lib.hid c0; clear c0
        have H1 := Lib.hid h1; clear h1
        have C1 := Lib.hid c1; clear c1
        have H2 := Lib.hid h2; clear h2
        have C2 := Lib.hid c2; clear c2
        have H3 := Lib.hid h3; clear h3
        clear hv hv2
        go_enter Try.func53, Try.ntmps53
        go_wp2_with fail
        refine (C0.out _ P).mono ?_
        rintro e w1 ⟨rfl, n, rfl⟩
        have S1 := S.bl (bl_drewN _ n)
        have Q1 := Q.bl (bl_drewN _ n)
        have P1 := P.bl (bl_drewN _ n)
        go_wp2_with fail
        refine (C1.out _ Q1).mono ?_
        rintro e w1 ⟨rfl, n2, rfl⟩
        have S2 := S1.bl (bl_drewN _ n2)
        have Q2 := Q1.bl (bl_drewN _ n2)
        have P2 := P1.bl (bl_drewN _ n2)
        rw [World.drewN_drewN] at S2 P2 Q2
        go_wp2_with fail
        refine (C2.out _ P2 Q2).mono ?_
        rintro e w1 ⟨rfl, hb⟩
        have S3 := S2.bl hb
        go_wp2
        go_ret2
        exact ⟨rfl, S3.below⟩
      · have hv : apOkB ss ts k = true := by simp [apOkB, h1, h2, h3]
        have hv2 : apR ss ts k = max (apartZ k (spotsL ss) (spotsL ts)) (apartZ k (spotsL ts) (spotsL ss)) := by simp [apR, hv]
        obtain ⟨o1, _, n1⟩ := someB_true h1
        obtain ⟨o2, _, n2⟩ := someB_true h2
        have c3 := fun w' h h' => l06Apart_any w.heap.size (w.heap.size + 1) p q c d ss ts k w' h h' n2
        have c4 := fun w' h h' => l06Apart_any (w.heap.size + 1) w.heap.size q p d c ts ss k w' h h' n1
        rw [hv, hv2]
        rw [h1] at c0
        rw [h2] at c1
        rw [h3] at c2
        generalize apartZ k (spotsL ss) (spotsL ts) = A1 at *
        generalize apartZ k (spotsL ts) (spotsL ss) = A2 at *
        have P0 := P.at o1
        have Q0 := Q.at o2
        have C0 := Lib.hid c0; clear c0
        have H1 := Lib.hid h1; clear h1
        have C1 := Lib.hid c1; clear c1
        have H2 := Lib.hid h2; clear h2
        have C2 := Lib.hid c2; clear c2
        have H3 := Lib.hid h3; clear h3
        have C3 := Lib.hid c3; clear c3
        have C4 := Lib.hid c4; clear c4
        have O1 := Lib.hid o1; clear o1
        have O2 := Lib.hid o2; clear o2
        clear hv hv2
        go_enter Try.func53, Try.ntmps53
        go_wp2_with fail
        refine (C0.out _ P).mono ?_
        rintro e w1 ⟨rfl, n, rfl⟩
        have S1 := S.bl (bl_drewN _ n)
        have Q1 := Q0.bl (bl_drewN _ n)
        have P1 := P0.bl (bl_drewN _ n)
        go_wp2_with fail
        refine (C1.out _ ⟨Q1.box, Q1.rd⟩).mono ?_
        rintro e w1 ⟨rfl, n2, rfl⟩
        have S2 := S1.bl (bl_drewN _ n2)
        have Q2 := Q1.bl (bl_drewN _ n2)
        have P2 := P1.bl (bl_drewN _ n2)
        rw [World.drewN_drewN] at S2 P2 Q2
        go_wp2_with fail
        refine (C2.out _ ⟨P2.box, P2.rd⟩ ⟨Q2.box, Q2.rd⟩).mono ?_
        rintro e w1 ⟨rfl, hb⟩
        replace S2 := S2.bl hb
        replace P2 := P2.bl hb
        replace Q2 := Q2.bl hb
        clear hb
        go_wp2_with fail
        refine (C3.out _ P2 Q2).mono ?_
        rintro e w2 ⟨rfl, hb⟩
        replace S2 := S2.bl hb
        replace P2 := P2.bl hb
        replace Q2 := Q2.bl hb
        clear hb
        go_wp2_with fail
        refine (C4.out _ Q2 P2).mono ?_
        rintro e w3 ⟨rfl, hb⟩
        replace S2 := S2.bl hb
        replace P2 := P2.bl hb
        replace Q2 := Q2.bl hb
        clear hb
        go_wp2_with (go_at_call 66; refine (l00Max_any _ _ _).mono ?_; rintro e w1 ⟨rfl, rfl⟩)
        go_ret2
        exact ⟨rfl, S2.below⟩
set_option maxHeartbeats 4000000 in
theorem apartBy_any (p q : Option Addr) (c d : Nat) (ss ts : List ByteArray) (k : Int) (w : World) (hn : ss.length ≤ 1048576) (hs : ∀ s ∈ ss, s.size ≤ 1048576) (hn2 : ts.length ≤ 1048576) (hs2 : ∀ s ∈ ts, s.size ≤ 1048576)
    (hr : Rd w p ss.length (strAt ss)) (hq : Rd w q ts.length (strAt ts)) :
    Calls Try.prog 54 #[.agg #[.slice p ss.length c], .agg #[.slice q ts.length d], .int .i64 k] w fun e w' => e = .returned (.tuple #[.int .i64 (apR ss ts k), .bool (apOkB ss ts k)]) ∧ Below w.heap.size w w' := by
  have S := ((Since.refl w).bl (bl_alloc w (.cells #[.slice p ss.length c] 30))).bl (bl_alloc _ (.cells #[.slice q ts.length d] 30))
  have R := (hr.alloc (.cells #[.slice p ss.length c] 30)).alloc (.cells #[.slice q ts.length d] 30)
  have Q := (hq.alloc (.cells #[.slice p ss.length c] 30)).alloc (.cells #[.slice q ts.length d] 30)
  have hno : apOkB ss ts k = false → apR ss ts k = 0 := fun h => by simp [apR, h]
  have hl0 : likeB ss ts = false → apOkB ss ts k = false := fun h => by simp [apOkB, h]
  have hk0 : inB k 0 2 = false → apOkB ss ts k = false := fun h => by simp [apOkB, someB, askB, h]
  have hz1 : ((spotsL ss).length : Int) = 0 → apOkB ss ts k = false := fun h => by simp [apOkB, someB, h]
  have hz2 : ((spotsL ts).length : Int) = 0 → apOkB ss ts k = false := fun h => by simp [apOkB, someB, h]
  have hyes : likeB ss ts = true → inB k 0 2 = true → ¬ ((spotsL ss).length : Int) = 0 → ¬ ((spotsL ts).length : Int) = 0 → apOkB ss ts k = true ∧ apR ss ts k = max (apartZ k (spotsL ss) (spotsL ts)) (apartZ k (spotsL ts) (spotsL ss)) := fun h1 h2 h3 h4 => by
    obtain ⟨o1, o2, _, _⟩ := likeB_true h1
    have : apOkB ss ts k = true := by
      simp only [apOkB, someB, askB, o1, o2, h1, h2, Bool.and_true, Bool.true_and, Bool.and_eq_true, decide_eq_true_eq]
      omega
    exact ⟨this, by simp [apR, this]⟩
  have Hno := Lib.hid hno; clear hno
  have Hl0 := Lib.hid hl0; clear hl0
  have Hk0 := Lib.hid hk0; clear hk0
  have Hz1 := Lib.hid hz1; clear hz1
  have Hz2 := Lib.hid hz2; clear hz2
  have Hyes := Lib.hid hyes; clear hyes
  go_enter Try.func54, Try.ntmps54
  go_wp2_with fail
  refine (twoImages_any p q c d ss ts _ hn hs hn2 hs2 R Q).mono ?_
  rintro e w1 ⟨hb, ⟨h, a, b, rfl⟩ | ⟨h, m, g, n, g2, rfl, I, J, hm1, hm2, hm3, hm4⟩⟩
  · replace S := S.bl hb
    have v1 := Hl0.out h
    have v2 := Hno.out v1
    have H := Lib.hid h; clear h
    have V1 := Lib.hid v1; clear v1
    have V2 := Lib.hid v2; clear v2
    clear hb
    go_wp2
    go_ret2
    exact ⟨by rw [V1.out, V2.out]; rfl, S.below⟩
  · replace S := S.bl hb
    clear hb hm1 hm2 hm3 hm4 R Q
    cases hk : inB k 0 2
    · have v1 := Hk0.out hk
      have v2 := Hno.out v1
      have ck := fun w => (kindOk_any k w).mono fun e w' q => (⟨q.1.trans (by rw [hk]), q.2⟩ : e = .returned (.bool false) ∧ w = w')
      have H := Lib.hid h; clear h
      have V1 := Lib.hid v1; clear v1
      have V2 := Lib.hid v2; clear v2
      have Ck := Lib.hid ck; clear ck
      have Hk := Lib.hid hk; clear hk
      go_wp2_with (go_at_call 86; refine (Ck.out _).mono ?_; rintro e w1 ⟨rfl, rfl⟩)
      go_ret2
      exact ⟨by rw [V1.out, V2.out]; rfl, S.below⟩
    · have ck := fun w => (kindOk_any k w).mono fun e w' q => (⟨q.1.trans (by rw [hk]), q.2⟩ : e = .returned (.bool true) ∧ w = w')
      obtain ⟨o1, o2, d1, d2⟩ := likeB_true h
      have E1 : spotsTo (wid ss) (bits ss) (wid ss * ss.length) = spotsL ss := by rw [spotsL, if_pos o1]
      have E2 : spotsTo (wid ss) (bits ts) (wid ss * ss.length) = spotsL ts := by rw [spotsL, if_pos o2, d1, d2]
      have cc1 := count_any m g _ _ _ w1 I
      rw [E1] at cc1
      have cc2 := fun w' h => count_any n g2 (wid ss) ss.length (bits ts) w' h
      have cs1 := fun w' h => spots_any m g (wid ss) ss.length (bits ss) w' h
      have cs2 := fun w' h => spots_any n g2 (wid ss) ss.length (bits ts) w' h
      rw [E1] at cs1
      rw [E2] at cc2 cs2
      have b1 := spotsL_len ss
      have b2 := spotsL_len ts
      have q1 : ∀ s ∈ spotsL ss, (-1000 ≤ s.1 ∧ s.1 ≤ 1000) ∧ (-1000 ≤ s.2 ∧ s.2 ≤ 1000) := fun s hs => by have := spotsL_mem hs; omega
      have q2 : ∀ s ∈ spotsL ts, (-1000 ≤ s.1 ∧ s.1 ≤ 1000) ∧ (-1000 ≤ s.2 ∧ s.2 ≤ 1000) := fun s hs => by have := spotsL_mem hs; omega
      have hy := Hyes.out h hk
      have hz1 := Hz1.out
      have hz2 := Hz2.out
      generalize spotsL ss = l1 at *
      generalize spotsL ts = l2 at *
      have ca1 := fun p q c d w' h0 hr hq => apart_any k p q c d l1 l2 w' q1 q2 h0 b2 b1 hr hq
      have ca2 := fun p q c d w' h0 hr hq => apart_any k p q c d l2 l1 w' q2 q1 h0 b1 b2 hr hq
      obtain ⟨N1, n1_⟩ : ∃ N1, l1.length = N1 := ⟨_, rfl⟩
      obtain ⟨N2, n2_⟩ : ∃ N2, l2.length = N2 := ⟨_, rfl⟩
      rw [n1_] at cc1 hy hz1
      rw [n2_] at cc2 hy hz2
      have H := Lib.hid h; clear h
      have Hk := Lib.hid hk; clear hk
      have Ck := Lib.hid ck; clear ck
      have Cc1 := Lib.hid cc1; clear cc1
      have Cc2 := Lib.hid cc2; clear cc2
      have Cs1 := Lib.hid cs1; clear cs1
      have Cs2 := Lib.hid cs2; clear cs2
      have Q1 := Lib.hid q1; clear q1
      have Q2 := Lib.hid q2; clear q2
      have Hy := Lib.hid hy; clear hy
      have Ca1 := Lib.hid ca1; clear ca1
      have Ca2 := Lib.hid ca2; clear ca2
      have N1_ := Lib.hid n1_; clear n1_
      have N2_ := Lib.hid n2_; clear n2_
      have O1 := Lib.hid o1; clear o1
      have O2 := Lib.hid o2; clear o2
      have D1 := Lib.hid d1; clear d1
      have D2 := Lib.hid d2; clear d2
      clear E1 E2
      cases e1 : ((N1 : Int) == 0)
      · have f1 : ¬ (N1 : Int) = 0 := beq_eq_false_iff_ne.1 e1
        cases e2 : ((N2 : Int) == 0)
        · have f2 : ¬ (N2 : Int) = 0 := beq_eq_false_iff_ne.1 e2
          have g1 : 0 < l1.length := by have := N1_.out; omega
          have g2 : 0 < l2.length := by have := N2_.out; omega
          obtain ⟨v1, v2⟩ := Hy.out f1 f2
          have V1 := Lib.hid v1; clear v1
          have V2 := Lib.hid v2; clear v2
          clear f1 f2 hz1 hz2
          go_wp2_with fail
          refine (Ck.out _).mono ?_
          rintro e w2 ⟨rfl, rfl⟩
          go_wp2_with fail
          refine Cc1.out.mono ?_
          rintro e w2 ⟨rfl, hb⟩
          replace S := S.bl hb
          replace I := I.bl hb
          replace J := J.bl hb
          clear hb
          go_wp2_with fail
          refine (Cc2.out _ J).mono ?_
          rintro e w3 ⟨rfl, hb⟩
          replace S := S.bl hb
          replace I := I.bl hb
          replace J := J.bl hb
          clear hb
          go_wp2_with fail
          refine (Cs1.out _ I).mono ?_
          rintro e w4 ⟨va, rfl, Oa, hb⟩
          replace S := S.bl hb
          replace I := I.bl hb
          replace J := J.bl hb
          clear hb
          obtain ⟨pa, da, rfl⟩ := Oa.form
          go_wp2_with fail
          refine (Cs2.out _ J).mono ?_
          rintro e w5 ⟨vb, rfl, Ob, hb⟩
          replace S := S.bl hb
          replace I := I.bl hb
          replace J := J.bl hb
          replace Oa := Oa.bl hb
          clear hb
          obtain ⟨pb, db, rfl⟩ := Ob.form
          go_wp2_with fail
          refine (Ca1.out _ _ _ _ _ g2 Oa.rd Ob.rd).mono ?_
          rintro e w6 ⟨rfl, hb⟩
          replace S := S.bl hb
          replace I := I.bl hb
          replace J := J.bl hb
          clear hb Oa Ob
          go_wp2_with fail
          refine (Cs2.out _ J).mono ?_
          rintro e w7 ⟨vc, rfl, Oc, hb⟩
          replace S := S.bl hb
          replace I := I.bl hb
          replace J := J.bl hb
          clear hb
          obtain ⟨pc, dc, rfl⟩ := Oc.form
          go_wp2_with fail
          refine (Cs1.out _ I).mono ?_
          rintro e w8 ⟨vd, rfl, Od, hb⟩
          replace S := S.bl hb
          replace I := I.bl hb
          replace J := J.bl hb
          replace Oc := Oc.bl hb
          clear hb
          obtain ⟨pd, dd, rfl⟩ := Od.form
          go_wp2_with fail
          refine (Ca2.out _ _ _ _ _ g1 Oc.rd Od.rd).mono ?_
          rintro e w9 ⟨rfl, hb⟩
          replace S := S.bl hb
          replace I := I.bl hb
          replace J := J.bl hb
          clear hb Oc Od I J
          go_wp2
          all_goals
            go_ret2
            refine ⟨?_, S.below⟩
            rw [V1.out, V2.out]
            refine congrArg (fun z : Int => Ending.returned (.tuple #[.int .i64 z, .bool true])) ?_
            omega
        · have v1 := hz2 (by simpa using e2)
          have v2 := Hno.out v1
          have V1 := Lib.hid v1; clear v1
          have V2 := Lib.hid v2; clear v2
          clear hz1 hz2
          go_wp2_with fail
          refine (Ck.out _).mono ?_
          rintro e w2 ⟨rfl, rfl⟩
          go_wp2_with fail
          refine Cc1.out.mono ?_
          rintro e w2 ⟨rfl, hb⟩
          replace S := S.bl hb
          replace I := I.bl hb
          replace J := J.bl hb
          clear hb
          go_wp2_with fail
          refine (Cc2.out _ J).mono ?_
          rintro e w3 ⟨rfl, hb⟩
          replace S := S.bl hb
          replace I := I.bl hb
          replace J := J.bl hb
          clear hb I J
          go_wp2
          go_ret2
          exact ⟨by rw [V1.out, V2.out]; rfl, S.below⟩
      · have v1 := hz1 (by simpa using e1)
        have v2 := Hno.out v1
        have V1 := Lib.hid v1; clear v1
        have V2 := Lib.hid v2; clear v2
        clear hz1 hz2
        go_wp2_with fail
        refine (Ck.out _).mono ?_
        rintro e w2 ⟨rfl, rfl⟩
        go_wp2_with fail
        refine Cc1.out.mono ?_
        rintro e w2 ⟨rfl, hb⟩
        replace S := S.bl hb
        replace I := I.bl hb
        replace J := J.bl hb
        clear hb I J
        go_wp2
        go_ret2
        exact ⟨by rw [V1.out, V2.out]; rfl, S.below⟩
end Go.Proofs.Ytakoklldmdbphaa
