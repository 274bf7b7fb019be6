/- The law FnRegions: for every input the call returns true, and the inputs read as they did. -/
import Derived.Test.YtakoklldmdbphaaR8S
import Derived.Test.YtakoklldmdbphaaRegions
import Derived.Test.YtakoklldmdbphaaOpenB
set_option linter.unusedVariables false
set_option linter.unusedSimpArgs false
namespace Go.Proofs.Ytakoklldmdbphaa.lawFnRegions
open Go.RowKit Go.Proofs.Ytakoklldmdbphaa

/-- FarSpots at spots that lie within. -/
theorem far_in (k : Nat) (ax ay bx b : Int) (w : World) (hk : k < 3) (h1 : 0 ≤ ax ∧ ax ≤ 10) (h2 : 0 ≤ ay ∧ ay ≤ 10) (h3 : 0 ≤ bx ∧ bx ≤ 10) (h4 : 0 ≤ b ∧ b ≤ 10) :
    Calls Try.prog 37 #[.int .i64 (k : Int), .agg #[.int .i64 ax, .int .i64 ay], .agg #[.int .i64 bx, .int .i64 b]] w fun e w' => e = .returned (.tuple #[.int .i64 (farZ k ax ay bx b), .bool true]) ∧ Below w.heap.size w w' := by
  have hB : farSpotsB k ax ay bx b = true := by
    simp only [farSpotsB, nearB, inB, Bool.and_eq_true, decide_eq_true_eq]
    omega
  have h := farSpots_any k ax ay bx b w
  rw [farSpotsZ, if_pos hB, hB] at h
  exact h
theorem leastN_le (g : Int × Int → Int) (l : List (Int × Int)) (n : Nat) : leastN g l n ≤ n := by
  induction n with
  | zero => exact Nat.le_refl _
  | succ n ih =>
    rw [leastN]
    split <;> omega
/-- The first least one. -/
theorem leastN_spec (g : Int × Int → Int) (l : List (Int × Int)) (n : Nat) : ∀ i, i < n → ¬ g (l.getD i (0, 0)) < g (l.getD (leastN g l n) (0, 0)) ∧ (g (l.getD i (0, 0)) = g (l.getD (leastN g l n) (0, 0)) → leastN g l n ≤ i) := by
  induction n with
  | zero => intro i hi; omega
  | succ n ih =>
    intro i hi
    rw [leastN]
    by_cases h : g (l.getD n (0, 0)) < g (l.getD (leastN g l n) (0, 0))
    · rw [if_pos h]
      by_cases e : i = n
      · subst e
        exact ⟨Int.lt_irrefl _, fun _ => Nat.le_refl _⟩
      · have := ih i (by omega)
        exact ⟨by omega, by omega⟩
    · rw [if_neg h]
      by_cases e : i = n
      · subst e
        exact ⟨h, fun _ => leastN_le g l i⟩
      · exact ih i (by omega)
set_option maxRecDepth 100000 in
set_option maxHeartbeats 400000 in
theorem walk (p : Option Addr) (c : Nat) (l : List Int) (q : Option Addr) (d : Nat) (m : List Int) (w : World) (hl : l.length ≤ maxLen) (hb1 : ∀ x ∈ l, 0 ≤ x ∧ x ≤ 255) (hr1 : Rd w p l.length (byteAt l)) (hm : m.length ≤ maxLen) (hb2 : ∀ x ∈ m, 0 ≤ x ∧ x ≤ 255) (hr2 : Rd w q m.length (byteAt m)) :
    Calls Try.prog 7 #[.slice p l.length c, .slice q m.length d] w fun e w' => e = .returned (.bool true) ∧ Below w.heap.size w w' := by
  have cl := r8Long_any p q c d l.length m.length w
  cases hlong : (decide (48 < l.length) || decide (48 < m.length))
  · rw [hlong] at cl
    simp only [Bool.or_eq_false_iff, decide_eq_false_iff_not] at hlong
    obtain ⟨hl1, hl2⟩ := hlong
    have ca := r8At_any p c l 40 10 40 10 w rfl rfl (by omega) (by omega) (by omega) (by omega) hr1 hb1
    have cb := r8At_any q d m 40 3 40 3 w rfl rfl (by omega) (by omega) (by omega) (by omega) hr2 hb2
    have cs := fun W h1 h2 => r8Spots_any p c l W w h1 h2 hr1 hb1 (by omega)
    clear hr1 hr2 hl hm
    have Cl := Lib.hid cl; clear cl
    have Ca := Lib.hid ca; clear ca
    have Cb := Lib.hid cb; clear cb
    have Cs := Lib.hid cs; clear cs
    have Hb1 := Lib.hid hb1; clear hb1
    have Hb2 := Lib.hid hb2; clear hb2
    go_enter Try.func7, Try.ntmps7
    go_wp2_with fail
    with_reducible (refine Cl.out.mono ?_)
    rintro e w1 ⟨rfl, rfl⟩
    go_wp2_with fail
    with_reducible (refine Ca.out.mono ?_)
    rintro e w1 ⟨r, hr, rfl, rfl⟩
    obtain ⟨S, eS⟩ : ∃ S : Nat, S = 1 + r := ⟨_, rfl⟩
    have e1 : ((S : Nat) : Int) = 1 + (r : Int) := by omega
    have hS1 : 1 ≤ S := by omega
    have hS2 : S ≤ 10 := by omega
    have E1 := Lib.hid e1; clear e1
    have ES := Lib.hid eS; clear eS
    go_wp2_with fail
    rw [← E1.out]
    with_reducible (refine Cb.out.mono ?_)
    rintro e w1 ⟨k, hk, rfl, rfl⟩
    have c2 := Cs.out S (by omega) (by omega)
    have C2 := Lib.hid c2; clear c2
    go_wp2_with fail
    with_reducible (refine C2.out.mono ?_)
    rintro e w1 ⟨v, s, rfl, O, hs1, hs2, hb⟩
    obtain ⟨sp, sc, rfl⟩ := O.form
    have R := O.rd
    have T : Since w w1 := ⟨hb⟩
    clear Cl Ca Cb Cs C2
    have c3 := regionsOf_any (S : Int) (S : Int) (k : Int) sp sc s w1 (by omega) R
    by_cases hs0 : s.length = 0
    · have hv : regOk (S : Int) (S : Int) (k : Int) s = false := by
        have hz : inB (s.length : Int) 1 64 = false := by rw [hs0]; rfl
        simp only [regOk, hz, Bool.false_and, Bool.and_false]
      rw [hv] at c3
      obtain rfl : s = [] := List.length_eq_zero_iff.1 hs0
      simp only [List.length_nil] at c3
      have c4 := fun w => far_in k 0 0 (S : Int) 0 w hk (by omega) (by omega) (by omega) (by omega)
      have C3 := Lib.hid c3; clear c3
      have C4 := Lib.hid c4; clear c4
      have Hv := Lib.hid hv; clear hv
      have Hs2 := Lib.hid hs2; clear hs2
      clear R O hb
      go_wp2_with fail
      with_reducible (refine C3.out.mono ?_)
      rintro e w2 ⟨v2, rfl, -, hb2⟩
      replace T := T.bl hb2
      clear hb2
      go_wp2_with fail
      with_reducible (refine (C4.out _).mono ?_)
      rintro e w3 ⟨rfl, hb3⟩
      replace T := T.bl hb3
      go_wp2
      go_ret
      exact ⟨rfl, T.below⟩
    · have hall : s.all (insB (S : Int) (S : Int)) = true := List.all_eq_true.2 (fun x hx => by
        have := hs2 x hx
        simp only [insB, inB, Bool.and_eq_true, decide_eq_true_eq]
        omega)
      have hv : regOk (S : Int) (S : Int) (k : Int) s = true := by
        simp only [regOk, sizeOkB, inB, Bool.and_eq_true, decide_eq_true_eq, hall, and_true]
        omega
      have hR : regL (S : Int) (S : Int) (k : Int) s = gridL S S (regD S k s) := by
        rw [regL, if_pos hv, Int.toNat_natCast]
      rw [hv, hR] at c3
      have hspec := fun x y : Int => leastN_spec (farG k x y) s s.length
      have hless := fun x y : Int => leastN_lt (farG k x y) s s.length (by omega) (Nat.le_refl _)
      have hin : ∀ i : Nat, i < s.length → (0 ≤ (s.getD i (0, 0)).1 ∧ (s.getD i (0, 0)).1 ≤ 10) ∧ (0 ≤ (s.getD i (0, 0)).2 ∧ (s.getD i (0, 0)).2 ≤ 10) := fun i hi => by
        have := hs2 _ (getD_memS hi)
        omega
      have hs00 : (0 : Int) < (s.length : Int) := by omega
      have hs01 : 0 < s.length := by omega
      have hs02 : decide (0 < s.length) = true := decide_eq_true hs01
      have C3 := Lib.hid c3; clear c3
      have Hv := Lib.hid hv; clear hv
      have HR := Lib.hid hR; clear hR
      have Hs2 := Lib.hid hs2; clear hs2
      have Hall := Lib.hid hall; clear hall
      have Hspec := Lib.hid hspec; clear hspec
      have Hless := Lib.hid hless; clear hless
      have Hin := Lib.hid hin; clear hin
      go_wp2_with fail
      with_reducible (refine C3.out.mono ?_)
      rintro e w2 ⟨v2, rfl, O2, hb2⟩
      replace T := T.bl hb2
      replace R := R.bl hb2
      obtain ⟨gp, gc, rfl⟩ := (show ∃ p c, v2 = .slice p (gridL S S (regD S k s)).length c from by obtain ⟨vs, O3⟩ := O2; exact O3.form)
      have G : RdSS w2 gp (gridL S S (regD S k s)) := by obtain ⟨vs, O3⟩ := O2; exact O3.rds
      rw [gridL_len]
      clear hb2 O2 O C3
      go_wp2
      trace_state
      go_loopw [12] (fun i wr => ∃ y : Nat, y ≤ S ∧ i = .int .i64 y ∧ Since w2 wr) (fun i _ => S - (intOf i).toNat)
      case atStart => exact ⟨0, Nat.zero_le _, rfl, Since.refl _⟩
      case round =>
        obtain ⟨y, hy, rfl, U⟩ := hrel
        by_cases hyS : y < S
        · have G1 := G.bl U.below
          have R1 := R.bl U.below
          obtain ⟨vs, gr, gi⟩ := G1
          obtain ⟨gb, go, rfl, hgb, gc1⟩ := gr.at (k := y) (by rw [gridL_len]; exact hyS)
          obtain ⟨q2, d2, e2, rr⟩ := gi y (by rw [gridL_len]; exact hyS)
          have a0 := gc1 y (by rw [gridL_len]; exact hyS)
          rw [e2] at a0
          rw [gridL_at _ _ _ _ hyS, rowL_len] at a0 rr
          have hy0 : (0 : Int) ≤ (y : Int) := Int.natCast_nonneg _
          have hy1 : (y : Int) < (S : Int) := by omega
          have Gc1 := Lib.hid gc1; clear gc1
          have Gi := Lib.hid gi; clear gi
          have E2 := Lib.hid e2; clear e2
          have Gr := Lib.hid gr; clear gr
          clear rr
          go_wp2
          go_loopw [13] (fun i wr => ∃ x : Nat, x ≤ S ∧ i = .int .i64 x ∧ Since w2 wr) (fun i _ => S - (intOf i).toNat)
          case atStart => exact ⟨0, Nat.zero_le _, rfl, U⟩
          case round =>
            clear a0 R1 U
            obtain ⟨x, hx, rfl, U⟩ := hrel
            by_cases hxS : x < S
            · have G1 := G.bl U.below
              have R1 := R.bl U.below
              obtain ⟨vs, gr, gi⟩ := G1
              obtain ⟨gb', go', e3, hgb, gc1⟩ := gr.at (k := y) (by rw [gridL_len]; exact hyS)
              simp only [Option.some.injEq, Addr.mk.injEq, and_true] at e3
              obtain ⟨rfl, rfl⟩ := e3
              obtain ⟨q2, d2, e2, rr⟩ := gi y (by rw [gridL_len]; exact hyS)
              have a0 := gc1 y (by rw [gridL_len]; exact hyS)
              rw [e2] at a0
              rw [gridL_at _ _ _ _ hyS, rowL_len] at a0 rr
              obtain ⟨qb, qo, rfl, hqb, qc⟩ := rr.at (k := x) hxS
              have a1 := qc x hxS
              rw [intAt, rowL_at _ _ _ hxS, regD_at hxS] at a1
              have hM := Hless.out x y
              have hsp := Hspec.out x y
              obtain ⟨M, eM⟩ : ∃ M, leastN (farG k x y) s s.length = M := ⟨_, rfl⟩
              rw [eM] at a1 hM hsp
              obtain ⟨sb, so, rfl, hsb, sc1⟩ := R1.at (k := M * 2) (by omega)
              have b0 := sc1 (M * 2) (by omega)
              have b1 := sc1 (M * 2 + 1) (by omega)
              rw [spotAt_x] at b0
              rw [spotAt_y, ← Nat.add_assoc] at b1
              have hiM := Hin.out M hM
              have hD : farG k x y (s.getD M (0, 0)) = farZ k x y (s.getD M (0, 0)).1 (s.getD M (0, 0)).2 := rfl
              rw [hD] at hsp
              generalize (s.getD M (0, 0)).1 = u at *
              generalize (s.getD M (0, 0)).2 = v at *
              have cM := far_in k x y u v wr hk (by omega) (by omega) (by omega) (by omega)
              obtain ⟨D, eD⟩ : ∃ D, farZ k x y u v = D := ⟨_, rfl⟩
              rw [eD] at cM hsp
              have hx0 : (0 : Int) ≤ (x : Int) := Int.natCast_nonneg _
              have hx1 : (x : Int) < (S : Int) := by omega
              have hM0 : (0 : Int) ≤ (M : Int) := Int.natCast_nonneg _
              have hM1 : (M : Int) < (s.length : Int) := by omega
              have Gc1 := Lib.hid gc1; clear gc1
              have Gi := Lib.hid gi; clear gi
              have E2 := Lib.hid e2; clear e2
              have Gr := Lib.hid gr; clear gr
              have Qc := Lib.hid qc; clear qc
              have Sc1 := Lib.hid sc1; clear sc1
              have Hsp := Lib.hid hsp; clear hsp
              have EM := Lib.hid eM; clear eM
              have ED := Lib.hid eD; clear eD
              have CM := Lib.hid cM; clear cM
              have HD := Lib.hid hD; clear hD
              clear rr
              go_wp2_with fail
              with_reducible (refine CM.out.mono ?_)
              rintro e w3 ⟨rfl, hb3⟩
              have U3 := U.bl hb3
              clear a0 a1 b0 b1 R1 hb3 U CM
              go_wp2
              go_loopw [17] (fun i wr => ∃ n : Nat, n ≤ s.length ∧ i = .int .i64 n ∧ Since w2 wr) (fun i _ => s.length - (intOf i).toNat)
              case atStart => exact ⟨0, Nat.zero_le _, rfl, U3⟩
              case round =>
                clear U3
                obtain ⟨n, hn, rfl, U⟩ := hrel
                by_cases hns : n < s.length
                · have R1 := R.bl U.below
                  obtain ⟨sb', so', e4, hsb', sc2⟩ := R1.at (k := n * 2) (by omega)
                  simp only [Option.some.injEq, Addr.mk.injEq, and_true] at e4
                  obtain ⟨rfl, rfl⟩ := e4
                  have b0 := sc2 (n * 2) (by omega)
                  have b1 := sc2 (n * 2 + 1) (by omega)
                  rw [spotAt_x] at b0
                  rw [spotAt_y, ← Nat.add_assoc] at b1
                  have hin2 := Hin.out n hns
                  have hq := Hsp.out n hns
                  have hD2 : farG k x y (s.getD n (0, 0)) = farZ k x y (s.getD n (0, 0)).1 (s.getD n (0, 0)).2 := rfl
                  rw [hD2] at hq
                  generalize (s.getD n (0, 0)).1 = u2 at *
                  generalize (s.getD n (0, 0)).2 = v2 at *
                  have cN := far_in k x y u2 v2 wr hk (by omega) (by omega) (by omega) (by omega)
                  obtain ⟨D2, eD2⟩ : ∃ D2, farZ k x y u2 v2 = D2 := ⟨_, rfl⟩
                  rw [eD2] at cN hq
                  obtain ⟨hq1, hq2⟩ := hq
                  have hn0 : (0 : Int) ≤ (n : Int) := Int.natCast_nonneg _
                  have hn1 : (n : Int) < (s.length : Int) := by omega
                  have Sc2 := Lib.hid sc2; clear sc2
                  have ED2 := Lib.hid eD2; clear eD2
                  have CN := Lib.hid cN; clear cN
                  have HD2 := Lib.hid hD2; clear hD2
                  clear R1
                  have hq3 : D ≤ D2 := by omega
                  clear hq1
                  rcases Int.lt_or_eq_of_le hq3 with hlt | heq
                  · clear hq2 hq3
                    go_wp2_with fail
                    with_reducible (refine CN.out.mono ?_)
                    rintro e w4 ⟨rfl, hb4⟩
                    have U4 := U.bl hb4
                    clear b0 b1 CN hb4 U
                    go_wp2
                    go_roundw
                    case rel => exact ⟨n + 1, by omega, by go_num, U4⟩
                    case measure => simp [intOf]; omega
                  · have hle := hq2 heq.symm
                    subst heq
                    clear hq2 hq3
                    go_wp2_with fail
                    with_reducible (refine CN.out.mono ?_)
                    rintro e w4 ⟨rfl, hb4⟩
                    have U4 := U.bl hb4
                    clear b0 b1 CN hb4 U
                    go_wp2
                    go_roundw
                    case rel => exact ⟨n + 1, by omega, by go_num, U4⟩
                    case measure => simp [intOf]; omega
                · obtain rfl : n = s.length := by omega
                  go_wp2
                  go_roundw
                  case rel => exact ⟨x + 1, by omega, by go_num, U⟩
                  case measure => simp [intOf]; omega
            · obtain rfl : x = S := by omega
              go_wp2
              go_roundw
              case rel => exact ⟨y + 1, by omega, by go_num, U⟩
              case measure => simp [intOf]; omega
        · obtain rfl : y = S := by omega
          replace T := T.bl ((U.below).mono (Nat.le_refl _))
          go_wp2
          go_ret
          exact ⟨rfl, T.below⟩
  · rw [hlong] at cl
    clear hr1 hr2 hb1 hb2
    have Cl := Lib.hid cl; clear cl
    go_enter Try.func7, Try.ntmps7
    go_wp2_with fail
    with_reducible (refine Cl.out.mono ?_)
    rintro e w1 ⟨rfl, rfl⟩
    go_wp2
    go_ret
    exact ⟨rfl, Below.refl _ _⟩
open Go.ChangeShapes Go.WideShapes Go.ChangeAt
open Go.ChangeMaps (open_string shut_string)

set_option maxRecDepth 100000 in
theorem lifted (os : Os) (started : os.Started) (H : Type) (enc : TypeId × Value → H) :
    ReturnsInHanded {} Try.checked os 7 .any (Rows.fnRegionsSpec.pre6 enc Try.prog Try.f7 Rows.fnRegionsRow.domain false) (Rows.fnRegionsSpec.post enc Try.prog Try.f7 false true false false) := by
  refine returnsInHanded_of_change (C := Try.checked) own started (by kernel_rfl) Try.func7
    (ChangeSpec.witness6 (enc := enc) (C := Try.checked) false ⟨#[], #[.slice none 0 0, .slice none 0 0], []⟩ 8 (by kernel_rfl) (by kernel_rfl) (by kernel_rfl) (by kernel_rfl)) ?_
  intro W base args ds gs before hval0 hW hcnd _
  have hval : ∀ (j : Nat) t v, Try.f7.params[j]? = some t → args[j]? = some v → Value.okWide Try.prog W .any base t v := hval0
  have hW' := hW
  obtain ⟨p, q, hA0, hV, rfl, hfz, hnd⟩ := hW
  have hA : DataW.TrodAll enc Try.prog W 0 (fun _ => true) true Try.f7.params.toList args.toList ds p := hA0
  rw [Try.params7] at hA hval
  obtain ⟨v0, vs0, d0, ds0, p0, q0, hargs, rfl, rfl, h0, r0⟩ := trodAll_cons hA
  obtain ⟨v1, vs1, d1, ds1, p1, q1, rfl, rfl, rfl, h1, r1⟩ := trodAll_cons r0
  obtain ⟨rfl, rfl, rfl⟩ := trodAll_nil r1
  obtain rfl : args = #[v0, v1] := by cases args; simp_all
  obtain ⟨rfl, rfl⟩ := trodVars_none hV
  have t0 : ∀ x ∈ p0, x.block < W.heap.size := fun x hx => hW'.lt x (by simp [hx])
  have k0 := hval 0 48 v0 rfl rfl
  have m0 := h0
  obtain ⟨p0', c0', l0', rfl, p0'n, p0's, p0'r⟩ := open_Bytes k0 h0
  have t1 : ∀ x ∈ p1, x.block < W.heap.size := fun x hx => hW'.lt x (by simp [hx])
  have k1 := hval 1 48 v1 rfl rfl
  have m1 := h1
  obtain ⟨p1', c1', l1', rfl, p1'n, p1's, p1'r⟩ := open_Bytes k1 h1
  refine (walk p0' c0' l0' p1' c1' l1' W p0'n p0's p0'r p1'n p1's p1'r).mono fun e W' ⟨he, hb⟩ => ?_
  subst he
  refine ⟨_, rfl, _, _, _, [], _, [], hW', trodAll_mk1 (shut_bool Try.underlying4 _), (trodAll_cons_mk (Below.trod laidOut (by kernel_rfl) (of_decide_eq_true (by kernel_rfl)) m0 hb t0) (trodAll_cons_mk (Below.trod laidOut (by kernel_rfl) (of_decide_eq_true (by kernel_rfl)) m1 hb t1) trodAll_mk0)), rfl, hb.frame _, fun h => by cases h⟩

theorem over : Rows.fnRegionsRow.holds Try.pinned (OpenSpec.ofChange Rows.fnRegionsSpec) :=
  OpenClaim.holds_of_wide 7 Try.f7 rfl rfl rfl rfl rfl rfl rfl ⟨rfl, rfl, rfl, rfl, rfl⟩ rfl rfl rfl rfl rfl (by kernel_rfl) Try.func7 (by kernel_rfl)
    (of_decide_eq_true (by kernel_rfl)) (by unfold Func.isWrapper; first | (rw [if_pos (by decide +kernel)]; kernel_rfl) | (rw [if_neg (by decide +kernel)]; exact ⟨rfl, rfl⟩))
    (fun os started H enc _ => lifted os started H enc)

theorem proved : Rows.FnRegionsSaid := over
#print axioms proved
end Go.Proofs.Ytakoklldmdbphaa.lawFnRegions
