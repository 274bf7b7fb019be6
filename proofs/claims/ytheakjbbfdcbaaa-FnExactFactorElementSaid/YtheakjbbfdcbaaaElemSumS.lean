/- Contract of the reference's sums of offsets. -/
import Derived.Test.YtheakjbbfdcbaaaElemSumP
import Derived.Test.YtheakjbbfdcbaaaRegHC
import Derived.BigRegion
set_option linter.unusedVariables false
set_option linter.unusedSimpArgs false
namespace Go.Proofs.Ytheakjbbfdcbaaa
open Go.RowKit Go.Sort

theorem setL_snoc (l : List (Int × Int)) (s : Int × Int) : setL (l ++ [s]) = putS (setL l) s := by
  rw [← puts_set, List.foldl_append, puts_set]
  rfl
set_option maxRecDepth 100000 in
set_option maxHeartbeats 16000000 in
theorem l03Sum_any (xb yb : Nat) (p : Option Addr) (c : Nat) (a : List (Int × Int)) (q : Option Addr) (d : Nat) (b : List (Int × Int)) (w : World) (ha : a.length ≤ 100) (hb : b.length ≤ 100) (sa : Small a) (sb : Small b)
    (hX : CellAt w xb 0 (.slice p a.length c)) (hY : CellAt w yb 0 (.slice q b.length d)) (hr : Rd w p (a.length * 2) (spotAt a)) (hq : Rd w q (b.length * 2) (spotAt b)) :
    Calls Try.prog 37 #[.pointer (some ⟨xb, 0, none⟩), .pointer (some ⟨yb, 0, none⟩)] w fun e w' => ∃ g f, e = .returned (.agg #[.slice (some ⟨g, 0, none⟩) (setL (sumL a b)).length f]) ∧ OwnSpots w.heap.size w' (.slice (some ⟨g, 0, none⟩) (setL (sumL a b)).length f) (setL (sumL a b)) ∧ Below w.heap.size w w' := by
  have r0 := ElRel.start (w := w)
  have hlen : ∀ i j, i ≤ a.length → j ≤ b.length → (setL (sumN a b i j)).length ≤ 10100 := fun i j h1 h2 => by
    have h3 := setL_len (sumN a b i j)
    have h4 := sumN_len (a := a) (b := b) h1 h2
    have := Nat.mul_le_mul (show i ≤ 100 by omega) (show b.length ≤ 100 from hb)
    omega
  have hsucc : ∀ i j, j < b.length → setL (sumN a b i (j + 1)) = putS (setL (sumN a b i j)) (addS (a.getD i (0, 0)) (b.getD j (0, 0))) := fun i j h => by rw [sumN_succ h, setL_snoc]
  have hnext := fun i (h : i < a.length) => sumN_next (a := a) (b := b) h
  have hend := sumN_end a b
  have hxl := hX.lt
  have hyl := hY.lt
  have hz : setL (sumN a b 0 0) = [] := by rw [sumN_start]; exact setL_rising List.Pairwise.nil
  have R0 := Lib.hid r0; clear r0
  have Sa := Lib.hid sa; clear sa
  have Sb := Lib.hid sb; clear sb
  have Hlen := Lib.hid hlen; clear hlen
  have Hsucc := Lib.hid hsucc; clear hsucc
  have Hnext := Lib.hid hnext; clear hnext
  have Hend := Lib.hid hend; clear hend
  have Hz := Lib.hid hz; clear hz
  have HX := Lib.hid hX; clear hX
  have HY := Lib.hid hY; clear hY
  have Hr := Lib.hid hr; clear hr
  have Hq := Lib.hid hq; clear hq
  go_enter Try.func37, Try.ntmps37
  go_wp2
  go_loopw [6] (fun i wr => ∃ k : Nat, k ≤ a.length ∧ i = .int .i64 k ∧ ∃ g f, ElRel (setL (sumN a b k 0)) w.heap.size (w.heap.size + 1 + 1) w wr (some ⟨g, 0, none⟩) f) (fun i _ => a.length - (intOf i).toNat)
  case atStart => exact ⟨0, Nat.zero_le _, rfl, _, _, by rw [Hz.out]; exact R0.out⟩
  case round =>
    clear R0
    obtain ⟨k, hk, rfl, g0, f0, rr⟩ := hrel
    have a0 := (HX.out.bl rr.since.below).out
    have hk0 : (0 : Int) ≤ (k : Int) := Int.natCast_nonneg _
    by_cases hka : k < a.length
    · have hk1 : (k : Int) < (a.length : Int) := by omega
      have Rr := Lib.hid rr; clear rr
      go_wp2
      clear a0
      go_loopw [7] (fun i wr => ∃ j : Nat, j ≤ b.length ∧ i = .int .i64 j ∧ ∃ g f, ElRel (setL (sumN a b k j)) w.heap.size (w.heap.size + 1 + 1) w wr (some ⟨g, 0, none⟩) f) (fun i _ => b.length - (intOf i).toNat)
      case atStart => exact ⟨0, Nat.zero_le _, rfl, _, _, Rr.out⟩
      case round =>
        clear Rr
        obtain ⟨j, hj, rfl, g, f, rr⟩ := hrel
        have y0 := (HY.out.bl rr.since.below).out
        have hj0 : (0 : Int) ≤ (j : Int) := Int.natCast_nonneg _
        by_cases hjb : j < b.length
        · have hj1 : (j : Int) < (b.length : Int) := by omega
          have hg0 : w.heap.size + 1 ≤ g := own_ge rr.own g rfl
          obtain ⟨pb, po, epa, hpb, hpc⟩ := (Hr.out).at (k := k * 2) (by omega)
          obtain ⟨qb, qo, eqa, hqb, hqc⟩ := (Hq.out).at (k := j * 2) (by omega)
          subst epa eqa
          have b0 := hpc (k * 2) (by omega)
          have b1 := hpc (k * 2 + 1) (by omega)
          have c0 := hqc (j * 2) (by omega)
          have c1 := hqc (j * 2 + 1) (by omega)
          rw [spotAt_x] at b0 c0
          rw [spotAt_y, ← Nat.add_assoc] at b1 c1
          have hsa := Sa.out.at hka
          have hsb := Sb.out.at hjb
          have hsu := Hsucc.out k j hjb
          obtain ⟨⟨u, v⟩, eu⟩ : ∃ s, a.getD k (0, 0) = s := ⟨_, rfl⟩
          obtain ⟨⟨x, y⟩, ex⟩ : ∃ s, b.getD j (0, 0) = s := ⟨_, rfl⟩
          rw [eu] at b0 b1 hsa hsu
          rw [ex] at c0 c1 hsb hsu
          have es : addS (u, v) (x, y) = (u + x, v + y) := rfl
          rw [es] at hsu
          dsimp only at b0 b1 hsa c0 c1 hsb
          obtain ⟨⟨hsa1, hsa2⟩, hsa3, hsa4⟩ := hsa
          obtain ⟨⟨hsb1, hsb2⟩, hsb3, hsb4⟩ := hsb
          have hw1 : IntKind.i64.wrap (u + x) = u + x := IntWalk.i64_in _ (by omega)
          have hw2 : IntKind.i64.wrap (v + y) = v + y := IntWalk.i64_in _ (by omega)
          have hml := Hlen.out k j (by omega) (by omega)
          obtain ⟨M, eM⟩ : ∃ M, setL (sumN a b k j) = M := ⟨_, rfl⟩
          rw [eM] at hml hsu rr
          have rd := rr.bl (bl_drew wr)
          have hgB : w.heap.size + 1 ≤ wr.drew.heap.size := by have := rd.res.lt; omega
          have cp := l03Put_any (w.heap.size + 1) g f M (u + x) (v + y) wr.drew (by omega) ⟨_, _, rfl, rd.own⟩ hgB
          have f1 := rd.box.cell
          have hbx := fun w2 h2 => (rd.box.grown (w' := w2) h2 rd.ne)
          have hput := fun w2 g' c' h1 h2 h3 => rd.put (w2 := w2) (m' := putS M (u + x, v + y)) (g' := g') (c' := c') h1 h2 h3
          obtain ⟨N, eN⟩ : ∃ N, putS M (u + x, v + y) = N := ⟨_, rfl⟩
          rw [eN] at cp hput hsu
          have hs0 : ∀ w2 : World, Since w w2 → (w2.cell? ⟨xb, 0, none⟩ = some (.slice (some ⟨pb, po, none⟩) a.length c) ∧ w2.cell? ⟨yb, 0, none⟩ = some (.slice (some ⟨qb, qo, none⟩) b.length d) ∧ w2.cell? ⟨pb, po + k * 2, none⟩ = some (.int .i64 u) ∧ w2.cell? ⟨pb, po + k * 2 + 1, none⟩ = some (.int .i64 v) ∧ w2.cell? ⟨qb, qo + j * 2, none⟩ = some (.int .i64 x) ∧ w2.cell? ⟨qb, qo + j * 2 + 1, none⟩ = some (.int .i64 y)) := fun w2 h2 =>
            ⟨(HX.out.bl h2.below).out, (HY.out.bl h2.below).out, (CellAt.bl (show CellAt w pb (po + k * 2) _ from b0) h2.below).out, (CellAt.bl (show CellAt w pb (po + k * 2 + 1) _ from b1) h2.below).out, (CellAt.bl (show CellAt w qb (qo + j * 2) _ from c0) h2.below).out, (CellAt.bl (show CellAt w qb (qo + j * 2 + 1) _ from c1) h2.below).out⟩
          have sd := rd.since
          have s0 := hs0 _ sd
          have s1 := fun w2 (h : World.grownBy wr.drew w2 (some g)) => hs0 w2 (sd.grown h (by omega))
          have s2 := fun w2 (h : World.grownBy wr.drew w2 (some g)) v => hs0 _ ((sd.grown h (by omega)).setS (p := ⟨w.heap.size + 1 + 1, 0, none⟩) (by simp; omega) v)
          clear b0 b1 c0 c1
          obtain ⟨z0, z1, z2, z3, z4, z5⟩ := s0
          have Rr := Lib.hid rr; clear rr
          have Rd := Lib.hid rd; clear rd
          have Hput := Lib.hid hput; clear hput
          have Hsu := Lib.hid hsu; clear hsu
          have EN := Lib.hid eN; clear eN
          have EM := Lib.hid eM; clear eM
          have Hbx := Lib.hid hbx; clear hbx
          have Cp := Lib.hid cp; clear cp
          have Eu := Lib.hid eu; clear eu
          have Ex := Lib.hid ex; clear ex
          have Es := Lib.hid es; clear es
          have Hpc := Lib.hid hpc; clear hpc
          have Hqc := Lib.hid hqc; clear hqc
          have Hs0 := Lib.hid hs0; clear hs0
          have S1 := Lib.hid s1; clear s1
          have S2 := Lib.hid s2; clear s2
          have Sd := Lib.hid sd; clear sd
          go_upto_region 8 with (fail)
          have HS0 : CallS 37 wr.drew (Array.replicate 40 false) wr.drew := fun _ => rfl
          refine wp_region_l (S := CallS 37 wr.drew) 40 rfl (by kernel_rfl) HS0 ?_
          clear HS0
          intro HC HS
          generalize wr.drew = wd at *
          refine wpAnyL_take (i := 0) (v := ?_) rfl (by kernel_rfl) 12 (by kernel_rfl) (by kernel_rfl) (fun _ _ _ h => h) (callS_at (by decide)) HC (Or.inl ⟨by rfl, ?_⟩) HS ?_
          rotate_left
          · intro wx hx; have ew := atI_w 12 (by kernel_rfl) hx; subst wx
            clear hx
            go_simp
            try with_reducible rfl
          clear HC HS
          intro HC HS
          try simp only [Act.put, List.setIfInBounds_toArray, List.set_cons_zero, List.set_cons_succ]
          refine wpAnyL_take (i := 1) (v := ?_) rfl (by kernel_rfl) 12 (by kernel_rfl) (by kernel_rfl) (fun _ _ _ h => h) (callS_at (by decide)) HC (Or.inl ⟨by rfl, ?_⟩) HS ?_
          rotate_left
          · intro wx hx; have ew := atI_w 12 (by kernel_rfl) hx; subst wx
            clear hx
            go_simp
            try with_reducible rfl
          clear HC HS
          intro HC HS
          try simp only [Act.put, List.setIfInBounds_toArray, List.set_cons_zero, List.set_cons_succ]
          refine wpAnyL_take (i := 2) (v := ?_) rfl (by kernel_rfl) 12 (by kernel_rfl) (by kernel_rfl) (fun _ _ _ h => h) (callS_at (by decide)) HC (Or.inl ⟨by rfl, ?_⟩) HS ?_
          rotate_left
          · intro wx hx; have ew := atI_w 12 (by kernel_rfl) hx; subst wx
            clear hx
            go_simp
            try with_reducible rfl
          clear HC HS
          intro HC HS
          try simp only [Act.put, List.setIfInBounds_toArray, List.set_cons_zero, List.set_cons_succ]
          refine wpAnyL_take (i := 3) (v := ?_) rfl (by kernel_rfl) 12 (by kernel_rfl) (by kernel_rfl) (fun _ _ _ h => h) (callS_at (by decide)) HC (Or.inl ⟨by rfl, ?_⟩) HS ?_
          rotate_left
          · intro wx hx; have ew := atI_w 12 (by kernel_rfl) hx; subst wx
            clear hx
            go_simp
            try with_reducible rfl
          clear HC HS
          intro HC HS
          try simp only [Act.put, List.setIfInBounds_toArray, List.set_cons_zero, List.set_cons_succ]
          refine wpAnyL_take (i := 4) (v := ?_) rfl (by kernel_rfl) 12 (by kernel_rfl) (by kernel_rfl) (fun _ _ _ h => h) (callS_at (by decide)) HC (Or.inl ⟨by rfl, ?_⟩) HS ?_
          rotate_left
          · intro wx hx; have ew := atI_w 12 (by kernel_rfl) hx; subst wx
            clear hx
            go_simp
            try with_reducible rfl
          clear HC HS
          intro HC HS
          try simp only [Act.put, List.setIfInBounds_toArray, List.set_cons_zero, List.set_cons_succ]
          refine wpAnyL_take (i := 5) (v := ?_) rfl (by kernel_rfl) 12 (by kernel_rfl) (by kernel_rfl) (fun _ _ _ h => h) (callS_at (by decide)) HC (Or.inl ⟨by rfl, ?_⟩) HS ?_
          rotate_left
          · intro wx hx; have ew := atI_w 12 (by kernel_rfl) hx; subst wx
            clear hx
            go_simp
            try with_reducible rfl
          clear HC HS
          intro HC HS
          try simp only [Act.put, List.setIfInBounds_toArray, List.set_cons_zero, List.set_cons_succ]
          refine wpAnyL_take (i := 6) (v := ?_) rfl (by kernel_rfl) 12 (by kernel_rfl) (by kernel_rfl) (fun _ _ _ h => h) (callS_at (by decide)) HC (Or.inl ⟨by rfl, ?_⟩) HS ?_
          rotate_left
          · intro wx hx; have ew := atI_w 12 (by kernel_rfl) hx; subst wx
            clear hx
            go_simp
            try with_reducible rfl
          clear HC HS
          intro HC HS
          try simp only [Act.put, List.setIfInBounds_toArray, List.set_cons_zero, List.set_cons_succ]
          refine wpAnyL_take (i := 7) (v := ?_) rfl (by kernel_rfl) 12 (by kernel_rfl) (by kernel_rfl) (fun _ _ _ h => h) (callS_at (by decide)) HC (Or.inl ⟨by rfl, ?_⟩) HS ?_
          rotate_left
          · intro wx hx; have ew := atI_w 12 (by kernel_rfl) hx; subst wx
            clear hx
            go_simp
            try with_reducible rfl
          clear HC HS
          intro HC HS
          try simp only [Act.put, List.setIfInBounds_toArray, List.set_cons_zero, List.set_cons_succ]
          refine wpAnyL_take (i := 8) (v := ?_) rfl (by kernel_rfl) 12 (by kernel_rfl) (by kernel_rfl) (fun _ _ _ h => h) (callS_at (by decide)) HC (Or.inl ⟨by rfl, ?_⟩) HS ?_
          rotate_left
          · intro wx hx; have ew := atI_w 12 (by kernel_rfl) hx; subst wx
            clear hx
            go_simp
            try with_reducible rfl
          clear HC HS
          intro HC HS
          try simp only [Act.put, List.setIfInBounds_toArray, List.set_cons_zero, List.set_cons_succ]
          refine wpAnyL_take (i := 9) (v := ?_) rfl (by kernel_rfl) 12 (by kernel_rfl) (by kernel_rfl) (fun _ _ _ h => h) (callS_at (by decide)) HC (Or.inl ⟨by rfl, ?_⟩) HS ?_
          rotate_left
          · intro wx hx; have ew := atI_w 12 (by kernel_rfl) hx; subst wx
            clear hx
            go_simp
            try with_reducible rfl
          clear HC HS
          intro HC HS
          try simp only [Act.put, List.setIfInBounds_toArray, List.set_cons_zero, List.set_cons_succ]
          refine wpAnyL_take (i := 10) (v := ?_) rfl (by kernel_rfl) 12 (by kernel_rfl) (by kernel_rfl) (fun _ _ _ h => h) (callS_at (by decide)) HC (Or.inl ⟨by rfl, ?_⟩) HS ?_
          rotate_left
          · intro wx hx; have ew := atI_w 12 (by kernel_rfl) hx; subst wx
            clear hx
            go_simp
            try with_reducible rfl
          clear HC HS
          intro HC HS
          try simp only [Act.put, List.setIfInBounds_toArray, List.set_cons_zero, List.set_cons_succ]
          refine wpAnyL_take (i := 11) (v := ?_) rfl (by kernel_rfl) 12 (by kernel_rfl) (by kernel_rfl) (fun _ _ _ h => h) (callS_at (by decide)) HC (Or.inl ⟨by rfl, ?_⟩) HS ?_
          rotate_left
          · intro wx hx; have ew := atI_w 12 (by kernel_rfl) hx; subst wx
            clear hx
            go_simp
            try with_reducible rfl
          clear HC HS
          intro HC HS
          try simp only [Act.put, List.setIfInBounds_toArray, List.set_cons_zero, List.set_cons_succ]
          refine wpAnyL_take (i := 12) (v := ?_) rfl (by kernel_rfl) 12 (by kernel_rfl) (by kernel_rfl) (fun _ _ _ h => h) (callS_at (by decide)) HC (Or.inl ⟨by rfl, ?_⟩) HS ?_
          rotate_left
          · intro wx hx; have ew := atI_w 12 (by kernel_rfl) hx; subst wx
            clear hx
            go_simp
            try with_reducible rfl
          clear HC HS
          intro HC HS
          try simp only [Act.put, List.setIfInBounds_toArray, List.set_cons_zero, List.set_cons_succ]
          refine wpAnyL_take (i := 13) (v := ?_) rfl (by kernel_rfl) 12 (by kernel_rfl) (by kernel_rfl) (fun _ _ _ h => h) (callS_at (by decide)) HC (Or.inl ⟨by rfl, ?_⟩) HS ?_
          rotate_left
          · intro wx hx; have ew := atI_w 12 (by kernel_rfl) hx; subst wx
            clear hx
            go_simp
            try with_reducible rfl
          clear HC HS
          intro HC HS
          try simp only [Act.put, List.setIfInBounds_toArray, List.set_cons_zero, List.set_cons_succ]
          refine wpAnyL_take (i := 14) (v := ?_) rfl (by kernel_rfl) 12 (by kernel_rfl) (by kernel_rfl) (fun _ _ _ h => h) (callS_at (by decide)) HC (Or.inl ⟨by rfl, ?_⟩) HS ?_
          rotate_left
          · intro wx hx; have ew := atI_w 12 (by kernel_rfl) hx; subst wx
            clear hx
            go_simp
            try with_reducible rfl
          clear HC HS
          intro HC HS
          try simp only [Act.put, List.setIfInBounds_toArray, List.set_cons_zero, List.set_cons_succ]
          refine wpAnyL_take (i := 15) (v := ?_) rfl (by kernel_rfl) 12 (by kernel_rfl) (by kernel_rfl) (fun _ _ _ h => h) (callS_at (by decide)) HC (Or.inl ⟨by rfl, ?_⟩) HS ?_
          rotate_left
          · intro wx hx; have ew := atI_w 12 (by kernel_rfl) hx; subst wx
            clear hx
            go_simp
            try with_reducible rfl
          clear HC HS
          intro HC HS
          try simp only [Act.put, List.setIfInBounds_toArray, List.set_cons_zero, List.set_cons_succ]
          refine wpAnyL_take (i := 16) (v := ?_) rfl (by kernel_rfl) 12 (by kernel_rfl) (by kernel_rfl) (fun _ _ _ h => h) (callS_at (by decide)) HC (Or.inl ⟨by rfl, ?_⟩) HS ?_
          rotate_left
          · intro wx hx; have ew := atI_w 12 (by kernel_rfl) hx; subst wx
            clear hx
            go_simp
            try with_reducible rfl
          clear HC HS
          intro HC HS
          try simp only [Act.put, List.setIfInBounds_toArray, List.set_cons_zero, List.set_cons_succ]
          refine wpAnyL_take (i := 17) (v := ?_) rfl (by kernel_rfl) 12 (by kernel_rfl) (by kernel_rfl) (fun _ _ _ h => h) (callS_at (by decide)) HC (Or.inl ⟨by rfl, ?_⟩) HS ?_
          rotate_left
          · intro wx hx; have ew := atI_w 12 (by kernel_rfl) hx; subst wx
            clear hx
            go_simp
            try with_reducible rfl
          clear HC HS
          intro HC HS
          try simp only [Act.put, List.setIfInBounds_toArray, List.set_cons_zero, List.set_cons_succ]
          refine wpAnyL_take (i := 18) (v := ?_) rfl (by kernel_rfl) 12 (by kernel_rfl) (by kernel_rfl) (fun _ _ _ h => h) (callS_at (by decide)) HC (Or.inl ⟨by rfl, ?_⟩) HS ?_
          rotate_left
          · intro wx hx; have ew := atI_w 12 (by kernel_rfl) hx; subst wx
            clear hx
            go_simp
            try with_reducible rfl
          clear HC HS
          intro HC HS
          try simp only [Act.put, List.setIfInBounds_toArray, List.set_cons_zero, List.set_cons_succ]
          refine wpAnyL_take (i := 19) (v := ?_) rfl (by kernel_rfl) 12 (by kernel_rfl) (by kernel_rfl) (fun _ _ _ h => h) (callS_at (by decide)) HC (Or.inl ⟨by rfl, ?_⟩) HS ?_
          rotate_left
          · intro wx hx; have ew := atI_w 12 (by kernel_rfl) hx; subst wx
            clear hx
            go_simp
            try with_reducible rfl
          clear HC HS
          intro HC HS
          try simp only [Act.put, List.setIfInBounds_toArray, List.set_cons_zero, List.set_cons_succ]
          refine wpAnyL_take (i := 20) (v := ?_) rfl (by kernel_rfl) 12 (by kernel_rfl) (by kernel_rfl) (fun _ _ _ h => h) (callS_at (by decide)) HC (Or.inl ⟨by rfl, ?_⟩) HS ?_
          rotate_left
          · intro wx hx; have ew := atI_w 12 (by kernel_rfl) hx; subst wx
            clear hx
            go_simp
            try with_reducible rfl
          clear HC HS
          intro HC HS
          try simp only [Act.put, List.setIfInBounds_toArray, List.set_cons_zero, List.set_cons_succ]
          refine wpAnyL_take (i := 21) (v := ?_) rfl (by kernel_rfl) 12 (by kernel_rfl) (by kernel_rfl) (fun _ _ _ h => h) (callS_at (by decide)) HC (Or.inl ⟨by rfl, ?_⟩) HS ?_
          rotate_left
          · intro wx hx; have ew := atI_w 12 (by kernel_rfl) hx; subst wx
            clear hx
            go_simp
            try with_reducible rfl
          clear HC HS
          intro HC HS
          try simp only [Act.put, List.setIfInBounds_toArray, List.set_cons_zero, List.set_cons_succ]
          refine wpAnyL_take (i := 22) (v := ?_) rfl (by kernel_rfl) 12 (by kernel_rfl) (by kernel_rfl) (fun _ _ _ h => h) (callS_at (by decide)) HC (Or.inl ⟨by rfl, ?_⟩) HS ?_
          rotate_left
          · intro wx hx; have ew := atI_w 12 (by kernel_rfl) hx; subst wx
            clear hx
            go_simp
            try with_reducible rfl
          clear HC HS
          intro HC HS
          try simp only [Act.put, List.setIfInBounds_toArray, List.set_cons_zero, List.set_cons_succ]
          refine wpAnyL_take (i := 23) (v := ?_) rfl (by kernel_rfl) 12 (by kernel_rfl) (by kernel_rfl) (fun _ _ _ h => h) (callS_at (by decide)) HC (Or.inl ⟨by rfl, ?_⟩) HS ?_
          rotate_left
          · intro wx hx; have ew := atI_w 12 (by kernel_rfl) hx; subst wx
            clear hx
            go_simp
            try with_reducible rfl
          clear HC HS
          intro HC HS
          try simp only [Act.put, List.setIfInBounds_toArray, List.set_cons_zero, List.set_cons_succ]
          refine wpAnyL_take (i := 24) (v := ?_) rfl (by kernel_rfl) 12 (by kernel_rfl) (by kernel_rfl) (fun _ _ _ h => h) (callS_at (by decide)) HC (Or.inl ⟨by rfl, ?_⟩) HS ?_
          rotate_left
          · intro wx hx; have ew := atI_w 12 (by kernel_rfl) hx; subst wx
            clear hx
            go_simp
            try with_reducible rfl
          clear HC HS
          intro HC HS
          try simp only [Act.put, List.setIfInBounds_toArray, List.set_cons_zero, List.set_cons_succ]
          refine wpAnyL_take (i := 25) (v := ?_) rfl (by kernel_rfl) 12 (by kernel_rfl) (by kernel_rfl) (fun _ _ _ h => h) (callS_at (by decide)) HC (Or.inl ⟨by rfl, ?_⟩) HS ?_
          rotate_left
          · intro wx hx; have ew := atI_w 12 (by kernel_rfl) hx; subst wx
            clear hx
            go_simp
            try with_reducible rfl
          clear HC HS
          intro HC HS
          try simp only [Act.put, List.setIfInBounds_toArray, List.set_cons_zero, List.set_cons_succ]
          refine wpAnyL_take (i := 26) (v := ?_) rfl (by kernel_rfl) 12 (by kernel_rfl) (by kernel_rfl) (fun _ _ _ h => h) (callS_at (by decide)) HC (Or.inl ⟨by rfl, ?_⟩) HS ?_
          rotate_left
          · intro wx hx; have ew := atI_w 12 (by kernel_rfl) hx; subst wx
            clear hx
            go_simp
            try with_reducible rfl
          clear HC HS
          intro HC HS
          try simp only [Act.put, List.setIfInBounds_toArray, List.set_cons_zero, List.set_cons_succ]
          refine wpAnyL_take (i := 27) (v := ?_) rfl (by kernel_rfl) 12 (by kernel_rfl) (by kernel_rfl) (fun _ _ _ h => h) (callS_at (by decide)) HC (Or.inl ⟨by rfl, ?_⟩) HS ?_
          rotate_left
          · intro wx hx; have ew := atI_w 12 (by kernel_rfl) hx; subst wx
            clear hx
            go_simp
            try with_reducible rfl
          clear HC HS
          intro HC HS
          try simp only [Act.put, List.setIfInBounds_toArray, List.set_cons_zero, List.set_cons_succ]
          refine wpAnyL_take (i := 28) (v := ?_) rfl (by kernel_rfl) 12 (by kernel_rfl) (by kernel_rfl) (fun _ _ _ h => h) (callS_at (by decide)) HC (Or.inl ⟨by rfl, ?_⟩) HS ?_
          rotate_left
          · intro wx hx; have ew := atI_w 12 (by kernel_rfl) hx; subst wx
            clear hx
            go_simp
            try with_reducible rfl
          clear HC HS
          intro HC HS
          try simp only [Act.put, List.setIfInBounds_toArray, List.set_cons_zero, List.set_cons_succ]
          refine wpAnyL_take (i := 29) (v := ?_) rfl (by kernel_rfl) 12 (by kernel_rfl) (by kernel_rfl) (fun _ _ _ h => h) (callS_at (by decide)) HC (Or.inl ⟨by rfl, ?_⟩) HS ?_
          rotate_left
          · intro wx hx; have ew := atI_w 12 (by kernel_rfl) hx; subst wx
            clear hx
            go_simp
            try with_reducible rfl
          clear HC HS
          intro HC HS
          try simp only [Act.put, List.setIfInBounds_toArray, List.set_cons_zero, List.set_cons_succ]
          refine wpAnyL_take (i := 30) (v := ?_) rfl (by kernel_rfl) 12 (by kernel_rfl) (by kernel_rfl) (fun _ _ _ h => h) (callS_at (by decide)) HC (Or.inl ⟨by rfl, ?_⟩) HS ?_
          rotate_left
          · intro wx hx; have ew := atI_w 12 (by kernel_rfl) hx; subst wx
            clear hx
            go_simp
            try with_reducible rfl
          clear HC HS
          intro HC HS
          try simp only [Act.put, List.setIfInBounds_toArray, List.set_cons_zero, List.set_cons_succ]
          refine wpAnyL_take (i := 31) (v := ?_) rfl (by kernel_rfl) 12 (by kernel_rfl) (by kernel_rfl) (fun _ _ _ h => h) (callS_at (by decide)) HC (Or.inl ⟨by rfl, ?_⟩) HS ?_
          rotate_left
          · intro wx hx; have ew := atI_w 12 (by kernel_rfl) hx; subst wx
            clear hx
            go_simp
            try with_reducible rfl
          clear HC HS
          intro HC HS
          try simp only [Act.put, List.setIfInBounds_toArray, List.set_cons_zero, List.set_cons_succ]
          refine wpAnyL_take (i := 32) (v := ?_) rfl (by kernel_rfl) 12 (by kernel_rfl) (by kernel_rfl) (fun _ _ _ h => h) (callS_at (by decide)) HC (Or.inl ⟨by rfl, ?_⟩) HS ?_
          rotate_left
          · intro wx hx; have ew := atI_w 12 (by kernel_rfl) hx; subst wx
            clear hx
            go_simp
            try with_reducible rfl
          clear HC HS
          intro HC HS
          try simp only [Act.put, List.setIfInBounds_toArray, List.set_cons_zero, List.set_cons_succ]
          refine wpAnyL_take (i := 33) (v := ?_) rfl (by kernel_rfl) 12 (by kernel_rfl) (by kernel_rfl) (fun _ _ _ h => h) (callS_at (by decide)) HC (Or.inl ⟨by rfl, ?_⟩) HS ?_
          rotate_left
          · intro wx hx; have ew := atI_w 12 (by kernel_rfl) hx; subst wx
            clear hx
            go_simp
            try with_reducible rfl
          clear HC HS
          intro HC HS
          try simp only [Act.put, List.setIfInBounds_toArray, List.set_cons_zero, List.set_cons_succ]
          refine wpAnyL_take (i := 34) (v := ?_) rfl (by kernel_rfl) 12 (by kernel_rfl) (by kernel_rfl) (fun _ _ _ h => h) (callS_at (by decide)) HC (Or.inl ⟨by rfl, ?_⟩) HS ?_
          rotate_left
          · intro wx hx; have ew := atI_w 12 (by kernel_rfl) hx; subst wx
            clear hx
            go_simp
            try with_reducible rfl
          clear HC HS
          intro HC HS
          try simp only [Act.put, List.setIfInBounds_toArray, List.set_cons_zero, List.set_cons_succ]
          refine wpAnyL_take (i := 35) (v := ?_) rfl (by kernel_rfl) 12 (by kernel_rfl) (by kernel_rfl) (fun _ _ _ h => h) (callS_at (by decide)) HC (Or.inl ⟨by rfl, ?_⟩) HS ?_
          rotate_left
          · intro wx hx; have ew := atI_w 12 (by kernel_rfl) hx; subst wx
            clear hx
            go_simp
            try with_reducible rfl
          clear HC HS
          intro HC HS
          try simp only [Act.put, List.setIfInBounds_toArray, List.set_cons_zero, List.set_cons_succ]
          refine wpAnyL_take (i := 36) (v := ?_) rfl (by kernel_rfl) 12 (by kernel_rfl) (by kernel_rfl) (fun _ _ _ h => h) (callS_at (by decide)) HC (Or.inl ⟨by rfl, ?_⟩) HS ?_
          rotate_left
          · intro wx hx; have ew := atI_w 12 (by kernel_rfl) hx; subst wx
            clear hx
            go_simp
            try with_reducible rfl
          clear HC HS
          intro HC HS
          try simp only [Act.put, List.setIfInBounds_toArray, List.set_cons_zero, List.set_cons_succ]
          refine wpAnyL_one (i := 37) (by kernel_rfl) (wpOp_at rfl (by rfl) (fun K hK => ?_))
          go_simp
          refine Cp.out.mono ?_
          rintro e w3 ⟨g', c', rfl, O3, hgr, hg'⟩
          have b3 := Hbx.out w3 hgr
          have f2 := b3.cell
          have f3 := b3.frozen
          refine hK _ _ ⟨fun h => absurd h (by decide), ?_⟩
          clear hK K
          refine wpAnyL_one (i := 38) (by kernel_rfl) (wpOp_at rfl (by rfl) (fun K hK => ?_))
          go_simp
          refine hK _ _ ⟨fun h => absurd h (by decide), ?_⟩
          clear hK K
          refine wpAnyL_one (i := 39) (by kernel_rfl) (wpOp_at rfl (by rfl) (fun K hK => ?_))
          go_simp
          refine hK _ _ ⟨fun h => absurd h (by decide), wpAnyL_done (by kernel_rfl) ?_⟩
          clear hK K HC HS
          have r4 := Hput.out w3 g' c' O3 hgr hg'
          have R4 := Lib.hid r4; clear r4
          clear b3 f2 f3 hgr O3
          go_wp2
          go_roundw
          case rel => exact ⟨j + 1, by omega, by go_num, g', c', by rw [Hsu.out]; exact R4.out⟩
          case measure => simp [intOf]; omega
        · obtain rfl : j = b.length := by omega
          have hnx := Hnext.out k hka
          rw [hnx] at rr
          have Hnx := Lib.hid hnx; clear hnx
          have Rr := Lib.hid rr; clear rr
          go_wp2
          go_roundw
          case rel => exact ⟨k + 1, by omega, by go_num, _, _, Rr.out⟩
          case measure => simp [intOf]; omega
    · obtain rfl : k = a.length := by omega
      rw [Hend.out] at rr
      obtain ⟨M, eM⟩ : ∃ M, setL (sumL a b) = M := ⟨_, rfl⟩
      rw [eM] at rr
      have f1 := rr.box.cell
      have f2 := rr.res.cell
      have f3 := rr.res.frozen
      have e0 := (rr.res.set (.slice (some ⟨g0, 0, none⟩) M.length f0)).cell
      have O4 : OwnSpots w.heap.size (wr.setCell ⟨w.heap.size, 0, none⟩ (.slice (some ⟨g0, 0, none⟩) M.length f0)) (.slice (some ⟨g0, 0, none⟩) M.length f0) M :=
        ⟨_, _, rfl, own_mono (own_other rr.own (fun e => by have h9 : w.heap.size + 1 ≤ w.heap.size := own_ge rr.own _ e.symm; omega) _) (by omega)⟩
      have S2 := rr.since.setS (p := ⟨w.heap.size, 0, none⟩) (by simp) (.slice (some ⟨g0, 0, none⟩) M.length f0)
      have o4 := O4
      have s2 := S2
      clear O4 S2
      have Rr := Lib.hid rr; clear rr
      have EM := Lib.hid eM; clear eM
      have O4 := Lib.hid o4; clear o4
      have S2 := Lib.hid s2; clear s2
      go_wp2
      exact bodyPost_ret (v := .agg #[.slice (some ⟨g0, 0, none⟩) M.length f0]) (by simp [results, Try.results37, go_sem, e0]) rfl ⟨g0, f0, by rw [EM.out], by rw [EM.out]; exact O4.out, S2.out.below⟩
end Go.Proofs.Ytheakjbbfdcbaaa
