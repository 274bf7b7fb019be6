/- Contracts of the reference's l02All, AddressOf, l02In, LeafAt. -/
import Derived.Test.YtnenogpagkepfaaTreeS7
import Derived.Test.YtnenogpagkepfaaTreeQ2
set_option linter.unusedVariables false
set_option linter.unusedSimpArgs false
namespace Go.Proofs.Ytnenogpagkepfaa
open Go.RowKit

/-- What l02All answers. -/
def AllOut (n : Int) (s : ByteArray) (w : World) (e : Ending) (w' : World) : Prop :=
  Below w.heap.size w w' ∧ ∃ v l, e = .returned (.tuple #[v, .bool (treeV n s)]) ∧ OwnLeaves false 79 w.heap.size w' v l ∧ (treeV n s = true → l = treeLv n s)
set_option maxRecDepth 100000 in
set_option maxHeartbeats 2000000 in
theorem l02All_any (a : Nat) (n : Int) (s : ByteArray) (w : World) (V : TreeVar w a n s) (hs : s.size ≤ maxLen) :
    Calls Try.prog 53 #[.pointer (some ⟨a, 0, none⟩)] w (AllOut n s w) := by
  have c0 := l02Open_any a n s w V hs
  unfold OpenOut at c0
  cases h1 : treeV n s
  · rw [h1] at c0
    have hr : ∀ v w', OwnLeaves false 79 w.heap.size w' v [] → Below w.heap.size w w' → AllOut n s w (.returned (.tuple #[v, .bool false])) w' := fun v w' O B => ⟨B, v, [], by rw [h1], O, fun h => by rw [h1] at h; cases h⟩
    have C0 := Lib.hid c0; clear c0
    have H1 := Lib.hid h1; clear h1
    have Hr := Lib.hid hr; clear hr
    go_enter Try.func53, Try.ntmps53
    go_wp2_with fail
    with_reducible (refine C0.out.mono ?_)
    rintro e w1 ⟨hb, v, L, rfl, O, hL⟩
    obtain ⟨q, d, rfl⟩ := O.form
    have S := ((Since.refl w).bl hb).alloc (.cells #[.slice q L.length d] 38)
    clear hb O hL V
    go_wp2
    go_ret2
    have J := World.ownsRow_made (base := w.heap.size) (size := 5) (e := 79) (w1.alloc (.cells #[.slice q L.length d] 38)) #[] 0 S.size (by decide) rfl
    simp only [World.size_alloc] at J
    exact Hr.out (.slice (some ⟨w1.heap.size + 1, 0, none⟩) 0 0) _ ⟨_, _, rfl, J⟩ (S.alloc _).below
  · rw [h1] at c0
    have hok := treeL_ok n s
    have ht := leaves_tie h1
    have h2 := (treeV_is h1).1
    obtain ⟨hn, hk⟩ := sideB_lg h2
    have hN := pow_le4 hk
    have c1 : ∀ (b : Nat) (p : Option Addr) (d : Nat) (w' : World) (P : PicAt w' b p d (treeL n s)), Calls Try.prog 78 #[.pointer (some ⟨b, 0, none⟩), .int .i64 0, .int .i64 0, .int .i64 n, .string ⟨#[]⟩] w' (LsOut ((qt (lg n) (pf (wid (treeL n s)) (treeL n s).length (bits (treeL n s))) 0 0).leaves (lg n) 0 0 ByteArray.empty) w') := fun (b : Nat) (p : Option Addr) (d : Nat) (w' : World) (P : PicAt w' b p d (treeL n s)) => l02Leaves_any b p d (treeL n s) (lg n) 0 0 0 0 n ByteArray.empty w' P rfl rfl hn hk (by omega) (by omega) (by have : ByteArray.empty.size = 0 := rfl; omega)
    simp only [ht] at c1
    have hr : ∀ v w', OwnLeaves false 79 w.heap.size w' v (treeLv n s) → Below w.heap.size w w' → AllOut n s w (.returned (.tuple #[v, .bool true])) w' := fun v w' O B => ⟨B, v, _, by rw [h1], O, fun _ => rfl⟩
    unfold LsOut at c1
    generalize treeL n s = TL at *
    generalize treeLv n s = LV at *
    clear hn hk hN h2 ht
    have C0 := Lib.hid c0; clear c0
    have H1 := Lib.hid h1; clear h1
    have Hr := Lib.hid hr; clear hr
    have Hok := Lib.hid hok; clear hok
    have C1 := Lib.hid c1; clear c1
    go_enter Try.func53, Try.ntmps53
    go_wp2_with fail
    with_reducible (refine C0.out.mono ?_)
    rintro e w1 ⟨hb, v, L, rfl, O, hL⟩
    obtain ⟨q, d, rfl⟩ := O.form
    have hL2 : L = TL := hL (by trivial)
    subst hL2
    have S := ((Since.refl w).bl hb).alloc (.cells #[.slice q L.length d] 38)
    have V2 := (V.bl hb).bl (bl_alloc w1 (.cells #[.slice q L.length d] 38))
    have P : PicAt (w1.alloc (.cells #[.slice q L.length d] 38)) w1.heap.size q d L := ⟨Hok.out, by simp, O.rd.alloc _⟩
    have x0 := V2.c0
    clear hb O hL V V2
    go_wp2_with fail
    with_reducible (refine (C1.out _ _ _ _ P).mono ?_)
    rintro e w2 ⟨v, rfl, O, hb⟩
    obtain ⟨q2, d2, rfl⟩ := O.form
    have O2 := O.mono S.size
    replace S := S.bl hb
    clear hb O
    go_wp2
    go_ret2
    exact Hr.out _ _ O2 S.below
set_option maxRecDepth 100000 in
set_option maxHeartbeats 2000000 in
theorem sAddressOf_any (n : Int) (s : ByteArray) (k : Int) (w : World) (hs : s.size ≤ maxLen) (h0 : -9223372036854775808 ≤ k) (h1 : k ≤ 9223372036854775807) :
    Calls Try.prog 18 #[.agg #[.int .i64 n, .string s], .int .i64 k] w fun e w' => e = .returned (.tuple #[.string (aoS n s k), .bool (aoOk n s k)]) ∧ Below w.heap.size w w' := by
  have V := TreeVar.new w n s
  have S := (Since.refl w).alloc (.cells #[.int .i64 n, .string s] 26)
  have c0 := l02All_any w.heap.size n s _ V hs
  unfold AllOut at c0
  cases hv : treeV n s
  · have ha := ao_no (k := k) hv
    have hb := aoS_no ha
    rw [ha, hb]
    rw [hv] at c0
    have C0 := Lib.hid c0; clear c0
    have Hv := Lib.hid hv; clear hv
    have Ha := Lib.hid ha; clear ha
    have Hb := Lib.hid hb; clear hb
    clear V
    go_enter Try.func18, Try.ntmps18
    go_wp2_with fail
    with_reducible (refine C0.out.mono ?_)
    rintro e w1 ⟨hb, v, L, rfl, O, hL⟩
    obtain ⟨q, d, rfl⟩ := O.form
    replace S := S.bl hb
    clear hb O hL
    go_wp2
    go_ret2
    exact ⟨rfl, S.below⟩
  · rw [hv] at c0
    have lok := treeLv_ok hv
    have hl1 := lok.pos
    have hl2 := lok.len
    have c1 := fun w => l00In_any k 0 (((treeLv n s).length : Int) - 1) w
    cases hi : inB k 0 (((treeLv n s).length : Int) - 1)
    · have ha := ao_out hi
      have hb := aoS_no ha
      rw [ha, hb]
      simp only [hi] at c1
      generalize treeLv n s = LV at *
      have C0 := Lib.hid c0; clear c0
      have Hv := Lib.hid hv; clear hv
      have Ha := Lib.hid ha; clear ha
      have Hb := Lib.hid hb; clear hb
      have C1 := Lib.hid c1; clear c1
      have Hi := Lib.hid hi; clear hi
      clear V lok
      go_enter Try.func18, Try.ntmps18
      go_wp2_with fail
      with_reducible (refine C0.out.mono ?_)
      rintro e w1 ⟨hb, v, L, rfl, O, hL⟩
      have hL2 : L = LV := hL (by trivial)
      subst hL2
      obtain ⟨q, d, rfl⟩ := O.form
      replace S := S.bl hb
      clear hb O hL
      go_wp2_with fail
      with_reducible (refine (C1.out _).mono ?_)
      rintro e w2 ⟨rfl, rfl⟩
      go_wp2
      go_ret2
      exact ⟨rfl, S.below⟩
    · have ha := ao_yes hv hi
      have hb : aoS n s k = ((treeLv n s).getD k.toNat noLeaf).addr := by rw [aoS, ha]; rfl
      rw [ha, hb]
      simp only [hi] at c1
      obtain ⟨hk0, hk1⟩ := inB_true hi
      obtain ⟨kn, rfl⟩ : ∃ kn : Nat, k = kn := ⟨k.toNat, by omega⟩
      rw [Int.toNat_natCast]
      have hkn : kn < (treeLv n s).length := by omega
      generalize treeLv n s = LV at *
      obtain ⟨A, eA⟩ : ∃ A, (LV.getD kn noLeaf).addr = A := ⟨_, rfl⟩
      rw [eA]
      have C0 := Lib.hid c0; clear c0
      have Hv := Lib.hid hv; clear hv
      have Ha := Lib.hid ha; clear ha
      have Hb := Lib.hid hb; clear hb
      have C1 := Lib.hid c1; clear c1
      have Hi := Lib.hid hi; clear hi
      have EA := Lib.hid eA; clear eA
      clear V lok
      go_enter Try.func18, Try.ntmps18
      go_wp2_with fail
      with_reducible (refine C0.out.mono ?_)
      rintro e w1 ⟨hb, v, L, rfl, O, hL⟩
      have hL2 : L = LV := hL (by trivial)
      subst hL2
      obtain ⟨q, d, rfl⟩ := O.form
      obtain ⟨b, o, rfl, hbl, x0, x1, x2, x3, x4⟩ := leaf_cells O.rd hkn
      replace S := S.bl hb
      rw [EA.out] at x4
      clear hb O hL x0 x1 x2 x3
      go_wp2_with fail
      with_reducible (refine (C1.out _).mono ?_)
      rintro e w2 ⟨rfl, rfl⟩
      go_wp2
      go_ret2
      exact ⟨rfl, S.below⟩
end Go.Proofs.Ytnenogpagkepfaa
