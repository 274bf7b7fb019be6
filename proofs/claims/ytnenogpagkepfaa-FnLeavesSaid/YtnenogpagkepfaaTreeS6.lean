/- Contracts of the reference's ValidTree, PictureOf, BlackArea. -/
import Derived.Test.YtnenogpagkepfaaTreeS5
import Derived.Test.YtnenogpagkepfaaSpecOps
set_option linter.unusedVariables false
set_option linter.unusedSimpArgs false
namespace Go.Proofs.Ytnenogpagkepfaa
open Go.RowKit

theorem l02Open_any (a : Nat) (n : Int) (s : ByteArray) (w : World) (V : TreeVar w a n s) (hs : s.size ≤ maxLen) :
    Calls Try.prog 51 #[.pointer (some ⟨a, 0, none⟩)] w (OpenOut w n s) := by
  cases h1 : sideB n with
  | false => exact l02Open_no a n s w V hs (.inl h1)
  | true =>
    by_cases h2 : s.size ≤ 1000
    · exact l02Open_yes a n s w V h1 h2
    · exact l02Open_no a n s w V hs (.inr (by omega))
theorem TreeVar.new (w : World) (n : Int) (s : ByteArray) : TreeVar (w.alloc (.cells #[.int .i64 n, .string s] 26)) w.heap.size n s :=
  ⟨(Blk.new w #[.int .i64 n, .string s] 26).cell 0 rfl, (Blk.new w #[.int .i64 n, .string s] 26).cell 1 rfl⟩
theorem treeV_dims {n : Int} {s : ByteArray} (h : treeV n s = true) : 1 ≤ 2 ^ lg n ∧ 2 ^ lg n ≤ 16 := pow_le4 (lg_le n)
theorem treeL_ok (n : Int) (s : ByteArray) : okPic (treeL n s) = true := by
  have h := pow_le4 (lg_le n)
  exact okPic_render _ h.1 h.2 h.1 h.2
theorem treeL_len (n : Int) (s : ByteArray) : (treeL n s).length ≤ 1048576 := by
  have h := pow_le4 (lg_le n)
  rw [treeL, render_len]; omega
set_option maxHeartbeats 1000000 in
theorem sValidTree_any (n : Int) (s : ByteArray) (w : World) (hs : s.size ≤ maxLen) :
    Calls Try.prog 15 #[.agg #[.int .i64 n, .string s]] w fun e w' => e = .returned (.bool (treeV n s)) ∧ Below w.heap.size w w' := by
  have V := TreeVar.new w n s
  have S := (Since.refl w).alloc (.cells #[.int .i64 n, .string s] 26)
  have c0 := l02Open_any w.heap.size n s _ V hs
  obtain ⟨b, eb⟩ : ∃ b, treeV n s = b := ⟨_, rfl⟩
  unfold OpenOut at c0
  rw [eb] at c0 ⊢
  have C0 := Lib.hid c0; clear c0
  have Eb := Lib.hid eb; clear eb
  go_enter Try.func15, Try.ntmps15
  go_wp2_with fail
  with_reducible (refine C0.out.mono ?_)
  rintro e w1 ⟨hb, v, L, rfl, O, hL⟩
  obtain ⟨q, d, rfl⟩ := O.form
  replace S := S.bl hb
  clear hb O hL
  go_wp2
  go_ret
  exact ⟨rfl, (S.alloc _).below⟩
set_option maxHeartbeats 2000000 in
theorem sPictureOf_any (n : Int) (s : ByteArray) (w : World) (hs : s.size ≤ maxLen) :
    Calls Try.prog 47 #[.agg #[.int .i64 n, .string s]] w fun e w' => ∃ v, e = .returned (.tuple #[.agg #[v], .bool (treeV n s)]) ∧ OwnStrs w.heap.size w' v (picIf (treeV n s) (treeL n s)) ∧ Below w.heap.size w w' := by
  have V := (TreeVar.new w n s).bl (bl_alloc _ (.cells #[.slice none 0 0] 38))
  have S := ((Since.refl w).alloc (.cells #[.int .i64 n, .string s] 26)).alloc (.cells #[.slice none 0 0] 38)
  have B := Box.new (w.alloc (.cells #[.int .i64 n, .string s] 26)) (.slice none 0 0) 38
  simp only [World.size_alloc] at B
  have c0 := l02Open_any w.heap.size n s _ V hs
  have hp : ∀ b, treeV n s = b → picIf (treeV n s) (treeL n s) = if b then treeL n s else [] := fun b hb => by rw [hb]; rfl
  obtain ⟨b, eb⟩ : ∃ b, treeV n s = b := ⟨_, rfl⟩
  have hp2 := hp b eb
  unfold OpenOut at c0
  rw [eb] at c0
  rw [hp2, eb]
  obtain ⟨TL, eTL⟩ : ∃ TL, treeL n s = TL := ⟨_, rfl⟩
  rw [eTL] at c0 ⊢
  clear hp hp2
  have C0 := Lib.hid c0; clear c0
  have Eb := Lib.hid eb; clear eb
  have ETL := Lib.hid eTL; clear eTL
  cases b
  · simp only [Bool.false_eq_true, if_false]
    go_enter Try.func47, Try.ntmps47
    go_wp2_with fail
    with_reducible (refine C0.out.mono ?_)
    rintro e w1 ⟨hb, v, L, rfl, O, hL⟩
    obtain ⟨q, d, rfl⟩ := O.form
    replace S := S.bl hb
    replace B := B.bl hb
    clear hL
    have hlt := B.lt
    have b0 := B.cell
    have b1 := B.frozen
    have B2 := ((B.set (.slice none 0 0)).alloc (.cells #[.slice q L.length d] 38)).cell
    have S2 := (S.set (b := w.heap.size + 1) (by omega) 0 (.slice none 0 0)).alloc (.cells #[.slice q L.length d] 38)
    go_wp2
    refine bodyPost_ret (v := .tuple #[.agg #[.slice none 0 0], .bool false]) (by simp [results, Try.results47, go_sem, B2, b0]) rfl ⟨_, rfl, OwnStrs.nil _ _, S2.below⟩
  · simp only [if_true]
    go_enter Try.func47, Try.ntmps47
    go_wp2_with fail
    with_reducible (refine C0.out.mono ?_)
    rintro e w1 ⟨hb, v, L, rfl, O, hL⟩
    obtain ⟨q, d, rfl⟩ := O.form
    have hL2 : L = TL := hL (by trivial)
    replace S := S.bl hb
    replace B := B.bl hb
    have hz := hb.size
    simp only [World.size_alloc] at hz
    have hlt := B.lt
    have hge := O.ge
    have b0 := B.cell
    have b1 := B.frozen
    have B2 := ((B.set (.slice q L.length d)).alloc (.cells #[.slice q L.length d] 38)).cell
    have S2 := (S.set (b := w.heap.size + 1) (by omega) 0 (.slice q L.length d)).alloc (.cells #[.slice q L.length d] 38)
    have O2 := ((O.other (a := ⟨w.heap.size + 1, 0, none⟩) (fun k hk e => by have := (hge k hk).1; simp at this e; omega) (.slice q L.length d)).bl (bl_alloc _ (.cells #[.slice q L.length d] 38))).mono (B' := w.heap.size) (by simp; omega)
    have HL2 := Lib.hid hL2; clear hL2
    clear hL O
    go_wp2
    refine bodyPost_ret (v := .tuple #[.agg #[.slice q L.length d], .bool true]) (by simp [results, Try.results47, go_sem, B2, b0]) rfl ⟨_, rfl, by rw [← HL2.out]; exact O2, S2.below⟩
end Go.Proofs.Ytnenogpagkepfaa
