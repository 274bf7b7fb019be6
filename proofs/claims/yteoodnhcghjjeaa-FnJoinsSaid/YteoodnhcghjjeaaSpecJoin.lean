/- Contracts of the reference's JoinPictures. -/
import Derived.Test.YteoodnhcghjjeaaSpecInv
set_option linter.unusedVariables false
namespace Go.Proofs.Yteoodnhcghjjeaa
open Go.RowKit

/-- The loop of l01Join: the first n are joined. -/
def JoinRel (w : World) (rb g g' N op : Nat) (f f' : Nat → Bool) (i : Value) (wr : World) : Prop :=
  ∃ n : Nat, n ≤ N ∧ i = .int .i64 n ∧ Box wr rb (.slice none 0 0) 28 ∧ Bools wr g N (fun i => if i < n then joinB op (f i) (f' i) else f i) ∧ Bools wr g' N f' ∧ Since w wr
theorem JoinRel.next {w : World} {rb g g' N op n : Nat} {f f' : Nat → Bool} {wr : World} (hn : n < N) (v : Bool) (hv : joinB op (f n) (f' n) = v) (B : Box wr rb (.slice none 0 0) 28) (L : Bools wr g N (fun i => if i < n then joinB op (f i) (f' i) else f i)) (M : Bools wr g' N f') (S : Since w wr)
    (h1 : rb ≠ g) (h2 : g' ≠ g) (h3 : w.heap.size ≤ g) (i : Value) (hi : i = .int .i64 ((n + 1 : Nat) : Int)) : JoinRel w rb g g' N op f f' i (wr.setCell ⟨g, n, none⟩ (.bool v)) := by
  refine ⟨n + 1, by omega, hi, B.other h1 _, (L.set n v).congr (fun i _ => ?_), M.other h2 _, S.set h3 _ _⟩
  by_cases h1 : i = n
  · subst h1; simp [hv]
  · by_cases h2 : i < n
    · simp [h1, h2, show i < n + 1 by omega]
    · simp [h1, h2, show ¬ i < n + 1 by omega]
theorem JoinRel.drew {w : World} {rb g g' N op : Nat} {f f' : Nat → Bool} {i : Value} {wr : World} (h : JoinRel w rb g g' N op f f' i wr) : JoinRel w rb g g' N op f f' i wr.drew := by
  obtain ⟨n, h1, h2, B, L, M, S⟩ := h
  have hb := (Below.refl wr.heap.size wr).drew
  exact ⟨n, h1, h2, B.bl hb, L.bl hb, M.bl hb, S.bl hb⟩
set_option maxHeartbeats 8000000 in
theorem l01Join_any (op a b : Nat) (p q : Option Addr) (c d : Nat) (ss ts : List ByteArray) (w : World) (hop : op ≤ 3) (P : PicAt w a p c ss) (Q : PicAt w b q d ts) (hl1 : wid ss = wid ts) (hl2 : ss.length = ts.length) :
    Calls Try.prog 83 #[.int .i64 op, .pointer (some ⟨a, 0, none⟩), .pointer (some ⟨b, 0, none⟩)] w fun e w' => ∃ v, e = .returned (.agg #[v]) ∧ OwnStrs w.heap.size w' v (render (wid ss) ss.length (fun i => joinB op (bits ss i) (bits ts i))) ∧ Below w.heap.size w w' := by
  have d1 := okPic_dims P.ok
  have hm := mul_256 d1.2.2.2 d1.2.1
  obtain ⟨d11, d12, d13, d14⟩ := d1
  have hl : wid ts * ts.length = wid ss * ss.length := by rw [hl1, hl2]
  clear hl1 hl2
  have hy := bl_alloc w (.cells #[.slice none 0 0] 28)
  have S := (Since.refl w).bl hy
  have B := Box.new w (.slice none 0 0) 28
  have P1 := P.bl hy
  have Q1 := Q.bl hy
  clear hy Q
  go_enter Try.func83, Try.ntmps83
  go_wp2_with fail
  refine (l01List_any a p c ss _ P1).mono ?_
  rintro e w1 ⟨g, k, rfl, L, hg, hb⟩
  replace S := S.bl hb
  replace B := B.bl hb
  replace Q1 := Q1.bl hb
  clear hb P1
  have hgl := L.lt
  go_wp2_with fail
  refine (l01List_any b q d ts _ Q1).mono ?_
  rintro e w1 ⟨g', k', rfl, M, hg', hb⟩
  replace S := S.bl hb
  replace B := B.bl hb
  replace L := L.bl hb
  clear hb Q1
  simp only [World.size_alloc] at hg
  rw [hl] at M
  rw [hl]
  obtain ⟨N, eN⟩ : ∃ N, wid ss * ss.length = N := ⟨_, rfl⟩
  obtain ⟨f, ef⟩ : ∃ f, bits ss = f := ⟨_, rfl⟩
  obtain ⟨f', ef'⟩ : ∃ f, bits ts = f := ⟨_, rfl⟩
  rw [eN] at L M hm
  rw [ef] at L
  rw [ef'] at M
  rw [eN]
  clear hl
  have EN := Lib.hid eN; clear eN
  have Ef := Lib.hid ef; clear ef
  have Ef' := Lib.hid ef'; clear ef'
  have n1 : w.heap.size ≠ g := by omega
  have n2 : g' ≠ g := by omega
  have n3 : w.heap.size ≤ g := by omega
  clear hg hg' hgl
  go_wp2
  go_loopw [16] (JoinRel w w.heap.size g g' N op f f') (fun i _ => N - (intOf i).toNat)
  case atStart => unfold JoinRel; exact ⟨0, Nat.zero_le _, rfl, B, L.congr (by simp), M, S⟩
  case round =>
    clear B L S M
    obtain ⟨n, hn, rfl, B, L, M, S⟩ := hrel
    by_cases hN : n < N
    · have e2 := M.cell hN
      have f1 := L.frozen n
      have hj := fun v hv i hi => JoinRel.next (i := i) hN v hv B L M S n1 n2 n3 hi
      have e1 := L.at hN (b := f n) (by simp)
      clear L B S M n1 n2 n3
      have Hj := Lib.hid hj; clear hj
      rcases (show op = 0 ∨ op = 1 ∨ op = 2 ∨ op = 3 by omega) with rfl | rfl | rfl | rfl
      all_goals
        cases h1 : f n
        all_goals
          cases h2 : f' n
          all_goals
            rw [h1] at e1
            rw [h2] at e2
            have hv := Hj.out _ (by rw [h1, h2])
            have Hv := Lib.hid hv
            clear hv Hj
            have h1' := Lib.hid h1
            have h2' := Lib.hid h2
            clear h1 h2
            go_wp2
            (try (go_region; go_wp2))
            go_roundw
            case rel => first | exact Hv.out _ (by go_num) | exact (Hv.out _ (by go_num)).drew
            case measure => simp [intOf]; omega
    · obtain rfl : n = N := by omega
      have eN' := EN.out
      have e1 := Ef.out
      have e2 := Ef'.out
      subst e1
      subst e2
      subst eN'
      have P2 := P.bl S.below
      have L2 := L.congr (f' := fun i => joinB op (bits ss i) (bits ts i)) (fun i hi => by simp [hi])
      clear L M
      go_wp2_with fail
      refine (l01Width_any _ p c ss _ P2).mono ?_
      rintro e w2 ⟨rfl, rfl⟩
      go_wp2_with fail
      refine (l01Make_any _ (wid ss) ss.length k (fun i => joinB op (bits ss i) (bits ts i)) _ d13 d14 d12 L2.rd).mono ?_
      rintro e w2 ⟨v, rfl, O, hb⟩
      have hlt := B.lt
      replace B := B.bl hb
      replace S := S.bl hb
      clear hb L2
      have f0 := B.frozen
      have f1 := B.cell
      obtain ⟨p', c', rfl⟩ := O.form
      have e0 := (B.set (.slice p' (render (wid ss) ss.length (fun i => joinB op (bits ss i) (bits ts i))).length c')).cell
      have O2 := O.set (a := ⟨w.heap.size, 0, none⟩) hlt (.slice p' (render (wid ss) ss.length (fun i => joinB op (bits ss i) (bits ts i))).length c')
      have S3 := S.set (b := w.heap.size) (by omega) 0 (.slice p' (render (wid ss) ss.length (fun i => joinB op (bits ss i) (bits ts i))).length c')
      go_wp2
      refine bodyPost_ret (v := .agg #[.slice p' (render (wid ss) ss.length (fun i => joinB op (bits ss i) (bits ts i))).length c']) (by simp [results, Try.results83, go_sem, e0]) rfl ⟨_, rfl, O2.mono (by omega), S3.below⟩
set_option maxHeartbeats 4000000 in
theorem sJoinPictures_any (op : Int) (p q : Option Addr) (c d : Nat) (ss ts : List ByteArray) (w : World) (hn : ss.length ≤ 1048576) (hs : ∀ s ∈ ss, s.size ≤ 1048576) (hn2 : ts.length ≤ 1048576) (hs2 : ∀ s ∈ ts, s.size ≤ 1048576)
    (hr : Rd w p ss.length (strAt ss)) (hq : Rd w q ts.length (strAt ts)) :
    Calls Try.prog 35 #[.int .i64 op, .agg #[.slice p ss.length c], .agg #[.slice q ts.length d]] w fun e w' =>
      ∃ v, e = .returned (.tuple #[.agg #[v], .bool (inB op 0 3 && likeB ss ts)]) ∧ OwnStrs w.heap.size w' v (joinL op ss ts) ∧ Below w.heap.size w w' := by
  have hy0 := bl_alloc w (.cells #[.slice p ss.length c] 28)
  have hy1 := bl_alloc (w.alloc (.cells #[.slice p ss.length c] 28)) (.cells #[.slice q ts.length d] 28)
  have hy2 := bl_alloc ((w.alloc (.cells #[.slice p ss.length c] 28)).alloc (.cells #[.slice q ts.length d] 28)) (.cells #[.slice none 0 0] 28)
  have S := (((Since.refl w).bl hy0).bl hy1).bl hy2
  have P : PicVar ((w.alloc (.cells #[.slice p ss.length c] 28)).alloc (.cells #[.slice q ts.length d] 28)) w.heap.size p c ss := ⟨by simp, (hr.alloc _).alloc _⟩
  have Q : PicVar ((w.alloc (.cells #[.slice p ss.length c] 28)).alloc (.cells #[.slice q ts.length d] 28)) (w.heap.size + 1) q d ts := ⟨by simp, (hq.alloc _).alloc _⟩
  replace P := P.bl hy2
  replace Q := Q.bl hy2
  have B := Box.new ((w.alloc (.cells #[.slice p ss.length c] 28)).alloc (.cells #[.slice q ts.length d] 28)) (.slice none 0 0) 28
  simp only [World.size_alloc] at B
  have hx1 := B.cell
  have hx2 := B.frozen
  have hx3 := B.lt
  have c0 := l01Like_any _ _ p q c d ss ts _ hn hs hn2 hs2 P Q
  cases hop : inB op 0 3
  · have hv : joinL op ss ts = [] := by simp [joinL, picIf, hop]
    rw [hv]
    have C0 := Lib.hid c0; clear c0
    clear hv
    go_enter Try.func35, Try.ntmps35
    go_wp2_with (go_at_call 82; refine (l00In_any _ _ _ _).mono ?_; rintro e w' ⟨rfl, rfl⟩)
    have e0 := B.cell
    refine bodyPost_ret (v := .tuple #[.agg #[.slice none 0 0], .bool false]) (by simp [results, Try.results35, go_sem, e0]) rfl ⟨_, rfl, OwnStrs.nil _ _, S.below⟩
  · cases hlk : likeB ss ts
    · rw [hlk] at c0
      have hv : joinL op ss ts = [] := by simp [joinL, picIf, hlk]
      rw [hv]
      have hop' := Lib.hid hop
      have C0 := Lib.hid c0; clear c0
      have Hlk := Lib.hid hlk; clear hlk
      clear hv
      go_enter Try.func35, Try.ntmps35
      go_wp2_with (go_at_call 82; refine (l00In_any _ _ _ _).mono ?_; rintro e w' ⟨rfl, rfl⟩)
      refine C0.out.mono ?_
      rintro e w1 ⟨rfl, hb⟩
      replace B := B.bl hb
      replace S := S.bl hb
      clear hb
      have e0 := B.cell
      have e1 := B.frozen
      go_wp2
      refine bodyPost_ret (v := .tuple #[.agg #[.slice none 0 0], .bool false]) (by simp [results, Try.results35, go_sem, e0]) rfl ⟨_, rfl, OwnStrs.nil _ _, (S.set (by omega) _ _).below⟩
    · rw [hlk] at c0
      obtain ⟨h1, h2, h3, h4⟩ := likeB_true hlk
      have dop := inB_true hop
      obtain ⟨k, rfl⟩ := Int.eq_ofNat_of_zero_le (show 0 ≤ op by omega)
      have hv : joinL k ss ts = render (wid ss) ss.length (fun i => joinB k (bits ss i) (bits ts i)) := by simp [joinL, picIf, hlk, hop]
      rw [hv]
      obtain ⟨L, eL⟩ : ∃ L, render (wid ss) ss.length (fun i => joinB k (bits ss i) (bits ts i)) = L := ⟨_, rfl⟩
      have c1 := fun w' P Q => l01Join_any k w.heap.size (w.heap.size + 1) p q c d ss ts w' (by omega) P Q h3 h4
      rw [eL] at c1 ⊢
      have P1 := P.at h1
      have Q1 := Q.at h2
      clear hv eL dop
      have hop' := Lib.hid hop
      have C0 := Lib.hid c0; clear c0
      have C1 := Lib.hid c1; clear c1
      have Hlk := Lib.hid hlk; clear hlk
      have H1 := Lib.hid h1; clear h1
      have H2 := Lib.hid h2; clear h2
      have H3 := Lib.hid h3; clear h3
      have H4 := Lib.hid h4; clear h4
      go_enter Try.func35, Try.ntmps35
      go_wp2_with (go_at_call 82; refine (l00In_any _ _ _ _).mono ?_; rintro e w' ⟨rfl, rfl⟩)
      refine C0.out.mono ?_
      rintro e w1 ⟨rfl, hb⟩
      replace B := B.bl hb
      replace S := S.bl hb
      replace P1 := P1.bl hb
      replace Q1 := Q1.bl hb
      clear hb
      go_wp2_with fail
      refine (C1.out _ P1 Q1).mono ?_
      rintro e w2 ⟨v, rfl, O, hb⟩
      have hlt := B.lt
      replace B := B.bl hb
      replace S := S.bl hb
      clear hb
      have f0 := B.frozen
      have f1 := B.cell
      obtain ⟨p', c', rfl⟩ := O.form
      have e0 := (B.set (.slice p' L.length c')).cell
      have O2 := O.set (a := ⟨w.heap.size + 1 + 1, 0, none⟩) hlt (.slice p' L.length c')
      have S3 := S.set (b := w.heap.size + 1 + 1) (by omega) 0 (.slice p' L.length c')
      go_wp2
      refine bodyPost_ret (v := .tuple #[.agg #[.slice p' L.length c'], .bool true]) (by simp [results, Try.results35, go_sem, e0]) rfl ⟨_, rfl, O2.mono (by omega), S3.below⟩
end Go.Proofs.Yteoodnhcghjjeaa
