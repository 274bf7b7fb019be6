/- Contracts of the reference's InvertPicture and JoinPictures. -/
import Derived.Test.YteoodnhcghjjeaaSpecMk
set_option linter.unusedVariables false
namespace Go.Proofs.Yteoodnhcghjjeaa
open Go.RowKit

def invL (ss : List ByteArray) : List ByteArray := picIf (okPic ss) (render (wid ss) ss.length (fun i => !bits ss i))
/-- One pixel by an op from 0 to 3. -/
def joinB (op : Nat) (a b : Bool) : Bool := match op with
  | 0 => a && b
  | 1 => a || b
  | 2 => a != b
  | _ => a && !b
def joinL (op : Int) (ss ts : List ByteArray) : List ByteArray := picIf (inB op 0 3 && likeB ss ts) (render (wid ss) ss.length (fun i => joinB op.toNat (bits ss i) (bits ts i)))

/-- The loop of l01Invert: the first n are turned. -/
def InvRel (w : World) (rb g N : Nat) (f : Nat → Bool) (i : Value) (wr : World) : Prop :=
  ∃ n : Nat, n ≤ N ∧ i = .int .i64 n ∧ Box wr rb (.slice none 0 0) 28 ∧ Bools wr g N (fun i => if i < n then !f i else f i) ∧ Since w wr
set_option maxHeartbeats 2000000 in
theorem l01Invert_any (a : Nat) (p : Option Addr) (c : Nat) (ss : List ByteArray) (w : World) (P : PicAt w a p c ss) :
    Calls Try.prog 80 #[.pointer (some ⟨a, 0, none⟩)] w fun e w' => ∃ v, e = .returned (.agg #[v]) ∧ OwnStrs w.heap.size w' v (render (wid ss) ss.length (fun i => !bits ss i)) ∧ Below w.heap.size w w' := by
  have d1 := okPic_dims P.ok
  have hm := mul_256 d1.2.2.2 d1.2.1
  obtain ⟨d11, d12, d13, d14⟩ := d1
  have hy := bl_alloc w (.cells #[.slice none 0 0] 28)
  have S := (Since.refl w).bl hy
  have B := Box.new w (.slice none 0 0) 28
  have P1 := P.bl hy
  clear hy
  go_enter Try.func80, Try.ntmps80
  go_wp2_with fail
  refine (l01List_any a p c ss _ P1).mono ?_
  rintro e w1 ⟨g, k, rfl, L, hg, hb⟩
  replace S := S.bl hb
  replace B := B.bl hb
  clear hb P1
  simp only [World.size_alloc] at hg
  obtain ⟨N, eN⟩ : ∃ N, wid ss * ss.length = N := ⟨_, rfl⟩
  obtain ⟨f, ef⟩ : ∃ f, bits ss = f := ⟨_, rfl⟩
  rw [eN] at L hm
  rw [ef] at L
  rw [eN]
  have EN := Lib.hid eN; clear eN
  have Ef := Lib.hid ef; clear ef
  go_wp2
  go_loopw [9] (InvRel w w.heap.size g N f) (fun i _ => N - (intOf i).toNat)
  case atStart => unfold InvRel; exact ⟨0, Nat.zero_le _, rfl, B, L.congr (by simp), S⟩
  case round =>
    clear B L S
    obtain ⟨n, hn, rfl, B, L, S⟩ := hrel
    by_cases hN : n < N
    · have e1 := L.at hN (b := f n) (by simp)
      have f1 := L.frozen n
      have L2 := L.set n (!f n)
      have B2 := B.other (a := ⟨g, n, none⟩) (by simp; omega) (.bool (!f n))
      have S2 := S.set (b := g) (by omega) n (.bool (!f n))
      clear L B S
      go_wp2
      go_roundw
      case rel =>
        unfold InvRel
        refine ⟨n + 1, by omega, by go_num, B2, L2.congr (fun i _ => ?_), S2⟩
        by_cases h1 : i = n
        · subst h1; simp
        · by_cases h2 : i < n
          · simp [h1, h2, show i < n + 1 by omega]
          · simp [h1, h2, show ¬ i < n + 1 by omega]
      case measure => simp [intOf]; omega
    · obtain rfl : n = N := by omega
      have eN' := EN.out
      have ef' := Ef.out
      subst ef'
      subst eN'
      have P2 := P.bl S.below
      have L2 := L.congr (f' := fun i => !bits ss i) (fun i hi => by simp [hi])
      clear L
      go_wp2_with fail
      refine (l01Width_any _ p c ss _ P2).mono ?_
      rintro e w2 ⟨rfl, rfl⟩
      go_wp2_with fail
      refine (l01Make_any _ (wid ss) ss.length k (fun i => !bits ss i) _ d13 d14 d12 L2.rd).mono ?_
      rintro e w2 ⟨v, rfl, O, hb⟩
      have hlt := B.lt
      replace B := B.bl hb
      replace S := S.bl hb
      clear hb L2
      have f0 := B.frozen
      have f1 := B.cell
      obtain ⟨p', c', rfl⟩ := O.form
      have e0 := (B.set (.slice p' (render (wid ss) ss.length (fun i => !bits ss i)).length c')).cell
      have O2 := O.set (a := ⟨w.heap.size, 0, none⟩) hlt (.slice p' (render (wid ss) ss.length (fun i => !bits ss i)).length c')
      have S3 := S.set (b := w.heap.size) (by omega) 0 (.slice p' (render (wid ss) ss.length (fun i => !bits ss i)).length c')
      go_wp2
      refine bodyPost_ret (v := .agg #[.slice p' (render (wid ss) ss.length (fun i => !bits ss i)).length c']) (by simp [results, Try.results80, go_sem, e0]) rfl ⟨_, rfl, O2.mono (by omega), S3.below⟩
set_option maxHeartbeats 2000000 in
theorem sInvertPicture_any (p : Option Addr) (c : Nat) (ss : List ByteArray) (w : World) (hn : ss.length ≤ 1048576) (hs : ∀ s ∈ ss, s.size ≤ 1048576) (hr : Rd w p ss.length (strAt ss)) :
    Calls Try.prog 33 #[.agg #[.slice p ss.length c]] w fun e w' => ∃ v, e = .returned (.tuple #[.agg #[v], .bool (okPic ss)]) ∧ OwnStrs w.heap.size w' v (invL ss) ∧ Below w.heap.size w w' := by
  have hy0 := bl_alloc w (.cells #[.slice p ss.length c] 28)
  have hy1 := bl_alloc (w.alloc (.cells #[.slice p ss.length c] 28)) (.cells #[.slice none 0 0] 28)
  have S := ((Since.refl w).bl hy0).bl hy1
  have P : PicVar ((w.alloc (.cells #[.slice p ss.length c] 28)).alloc (.cells #[.slice none 0 0] 28)) w.heap.size p c ss := ⟨by simp, (hr.alloc _).alloc _⟩
  have B := Box.new (w.alloc (.cells #[.slice p ss.length c] 28)) (.slice none 0 0) 28
  simp only [World.size_alloc] at B
  have c0 := fun w' (h : PicVar w' w.heap.size p c ss) => l01Is_any w.heap.size p c ss w' hn hs h.box h.rd
  cases hok : okPic ss
  · rw [hok] at c0
    have hv : invL ss = [] := by simp [invL, picIf, hok]
    rw [hv]
    have hx1 := B.cell
    have hx2 := B.frozen
    have C0 := Lib.hid c0; clear c0
    have Hok := Lib.hid hok; clear hok
    clear hv
    go_enter Try.func33, Try.ntmps33
    go_wp2_with fail
    refine (C0.out _ P).mono ?_
    rintro e w1 ⟨rfl, n, rfl⟩
    replace B := B.bl (bl_drewN _ n)
    replace S := S.bl (bl_drewN _ n)
    have e0 := B.cell
    go_wp2
    refine bodyPost_ret (v := .tuple #[.agg #[.slice none 0 0], .bool false]) (by simp [results, Try.results33, go_sem, e0]) rfl ⟨_, rfl, OwnStrs.nil _ _, (S.set (by omega) _ _).below⟩
  · rw [hok] at c0
    have P1 := P.at hok
    have hv : invL ss = render (wid ss) ss.length (fun i => !bits ss i) := by simp [invL, picIf, hok]
    rw [hv]
    obtain ⟨L, eL⟩ : ∃ L, render (wid ss) ss.length (fun i => !bits ss i) = L := ⟨_, rfl⟩
    have c1 := fun w' h => l01Invert_any w.heap.size p c ss w' h
    rw [eL] at c1 ⊢
    have C0 := Lib.hid c0; clear c0
    have C1 := Lib.hid c1; clear c1
    have Hok := Lib.hid hok; clear hok
    clear hv eL
    go_enter Try.func33, Try.ntmps33
    go_wp2_with fail
    refine (C0.out _ P).mono ?_
    rintro e w1 ⟨rfl, n, rfl⟩
    replace B := B.bl (bl_drewN _ n)
    replace S := S.bl (bl_drewN _ n)
    replace P1 := P1.bl (bl_drewN _ n)
    go_wp2_with fail
    refine (C1.out _ P1).mono ?_
    rintro e w2 ⟨v, rfl, O, hb⟩
    have hlt := B.lt
    replace B := B.bl hb
    replace S := S.bl hb
    clear hb
    have f0 := B.frozen
    have f1 := B.cell
    obtain ⟨p', c', rfl⟩ := O.form
    have e0 := (B.set (.slice p' L.length c')).cell
    have O2 := O.set (a := ⟨w.heap.size + 1, 0, none⟩) hlt (.slice p' L.length c')
    have S3 := S.set (b := w.heap.size + 1) (by omega) 0 (.slice p' L.length c')
    go_wp2
    refine bodyPost_ret (v := .tuple #[.agg #[.slice p' L.length c'], .bool true]) (by simp [results, Try.results33, go_sem, e0]) rfl ⟨_, rfl, O2.mono (by omega), S3.below⟩
end Go.Proofs.Yteoodnhcghjjeaa
