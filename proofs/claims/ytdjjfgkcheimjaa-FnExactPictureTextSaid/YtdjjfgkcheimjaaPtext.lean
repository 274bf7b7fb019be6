/- Contracts of both PictureText. -/
import Derived.Test.YtdjjfgkcheimjaaShelfR7
import Derived.Test.YtdjjfgkcheimjaaSpecPix
import Derived.Test.YtdjjfgkcheimjaaImgOf
set_option linter.unusedVariables false
set_option linter.unusedSimpArgs false
namespace Go.Proofs.Ytdjjfgkcheimjaa
open Go.RowKit

/-- The first k rows, with a mark between. -/
def ptN (ss : List ByteArray) : Nat → ByteArray
  | 0 => rowS ss 0
  | k + 1 => ptN ss k ++ (⟨#[47]⟩ ++ rowS ss (k + 1))
def ptS (ss : List ByteArray) : ByteArray := if okPic ss then ptN ss (ss.length - 1) else ByteArray.empty
theorem join_snoc (sep : List UInt8) : ∀ (xs : List (List UInt8)) (x : List UInt8), xs ≠ [] → Go.Lib.join (xs ++ [x]) sep = Go.Lib.join xs sep ++ (sep ++ x) := by
  intro xs x h
  cases xs with
  | nil => exact absurd rfl h
  | cons a r => rw [List.cons_append, Go.Lib.join_cons, Go.Lib.join_cons, Go.Lib.joinTail, Go.Lib.joinTail, List.map_append, List.flatten_append]; simp
theorem take_rows (ss : List ByteArray) {k : Nat} (h : k < ss.length) : ((ss.take (k + 1)).map (·.data.toList)) = (ss.take k).map (·.data.toList) ++ [(rowS ss k).data.toList] := by
  rw [List.take_succ_eq_append_getElem h, List.map_append]
  simp [rowS, List.getD, List.getElem?_eq_getElem h]
theorem ptN_join (ss : List ByteArray) : ∀ k, k < ss.length → (ptN ss k).data.toList = Go.Lib.join ((ss.take (k + 1)).map (·.data.toList)) [47] := by
  intro k
  induction k with
  | zero =>
    intro h
    rw [take_rows ss h, List.take_zero, List.map_nil, List.nil_append, Go.Lib.join_one]
    rfl
  | succ k ih =>
    intro h
    have hne : (ss.take (k + 1)).map (fun s : ByteArray => s.data.toList) ≠ [] := by
      intro e
      have := congrArg List.length e
      simp at this
      subst this
      simp at h
    rw [take_rows ss h, join_snoc _ _ _ hne, ← ih (by omega), ptN]
    simp [ByteArray.data_append]
theorem pt_join {ss : List ByteArray} (h : 1 ≤ ss.length) : (⟨(Go.Lib.join (ss.map (·.data.toList)) [47]).toArray⟩ : ByteArray) = ptN ss (ss.length - 1) := by
  have h1 := ptN_join ss (ss.length - 1) (by omega)
  rw [show ss.length - 1 + 1 = ss.length by omega, List.take_length] at h1
  apply ByteArray.ext
  rw [← h1]
theorem ptN_size {ss : List ByteArray} (hs : ∀ k, k < ss.length → (rowS ss k).size ≤ 16) : ∀ k, k < ss.length → (ptN ss k).size ≤ 17 * (k + 1) := by
  intro k
  induction k with
  | zero => intro h; have := hs 0 h; simp only [ptN]; omega
  | succ k ih =>
    intro h
    have h1 := ih (by omega)
    have h2 := hs (k + 1) h
    have h3 : (ptN ss (k + 1)).size = (ptN ss k).size + (1 + (rowS ss (k + 1)).size) := by rw [ptN, ByteArray.size_append, ByteArray.size_append]; rfl
    omega
theorem rows_16 {ss : List ByteArray} (h : okPic ss = true) : ∀ k, k < ss.length → (rowS ss k).size ≤ 16 := by
  intro k hk
  have hd := okPic_dims h
  exact (by have := (okPic_row h hk).1; have := hd.2.2.2; have e : rowS ss k = ss.getD k ByteArray.empty := rfl; rw [e]; omega)
set_option maxHeartbeats 2000000 in
theorem l01PText_any (a : Nat) (p : Option Addr) (c : Nat) (ss : List ByteArray) (w : World) (P : PicAt w a p c ss) :
    Calls Try.prog 11 #[.pointer (some ⟨a, 0, none⟩)] w fun e w' => e = .returned (.string (ptN ss (ss.length - 1))) ∧ w' = w := by
  have hd := okPic_dims P.ok
  obtain ⟨hd1, hd2, hd3, hd4⟩ := hd
  have hrs := rows_16 P.ok
  have hps := ptN_size hrs
  have x0 := P.box
  obtain ⟨b, o, rfl, hb, hc⟩ := P.rd.at (k := 0) (by omega)
  have c0 := hc 0 (by omega)
  rw [Nat.add_zero] at c0
  have e0 : strAt ss 0 = .string (rowS ss 0) := rfl
  rw [e0] at c0
  have hl0 : (0 : Int) < (ss.length : Int) := by omega
  have Hrs := Lib.hid hrs; clear hrs
  have Hps := Lib.hid hps; clear hps
  clear P e0
  go_enter Try.func11, Try.ntmps11
  go_wp2
  go_loopw [3, 4] (fun s i wr => ∃ k : Nat, k < ss.length ∧ i = .int .i64 ((k : Int) + 1) ∧ s = .string (ptN ss k) ∧ wr = w) (fun _ i _ => ss.length + 1 - (intOf i).toNat)
  case atStart => exact ⟨0, by omega, rfl, rfl, by trivial⟩
  case round =>
    obtain ⟨k, hk, rfl, rfl, rfl⟩ := hrel
    have hk0 : (0 : Int) ≤ (k : Int) := Int.natCast_nonneg _
    have hz := Hps.out k hk
    by_cases hlt : k + 1 < ss.length
    · have hz2 := Hrs.out (k + 1) hlt
      have hk1 : (k : Int) + 1 < (ss.length : Int) := by omega
      have c1 := hc (k + 1) hlt
      have e1 : strAt ss (k + 1) = .string (rowS ss (k + 1)) := rfl
      rw [e1] at c1
      have hpn : ptN ss (k + 1) = ptN ss k ++ (⟨#[47]⟩ ++ rowS ss (k + 1)) := rfl
      generalize rowS ss (k + 1) = rw1 at *
      have hz17 : (ptN ss k).size ≤ 300 := by omega
      have Hpn := Lib.hid hpn; clear hpn
      clear hz
      go_wp2
      go_roundw
      case rel => exact ⟨k + 1, hlt, by go_num, by rw [Hpn.out], by trivial⟩
      case measure => simp [intOf]; omega
    · have hk2 : k = ss.length - 1 := by omega
      have Hk2 := Lib.hid hk2; clear hk2
      go_wp2
      go_ret
      refine ⟨?_, by trivial⟩
      rw [← Hk2.out]; rfl
set_option maxHeartbeats 2000000 in
theorem sPictureText_any (p : Option Addr) (c : Nat) (ss : List ByteArray) (w : World) (hn : ss.length ≤ 1048576) (hs : ∀ s ∈ ss, s.size ≤ 1048576) (hr : Rd w p ss.length (strAt ss)) :
    Calls Try.prog 5 #[.agg #[.slice p ss.length c]] w fun e w' => e = .returned (.tuple #[.string (ptS ss), .bool (okPic ss)]) ∧ Below w.heap.size w w' := by
  have hy0 := bl_alloc w (.cells #[.slice p ss.length c] 28)
  have hbox : (w.alloc (.cells #[.slice p ss.length c] 28)).cell? ⟨w.heap.size, 0, none⟩ = some (.slice p ss.length c) := by simp
  have c0 := l01Is_any w.heap.size p c ss _ hn hs hbox (hr.alloc _)
  cases hok : okPic ss
  · have hv : ptS ss = ByteArray.empty := by rw [ptS, hok]; rfl
    rw [hv]
    rw [hok] at c0
    have C0 := Lib.hid c0; clear c0
    have Hok := Lib.hid hok; clear hok
    have Hv := Lib.hid hv; clear hv
    clear hbox
    go_enter Try.func5, Try.ntmps5
    go_wp2_with fail
    with_reducible (refine C0.out.mono ?_)
    rintro e w1 ⟨rfl, n, rfl⟩
    go_wp2
    go_ret2
    exact ⟨rfl, bl_trans hy0 (bl_drewN _ n)⟩
  · have hv : ptS ss = ptN ss (ss.length - 1) := by rw [ptS, hok]; rfl
    rw [hv]
    rw [hok] at c0
    have P : PicAt (w.alloc (.cells #[.slice p ss.length c] 28)) w.heap.size p c ss := ⟨hok, hbox, hr.alloc _⟩
    have c1 := fun n => l01PText_any w.heap.size p c ss _ (P.drewN n)
    generalize ptN ss (ss.length - 1) = T at *
    have C0 := Lib.hid c0; clear c0
    have Hok := Lib.hid hok; clear hok
    have Hv := Lib.hid hv; clear hv
    have C1 := Lib.hid c1; clear c1
    clear hbox P
    go_enter Try.func5, Try.ntmps5
    go_wp2_with fail
    with_reducible (refine C0.out.mono ?_)
    rintro e w1 ⟨rfl, n, rfl⟩
    go_wp2_with fail
    with_reducible (refine (C1.out n).mono ?_)
    rintro e w1 ⟨rfl, rfl⟩
    go_wp2
    go_ret2
    exact ⟨rfl, bl_trans hy0 (bl_drewN _ n)⟩
set_option maxHeartbeats 2000000 in
theorem pictureText_any (g : Nat) (ss : List ByteArray) (w : World) (hn : ss.length ≤ 1048576) (hs : ∀ s ∈ ss, s.size ≤ 1048576) (hr : Rd w (some ⟨g, 0, none⟩) ss.length (strAt ss)) :
    Calls Try.prog 7 #[.agg #[.slice (some ⟨g, 0, none⟩) ss.length ss.length]] w fun e w' => e = .returned (.tuple #[.string (ptS ss), .bool (okPic ss)]) ∧ Below w.heap.size w w' := by
  have hy0 := bl_alloc w (.cells #[.slice (some ⟨g, 0, none⟩) ss.length ss.length] 28)
  have S := (Since.refl w).bl hy0
  have B := Box.new w (.slice (some ⟨g, 0, none⟩) ss.length ss.length) 28
  have R := hr.bl hy0
  have c0 := validPicture_any (some ⟨g, 0, none⟩) ss.length ss _ hn hs R
  cases hok : okPic ss
  · have hv : ptS ss = ByteArray.empty := by rw [ptS, hok]; rfl
    rw [hv]
    rw [hok] at c0
    have C0 := Lib.hid c0; clear c0
    have Hok := Lib.hid hok; clear hok
    have Hv := Lib.hid hv; clear hv
    clear B R
    go_enter Try.func7, Try.ntmps7
    go_wp2_with fail
    with_reducible (refine C0.out.mono ?_)
    rintro e w1 ⟨rfl, hb⟩
    replace S := S.bl hb
    go_wp2
    go_ret2
    exact ⟨rfl, S.below⟩
  · have hv : ptS ss = ptN ss (ss.length - 1) := by rw [ptS, hok]; rfl
    rw [hv]
    rw [hok] at c0
    have hd := okPic_dims hok
    have hj := pt_join hd.1
    have hsz := ptN_size (rows_16 hok) (ss.length - 1) (by omega)
    have hlen : (Go.Lib.join (ss.map (·.data.toList)) ([47] : List UInt8)).length ≤ 140737488355328 := by
      have h1 := congrArg ByteArray.size hj
      have h2 : (⟨(Go.Lib.join (ss.map (·.data.toList)) [47]).toArray⟩ : ByteArray).size = (Go.Lib.join (ss.map (·.data.toList)) [47]).length := by simp [ByteArray.size]
      omega
    have c1 : ∀ w', Rd w' (some ⟨g, 0, none⟩) ss.length (strAt ss) → Calls Try.prog 14 #[.slice (some ⟨g, 0, none⟩) ss.length ss.length, .string ⟨#[47]⟩] w' fun e w'' => e = .returned (.string (ptN ss (ss.length - 1))) ∧ Below w'.heap.size w' w'' := by
      intro w' R'
      obtain ⟨b, o, he, hb, hc⟩ := R'.at (k := 0) (by omega)
      simp only [Option.some.injEq, Addr.mk.injEq] at he
      obtain ⟨rfl, rfl, _⟩ := he
      rw [← hj]
      refine Try.strings_Join g 0 ss.length ss ⟨#[47]⟩ w' (fun j x hx => ?_) hb (by omega) (Nat.le_refl _) hlen
      have hj2 := (List.getElem?_eq_some_iff.1 hx)
      obtain ⟨hlt, hx2⟩ := hj2
      rw [hc j hlt, strAt]
      simp [List.getD, hx]
    generalize ptN ss (ss.length - 1) = T at *
    have C0 := Lib.hid c0; clear c0
    have Hok := Lib.hid hok; clear hok
    have Hv := Lib.hid hv; clear hv
    have C1 := Lib.hid c1; clear c1
    have Hj := Lib.hid hj; clear hj
    have Hlen := Lib.hid hlen; clear hlen
    go_enter Try.func7, Try.ntmps7
    go_wp2_with fail
    with_reducible (refine C0.out.mono ?_)
    rintro e w1 ⟨rfl, hb⟩
    replace S := S.bl hb
    replace B := B.bl hb
    have R1 := R.bl hb
    have b0 := B.cell
    go_wp2_with fail
    with_reducible (refine (C1.out _ R1).mono ?_)
    rintro e w2 ⟨rfl, hb2⟩
    replace S := S.bl hb2
    go_wp2
    go_ret2
    exact ⟨rfl, S.below⟩
end Go.Proofs.Ytdjjfgkcheimjaa
