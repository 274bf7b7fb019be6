/- Contracts of both texts of a list. -/
import Derived.Test.YtdjjfgkcheimjaaDoorDec2
import Derived.Test.YtdjjfgkcheimjaaDoorCut
import Derived.Test.YtdjjfgkcheimjaaDoorInts
import Derived.Test.YtdjjfgkcheimjaaDoorRdS
set_option linter.unusedVariables false
set_option linter.unusedSimpArgs false
namespace Go.Proofs.YtdjjfgkcheimjaaDoor
open Go.RowKit

theorem join_snocL (sep : List UInt8) : ∀ (xs : List (List UInt8)) (x : List UInt8), xs ≠ [] → Go.Lib.join (xs ++ [x]) sep = Go.Lib.join xs sep ++ (sep ++ x) := by
  intro xs x h
  cases xs with
  | nil => exact absurd rfl h
  | cons a r => rw [List.cons_append, Go.Lib.join_cons, Go.Lib.join_cons, Go.Lib.joinTail, Go.Lib.joinTail, List.map_append, List.flatten_append]; simp
def vOk (n : Int) : Bool := inB n (-1000000000) 1000000000
def liOk (l : List Int) : Bool := l.all vOk && decide (l.length ≤ 300)
def liN (l : List Int) : Nat → ByteArray
  | 0 => decS (l.getD 0 0)
  | k + 1 => liN l k ++ ((⟨#[44]⟩ : ByteArray) ++ decS (l.getD (k + 1) 0))
def noneS : ByteArray := ⟨#[110, 111, 110, 101]⟩
def liT (l : List Int) : ByteArray := if l = [] then noneS else liN l (l.length - 1)
def liS (l : List Int) : ByteArray := if liOk l then liT l else ⟨#[]⟩
theorem getD_memI {l : List Int} {k : Nat} (h : k < l.length) : l.getD k 0 ∈ l := by simp [List.getD, List.getElem?_eq_getElem h]
theorem ints_take {l : List Int} {j : Nat} (h : j < l.length) : l.take (j + 1) = l.take j ++ [l.getD j 0] := by
  rw [List.take_succ_eq_append_getElem h]; simp [List.getD, List.getElem?_eq_getElem h]
theorem li_stop {l : List Int} {k : Nat} (h : k < l.length) (hv : vOk (l.getD k 0) = false) : liOk l = false := by
  rw [liOk]
  have : l.all vOk = false := by
    rw [List.all_eq_false]
    exact ⟨_, getD_memI h, by rw [hv]; exact Bool.false_ne_true⟩
  rw [this]; rfl
theorem li_end {l : List Int} (h : (l.take l.length).all vOk = true) : liOk l = decide (l.length ≤ 300) := by
  rw [List.take_length] at h
  rw [liOk, h]; rfl
theorem li_in {l : List Int} (h : liOk l = true) : l.length ≤ 300 ∧ ∀ k, k < l.length → -1000000000 ≤ l.getD k 0 ∧ l.getD k 0 ≤ 1000000000 := by
  simp only [liOk, Bool.and_eq_true, decide_eq_true_eq, List.all_eq_true] at h
  exact ⟨h.2, fun k hk => inB_of (h.1 _ (getD_memI hk))⟩
theorem decS_size {n : Int} (h : -1000000000 ≤ n ∧ n ≤ 1000000000) : (decS n).size ≤ 11 := by
  have := (itoa_len n h.1 h.2).2
  rw [ByteArray.size, ← Array.length_toList, decS_list]
  exact this
theorem liN_size {l : List Int} (h : ∀ k, k < l.length → -1000000000 ≤ l.getD k 0 ∧ l.getD k 0 ≤ 1000000000) : ∀ k, k < l.length → (liN l k).size ≤ 12 * (k + 1) := by
  intro k
  induction k with
  | zero => intro hk; have := decS_size (h 0 hk); simp only [liN]; omega
  | succ k ih =>
    intro hk
    have h1 := ih (by omega)
    have h2 := decS_size (h (k + 1) hk)
    have h3 : (liN l (k + 1)).size = (liN l k).size + (1 + (decS (l.getD (k + 1) 0)).size) := by rw [liN, ByteArray.size_append, ByteArray.size_append]; rfl
    omega
theorem take_decs (l : List Int) {k : Nat} (h : k < l.length) : ((l.map decS).take (k + 1)).map (fun s : ByteArray => s.data.toList) = ((l.map decS).take k).map (fun s : ByteArray => s.data.toList) ++ [(decS (l.getD k 0)).data.toList] := by
  rw [List.take_succ_eq_append_getElem (by simpa using h), List.map_append]
  simp [List.getD, List.getElem?_eq_getElem h]
theorem liN_join (l : List Int) : ∀ k, k < l.length → (liN l k).data.toList = Go.Lib.join (((l.map decS).take (k + 1)).map (fun s : ByteArray => s.data.toList)) [44] := by
  intro k
  induction k with
  | zero =>
    intro h
    rw [take_decs l h, List.take_zero, List.map_nil, List.nil_append, Go.Lib.join_one]
    rfl
  | succ k ih =>
    intro h
    have hne : ((l.map decS).take (k + 1)).map (fun s : ByteArray => s.data.toList) ≠ [] := by
      intro e
      have := congrArg List.length e
      simp at this
      subst this
      simp at h
    rw [take_decs l h, join_snocL _ _ _ hne, ← ih (by omega), liN]
    simp [ByteArray.data_append]
theorem li_join {l : List Int} (h : 1 ≤ l.length) : (⟨(Go.Lib.join ((l.map decS).map (fun s : ByteArray => s.data.toList)) [44]).toArray⟩ : ByteArray) = liN l (l.length - 1) := by
  have h1 := liN_join l (l.length - 1) (by omega)
  rw [show l.length - 1 + 1 = (l.map decS).length by simp; omega, List.take_length] at h1
  apply ByteArray.ext
  rw [← h1]
set_option maxRecDepth 100000 in
set_option maxHeartbeats 4000000 in
theorem l01Few_any (p : Option Addr) (c : Nat) (l : List Int) (w : World) (hn : l.length ≤ 1048576) (hr : Rd w p l.length (intAt l)) :
    Calls Tryd.prog 34 #[.slice p l.length c] w fun e w' => e = .returned (.bool (liOk l)) ∧ w = w' := by
  go_enter Tryd.func34, Tryd.ntmps34
  go_wp2
  go_loop [3] (fun i => ∃ k : Nat, k ≤ l.length ∧ i = .int .i64 k ∧ (l.take k).all vOk = true) (fun i => l.length - (intOf i).toNat)
  case atStart => exact ⟨0, Nat.zero_le _, rfl, by simp⟩
  case round =>
    obtain ⟨k, hk, rfl, hall⟩ := hrel
    by_cases hlt : k < l.length
    · obtain ⟨b, o, rfl, hb, hc⟩ := hr.at hlt
      have hck := hc k hlt
      have hst := li_stop hlt
      have hsu : (l.take (k + 1)).all vOk = ((l.take k).all vOk && vOk (l.getD k 0)) := by rw [ints_take hlt]; simp [List.all_append]
      rw [hall] at hsu
      rw [intAt] at hck
      generalize l.getD k 0 = x at *
      clear hc hr
      cases hv : vOk x
      · have hno := hst hv
        have hin : inB x (-1000000000) 1000000000 = false := hv
        have Hst := Lib.hid hst; clear hst
        have Hsu := Lib.hid hsu; clear hsu
        have Hv := Lib.hid hv; clear hv
        have Hin := Lib.hid hin; clear hin
        have Hno := Lib.hid hno; clear hno
        have Hall := Lib.hid hall; clear hall
        go_wp2_with fail
        with_reducible (refine (l00In_any _ _ _ _).mono ?_)
        rintro _ _ ⟨rfl, rfl⟩
        rw [Hin.out]
        go_wp2
        go_ret
        exact ⟨ret_bool Hno.out.symm, rfl⟩
      · have hin : inB x (-1000000000) 1000000000 = true := hv
        rw [hv] at hsu
        have Hst := Lib.hid hst; clear hst
        have Hsu := Lib.hid hsu; clear hsu
        have Hv := Lib.hid hv; clear hv
        have Hin := Lib.hid hin; clear hin
        have Hall := Lib.hid hall; clear hall
        go_wp2_with fail
        with_reducible (refine (l00In_any _ _ _ _).mono ?_)
        rintro _ _ ⟨rfl, rfl⟩
        rw [Hin.out]
        go_wp2
        go_round
        case rel => exact ⟨k + 1, by omega, by go_num, Hsu.out⟩
        case measure => simp [intOf]; omega
    · obtain rfl : k = l.length := by omega
      have he := li_end hall
      have He := Lib.hid he; clear he
      have Hall := Lib.hid hall; clear hall
      clear hr
      go_wp2
      go_ret
      exact ⟨ret_bool (by rw [He.out]; simp; omega), rfl⟩
set_option maxRecDepth 100000 in
set_option maxHeartbeats 4000000 in
theorem l01Text_any (p : Option Addr) (c : Nat) (l : List Int) (w : World) (hok : liOk l = true) (hr : Rd w p l.length (intAt l)) :
    Calls Tryd.prog 35 #[.slice p l.length c] w fun e w' => e = .returned (.string (liT l)) ∧ Below w.heap.size w w' := by
  have S := Since.refl w
  obtain ⟨hn, hv⟩ := li_in hok
  by_cases h0 : l.length = 0
  · have hl : ((l.length : Int) == 0) = true := by rw [beq_iff_eq]; omega
    have ht : liT l = noneS := by rw [liT, if_pos (List.length_eq_zero_iff.1 h0)]
    rw [ht]
    have Ht := Lib.hid ht; clear ht
    clear hr hv hok
    go_enter Tryd.func35, Tryd.ntmps35
    go_wp2
    go_ret
    exact ⟨rfl, S.below⟩
  · have hl : ((l.length : Int) == 0) = false := by rw [beq_eq_false_iff_ne]; omega
    have ht : liT l = liN l (l.length - 1) := by rw [liT, if_neg (fun e => h0 (by rw [e]; rfl))]
    have hsz := liN_size hv
    obtain ⟨b, o, rfl, hb, hc⟩ := hr.at (k := 0) (by omega)
    have hc0 := hc 0 (by omega)
    rw [intAt, Nat.add_zero] at hc0
    have hv0 := hv 0 (by omega)
    have cd := l01Dec_any (l.getD 0 0) w (by omega) (by omega)
    have e0 : liN l 0 = decS (l.getD 0 0) := rfl
    generalize l.getD 0 0 = x0 at *
    generalize liT l = T at *
    have Hc := Lib.hid hc; clear hc
    have Hv := Lib.hid hv; clear hv
    have Hsz := Lib.hid hsz; clear hsz
    have Ht := Lib.hid ht; clear ht
    have Cd := Lib.hid cd; clear cd
    have E0 := Lib.hid e0; clear e0
    clear hr hok
    go_enter Tryd.func35, Tryd.ntmps35
    go_wp2_with fail
    with_reducible (refine Cd.out.mono ?_)
    rintro _ w1 ⟨rfl, hb1⟩
    replace S := S.bl hb1
    clear hb1 hc0
    go_wp2
    go_loopw [3, 4] (fun v i wr => ∃ k : Nat, k + 1 ≤ l.length ∧ i = .int .i64 ((k + 1 : Nat) : Int) ∧ v = .string (liN l k) ∧ Since w wr) (fun _ i _ => l.length - (intOf i).toNat)
    case atStart => exact ⟨0, by omega, rfl, by rw [E0.out], S⟩
    case round =>
      clear S
      obtain ⟨k, hk, rfl, rfl, S⟩ := hrel
      by_cases hlt : k + 1 < l.length
      · have hck := (S.below.cell (p := ⟨b, o + (k + 1), none⟩) hb).trans (Hc.out (k + 1) hlt)
        rw [intAt] at hck
        have hvk := Hv.out (k + 1) hlt
        have z0 := Hsz.out k (by omega)
        have z1 := Hsz.out (k + 1) hlt
        have zd := decS_size hvk
        have cd := l01Dec_any (l.getD (k + 1) 0) wr (by omega) (by omega)
        have hs : liN l (k + 1) = liN l k ++ ((⟨#[44]⟩ : ByteArray) ++ decS (l.getD (k + 1) 0)) := rfl
        generalize l.getD (k + 1) 0 = x at *
        generalize liN l k = B at *
        generalize decS x = D at *
        obtain ⟨v0, v1⟩ := hvk
        have zz : B.size ≤ 3600 := by omega
        have Hs := Lib.hid hs; clear hs
        have Cd := Lib.hid cd; clear cd
        clear z0 z1
        go_wp2_with fail
        with_reducible (refine Cd.out.mono ?_)
        rintro _ w2 ⟨rfl, hb2⟩
        replace S := S.bl hb2
        clear hb2 hck
        go_wp2
        go_roundw
        case rel => exact ⟨k + 1, by omega, by go_num, by rw [Hs.out], S⟩
        case measure => simp [intOf]; omega
      · have ek : l.length - 1 = k := by omega
        rw [ek] at Ht
        have ht := Ht.out
        clear Ht
        have Ht := Lib.hid ht; clear ht
        go_wp2
        go_ret
        exact ⟨by rw [Ht.out]; rfl, S.below⟩
set_option maxRecDepth 100000 in
set_option maxHeartbeats 4000000 in
theorem specListText_any (p : Option Addr) (c : Nat) (l : List Int) (w : World) (hn : l.length ≤ 1048576) (hr : Rd w p l.length (intAt l)) :
    Calls Tryd.prog 20 #[.slice p l.length c] w fun e w' => e = .returned (.tuple #[.string (liS l), .bool (liOk l)]) ∧ Below w.heap.size w w' := by
  have S := Since.refl w
  have c0 := l01Few_any p c l w hn hr
  cases hok : liOk l
  · have hv : liS l = ⟨#[]⟩ := by rw [liS, hok]; rfl
    rw [hv]
    rw [hok] at c0
    have C0 := Lib.hid c0; clear c0
    have Hok := Lib.hid hok; clear hok
    have Hv := Lib.hid hv; clear hv
    go_enter Tryd.func20, Tryd.ntmps20
    go_wp2_with fail
    with_reducible (refine C0.out.mono ?_)
    rintro _ _ ⟨rfl, rfl⟩
    go_wp2
    go_ret2
    exact ⟨rfl, S.below⟩
  · have hv : liS l = liT l := by rw [liS, hok]; rfl
    have c1 := l01Text_any p c l w hok hr
    rw [hv]
    rw [hok] at c0
    generalize liT l = T at *
    have C0 := Lib.hid c0; clear c0
    have C1 := Lib.hid c1; clear c1
    have Hok := Lib.hid hok; clear hok
    have Hv := Lib.hid hv; clear hv
    go_enter Tryd.func20, Tryd.ntmps20
    go_wp2_with fail
    with_reducible (refine C0.out.mono ?_)
    rintro _ _ ⟨rfl, rfl⟩
    go_wp2_with fail
    with_reducible (refine C1.out.mono ?_)
    rintro _ w2 ⟨rfl, hb⟩
    go_wp2
    go_ret2
    exact ⟨rfl, hb⟩
set_option maxHeartbeats 4000000 in
theorem indexInts_any (kb : FuncId) (capb : Array Value) (p : Option Addr) (c : Nat) (l : List Int) (q : Int → Bool) (w : World) (hn : l.length ≤ 1048576) (hr : Rd w p l.length (intAt l))
    (hk : ∀ args w, (callFunc kb args).run Tryd.prog w = .ok (.enter kb args) w)
    (hcall : ∀ s w', s ∈ l → Below w.heap.size w w' → Calls Tryd.prog kb (#[.int .i64 s] ++ capb) w' fun e w'' => e = .returned (.bool (q s)) ∧ Below w'.heap.size w' w'') :
    Calls Tryd.prog 49 #[.slice p l.length c, .func (.func kb) #[] capb] w fun e w' => ∃ z : Int, e = .returned (.int .i64 z) ∧ decide (0 ≤ z) = l.any q ∧ Below w.heap.size w w' := by
  go_enter Tryd.func49, Tryd.ntmps49
  go_wp2
  go_loopw [8] (fun i wr => ∃ j : Nat, j ≤ l.length ∧ i = .int .i64 j ∧ (l.take j).any q = false ∧ Since w wr) (fun i _ => l.length - (intOf i).toNat)
  case atStart => exact ⟨0, Nat.zero_le _, rfl, by simp, Since.refl w⟩
  case round =>
    obtain ⟨j, hj, rfl, hno, S⟩ := hrel
    by_cases hlt : j < l.length
    · obtain ⟨b, o, rfl, hb, hc⟩ := (hr.below S.below (Nat.le_refl _)).at (k := j) hlt
      have a0 := hc j hlt
      rw [intAt] at a0
      have hj0 : (0 : Int) ≤ (j : Int) := Int.natCast_nonneg _
      have hj1 : (j : Int) < (l.length : Int) := by omega
      have hcl := hcall (l.getD j 0) wr (getD_memI hlt) S.below
      have hsu : (l.take (j + 1)).any q = ((l.take j).any q || q (l.getD j 0)) := by rw [ints_take hlt]; simp [List.any_append]
      have hyes : q (l.getD j 0) = true → l.any q = true := fun h => List.any_eq_true.2 ⟨_, getD_memI hlt, h⟩
      rw [hno] at hsu
      generalize l.getD j 0 = u at *
      cases hq : q u
      · rw [hq] at hcl hsu
        have Hcl := Lib.hid hcl; clear hcl
        have Hsu := Lib.hid hsu; clear hsu
        have Hno := Lib.hid hno; clear hno
        have Hq := Lib.hid hq; clear hq
        clear hc hr hcall hyes
        go_wp2_with fail
        refine Hcl.out.mono ?_
        rintro e w1 ⟨rfl, hb1⟩
        have S1 := S.bl hb1
        clear hb1 S a0
        go_wp2
        go_roundw
        case rel => exact ⟨j + 1, by omega, by go_num, Hsu.out, S1⟩
        case measure => simp [intOf]; omega
      · rw [hq] at hcl
        have hy := hyes hq
        have Hcl := Lib.hid hcl; clear hcl
        have Hsu := Lib.hid hsu; clear hsu
        have Hno := Lib.hid hno; clear hno
        have Hq := Lib.hid hq; clear hq
        have Hy := Lib.hid hy; clear hy
        clear hc hr hcall hyes
        go_wp2_with fail
        refine Hcl.out.mono ?_
        rintro e w1 ⟨rfl, hb1⟩
        have S1 := S.bl hb1
        clear hb1 S a0
        go_wp2
        go_ret
        exact ⟨_, rfl, by rw [Hy.out]; simp, S1.below⟩
    · obtain rfl : j = l.length := by omega
      rw [List.take_of_length_le (Nat.le_refl _)] at hno
      have Hno := Lib.hid hno; clear hno
      go_wp2
      go_ret
      exact ⟨_, rfl, by rw [Hno.out]; rfl, S.below⟩
set_option maxHeartbeats 4000000 in
theorem containsInts_any (kb : FuncId) (capb : Array Value) (p : Option Addr) (c : Nat) (l : List Int) (q : Int → Bool) (w : World) (hn : l.length ≤ 1048576) (hr : Rd w p l.length (intAt l))
    (hk : ∀ args w, (callFunc kb args).run Tryd.prog w = .ok (.enter kb args) w)
    (hcall : ∀ s w', s ∈ l → Below w.heap.size w w' → Calls Tryd.prog kb (#[.int .i64 s] ++ capb) w' fun e w'' => e = .returned (.bool (q s)) ∧ Below w'.heap.size w' w'') :
    Calls Tryd.prog 36 #[.slice p l.length c, .func (.func kb) #[] capb] w fun e w' => e = .returned (.bool (l.any q)) ∧ Below w.heap.size w w' := by
  have c0 := indexInts_any kb capb p c l q w hn hr hk hcall
  have C0 := Lib.hid c0; clear c0
  clear hcall hr
  go_enter Tryd.func36, Tryd.ntmps36
  go_wp2_with fail
  refine C0.out.mono ?_
  rintro e w1 ⟨z, rfl, hz, hb⟩
  have Hz := Lib.hid hz; clear hz
  go_wp2
  go_ret
  exact ⟨ret_bool Hz.out, hb⟩
theorem callFunc_lt1 : ∀ args w, (callFunc 37 args).run Tryd.prog w = .ok (.enter 37 args) w := fun args w => by kernel_rfl
theorem lt1_any (x : Int) (w : World) : Calls Tryd.prog 37 #[.int .i64 x] w fun e w' => e = .returned (.bool (!vOk x)) ∧ Below w.heap.size w w' := by
  cases hin : inB x (-1000000000) 1000000000
  all_goals
    have hv : vOk x = _ := hin
    rw [hv]
    have Hv := Lib.hid hv; clear hv
    have Hin := Lib.hid hin; clear hin
    go_enter Tryd.func37, Tryd.ntmps37
    go_wp2_with fail
    with_reducible (refine (in_any _ _ _ _).mono ?_)
    rintro _ _ ⟨rfl, rfl⟩
    rw [Hin.out]
    go_wp2
    go_ret
    exact ⟨rfl, Below.refl _ _⟩
set_option maxRecDepth 100000 in
set_option maxHeartbeats 4000000 in
theorem listText_any (p : Option Addr) (c : Nat) (l : List Int) (w : World) (hok : liOk l = true) (hr : Rd w p l.length (intAt l)) (hT : PowT w) :
    Calls Tryd.prog 39 #[.slice p l.length c] w fun e w' => e = .returned (.string (liT l)) ∧ Below w.heap.size w w' := by
  have S0 := (Since.refl w).alloc (.cells #[] 9)
  have T0 := World.ownsRow_made (base := w.heap.size) (size := 1) (e := 9) w #[] 0 (Nat.le_refl _) (by decide) rfl
  obtain ⟨hn, hv⟩ := li_in hok
  have hsz := liN_size hv
  obtain ⟨T, hTe⟩ : ∃ T, liT l = T := ⟨_, rfl⟩
  rw [hTe]
  have Hv := Lib.hid hv; clear hv
  have Hsz := Lib.hid hsz; clear hsz
  have HTe := Lib.hid hTe; clear hTe
  clear hok
  go_enter Tryd.func39, Tryd.ntmps39
  go_wp2
  go_loopw [3, 9] (fun v i wr => ∃ k : Nat, k ≤ l.length ∧ i = .int .i64 k ∧ StrsAt w ((l.take k).map decS) v wr) (fun _ i _ => l.length - (intOf i).toNat)
  case atStart => exact ⟨0, Nat.zero_le _, rfl, ⟨_, _, rfl, T0, S0⟩⟩
  case round =>
    clear T0 S0
    obtain ⟨k, hk, rfl, ⟨q, d, rfl, hown, S⟩⟩ := hrel
    have hsS := S.size
    have hlk : ((l.take k).map decS).length = k := by simp; omega
    by_cases hlt : k < l.length
    · obtain ⟨b, o, rfl, hb, hc⟩ := (hr.below S.below (Nat.le_refl _)).at (k := k) hlt
      have a0 := hc k hlt
      rw [intAt] at a0
      have hvk := Hv.out k hlt
      have cd := implDecimal_any (l.getD k 0) wr (by omega) (by omega) (hT.bl S.below)
      have hsu : (l.take (k + 1)).map decS = (l.take k).map decS ++ [decS (l.getD k 0)] := by rw [ints_take hlt]; simp
      generalize l.getD k 0 = x at *
      generalize (l.take k).map decS = L at *
      have hl300 : L.length ≤ 300 := by omega
      have Hsu := Lib.hid hsu; clear hsu
      have Cd := Lib.hid cd; clear cd
      clear hc hr hT hlk
      go_wp2_with fail
      with_reducible (refine Cd.out.mono ?_)
      rintro _ w1 ⟨rfl, hb1⟩
      have hown1 := own_below hown hb1 (Nat.le_refl _)
      replace S := S.bl hb1
      have hsS1 := S.size
      clear hb1 a0 hown
      go_wp2_with (at_builtin; refine wpList_push rfl _ _ 30 rfl w.heap.size 9 (.string ByteArray.empty) 1 16 Tryd.underlying30 info_st rfl (by decide) (.slice q L.length d) L.length _ rfl hown1 _ 1 rfl rfl (one_st _) (by omega) (by simp [maxLen]; omega) hsS1 ?_; intro g' cap w2 hown2 hgr hat hlt2)
      have S2 : Since w w2 := ⟨below_own S.below hgr (own_ge hown1) hsS1⟩
      go_roundw
      case rel => exact ⟨k + 1, by omega, by go_num, by rw [Hsu.out]; exact strs_push hown2 S2⟩
      case measure => simp [intOf]; omega
    · obtain rfl : k = l.length := by omega
      rw [List.take_length] at hown
      by_cases h0 : l.length = 0
      · have hl : ((l.length : Int) == 0) = true := by rw [beq_iff_eq]; omega
        have ht : T = noneS := by rw [← HTe.out, liT, if_pos (List.length_eq_zero_iff.1 h0)]
        rw [List.take_length] at hlk
        rw [List.take_length, hlk]
        have Ht := Lib.hid ht; clear ht
        clear hr
        go_wp2
        go_ret
        exact ⟨by rw [Ht.out]; rfl, S.below⟩
      · have hl : ((l.length : Int) == 0) = false := by rw [beq_eq_false_iff_ne]; omega
        have ht : T = liN l (l.length - 1) := by rw [← HTe.out, liT, if_neg (fun e => h0 (by rw [e]; rfl))]
        have hj := li_join (l := l) (by omega)
        have hz := Hsz.out (l.length - 1) (by omega)
        have hlen : (Go.Lib.join ((l.map decS).map (fun s : ByteArray => s.data.toList)) ([44] : List UInt8)).length ≤ 140737488355328 := by
          have h1 := congrArg ByteArray.size hj
          have h2 : (⟨(Go.Lib.join ((l.map decS).map (fun s : ByteArray => s.data.toList)) [44]).toArray⟩ : ByteArray).size = (Go.Lib.join ((l.map decS).map (fun s : ByteArray => s.data.toList)) [44]).length := by simp [ByteArray.size]
          omega
        have hrd := hown
        rw [List.take_length] at hlk
        rw [List.take_length]
        generalize hL : l.map decS = L at *
        have c1 : Calls Tryd.prog 50 #[.slice q L.length d, .string ⟨#[44]⟩] wr fun e w'' => e = .returned (.string T) ∧ Below wr.heap.size wr w'' := by
          obtain ⟨g, rfl, hg1, hg2, hcs⟩ : ∃ g, q = some ⟨g, 0, none⟩ ∧ L.length ≤ d ∧ g < wr.heap.size ∧ ∀ j u, (L.map Value.string)[j]? = some u → wr.cell? ((⟨g, 0, none⟩ : Addr).add j) = some u := by
            rcases hown.2 with ⟨_, h0'⟩ | ⟨g, cap, cur, hv', hb, hg, hcap, _⟩
            · omega
            · simp only [Value.slice.injEq] at hv'
              obtain ⟨rfl, _, rfl⟩ := hv'
              exact ⟨g, rfl, hcap, (Array.getElem?_eq_some_iff.1 hg).1, hown.cells rfl⟩
          rw [ht, ← hj]
          refine Tryd.strings_Join g 0 d L ⟨#[44]⟩ wr (fun j x hx => ?_) hg2 (by omega) hg1 hlen
          have := hcs j (.string x) (by simp [hx])
          rwa [Go.WideShapes.add_plain] at this
        rw [hlk] at c1 ⊢
        have C1 := Lib.hid c1; clear c1
        have Ht := Lib.hid ht; clear ht
        have Hj := Lib.hid hj; clear hj
        have Hlen := Lib.hid hlen; clear hlen
        clear hr hT hown hrd hL
        go_wp2_with fail
        with_reducible (refine C1.out.mono ?_)
        rintro _ w2 ⟨rfl, hb2⟩
        replace S := S.bl hb2
        go_wp2
        go_ret
        exact ⟨rfl, S.below⟩
set_option maxRecDepth 100000 in
set_option maxHeartbeats 4000000 in
theorem implListText_any (p : Option Addr) (c : Nat) (l : List Int) (w : World) (hn : l.length ≤ 1048576) (hr : Rd w p l.length (intAt l)) (hT : PowT w) :
    Calls Tryd.prog 22 #[.slice p l.length c] w fun e w' => e = .returned (.tuple #[.string (liS l), .bool (liOk l)]) ∧ Below w.heap.size w w' := by
  have S := Since.refl w
  have cl := callFunc_lt1
  by_cases hl : l.length ≤ 300
  · have c0 := containsInts_any 37 #[] p c l (fun x => !vOk x) w hn hr callFunc_lt1 (fun s w' _ _ => lt1_any s w')
    have he : (!l.any fun s => !vOk s) = l.all vOk := by simp [List.all_eq_not_any_not]
    cases hok : liOk l
    · have hall : l.all vOk = false := by
        have := hok
        rw [liOk, decide_eq_true hl, Bool.and_true] at this
        exact this
      have hv : liS l = ⟨#[]⟩ := by rw [liS, hok]; rfl
      rw [hall] at he
      have he2 : (l.any fun s => !vOk s) = true := by cases h : l.any fun s => !vOk s <;> simp_all
      rw [he2] at c0
      rw [hv]
      have C0 := Lib.hid c0; clear c0
      have Hok := Lib.hid hok; clear hok
      have Hv := Lib.hid hv; clear hv
      have He := Lib.hid he; clear he
      have He2 := Lib.hid he2; clear he2
      have Hall := Lib.hid hall; clear hall
      clear hr hT
      go_enter Tryd.func22, Tryd.ntmps22
      go_wp2_with fail
      with_reducible (refine C0.out.mono ?_)
      rintro _ w1 ⟨rfl, hb⟩
      go_wp2
      go_ret2
      exact ⟨rfl, hb⟩
    · have hall : l.all vOk = true := by
        have := hok
        rw [liOk, decide_eq_true hl, Bool.and_true] at this
        exact this
      have hv : liS l = liT l := by rw [liS, hok]; rfl
      rw [hall] at he
      have he2 : (l.any fun s => !vOk s) = false := by cases h : l.any fun s => !vOk s <;> simp_all
      rw [he2] at c0
      rw [hv]
      have c1 := fun w' hb => listText_any p c l w' hok (hr.bl hb) (hT.bl (w' := w') hb)
      generalize liT l = T at *
      have C0 := Lib.hid c0; clear c0
      have C1 := Lib.hid c1; clear c1
      have Hok := Lib.hid hok; clear hok
      have Hv := Lib.hid hv; clear hv
      have He := Lib.hid he; clear he
      have He2 := Lib.hid he2; clear he2
      have Hall := Lib.hid hall; clear hall
      clear hr hT
      go_enter Tryd.func22, Tryd.ntmps22
      go_wp2_with fail
      with_reducible (refine C0.out.mono ?_)
      rintro _ w1 ⟨rfl, hb⟩
      go_wp2_with fail
      with_reducible (refine (C1.out w1 hb).mono ?_)
      rintro _ w2 ⟨rfl, hb2⟩
      go_wp2
      go_ret2
      exact ⟨rfl, hb.trans (Joins.below_le hb2 hb.size)⟩
  · have hok : liOk l = false := by rw [liOk, decide_eq_false hl, Bool.and_false]
    have hv : liS l = ⟨#[]⟩ := by rw [liS, hok]; rfl
    rw [hv, hok]
    have Hok := Lib.hid hok; clear hok
    have Hv := Lib.hid hv; clear hv
    clear hr hT
    go_enter Tryd.func22, Tryd.ntmps22
    go_wp2
    go_ret2
    exact ⟨rfl, S.below⟩
end Go.Proofs.YtdjjfgkcheimjaaDoor
