/- Contracts of all, ContainsFunc and IndexFunc over spots. -/
import Derived.Test.YtjplikkehhpomaaSpots
set_option linter.unusedVariables false
namespace Go.Proofs.Ytjplikkehhpomaa
open Go.RowKit

theorem getD_memS {l : List (Int × Int)} {k : Nat} (h : k < l.length) : l.getD k (0, 0) ∈ l := by simp [List.getD, List.getElem?_eq_getElem h]
theorem spots_take {l : List (Int × Int)} {j : Nat} (h : j < l.length) : l.take (j + 1) = l.take j ++ [l.getD j (0, 0)] := by
  rw [List.take_succ_eq_append_getElem h]; simp [List.getD, List.getElem?_eq_getElem h]
set_option maxHeartbeats 4000000 in
theorem indexSpots_any (kb : FuncId) (capb : Array Value) (p : Option Addr) (c : Nat) (l : List (Int × Int)) (q : Int × Int → Bool) (w : World) (hn : l.length ≤ 1048576) (hr : Rd w p (l.length * 2) (spotAt l))
    (hk : ∀ args w, (callFunc kb args).run Try.prog w = .ok (.enter kb args) w)
    (hcall : ∀ s w', s ∈ l → Below w.heap.size w w' → Calls Try.prog kb (#[.agg #[.int .i64 s.1, .int .i64 s.2]] ++ capb) w' fun e w'' => e = .returned (.bool (q s)) ∧ Below w'.heap.size w' w'') :
    Calls Try.prog 82 #[.slice p l.length c, .func (.func kb) #[] capb] w fun e w' => ∃ z : Int, e = .returned (.int .i64 z) ∧ decide (0 ≤ z) = l.any q ∧ Below w.heap.size w w' := by
  go_enter Try.func82, Try.ntmps82
  go_wp2
  go_loopw [8] (fun i wr => ∃ j : Nat, j ≤ l.length ∧ i = .int .i64 j ∧ (l.take j).any q = false ∧ Since w wr) (fun i _ => l.length - (intOf i).toNat)
  case atStart => exact ⟨0, Nat.zero_le _, rfl, by simp, Since.refl w⟩
  case round =>
    obtain ⟨j, hj, rfl, hno, S⟩ := hrel
    by_cases hlt : j < l.length
    · obtain ⟨b, o, rfl, hb, hc⟩ := (hr.below S.below (Nat.le_refl _)).at (k := j * 2) (by omega)
      have a0 := hc (j * 2) (by omega)
      have a1 := hc (j * 2 + 1) (by omega)
      rw [spotAt_x] at a0
      rw [spotAt_y, ← Nat.add_assoc] at a1
      have hj0 : (0 : Int) ≤ (j : Int) := Int.natCast_nonneg _
      have hj1 : (j : Int) < (l.length : Int) := by omega
      have hcl := hcall (l.getD j (0, 0)) wr (getD_memS hlt) S.below
      have hsu : (l.take (j + 1)).any q = ((l.take j).any q || q (l.getD j (0, 0))) := by rw [spots_take hlt]; simp [List.any_append]
      have hyes : q (l.getD j (0, 0)) = true → l.any q = true := fun h => List.any_eq_true.2 ⟨_, getD_memS hlt, h⟩
      rw [hno] at hsu
      generalize (l.getD j (0, 0)).1 = u at *
      generalize (l.getD j (0, 0)).2 = v at *
      cases hq : q (l.getD j (0, 0))
      · rw [hq] at hcl hsu
        have Hcl := Lib.hid hcl; clear hcl
        have Hsu := Lib.hid hsu; clear hsu
        have Hno := Lib.hid hno; clear hno
        have Hq := Lib.hid hq; clear hq
        clear hc hr hcall hyes
        go_wp2_with fail
        refine Hcl.out.mono ?_
        rintro e w1 ⟨rfl, hb1⟩
        have S1 := S.bl hb1
        clear hb1 S a0 a1
        go_wp2
        go_roundw
        case rel => exact ⟨j + 1, by omega, by go_num, Hsu.out, S1⟩
        case measure => simp [intOf]; omega
      · rw [hq] at hcl
        have hy := hyes hq
        have Hcl := Lib.hid hcl; clear hcl
        have Hsu := Lib.hid hsu; clear hsu
        have Hno := Lib.hid hno; clear hno
        have Hq := Lib.hid hq; clear hq
        have Hy := Lib.hid hy; clear hy
        clear hc hr hcall hyes
        go_wp2_with fail
        refine Hcl.out.mono ?_
        rintro e w1 ⟨rfl, hb1⟩
        have S1 := S.bl hb1
        clear hb1 S a0 a1
        go_wp2
        go_ret
        exact ⟨_, rfl, by rw [Hy.out]; simp, S1.below⟩
    · obtain rfl : j = l.length := by omega
      rw [List.take_of_length_le (Nat.le_refl _)] at hno
      have Hno := Lib.hid hno; clear hno
      go_wp2
      go_ret
      exact ⟨_, rfl, by rw [Hno.out]; rfl, S.below⟩
set_option maxHeartbeats 4000000 in
theorem containsSpots_any (kb : FuncId) (capb : Array Value) (p : Option Addr) (c : Nat) (l : List (Int × Int)) (q : Int × Int → Bool) (w : World) (hn : l.length ≤ 1048576) (hr : Rd w p (l.length * 2) (spotAt l))
    (hk : ∀ args w, (callFunc kb args).run Try.prog w = .ok (.enter kb args) w)
    (hcall : ∀ s w', s ∈ l → Below w.heap.size w w' → Calls Try.prog kb (#[.agg #[.int .i64 s.1, .int .i64 s.2]] ++ capb) w' fun e w'' => e = .returned (.bool (q s)) ∧ Below w'.heap.size w' w'') :
    Calls Try.prog 67 #[.slice p l.length c, .func (.func kb) #[] capb] w fun e w' => e = .returned (.bool (l.any q)) ∧ Below w.heap.size w w' := by
  have c0 := indexSpots_any kb capb p c l q w hn hr hk hcall
  have C0 := Lib.hid c0; clear c0
  clear hcall hr
  go_enter Try.func67, Try.ntmps67
  go_wp2_with fail
  refine C0.out.mono ?_
  rintro e w1 ⟨z, rfl, hz, hb⟩
  have Hz := Lib.hid hz; clear hz
  go_wp2
  go_ret
  exact ⟨ret_bool Hz.out, hb⟩
theorem callFunc_all1 : ∀ args w, (callFunc 68 args).run Try.prog w = .ok (.enter 68 args) w := fun args w => by kernel_rfl
set_option maxHeartbeats 4000000 in
theorem all_any (kb : FuncId) (capb : Array Value) (p : Option Addr) (c : Nat) (l : List (Int × Int)) (q : Int × Int → Bool) (w : World) (hn : l.length ≤ 1048576) (hr : Rd w p (l.length * 2) (spotAt l))
    (hk : ∀ args w, (callFunc kb args).run Try.prog w = .ok (.enter kb args) w)
    (hcall : ∀ s w', s ∈ l → Below w.heap.size w w' → Calls Try.prog kb (#[.agg #[.int .i64 s.1, .int .i64 s.2]] ++ capb) w' fun e w'' => e = .returned (.bool (q s)) ∧ Below w'.heap.size w' w'') :
    Calls Try.prog 55 #[.slice p l.length c, .func (.func kb) #[] capb] w fun e w' => e = .returned (.bool (l.all q)) ∧ Below w.heap.size w w' := by
  have hy := bl_alloc w (.cells #[.func (.func kb) #[] capb] 75)
  have F := Box.new w (.func (.func kb) #[] capb) 75
  have hone : ∀ s w', s ∈ l → Below (w.alloc (.cells #[.func (.func kb) #[] capb] 75)).heap.size (w.alloc (.cells #[.func (.func kb) #[] capb] 75)) w' →
      Calls Try.prog 68 #[.agg #[.int .i64 s.1, .int .i64 s.2], .pointer (some ⟨w.heap.size, 0, none⟩)] w' fun e w'' => e = .returned (.bool (!q s)) ∧ Below w'.heap.size w' w'' := by
    intro s w' hs hb
    have F1 := F.bl hb
    have f0 := (F1.alloc (.cells #[.int .i64 s.1, .int .i64 s.2] 28)).cell
    have hlt := F1.lt
    have c0 := hcall s (w'.alloc (.cells #[.int .i64 s.1, .int .i64 s.2] 28)) hs (((bl_trans hy hb).trans ((bl_alloc _ _).mono (Nat.le_trans hy.size hb.size))))
    cases hq : q s
    all_goals
      rw [hq] at c0
      have C0 := Lib.hid c0; clear c0
      have Hq := Lib.hid hq; clear hq
      go_enter Try.func68, Try.ntmps68
      go_wp2_with fail
      refine C0.out.mono ?_
      rintro e w1 ⟨rfl, hb1⟩
      have hb2 := bl_trans (bl_alloc w' _) hb1
      go_wp2
      go_ret
      exact ⟨rfl, hb2⟩
  have c1 := containsSpots_any 68 #[.pointer (some ⟨w.heap.size, 0, none⟩)] p c l (fun s => !q s) _ hn (hr.bl hy) callFunc_all1 hone
  have he : (!l.any fun s => !q s) = l.all q := by simp [List.all_eq_not_any_not]
  cases ha : l.any fun s => !q s
  all_goals
    rw [ha] at c1 he
    have C1 := Lib.hid c1; clear c1
    have He := Lib.hid he; clear he
    have Ha := Lib.hid ha; clear ha
    clear hone hcall
    go_enter Try.func55, Try.ntmps55
    go_wp2_with fail
    refine C1.out.mono ?_
    rintro e w1 ⟨rfl, hb⟩
    have hb2 := bl_trans hy hb
    go_wp2
    go_ret
    exact ⟨ret_bool He.out, hb2⟩
end Go.Proofs.Ytjplikkehhpomaa
