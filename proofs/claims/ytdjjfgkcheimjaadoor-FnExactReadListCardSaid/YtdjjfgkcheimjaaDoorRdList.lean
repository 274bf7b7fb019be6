/- Contracts of both readings of a list. -/
import Derived.Test.YtdjjfgkcheimjaaDoorRdI
import Derived.Test.YtdjjfgkcheimjaaDoorRdPic
import Derived.Test.YtdjjfgkcheimjaaDoorInts
set_option linter.unusedVariables false
set_option linter.unusedSimpArgs false
namespace Go.Proofs.YtdjjfgkcheimjaaDoor
open Go.RowKit

def rlOk (s : ByteArray) : Bool := decide (s = ⟨#[110, 111, 110, 101]⟩) || (decide ((cutS s 44).length ≤ 300) && (cutS s 44).all rdOk)
def rlL (s : ByteArray) : List Int := if s = ⟨#[110, 111, 110, 101]⟩ then [] else if rlOk s = true then (cutS s 44).map rdV else []
theorem rl_none : rlOk ⟨#[110, 111, 110, 101]⟩ = true ∧ rlL ⟨#[110, 111, 110, 101]⟩ = [] := ⟨by simp [rlOk], by simp [rlL]⟩
theorem rl_stop {s : ByteArray} (hs : ¬ s = ⟨#[110, 111, 110, 101]⟩) {k : Nat} (hk : k < (cutS s 44).length) (h : rdOk ((cutS s 44).getD k ByteArray.empty) = false) : rlOk s = false ∧ rlL s = [] := by
  have ha : (cutS s 44).all rdOk = false := by
    rw [List.all_eq_false]
    exact ⟨_, getD_mem hk, by rw [h]; exact Bool.false_ne_true⟩
  have ho : rlOk s = false := by rw [rlOk, ha, decide_eq_false hs, Bool.and_false]; rfl
  exact ⟨ho, by rw [rlL, if_neg hs, ho]; rfl⟩
theorem rl_long {s : ByteArray} (hs : ¬ s = ⟨#[110, 111, 110, 101]⟩) (hk : ¬ (cutS s 44).length ≤ 300) : rlOk s = false ∧ rlL s = [] := by
  have ho : rlOk s = false := by rw [rlOk, decide_eq_false hs, decide_eq_false hk]; rfl
  exact ⟨ho, by rw [rlL, if_neg hs, ho]; rfl⟩
theorem rl_end {s : ByteArray} (hs : ¬ s = ⟨#[110, 111, 110, 101]⟩) (hk : (cutS s 44).length ≤ 300) (h : ((cutS s 44).take (cutS s 44).length).all rdOk = true) : rlOk s = true ∧ rlL s = (cutS s 44).map rdV := by
  rw [List.take_length] at h
  have ho : rlOk s = true := by rw [rlOk, decide_eq_true hk, h]; simp
  exact ⟨ho, by rw [rlL, if_neg hs, ho]; rfl⟩
theorem rlL_len {s : ByteArray} : (rlL s).length ≤ 1048576 := by
  unfold rlL
  split
  · simp
  · rename_i hs
    split
    · rename_i h
      rw [List.length_map]
      by_cases hk : (cutS s 44).length ≤ 300
      · omega
      · rw [(rl_long hs hk).1] at h; cases h
    · simp
theorem strs_take {P : List ByteArray} {j : Nat} (h : j < P.length) : P.take (j + 1) = P.take j ++ [P.getD j ByteArray.empty] := by
  rw [List.take_succ_eq_append_getElem h]; simp [List.getD, List.getElem?_eq_getElem h]
/-- The parts lie off the numbers. -/
structure PartsOff (w : World) (pp : Option Addr) (P : List ByteArray) (v : Value) : Prop where
  rd : Rd w pp P.length (strAt P)
  ne : ∀ b o, pp = some ⟨b, o, none⟩ → b < w.heap.size ∧ some b ≠ v.ownBlock
theorem PartsOff.bl {w w' : World} {pp : Option Addr} {P : List ByteArray} {v : Value} (h : PartsOff w pp P v) (hb : Below w.heap.size w w') : PartsOff w' pp P v :=
  ⟨h.rd.bl hb, fun b o e => ⟨by have := (h.ne b o e).1; have := hb.size; omega, (h.ne b o e).2⟩⟩
theorem PartsOff.push {w w2 : World} {pp q : Option Addr} {P : List ByteArray} {n d g n' cap : Nat} (h : PartsOff w pp P (.slice q n d)) (hgr : w.grownBy w2 (Value.slice q n d).ownBlock) (hat : (Value.slice q n d).ownBlock = some g ∨ w.heap.size ≤ g) (hsz : w.heap.size ≤ w2.heap.size) :
    PartsOff w2 pp P (.slice (some ⟨g, 0, none⟩) n' cap) := by
  refine ⟨h.rd.grown hgr (fun b o e => (h.ne b o e).2), fun b o e => ?_⟩
  obtain ⟨h1, h2⟩ := h.ne b o e
  refine ⟨by omega, ?_⟩
  show some b ≠ some g
  intro e2
  simp only [Option.some.injEq] at e2
  subst e2
  rcases hat with hat | hat
  · exact h2 hat.symm
  · omega
theorem own_parts {w w1 : World} {p : Option Addr} {d : Nat} {P : List ByteArray} (h : w1.ownsRow (w.heap.size + 1) 9 1 (.slice p P.length d) P.length (P.map Value.string)) : PartsOff w1 p P (.slice (some ⟨w.heap.size, 0, none⟩) 0 0) := by
  refine ⟨own_rd h, fun b o e => ?_⟩
  obtain ⟨h1, h2⟩ := h.lt b (by rw [e]; rfl)
  refine ⟨h2, ?_⟩
  show some b ≠ some w.heap.size
  intro e2
  simp only [Option.some.injEq] at e2
  omega
/-- The numbers as they lie. -/
def IntsAt (w : World) (L : List Int) (v : Value) (wr : World) : Prop := ∃ q d, v = .slice q L.length d ∧ wr.ownsRow w.heap.size 2 1 (.slice q L.length d) L.length (intCells L) ∧ Since w wr
theorem ints_push {w w2 : World} {L : List Int} {x : Int} {q : Option Addr} {cap : Nat} (ho : w2.ownsRow w.heap.size 2 1 (.slice q (L.length + 1) cap) (L.length + 1) (intCells L ++ (#[Value.int .i64 x] : Array Value).toList)) (S : Since w w2) : IntsAt w (L ++ [x]) (.slice q (L.length + 1) cap) w2 := by
  have e : L.length + 1 = (L ++ [x]).length := by simp
  have e2 : intCells L ++ (#[Value.int .i64 x] : Array Value).toList = intCells (L ++ [x]) := by rw [intCells_snoc]
  rw [e, e2] at ho
  rw [e]
  exact ⟨_, _, rfl, ho, S⟩
set_option maxRecDepth 100000 in
set_option maxHeartbeats 4000000 in
theorem l01Numbers_any (s : ByteArray) (w : World) (hs : s.size ≤ 1048576) :
    Calls Tryd.prog 25 #[.string s] w fun e w' => ∃ v, e = .returned (.tuple #[v, .bool (rlOk s)]) ∧ OwnInts w.heap.size w' v (rlL s) ∧ Below w.heap.size w w' := by
  have S := (Since.refl w).alloc (.cells #[] 2)
  have T0 := World.ownsRow_made (base := w.heap.size) (size := 1) (e := 2) w #[] 0 (Nat.le_refl _) (by decide) rfl
  by_cases hnn : s = ⟨#[110, 111, 110, 101]⟩
  · subst hnn
    rw [rl_none.1, rl_none.2]
    go_enter Tryd.func25, Tryd.ntmps25
    go_wp2
    go_ret2
    exact ⟨_, rfl, ⟨_, _, rfl, T0⟩, S.below⟩
  · have hnb : (s.toList == [110, 111, 110, 101]) = false := by rw [beq_eq_false_iff_ne]; exact fun h => hnn (toList_inj (h.trans (by simp [ByteArray.toList_eq])))
    have c0 := l01Cut_any s 44 (w.alloc (.cells #[] 2)) hs
    have hlen := cutS_len s 44
    have hst := fun k => @rl_stop s hnn k
    have hlo := @rl_long s hnn
    have hen := @rl_end s hnn
    have hps : ∀ k, ((cutS s 44).getD k ByteArray.empty).size ≤ maxLen := by
      intro k
      by_cases hk : k < (cutS s 44).length
      · have := cutS_size (s := s) (c := 44) _ (getD_mem hk)
        simp only [maxLen]; omega
      · rw [List.getD_eq_getElem?_getD, List.getElem?_eq_none (by omega)]; simp [maxLen]
    generalize cutS s 44 = P at *
    obtain ⟨RL, hRL⟩ : ∃ RL, rlL s = RL := ⟨_, rfl⟩
    obtain ⟨RB, hRB⟩ : ∃ RB, rlOk s = RB := ⟨_, rfl⟩
    rw [hRL, hRB] at hlo hen
    simp only [hRL, hRB] at hst
    rw [hRL, hRB]
    have C0 := Lib.hid c0; clear c0
    have Hst := Lib.hid hst; clear hst
    have Hlo := Lib.hid hlo; clear hlo
    have Hen := Lib.hid hen; clear hen
    have Hps := Lib.hid hps; clear hps
    have HRL := Lib.hid hRL; clear hRL
    have HRB := Lib.hid hRB; clear hRB
    clear hnn
    go_enter Tryd.func25, Tryd.ntmps25
    go_wp2_with fail
    refine C0.out.mono ?_
    rintro e w1 ⟨v, rfl, ⟨pp, pd, rfl, ho⟩, hb⟩
    have U1 := own_below T0 hb (Nat.le_refl _)
    replace S := S.bl hb
    have Q1 := own_parts (w := w) (by simpa using ho)
    clear hb ho T0
    by_cases hl3 : P.length ≤ 300
    · have Hl3 := Lib.hid hl3; clear hl3
      have hl3 := Hl3.out
      go_wp2
      go_loopw [4, 6] (fun v i wr => ∃ k : Nat, k ≤ P.length ∧ i = .int .i64 k ∧ (P.take k).all rdOk = true ∧ IntsAt w ((P.take k).map rdV) v wr ∧ PartsOff wr pp P v) (fun _ i _ => P.length - (intOf i).toNat)
      case atStart => exact ⟨0, Nat.zero_le _, rfl, by simp, ⟨_, _, rfl, U1, S⟩, Q1⟩
      case round =>
        clear U1 S Q1
        obtain ⟨k, hk, rfl, hall, ⟨q, d, rfl, hown, S⟩, Q⟩ := hrel
        have hlk : ((P.take k).map rdV).length ≤ 300 := by simp; omega
        by_cases hlt : k < P.length
        · obtain ⟨b, o, rfl, hb, hc⟩ := Q.rd.at (k := k) hlt
          have a0 := hc k hlt
          rw [strAt] at a0
          have cd := l01Value_any (P.getD k ByteArray.empty) wr (Hps.out k)
          have hsu : (P.take (k + 1)).map rdV = (P.take k).map rdV ++ [rdV (P.getD k ByteArray.empty)] := by rw [strs_take hlt]; simp
          have hsa : (P.take (k + 1)).all rdOk = ((P.take k).all rdOk && rdOk (P.getD k ByteArray.empty)) := by rw [strs_take hlt]; simp [List.all_append]
          have hstk := Hst.out k hlt
          rw [hall] at hsa
          generalize P.getD k ByteArray.empty = x at *
          generalize (P.take k).map rdV = L at *
          cases hv : rdOk x
          · obtain ⟨e1, e2⟩ := hstk hv
            rw [hv] at cd
            have Hsu := Lib.hid hsu; clear hsu
            have Cd := Lib.hid cd; clear cd
            have Hsa := Lib.hid hsa; clear hsa
            have Hv := Lib.hid hv; clear hv
            have Hall := Lib.hid hall; clear hall
            have E1 := Lib.hid e1; clear e1
            have E2 := Lib.hid e2; clear e2
            clear hc hstk
            go_wp2_with fail
            with_reducible (refine Cd.out.mono ?_)
            rintro _ w2 ⟨rfl, hb2⟩
            replace S := S.bl hb2
            clear hb2 a0
            go_wp2
            go_ret2
            exact ⟨_, by rw [E1.out]; rfl, by rw [E2.out]; exact OwnInts.nil _ _, S.below⟩
          · rw [hv] at cd hsa
            obtain ⟨n, hn⟩ : ∃ n, rdV x = n := ⟨_, rfl⟩
            rw [hn] at cd hsu
            have Hsu := Lib.hid hsu; clear hsu
            have Cd := Lib.hid cd; clear cd
            have Hsa := Lib.hid hsa; clear hsa
            have Hv := Lib.hid hv; clear hv
            have Hall := Lib.hid hall; clear hall
            have Hn := Lib.hid hn; clear hn
            clear hc hstk
            go_wp2_with fail
            with_reducible (refine Cd.out.mono ?_)
            rintro _ w2 ⟨rfl, hb2⟩
            replace S := S.bl hb2
            have hown1 := own_below hown hb2 (Nat.le_refl _)
            have Q1 := Q.bl hb2
            have hsS1 := S.size
            clear hb2 a0 hown Q
            go_wp2_with (at_builtin; refine wpList_push rfl _ _ 22 rfl w.heap.size 2 (.int .i64 0) 1 8 Tryd.underlying22 info_i64 rfl (by decide) (.slice q L.length d) L.length _ rfl hown1 _ 1 rfl rfl (one_int _ _) (by omega) (by simp [maxLen]; omega) hsS1 ?_; intro g' cap w3 hown2 hgr hat hlt2)
            have S2 : Since w w3 := ⟨below_own S.below hgr (own_ge hown1) hsS1⟩
            go_roundw
            case rel => exact ⟨k + 1, by omega, by go_num, by rw [Hsa.out]; rfl, by rw [Hsu.out]; exact ints_push hown2 S2, Q1.push hgr hat hgr.size⟩
            case measure => simp [intOf]; omega
        · obtain rfl : k = P.length := by omega
          obtain ⟨e1, e2⟩ := Hen.out hl3 hall
          rw [List.take_length] at hown
          rw [List.take_length]
          rw [← e2] at hown
          rw [← e2]
          have E1 := Lib.hid e1; clear e1
          have E2 := Lib.hid e2; clear e2
          have Hall := Lib.hid hall; clear hall
          clear Q
          go_wp2
          go_ret2
          exact ⟨_, by rw [E1.out]; rfl, ⟨_, _, rfl, hown⟩, S.below⟩
    · obtain ⟨e1, e2⟩ := Hlo.out hl3
      have hgt : 300 < P.length := by omega
      have E1 := Lib.hid e1; clear e1
      have E2 := Lib.hid e2; clear e2
      clear Q1 U1
      go_wp2
      go_ret2
      exact ⟨_, by rw [E1.out]; rfl, by rw [E2.out]; exact OwnInts.nil _ _, S.below⟩
theorem specReadList_any (s : ByteArray) (w : World) (hs : s.size ≤ 1048576) :
    Calls Tryd.prog 8 #[.string s] w fun e w' => ∃ v, e = .returned (.tuple #[v, .bool (rlOk s)]) ∧ OwnInts w.heap.size w' v (rlL s) ∧ Below w.heap.size w w' := by
  have c0 := l01Numbers_any s w hs
  generalize rlL s = L at *
  generalize rlOk s = b at *
  have C0 := Lib.hid c0; clear c0
  go_enter Tryd.func8, Tryd.ntmps8
  go_wp2_with fail
  refine C0.out.mono ?_
  rintro e w1 ⟨v, rfl, ho, hb⟩
  obtain ⟨p, d, rfl⟩ := ho.form
  go_wp2
  go_ret2
  exact ⟨_, rfl, ho, hb⟩
set_option maxRecDepth 100000 in
set_option maxHeartbeats 4000000 in
theorem implReadList_any (s : ByteArray) (w : World) (hs : s.size ≤ 1048576) (hM : MaxT w) (hT : PowT w) (hE : ErrT w) :
    Calls Tryd.prog 9 #[.string s] w fun e w' => ∃ v, e = .returned (.tuple #[v, .bool (rlOk s)]) ∧ OwnInts w.heap.size w' v (rlL s) ∧ Below w.heap.size w w' := by
  have S := (Since.refl w).alloc (.cells #[] 2)
  have T0 := World.ownsRow_made (base := w.heap.size) (size := 1) (e := 2) w #[] 0 (Nat.le_refl _) (by decide) rfl
  by_cases hnn : s = ⟨#[110, 111, 110, 101]⟩
  · subst hnn
    rw [rl_none.1, rl_none.2]
    clear hM hT hE
    go_enter Tryd.func9, Tryd.ntmps9
    go_wp2
    go_ret2
    exact ⟨_, rfl, ⟨_, _, rfl, T0⟩, S.below⟩
  · have hnb : (s.toList == [110, 111, 110, 101]) = false := by rw [beq_eq_false_iff_ne]; exact fun h => hnn (toList_inj (h.trans (by simp [ByteArray.toList_eq])))
    have c0 := split_any s 44 (w.alloc (.cells #[] 2)) hs (hM.bl (bl_alloc _ _))
    have hlen := cutS_len s 44
    have hst := fun k => @rl_stop s hnn k
    have hlo := @rl_long s hnn
    have hen := @rl_end s hnn
    have hps : ∀ k, ((cutS s 44).getD k ByteArray.empty).size ≤ 1048576 := by
      intro k
      by_cases hk : k < (cutS s 44).length
      · exact Nat.le_trans (cutS_size (s := s) (c := 44) _ (getD_mem hk)) hs
      · rw [List.getD_eq_getElem?_getD, List.getElem?_eq_none (by omega)]; simp
    generalize cutS s 44 = P at *
    obtain ⟨RL, hRL⟩ : ∃ RL, rlL s = RL := ⟨_, rfl⟩
    obtain ⟨RB, hRB⟩ : ∃ RB, rlOk s = RB := ⟨_, rfl⟩
    rw [hRL, hRB] at hlo hen
    simp only [hRL, hRB] at hst
    rw [hRL, hRB]
    have C0 := Lib.hid c0; clear c0
    have Hst := Lib.hid hst; clear hst
    have Hlo := Lib.hid hlo; clear hlo
    have Hen := Lib.hid hen; clear hen
    have Hps := Lib.hid hps; clear hps
    have HRL := Lib.hid hRL; clear hRL
    have HRB := Lib.hid hRB; clear hRB
    have HT := Lib.hid hT; clear hT
    have HE := Lib.hid hE; clear hE
    clear hnn hM
    go_enter Tryd.func9, Tryd.ntmps9
    go_wp2_with fail
    refine C0.out.mono ?_
    rintro e w1 ⟨v, rfl, ⟨pp, pd, rfl, ho⟩, hb⟩
    have U1 := own_below T0 hb (Nat.le_refl _)
    replace S := S.bl hb
    have Q1 := own_parts (w := w) (by simpa using ho)
    clear hb ho T0
    go_wp2
    go_loopw [4, 16] (fun v i wr => ∃ k : Nat, k ≤ P.length ∧ k ≤ 300 ∧ i = .int .i64 k ∧ (P.take k).all rdOk = true ∧ IntsAt w ((P.take k).map rdV) v wr ∧ PartsOff wr pp P v) (fun _ i _ => P.length - (intOf i).toNat)
    case atStart => exact ⟨0, Nat.zero_le _, by omega, rfl, by simp, ⟨_, _, rfl, U1, S⟩, Q1⟩
    case round =>
      clear U1 S Q1
      obtain ⟨k, hk, hk3, rfl, hall, ⟨q, d, rfl, hown, S⟩, Q⟩ := hrel
      have hlk : ((P.take k).map rdV).length = k := by simp; omega
      by_cases hlt : k < P.length
      · obtain ⟨b, o, rfl, hb, hc⟩ := Q.rd.at (k := k) hlt
        have a0 := hc k hlt
        rw [strAt] at a0
        have cd := implReadDecimal_any (P.getD k ByteArray.empty) wr (Hps.out k) (HT.out.bl S.below) (HE.out.bl S.below)
        have hsu : (P.take (k + 1)).map rdV = (P.take k).map rdV ++ [rdV (P.getD k ByteArray.empty)] := by rw [strs_take hlt]; simp
        have hsa : (P.take (k + 1)).all rdOk = ((P.take k).all rdOk && rdOk (P.getD k ByteArray.empty)) := by rw [strs_take hlt]; simp [List.all_append]
        have hstk := Hst.out k hlt
        rw [hall] at hsa
        generalize P.getD k ByteArray.empty = x at *
        generalize (P.take k).map rdV = L at *
        cases hv : rdOk x
        · obtain ⟨e1, e2⟩ := hstk hv
          rw [hv] at cd
          have Hsu := Lib.hid hsu; clear hsu
          have Cd := Lib.hid cd; clear cd
          have Hsa := Lib.hid hsa; clear hsa
          have Hv := Lib.hid hv; clear hv
          have Hall := Lib.hid hall; clear hall
          have E1 := Lib.hid e1; clear e1
          have E2 := Lib.hid e2; clear e2
          clear hc hstk
          go_wp2_with fail
          with_reducible (refine Cd.out.mono ?_)
          rintro _ w2 ⟨rfl, hb2⟩
          replace S := S.bl hb2
          clear hb2 a0
          go_wp2
          go_ret2
          exact ⟨_, by rw [E1.out]; rfl, by rw [E2.out]; exact OwnInts.nil _ _, S.below⟩
        · rw [hv] at cd hsa
          obtain ⟨n, hn⟩ : ∃ n, rdV x = n := ⟨_, rfl⟩
          rw [hn] at cd hsu
          by_cases h3 : k = 300
          · subst h3
            have hl0 : ((L.length : Int) == 300) = true := by rw [beq_iff_eq]; omega
            obtain ⟨e1, e2⟩ := Hlo.out (by omega)
            have Hsu := Lib.hid hsu; clear hsu
            have Cd := Lib.hid cd; clear cd
            have Hsa := Lib.hid hsa; clear hsa
            have Hv := Lib.hid hv; clear hv
            have Hall := Lib.hid hall; clear hall
            have Hn := Lib.hid hn; clear hn
            have E1 := Lib.hid e1; clear e1
            have E2 := Lib.hid e2; clear e2
            clear hc hstk hlk
            go_wp2_with fail
            with_reducible (refine Cd.out.mono ?_)
            rintro _ w2 ⟨rfl, hb2⟩
            replace S := S.bl hb2
            clear hb2 a0
            go_wp2
            go_ret2
            exact ⟨_, by rw [E1.out]; rfl, by rw [E2.out]; exact OwnInts.nil _ _, S.below⟩
          · have hl0 : ((L.length : Int) == 300) = false := by rw [beq_eq_false_iff_ne]; omega
            have hl3 : L.length ≤ 300 := by omega
            have hk4 : k + 1 ≤ 300 := by omega
            have Hsu := Lib.hid hsu; clear hsu
            have Cd := Lib.hid cd; clear cd
            have Hsa := Lib.hid hsa; clear hsa
            have Hv := Lib.hid hv; clear hv
            have Hall := Lib.hid hall; clear hall
            have Hn := Lib.hid hn; clear hn
            clear hc hstk hlk
            go_wp2_with fail
            with_reducible (refine Cd.out.mono ?_)
            rintro _ w2 ⟨rfl, hb2⟩
            replace S := S.bl hb2
            have hown1 := own_below hown hb2 (Nat.le_refl _)
            have Q1 := Q.bl hb2
            have hsS1 := S.size
            clear hb2 a0 hown Q
            go_wp2_with (at_builtin; refine wpList_push rfl _ _ 22 rfl w.heap.size 2 (.int .i64 0) 1 8 Tryd.underlying22 info_i64 rfl (by decide) (.slice q L.length d) L.length _ rfl hown1 _ 1 rfl rfl (one_int _ _) (by omega) (by simp [maxLen]; omega) hsS1 ?_; intro g' cap w3 hown2 hgr hat hlt2)
            have S2 : Since w w3 := ⟨below_own S.below hgr (own_ge hown1) hsS1⟩
            go_roundw
            case rel => exact ⟨k + 1, by omega, hk4, by go_num, by rw [Hsa.out]; rfl, by rw [Hsu.out]; exact ints_push hown2 S2, Q1.push hgr hat hgr.size⟩
            case measure => simp [intOf]; omega
      · obtain rfl : k = P.length := by omega
        obtain ⟨e1, e2⟩ := Hen.out hk3 hall
        rw [List.take_length] at hown
        rw [List.take_length]
        rw [← e2] at hown
        rw [← e2]
        have E1 := Lib.hid e1; clear e1
        have E2 := Lib.hid e2; clear e2
        have Hall := Lib.hid hall; clear hall
        clear Q hlk
        go_wp2
        go_ret2
        exact ⟨_, by rw [E1.out]; rfl, ⟨_, _, rfl, hown⟩, S.below⟩
end Go.Proofs.YtdjjfgkcheimjaaDoor
