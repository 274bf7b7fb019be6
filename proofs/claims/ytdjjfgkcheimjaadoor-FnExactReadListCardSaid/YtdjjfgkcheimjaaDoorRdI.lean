/- Contract of the program's reading of a numeral. -/
import Derived.Test.YtdjjfgkcheimjaaDoorRdS
import Derived.LaidEql
set_option linter.unusedVariables false
set_option linter.unusedSimpArgs false
namespace Go.Proofs.YtdjjfgkcheimjaaDoor
open Go.RowKit

/-- Both of the library's errors lie where they were laid. -/
def ErrT (w : World) : Prop := ∃ tp p tq q, w.var? Tryd.prog "strconv.ErrSyntax" = some #[.iface tp p] ∧ w.var? Tryd.prog "strconv.ErrRange" = some #[.iface tq q]
theorem gErrS : Tryd.prog.globalNamed "strconv.ErrSyntax" = some 1 := by kernel_rfl
theorem gErrR : Tryd.prog.globalNamed "strconv.ErrRange" = some 2 := by kernel_rfl
theorem ErrT.bl {w w' : World} (h : ErrT w) (hb : Below w.heap.size w w') : ErrT w' := by
  obtain ⟨tp, p, tq, q, h1, h2⟩ := h
  exact ⟨tp, p, tq, q, Joins.var_stays gErrS h1 hb (Nat.le_refl _), Joins.var_stays gErrR h2 hb (Nat.le_refl _)⟩
theorem star_err : "*" ++ "errors.errorString" = "*errors.errorString" := by decide
theorem row_err (u : TypeId) (h : Tryd.prog.typeName? 3 u = some "*errors.errorString") : u = 116 :=
  typeName_ptr_named (nm := "errors.errorString") (by rw [star_err]; kernel_rfl) (by kernel_rfl) (by decide) u (by rw [star_err]; exact h)
theorem err_tab {l : List (String × DataW Unit)} {w : World} (h : laidMetH Tryd.prog l w) (hp : (l.all fun x => x.2.handleName?.isNone) = true)
    (h1 : l.filter (fun x => x.1 == "strconv.ErrSyntax") = [("strconv.ErrSyntax", Rows.laid_strconv_ErrSyntax)])
    (h2 : l.filter (fun x => x.1 == "strconv.ErrRange") = [("strconv.ErrRange", Rows.laid_strconv_ErrRange)]) : ErrT w := by
  rw [MakeChecks.laidMetH_plain _ _ _ hp] at h
  have k1 := laidMet.filter (fun x => x.1 == "strconv.ErrSyntax") h
  have k2 := laidMet.filter (fun x => x.1 == "strconv.ErrRange") h
  rw [h1] at k1
  rw [h2] at k2
  obtain ⟨a, s, v1, _⟩ := laid_sentinel k1 gErrS (by kernel_rfl) Tryd.underlying52 row_err Tryd.underlying116 Tryd.underlying118 rfl rfl Tryd.underlying9 (by kernel_rfl) (by kernel_rfl)
  obtain ⟨b, r, v2, _⟩ := laid_sentinel k2 gErrR (by kernel_rfl) Tryd.underlying52 row_err Tryd.underlying116 Tryd.underlying118 rfl rfl Tryd.underlying9 (by kernel_rfl) (by kernel_rfl)
  exact ⟨_, _, _, _, v1, v2⟩

theorem prd_eq {s : ByteArray} {v : Int} (hp : Lib.parseIntB 64 s.data.toList = .ok v) (h : rdOk s = true) : rdN s.data.toList = v ∧ inB v (-1000000000) 1000000000 = true ∧ decS v = s := by
  have e := rdOk_parse h
  rw [hp] at e
  simp only [Lib.NumEnd.ok.injEq] at e
  obtain ⟨h0, h1, h2⟩ := of_decide_eq_true h
  rw [← e] at h0 h1 h2
  exact ⟨e.symm, by simp [inB, h0, h1], h2⟩
theorem prd_out {s : ByteArray} {v : Int} (hp : Lib.parseIntB 64 s.data.toList = .ok v) (h : inB v (-1000000000) 1000000000 = false) : rdOk s = false := by
  cases e : rdOk s
  · rfl
  · rw [(prd_eq hp e).2.1] at h; cases h
theorem prd_ne {s : ByteArray} {v : Int} (hp : Lib.parseIntB 64 s.data.toList = .ok v) (h : ¬ decS v = s) : rdOk s = false := by
  cases e : rdOk s
  · rfl
  · exact absurd (prd_eq hp e).2.2 h
theorem prd_in {s : ByteArray} {v : Int} (h0 : -1000000000 ≤ v) (h1 : v ≤ 1000000000) (h2 : decS v = s) : rdOk s = true ∧ rdV s = v := by
  subst h2
  obtain ⟨a, b⟩ := rdOk_dec h0 h1
  exact ⟨a, by rw [rdV, if_pos a, b]⟩
theorem prd_err {s : ByteArray} (h : ∀ u, Lib.parseIntB 64 s.data.toList ≠ .ok u) : rdOk s = false := by
  cases e : rdOk s
  · rfl
  · exact absurd (rdOk_parse e) (h _)
theorem bl_bytes {w w' : World} {e : TypeId} (h : w' = w ∨ ∃ t, w' = Lib.bytesWorld w e t) : Below w.heap.size w w' := by
  rcases h with rfl | ⟨t, rfl⟩
  · exact Below.refl _ _
  · exact Lib.bytesWorld_below _ _ _
theorem parseInt_any (s : ByteArray) (w : World) (hs : s.size ≤ 1048576) (hE : ErrT w) :
    Calls Tryd.prog 41 #[.string s, .int .i64 10, .int .i64 64] w fun e w' => ∃ v x, e = .returned (.tuple #[.int .i64 v, x]) ∧ Below w.heap.size w w' ∧ ((x = .nilIface ∧ Lib.parseIntB 64 s.data.toList = .ok v) ∨ ((∃ t p, x = .iface t p) ∧ ∀ u, Lib.parseIntB 64 s.data.toList ≠ .ok u)) := by
  obtain ⟨tp, p, tq, q, h1, h2⟩ := hE
  have c1 : w.cell? ⟨1, 0, none⟩ = some (.iface tp p) := by have h0 := World.var?_cell gErrS h1 0; simpa using h0
  have c2 : w.cell? ⟨2, 0, none⟩ = some (.iface tq q) := by have h0 := World.var?_cell gErrR h2 0; simpa using h0
  cases h : Lib.parseIntB 64 s.data.toList
  all_goals first
    | exact (Any.strconv_ParseInt_10_at64_ok Tryd.laysC174 s (by omega) _ h w).mono fun e w' ⟨he, hw⟩ => ⟨_, _, he, bl_bytes hw, .inl ⟨rfl, rfl⟩⟩
    | exact (Any.strconv_ParseInt_10_at64_syntax Tryd.laysC174 s (by omega) h (.iface tp p) w c1 (.inr ⟨_, _, rfl⟩)).mono fun e w' ⟨N, he, _, _, hb⟩ => ⟨_, _, he, hb, .inr ⟨⟨_, _, rfl⟩, fun u hu => by cases hu⟩⟩
    | exact (Any.strconv_ParseInt_10_at64_range Tryd.laysC174 s (by omega) h (.iface tq q) w c2 (.inr ⟨_, _, rfl⟩)).mono fun e w' ⟨N, he, _, _, hb⟩ => ⟨_, _, he, hb, .inr ⟨⟨_, _, rfl⟩, fun u hu => by cases hu⟩⟩
set_option maxRecDepth 100000 in
set_option maxHeartbeats 4000000 in
theorem implReadDecimal_any (s : ByteArray) (w : World) (hs : s.size ≤ 1048576) (hT : PowT w) (hE : ErrT w) :
    Calls Tryd.prog 24 #[.string s] w fun e w' => e = .returned (.tuple #[.int .i64 (rdV s), .bool (rdOk s)]) ∧ Below w.heap.size w w' := by
  have cp := parseInt_any s w hs hE
  have Cp := Lib.hid cp; clear cp
  have HT := Lib.hid hT; clear hT
  clear hE
  go_enter Tryd.func24, Tryd.ntmps24
  go_wp2_with fail
  with_reducible (refine Cp.out.mono ?_)
  rintro _ w1 ⟨v, x, rfl, hb, hx⟩
  rcases hx with ⟨rfl, hp⟩ | ⟨⟨tt, pp, rfl⟩, hno⟩
  · cases hin : inB v (-1000000000) 1000000000
    · have hno : rdOk s = false := prd_out hp hin
      have Hp := Lib.hid hp; clear hp
      have Hno := Lib.hid hno; clear hno
      have Hin := Lib.hid hin; clear hin
      go_wp2_with fail
      with_reducible (refine (in_any _ _ _ _).mono ?_)
      rintro _ _ ⟨rfl, rfl⟩
      rw [Hin.out]
      go_wp2
      go_ret2
      exact ⟨rd_no Hno.out, hb⟩
    · obtain ⟨i1, i2⟩ := inB_of hin
      have cd := implDecimal_any v w1 (by omega) (by omega) (HT.out.bl hb)
      obtain ⟨d, hd⟩ : ∃ d, decS v = d := ⟨_, rfl⟩
      rw [hd] at cd
      by_cases e : d = s
      · have hok : rdOk s = true ∧ rdV s = v := prd_in i1 i2 (hd.trans e)
        have Hp := Lib.hid hp; clear hp
        have Hin := Lib.hid hin; clear hin
        have Hd := Lib.hid hd; clear hd
        have Cd := Lib.hid cd; clear cd
        obtain ⟨ho, hv⟩ := hok
        have Ho := Lib.hid ho; clear ho
        have Hv := Lib.hid hv; clear hv
        subst e
        go_wp2_with fail
        with_reducible (refine (in_any _ _ _ _).mono ?_)
        rintro _ _ ⟨rfl, rfl⟩
        rw [Hin.out]
        go_wp2_with fail
        with_reducible (refine Cd.out.mono ?_)
        rintro _ w2 ⟨rfl, hb2⟩
        go_wp2
        go_ret2
        exact ⟨by rw [Hv.out, Ho.out]; rfl, hb.trans (Joins.below_le hb2 hb.size)⟩
      · have hno : rdOk s = false := prd_ne hp (hd ▸ e)
        have hne : (d.toList == s.toList) = false := by rw [beq_eq_false_iff_ne]; exact fun h => e (toList_inj h)
        have Hp := Lib.hid hp; clear hp
        have Hno := Lib.hid hno; clear hno
        have Hin := Lib.hid hin; clear hin
        have Hd := Lib.hid hd; clear hd
        have Cd := Lib.hid cd; clear cd
        clear e
        go_wp2_with fail
        with_reducible (refine (in_any _ _ _ _).mono ?_)
        rintro _ _ ⟨rfl, rfl⟩
        rw [Hin.out]
        go_wp2_with fail
        with_reducible (refine Cd.out.mono ?_)
        rintro _ w2 ⟨rfl, hb2⟩
        go_wp2
        go_ret2
        exact ⟨rd_no Hno.out, hb.trans (Joins.below_le hb2 hb.size)⟩
  · have hn := prd_err hno
    have Hn := Lib.hid hn; clear hn
    have Hno := Lib.hid hno; clear hno
    go_wp2
    go_ret2
    exact ⟨rd_no Hn.out, hb⟩
end Go.Proofs.YtdjjfgkcheimjaaDoor
