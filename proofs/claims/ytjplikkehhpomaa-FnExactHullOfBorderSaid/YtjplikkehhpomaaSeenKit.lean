/- A map of the call's own, from steps to bools, as the set of the steps seen. -/
import Derived.Test.YtjplikkehhpomaaTriKit
import Derived.Maps.OwnOps
import Derived.Maps.Views
import Derived.Maps.OwnSet
import Derived.DeepKeys5
set_option linter.unusedVariables false
namespace Go.Proofs.Ytjplikkehhpomaa
open Go.RowKit Go.Maps

theorem edge_laid : laidOutB Try.prog = true := by kernel_rfl
theorem types_small : Try.prog.types.size + 2 ≤ 10000 := of_decide_eq_true (by kernel_rfl)
theorem types_three : ∃ m, Try.prog.types.size = m + 3 := ⟨Try.prog.types.size - 3, (Nat.sub_add_cancel (of_decide_eq_true (by kernel_rfl))).symm⟩
theorem edge_row : 56 < Try.prog.types.size := of_decide_eq_true (by kernel_rfl)
theorem edge_key : Try.prog.keyType 56 = true := by kernel_rfl
theorem edge_c3 : Try.prog.cellsOf 56 = 3 := by kernel_rfl
theorem edge_c2 : Try.prog.cellsOf 28 = 2 := by kernel_rfl
theorem edge_c1 : Try.prog.cellsOf 2 = 1 := by kernel_rfl
theorem edge_c0 : Try.prog.cellsOf 3 = 1 := by kernel_rfl
theorem edge_keyed : Keyed Try.prog 56 :=
  Keyed.of_law (deep_law_gate edge_laid types_small edge_row edge_key (by rw [Try.underlying56]))
/-- The value of a step. -/
def triVal (q : Int × Int × Int) : Value := .agg #[.int .i64 q.1, .int .i64 q.2.1, .int .i64 q.2.2]
theorem triVal_inj {a b : Int × Int × Int} (h : triVal a = triVal b) : a = b := by
  simp only [triVal, Value.agg.injEq, Array.mk.injEq, List.cons.injEq, Value.int.injEq, true_and, and_true] at h
  obtain ⟨h1, h2, h3⟩ := h
  exact Prod.ext h1 (Prod.ext h2 h3)
def smallT (q : Int × Int × Int) : Prop := (-9223372036854775808 ≤ q.1 ∧ q.1 ≤ 9223372036854775807) ∧ (-9223372036854775808 ≤ q.2.1 ∧ q.2.1 ≤ 9223372036854775807) ∧ (-9223372036854775808 ≤ q.2.2 ∧ q.2.2 ≤ 9223372036854775807)
theorem lit_i64 {x : Int} (h : -9223372036854775808 ≤ x ∧ x ≤ 9223372036854775807) : (Lit.int .i64 x).wf = true := by
  simp only [Lit.wf, Bool.and_eq_true, decide_eq_true_eq]
  exact ⟨h.1, h.2⟩
theorem keyLits_struct {P : Program} {t a b : TypeId} {fs : Array Field} {x y : Field} (hu : P.underlying t = some (.struct fs)) (hfs : fs = #[x, y]) (hx : x.name != "_") (hy : y.name != "_")
    (d : Nat) (u v : List Value) (hc : P.cellsOf t = u.length + v.length) (ha : x.type = a) (hb : y.type = b) (hxo : x.offset = 0) (hyo : y.offset = u.length) (hu1 : P.cellsOf a = u.length) (hv1 : P.cellsOf b = v.length) {lu lv : List Lit}
    (h1 : P.keyLits d a u = some lu) (h2 : P.keyLits d b v = some lv) : P.keyLits (d + 1) t (u ++ v) = some (lu ++ lv) := by
  subst ha hb hfs
  have e : (u ++ v).length = P.cellsOf t ∧ (#[x, y] : Array Field).all (fun f => f.name != "_") = true := ⟨by rw [List.length_append, hc], by simpa using ⟨by simpa using hx, by simpa using hy⟩⟩
  unfold Program.keyLits
  rw [hu]
  simp only [if_pos e, hxo, hyo, List.mapM_cons, List.mapM_nil, List.drop_zero, hu1, hv1, List.drop_left, List.take_left, List.take_length, h1, h2]
  simp
theorem keyLits_int {P : Program} {t : TypeId} (hu : P.underlying t = some (.int .i64)) (d : Nat) {x : Int} (h : (Lit.int .i64 x).wf = true) : P.keyLits (d + 1) t [.int .i64 x] = some [.int .i64 x] := by
  unfold Program.keyLits
  rw [hu]
  simp [h]
theorem keyOf_edge {q : Int × Int × Int} (h : smallT q) : ∃ kl, keyOf Try.prog 56 (triVal q) = some kl := by
  obtain ⟨h1, h2, h3⟩ := h
  obtain ⟨m, hm⟩ := types_three
  have k1 := keyLits_struct (P := Try.prog) Try.underlying28 rfl rfl rfl (m + 2) [.int .i64 q.1] [.int .i64 q.2.1] edge_c2 rfl rfl rfl rfl edge_c1 edge_c1 (keyLits_int Try.underlying2 (m + 1) (lit_i64 h1)) (keyLits_int Try.underlying2 (m + 1) (lit_i64 h2))
  have k2 := keyLits_struct (P := Try.prog) Try.underlying56 rfl rfl rfl (m + 3) [.int .i64 q.1, .int .i64 q.2.1] [.int .i64 q.2.2] edge_c3 rfl rfl rfl rfl edge_c2 edge_c0 k1 (keyLits_int Try.underlying3 (m + 2) (lit_i64 h3))
  have hf : (triVal q).formed Try.prog 56 = true := by
    unfold triVal Value.formed
    rw [Try.underlying56, edge_c3]
    rfl
  refine Option.isSome_iff_exists.1 ?_
  unfold keyOf
  rw [Try.underlying56]
  simp only [edge_key, hf, Bool.and_self, if_true, hm]
  rw [show (triVal q).cells.toList = [.int .i64 q.1, .int .i64 q.2.1] ++ [.int .i64 q.2.2] from rfl, k2]
  rfl
theorem plainElem_bool_inv {H : Type} {P : Program} {e : TypeId} (he : P.underlying e = some .bool) {v : Value} {z : DataW H × List MemPlace} (h : plainElem P e v = some z) : ∃ a, v = .bool a ∧ z = (.lit (.bool a), []) := by
  unfold plainElem at h
  rw [he] at h
  cases v <;> simp at h
  exact ⟨_, rfl, h.symm⟩
/-- Block b is a map of at most n steps, at true the ones of S. -/
def Seen (w : World) (b n : Nat) (S : Int × Int × Int → Prop) : Prop :=
  ∃ D : DataW Unit, w.ownsMap Try.prog 56 (plainElem Try.prog 4) b n D ∧ ∀ q kl, keyOf Try.prog 56 (triVal q) = some kl → ∃ c : Bool, D.atKey kl (.lit (.bool false)) = .lit (.bool c) ∧ (c = true ↔ S q)
theorem Seen.lt {w : World} {b n : Nat} {S : Int × Int × Int → Prop} (h : Seen w b n S) : b < w.heap.size := by
  obtain ⟨D, h, _⟩ := h
  exact h.lt
theorem Seen.bl {w w' : World} {b n : Nat} {S : Int × Int × Int → Prop} (h : Seen w b n S) (hb : Below w.heap.size w w') : Seen w' b n S := by
  have hlt := h.lt
  obtain ⟨D, ⟨es, clock, e, r⟩, hS⟩ := h
  exact ⟨D, ⟨es, clock, (hb.block b hlt).trans e, r⟩, hS⟩
theorem Seen.congr {w : World} {b n : Nat} {S S' : Int × Int × Int → Prop} (h : Seen w b n S) (e : ∀ q, S q ↔ S' q) : Seen w b n S' := by
  obtain ⟨D, h, hS⟩ := h
  refine ⟨D, h, fun q kl hk => ?_⟩
  obtain ⟨c, h1, h2⟩ := hS q kl hk
  exact ⟨c, h1, h2.trans (e q)⟩
theorem Seen.made (w : World) : Seen (w.alloc (.map #[] 0)) w.heap.size 0 (fun _ => False) :=
  ⟨_, World.ownsMap_made _ _ _ _, fun q kl _ => ⟨false, rfl, by simp⟩⟩
theorem wpList_lookB {P : Program} (w : World) {ops : Array Oper} {rest : List Oper} {o : Oper} {a : Act} {Q : Exit → Act → World → Prop} (hg : o.guard = none) (m x : Operand) (t : TypeId) (hop : o.op = Op.lookup t m x false)
    (b : Nat) (key : Value) (c : Bool) (hm : a.eval m = .map (some b)) (hx : a.eval x = key) (hrun : (Instr.lookup t (.map (some b)) key false).run P w = .ok (.bool c) w)
    (hK : wpList P ops Q rest (a.put o.dst (.bool c)) w) : wpList P ops Q (o :: rest) a w := by
  refine wpList_plain hg fun K' hK' => ?_
  unfold Oper.wp
  simp [execOp, hop, hm, hx, hrun, Result.andThen]
  exact hK' _ _ hK
theorem wpList_putB {P : Program} (w : World) {ops : Array Oper} {rest : List Oper} {o : Oper} {a : Act} {Q : Exit → Act → World → Prop} (hg : o.guard = none) (m x v : Operand) (t : TypeId) (hop : o.op = Op.mapUpdate t m x v)
    (b : Nat) (key val : Value) (w' : World) (hm : a.eval m = .map (some b)) (hx : a.eval x = key) (hv : a.eval v = val) (hrun : (Instr.mapUpdate t (.map (some b)) key val).run P w = .ok () w')
    (hK : wpList P ops Q rest (a.put o.dst undef) w') : wpList P ops Q (o :: rest) a w := by
  refine wpList_plain hg fun K' hK' => ?_
  unfold Oper.wp
  simp [execOp, hop, hm, hx, hv, hrun, Result.andThen]
  exact hK' _ _ hK
theorem seen_run {w : World} {b n : Nat} {S : Int × Int × Int → Prop} (hown : Seen w b n S) (t : TypeId) (ht : Try.prog.underlying t = some (.map 56 4)) (q : Int × Int × Int) (hq : smallT q) :
    ∃ c : Bool, (c = true ↔ S q) ∧ (Instr.lookup t (.map (some b)) (triVal q) false).run Try.prog w = .ok (.bool c) w := by
  obtain ⟨D, hown, hS⟩ := hown
  obtain ⟨kl, hkey⟩ := keyOf_edge hq
  obtain ⟨v, ps, hrun, hv⟩ := hown.lookup edge_keyed ht (Try.zeroValue4 w) (plainElem_bool Try.underlying4 false) hkey
  obtain ⟨c, rfl, hc⟩ := plainElem_bool_inv Try.underlying4 hv
  rw [Prod.mk.injEq] at hc
  obtain ⟨c', h1, h2⟩ := hS q kl hkey
  have e : c = c' := Lit.bool.inj (DataW.lit.inj (hc.1.symm.trans h1))
  exact ⟨c, e ▸ h2, hrun⟩
set_option maxRecDepth 100000 in
theorem see_run {w : World} {b n : Nat} {S : Int × Int × Int → Prop} (hown : Seen w b n S) (t : TypeId) (ht : Try.prog.underlying t = some (.map 56 4)) (hn : n < maxLen) (q : Int × Int × Int) (hq : smallT q) :
    ∃ w', (Instr.mapUpdate t (.map (some b)) (triVal q) (.bool true)).run Try.prog w = .ok () w' ∧ Seen w' b (n + 1) (fun q' => q' = q ∨ S q') ∧ w.grownBy w' (some b) := by
  obtain ⟨D, hown, hS⟩ := hown
  obtain ⟨kl, hkey⟩ := keyOf_edge hq
  obtain ⟨w', hrun, r1, r2⟩ := hown.update edge_keyed ht hn hkey (plainElem_bool Try.underlying4 true)
  refine ⟨w', hrun, ⟨_, r1, fun q' kl' hk' => ?_⟩, r2⟩
  by_cases e : kl' = kl
  · subst e
    have : q' = q := triVal_inj (edge_keyed.inj hk' hkey)
    exact ⟨true, atKey_put_same hown.isMap (edge_keyed.key hkey) _ _, by simp [this]⟩
  · obtain ⟨c, h1, h2⟩ := hS q' kl' hk'
    refine ⟨c, by rw [atKey_put_other e]; exact h1, h2.trans ?_⟩
    constructor
    · exact .inr
    · rintro (rfl | h)
      · rw [hk'] at hkey
        exact absurd (Option.some.inj hkey) e
      · exact h
end Go.Proofs.Ytjplikkehhpomaa
