/- Contract of the program's RunsOf. -/
import Derived.Test.YtakoklldmdbphaaRuns
import Derived.Test.YtakoklldmdbphaaLawIS
set_option linter.unusedVariables false
namespace Go.Proofs.Ytakoklldmdbphaa
open Go.RowKit

theorem OwnInts.at {B : Nat} {w : World} {v : Value} {l : List Int} (h : OwnInts B w v l) (hl : 0 < l.length) : ∃ g c, v = .slice (some ⟨g, 0, none⟩) l.length c ∧ B ≤ g ∧ g < w.heap.size ∧ (∀ i, i < l.length → w.cell? ⟨g, i, none⟩ = some (intAt l i)) ∧ ∀ i, w.frozen? ⟨g, i, none⟩ = false := by
  obtain ⟨p, c, rfl, ho⟩ := h
  rcases ho.2 with ⟨_, h0⟩ | ⟨g, cap, cur, hv, hb, hg, hn, hm, hs, _⟩
  · omega
  · simp only [Value.slice.injEq] at hv
    obtain ⟨rfl, _, rfl⟩ := hv
    refine ⟨g, c, rfl, hb, (Array.getElem?_eq_some_iff.1 hg).1, fun i hi => ?_, fun i => ho.frozenAt i⟩
    rw [ho.cellAt i (by omega), List.getElem?_eq_getElem (by rw [intCells_len]; exact hi), intCells_at]
/-- A variable in block ob that holds the runs of the call's own. -/
structure RunsIn (B : Nat) (w : World) (ob : Nat) (T : List Run) (p : Option Addr) (c : Nat) (vs : Nat → Value) : Prop where
  box : Box w ob (.slice p T.length c) 43
  own : OwnIntss B w (.slice p T.length c) (T.map runRow) vs
  ne0 : ∀ k, (Value.slice p T.length c).ownBlock = some k → k ≠ ob
  ne1 : ∀ i, i < T.length → ∀ k, (vs i).ownBlock = some k → k ≠ ob
def RunsAt (B : Nat) (w : World) (ob : Nat) (T : List Run) : Prop := ∃ p c vs, RunsIn B w ob T p c vs
theorem RunsIn.bl {B : Nat} {w w' : World} {ob : Nat} {T : List Run} {p : Option Addr} {c : Nat} {vs : Nat → Value} (h : RunsIn B w ob T p c vs) (hb : Below w.heap.size w w') : RunsIn B w' ob T p c vs := ⟨h.box.bl hb, h.own.bl hb, h.ne0, h.ne1⟩
theorem px_left {W H : Nat} {f : Nat → Bool} {x y : Nat} (hx : x < W) (hy : y < H) : px W H f ((x : Int) - 1) (y : Int) = (decide (x ≠ 0) && f (y * W + x - 1)) := by
  cases x with
  | zero =>
    have : hasB W H ((0 : Nat) - 1 : Int) (y : Int) = false := by simp [hasB, inB]
    rw [px, this]; rfl
  | succ x =>
    rw [show ((x + 1 : Nat) : Int) - 1 = (x : Int) by omega, px_at (by omega) hy]
    simp
theorem RunsIn.bump {B : Nat} {w : World} {ob : Nat} {T : List Run} {p : Option Addr} {c : Nat} {vs : Nat → Value} (h : RunsIn B w ob T p c vs) {k : Nat} (hk : T.length = k + 1) {g n d : Nat} (hv : vs k = .slice (some ⟨g, 0, none⟩) n d) (u : Int) (hu : (T.getD k (0, 0, 0)).2.2 = u) :
    RunsIn B (w.setCell ⟨g, 2, none⟩ (.int .i64 (u + 1))) ob (bumpT T) p c vs := by
  have hg : (vs k).ownBlock = some g := by rw [hv]; rfl
  have hne := h.ne1 k (by omega) g hg
  refine ⟨?_, ?_, ?_, ?_⟩
  · rw [bumpT_len]; exact h.box.other (a := ⟨g, 2, none⟩) (Ne.symm hne) _
  · rw [bumpT_len, map_bump T (by omega), show T.length - 1 = k by omega, hu]
    have := h.own.put (i := k) (by simp; omega) hv 2 (u + 1)
    simpa [hk] using this
  · rw [bumpT_len]; exact h.ne0
  · rw [bumpT_len]; exact h.ne1
theorem RunsIn.snoc {B : Nat} {w w2 : World} {ob : Nat} {T : List Run} {p : Option Addr} {c : Nat} {vs : Nat → Value} (h : RunsIn B w ob T p c vs) (t : Run) (hB : B ≤ w.heap.size) {g' cap : Nat}
    (hgr : (w.alloc (.cells #[.int .i64 t.1, .int .i64 t.2.1, .int .i64 t.2.2] 2)).grownBy w2 (Value.slice p T.length c).ownBlock)
    (hat : (Value.slice p T.length c).ownBlock = some g' ∨ (w.alloc (.cells #[.int .i64 t.1, .int .i64 t.2.1, .int .i64 t.2.2] 2)).heap.size ≤ g')
    (ho : w2.ownsRow B 37 1 (.slice (some ⟨g', 0, none⟩) (T.length + 1) cap) (T.length + 1) ((List.range T.length).map vs ++ [.slice (some ⟨w.heap.size, 0, none⟩) 3 3])) :
    ∃ vs', RunsIn B (w2.setCell ⟨ob, 0, none⟩ (.slice (some ⟨g', 0, none⟩) (T.length + 1) cap)) ob (T ++ [t]) (some ⟨g', 0, none⟩) cap vs' := by
  have hx : OwnInts w.heap.size (w.alloc (.cells #[.int .i64 t.1, .int .i64 t.2.1, .int .i64 t.2.2] 2)) (.slice (some ⟨w.heap.size, 0, none⟩) 3 3) (runRow t) :=
    OwnInts.of_blk (runRow t) (Blk.new _ _ _) rfl (Nat.le_refl _) (by simp [maxLen])
  have hlt := h.box.lt
  have hl : (T.map runRow).length = T.length := by simp
  have J := h.own.push (bl_alloc _ _) hx hB hgr (v' := .slice (some ⟨g', 0, none⟩) (T.length + 1) cap) (at_cases hat) ⟨_, _, by rw [hl]⟩ (by rw [hl]; exact ho)
  have hg' : g' ≠ ob := by
    rcases hat with e | e
    · exact h.ne0 g' e
    · simp at e; omega
  have hbx : Box w2 ob (.slice p T.length c) 43 := (h.box.alloc _).grown hgr (fun e => h.ne0 ob e.symm rfl)
  have hin : ∀ i, i < T.length + 1 → ∀ k, ((fun i => if i = (T.map runRow).length then (Value.slice (some ⟨w.heap.size, 0, none⟩) 3 3) else vs i) i).ownBlock = some k → k ≠ ob := by
    intro i hi k hk
    by_cases e : i = (T.map runRow).length
    · simp only [if_pos e, Value.ownBlock, Option.some.injEq] at hk
      omega
    · simp only [if_neg e] at hk
      exact h.ne1 i (by omega) k hk
  refine ⟨fun i => if i = (T.map runRow).length then Value.slice (some ⟨w.heap.size, 0, none⟩) 3 3 else vs i, ⟨?_, ?_, ?_, ?_⟩⟩
  · rw [List.length_append, List.length_singleton]; exact hbx.set _
  · rw [List.length_append, List.length_singleton, List.map_append]
    refine J.grown (gr_set w2 ob _) ?_ ?_
    · intro k hk e
      simp only [Value.ownBlock, Option.some.injEq] at hk e
      omega
    · intro i hi k hk e
      simp only [Option.some.injEq] at e
      exact hin i (by simpa using hi) k hk e
  · intro k hk
    simp only [Value.ownBlock, Option.some.injEq] at hk
    omega
  · intro i hi k hk
    exact hin i (by simpa using hi) k hk

set_option maxRecDepth 100000 in
set_option maxHeartbeats 2000000 in
theorem runs1_any (B mb ob m g W H : Nat) (f : Nat → Bool) (x y : Nat) (w : World) (t1 : TypeId) (hm : Box w mb (.pointer (some ⟨m, 0, none⟩)) t1) (hI : Img w m g W H f) (hl : RunsAt B w ob (runsTo W f (y * W + x)))
    (hx : x < W) (hy : y < H) (hB : B ≤ w.heap.size) (hob : B ≤ ob) :
    Calls Try.prog 128 #[.int .i64 x, .int .i64 y, .pointer (some ⟨mb, 0, none⟩), .pointer (some ⟨ob, 0, none⟩)] w fun e w' => e = .returned (.tuple #[]) ∧ RunsAt B w' ob (runsTo W f (y * W + x + 1)) ∧ Below B w w' := by
  have m0 := hm.cell
  have hget := fun k => (get_any m g W H f (x : Int) (y : Int) (w.drewN k) (hI.drewN k)).mono (fun e w' q => (⟨q.1.trans (by rw [px_at hx hy]), q.2⟩ : e = .returned (.bool (f (y * W + x))) ∧ ∃ n, w' = (w.drewN k).drewN n))
  have hget0 := (get_any m g W H f (x : Int) (y : Int) w hI).mono (fun e w' q => (⟨q.1.trans (by rw [px_at hx hy]), q.2⟩ : e = .returned (.bool (f (y * W + x))) ∧ ∃ n, w' = w.drewN n))
  have hget2 := fun k => (get_any m g W H f ((x : Int) - 1) (y : Int) (w.drewN k) (hI.drewN k)).mono (fun e w' q => (⟨q.1.trans (by rw [px_left hx hy]), q.2⟩ : e = .returned (.bool (decide (x ≠ 0) && f (y * W + x - 1))) ∧ ∃ n, w' = (w.drewN k).drewN n))
  have hW := hI.w16
  clear hget
  obtain ⟨p, c, vs, J⟩ := hl
  have o0 := J.box.cell
  have o1 := J.box.frozen
  have hlen : (runsTo W f (y * W + x)).length ≤ 256 := by have := runsTo_len W f (y * W + x); have := at_lt hx hy; have := mul_256 hI.w16 hI.h16; omega
  cases hb : f (y * W + x)
  · rw [hb] at hget0
    have hr := runsTo_white (W := W) hb
    have Hget0 := Lib.hid hget0; clear hget0
    have Hget2 := Lib.hid hget2; clear hget2
    have Hb := Lib.hid hb; clear hb
    have Hr := Lib.hid hr; clear hr
    go_enter Try.func128, Try.ntmps128
    go_wp2_with fail
    with_reducible (refine Hget0.out.mono ?_)
    rintro e w1 ⟨rfl, k, rfl⟩
    go_wp2
    go_end0
    exact ⟨rfl, by rw [Hr.out]; exact ⟨p, c, vs, J.bl (bl_drewN _ k)⟩, below_drewN (Below.refl _ _) k⟩
  · rw [hb] at hget0
    have hl : (List.map runRow (runsTo W f (y * W + x))).length = (runsTo W f (y * W + x)).length := by simp
    cases hb2 : (decide (x ≠ 0) && f (y * W + x - 1))
    · have hr := runsTo_new hx hb (by
        by_cases e : x = 0
        · exact .inl e
        · exact .inr (by simpa [e] using hb2))
      simp only [hb2] at hget2
      obtain ⟨T, eT⟩ : ∃ T, runsTo W f (y * W + x) = T := ⟨_, rfl⟩
      rw [eT] at J o0 hr hlen hl
      have Hget0 := Lib.hid hget0; clear hget0
      have Hget2 := Lib.hid hget2; clear hget2
      have Hb := Lib.hid hb; clear hb
      have Hb2 := Lib.hid hb2; clear hb2
      have Hr := Lib.hid hr; clear hr
      have ET := Lib.hid eT; clear eT
      go_enter Try.func128, Try.ntmps128
      go_wp2_with fail
      with_reducible (refine Hget0.out.mono ?_)
      rintro e w1 ⟨rfl, k1, rfl⟩
      go_wp2_with fail
      with_reducible (refine (Hget2.out _).mono ?_)
      rintro e w1 ⟨rfl, k2, rfl⟩
      have J2 := J.bl (bl_drewN w (k1 + k2))
      obtain ⟨_, _, hv, hown⟩ := J2.own.own
      rw [hl] at hown
      have hown2 := own_below hown (bl_alloc (w.drewN (k1 + k2)) (.cells #[.int .i64 y, .int .i64 x, .int .i64 1] 2)) (Nat.le_refl _)
      clear hv hl
      go_wp2_with (at_builtin; refine wpList_pushA (w.heap.size + 1) (by simp) rfl _ _ 43 rfl B 37 (.slice none 0 0) 1 24 Try.underlying43 info_ints rfl (by decide) (.slice p T.length c) T.length _ rfl hown2 _ 1 rfl rfl (one_slice _ _ _) (by omega) (by simp [maxLen]; omega) (by simp; omega) ?_; intro g' cap w2 hown3 hgr hat hlt2; have bx := (J2.box.alloc _).grown hgr (fun e => J2.ne0 ob e.symm rfl); have e2 := bx.cell; have f2 := bx.frozen)
      go_end0
      obtain ⟨vs', J3⟩ := J2.snoc ((y : Int), (x : Int), 1) hB hgr hat hown3
      refine ⟨rfl, by rw [Hr.out]; exact ⟨_, _, vs', J3⟩, ?_⟩
      exact (below_own ((below_drewN (Below.refl _ _) _).alloc (by simpa using hB) _) hgr (own_ge hown2) (by simp; omega)).setCell hob _
    · have hx0 : x ≠ 0 := by rintro rfl; simp at hb2
      have hp : f (y * W + x - 1) = true := by simpa [hx0] using hb2
      have hr := runsTo_more hx hb hx0 hp
      have hpos := runsTo_pos W f (y * W + x - 1) hp
      rw [show y * W + x - 1 + 1 = y * W + x by omega] at hpos
      have hbd := runsTo_bd W f (y * W + x)
      have hN : y * W + x ≤ 256 := by have := at_lt hx hy; have := mul_256 hI.w16 hI.h16; omega
      simp only [hb2] at hget2
      obtain ⟨T, eT⟩ : ∃ T, runsTo W f (y * W + x) = T := ⟨_, rfl⟩
      rw [eT] at J o0 hr hlen hpos hbd hl
      obtain ⟨k, hk⟩ : ∃ k, T.length = k + 1 := ⟨T.length - 1, by omega⟩
      have hbk := hbd (T.getD k (0, 0, 0)) (by simp [List.getD, List.getElem?_eq_getElem (show k < T.length by omega)])
      obtain ⟨b, o, rfl, hbl, hc⟩ := J.own.rd.at (k := k) (by omega)
      have hck := hc k (by omega)
      have hin := J.own.inner k (by omega)
      rw [getD_runs (by omega)] at hin
      obtain ⟨g2, d2, hv, hg2, hlt2, hcc, hff⟩ := hin.at (by simp [runRow])
      have hc2 : w.cell? ⟨g2, 2, none⟩ = some (.int .i64 (T.getD k (0, 0, 0)).2.2) := hcc 2 (by simp [runRow])
      have hf2 := hff 2
      have hJ := fun n => (J.bl (bl_drewN w n)).bump hk hv _ rfl
      generalize (T.getD k (0, 0, 0)).2.2 = u at *
      rw [hv] at hck
      rw [hk] at o0
      have hk2 : k + 1 ≤ 256 := by omega
      obtain ⟨hb1, hb2'⟩ := hbk
      rw [show (runRow (T.getD k (0, 0, 0))).length = 3 by rfl] at hck
      have Hget0 := Lib.hid hget0; clear hget0
      have Hget2 := Lib.hid hget2; clear hget2
      have Hb := Lib.hid hb; clear hb
      have Hb2 := Lib.hid hb2; clear hb2
      have Hr := Lib.hid hr; clear hr
      have ET := Lib.hid eT; clear eT
      have HJ := Lib.hid hJ; clear hJ
      have Hk := Lib.hid hk; clear hk
      clear hc hcc hff hv hin hbd hl hp
      go_enter Try.func128, Try.ntmps128
      go_wp2_with fail
      with_reducible (refine Hget0.out.mono ?_)
      rintro e w1 ⟨rfl, k1, rfl⟩
      go_wp2_with fail
      with_reducible (refine (Hget2.out _).mono ?_)
      rintro e w1 ⟨rfl, k2, rfl⟩
      go_wp2
      go_end0
      exact ⟨rfl, by rw [Hr.out]; exact ⟨_, _, vs, HJ.out _⟩, (below_drewN (Below.refl _ _) _).setCell hg2 _⟩
theorem callFunc_runs1 : ∀ args w, (callFunc 128 args).run Try.prog w = .ok (.enter 128 args) w := fun args w => by kernel_rfl
set_option maxRecDepth 100000 in
set_option maxHeartbeats 2000000 in
theorem runs_any (m g W H : Nat) (f : Nat → Bool) (w : World) (h : Img w m g W H f) :
    Calls Try.prog 82 #[.pointer (some ⟨m, 0, none⟩)] w fun e w' => ∃ v, e = .returned v ∧ OwnSS w.heap.size w' v ((runsTo W f (W * H)).map runRow) ∧ Below w.heap.size w w' := by
  have hsf := callFunc_runs1
  have hlt := h.lt
  go_enter Try.func82, Try.ntmps82
  go_wp2_with fail
  have M0 := ((Box.new w (.pointer (some ⟨m, 0, none⟩)) 90).alloc (.cells #[] 37)).alloc (.cells #[.slice (some ⟨w.heap.size + 1, 0, none⟩) 0 0] 43)
  have O0 := Box.new ((w.alloc (.cells #[.pointer (some ⟨m, 0, none⟩)] 90)).alloc (.cells #[] 37)) (.slice (some ⟨w.heap.size + 1, 0, none⟩) 0 0) 43
  have R0 := (World.ownsRow_made (base := w.heap.size + 1) (size := 1) (e := 37) (w.alloc (.cells #[.pointer (some ⟨m, 0, none⟩)] 90)) #[] 0 (by simp) (by decide) rfl).alloc (.cells #[.slice (some ⟨w.heap.size + 1, 0, none⟩) 0 0] 43)
  simp only [World.size_alloc] at O0 R0
  have S := (((Since.refl w).alloc (.cells #[.pointer (some ⟨m, 0, none⟩)] 90)).alloc (.cells #[] 37)).alloc (.cells #[.slice (some ⟨w.heap.size + 1, 0, none⟩) 0 0] 43)
  have S1 := S.below
  generalize (((w.alloc (.cells #[.pointer (some ⟨m, 0, none⟩)] 90)).alloc (.cells #[] 37)).alloc (.cells #[.slice (some ⟨w.heap.size + 1, 0, none⟩) 0 0] 43)) = w0 at *
  have hI0 := h.below S1 hlt.1 hlt.2
  have hsz0 := M0.lt
  have hsz1 := O0.lt
  refine (each_any 128 m g W H _ (fun n w' => Box w' w.heap.size (.pointer (some ⟨m, 0, none⟩)) 90 ∧ Img w' m g W H f ∧ RunsAt (w.heap.size + 1) w' (w.heap.size + 1 + 1) (runsTo W f n) ∧ Below w.heap.size w w' ∧ w.heap.size + 1 ≤ w'.heap.size) _ h.w16 h.h16 hsf ?_ ?_ ?_).mono ?_
  · exact fun n w' J => ⟨J.2.1.c0, J.2.1.c1⟩
  · intro x y w' hx hy ⟨J1, J2, J3, J4, J5⟩
    refine (runs1_any (w.heap.size + 1) w.heap.size (w.heap.size + 1 + 1) m g W H f x y w' _ J1 J2 J3 hx hy J5 (by omega)).mono ?_
    rintro e w'' ⟨rfl, K1, K2⟩
    exact ⟨rfl, J1.below K2 (by omega), J2.below K2 (by omega) (by omega), K1, J4.trans (K2.mono (by omega)), Nat.le_trans J5 K2.size⟩
  · exact ⟨M0, hI0, ⟨_, _, _, ⟨O0, OwnIntss.start R0 ⟨_, _, rfl⟩, by intro k hk; simp only [Value.ownBlock, Option.some.injEq] at hk; omega, fun i hi => absurd hi (Nat.not_lt_zero _)⟩⟩, S1, by omega⟩
  · rintro e w2 ⟨rfl, J1, J2, ⟨p, c, vs, J3⟩, J6, J7⟩
    have e0 := J3.box.cell
    go_wp2
    go_ret
    exact ⟨_, rfl, ⟨vs, J3.own.mono (by omega)⟩, J6⟩
set_option maxHeartbeats 1000000 in
theorem runsOf_any (p : Option Addr) (c : Nat) (ss : List ByteArray) (w : World) (hn : ss.length ≤ 1048576) (hs : ∀ s ∈ ss, s.size ≤ 1048576) (hr : Rd w p ss.length (strAt ss)) :
    Calls Try.prog 29 #[.agg #[.slice p ss.length c]] w fun e w' => ∃ v, e = .returned (.tuple #[v, .bool (okPic ss)]) ∧ OwnSS w.heap.size w' v (runsL ss) ∧ Below w.heap.size w w' := by
  go_enter Try.func29, Try.ntmps29
  go_wp2_with fail
  refine (imageOf_any p c ss _ hn hs (hr.alloc _)).mono ?_
  rintro e w1 ⟨hb, ⟨h, rfl⟩ | ⟨h, m, g, rfl, hI, hm, hg⟩⟩
  · have hb1 := below_a1 hb
    have H := Lib.hid h; clear h
    go_wp2
    go_ret2
    exact ⟨_, by rw [H.out]; rfl, by rw [runsL, runsLT, H.out]; exact ⟨_, OwnIntss.nil _ _⟩, hb1⟩
  · have hb1 := below_a1 hb
    have H := Lib.hid h; clear h
    go_wp2_with fail
    refine (runs_any m g _ _ _ w1 hI).mono ?_
    rintro e w2 ⟨v, rfl, ⟨vs, ho⟩, hb2⟩
    have hb3 := bl_trans hb1 hb2
    have hs1 := hb1.size
    go_wp2
    go_ret2
    exact ⟨_, by rw [H.out]; rfl, by rw [runsL, runsLT, if_pos H.out]; exact ⟨vs, ho.mono hs1⟩, hb3⟩
end Go.Proofs.Ytakoklldmdbphaa
