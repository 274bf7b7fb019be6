/- Contracts on lists of spots: those of an image, and the laws' helpers. -/
import Derived.Test.YtnenogpagkepfaaEach
set_option linter.unusedVariables false
namespace Go.Proofs.Ytnenogpagkepfaa
open Go.RowKit

/-- The cells of a list of spots. -/
def spotCells (l : List (Int × Int)) : List Value := l.flatMap fun s => [.int .i64 s.1, .int .i64 s.2]
theorem spotCells_len (l : List (Int × Int)) : (spotCells l).length = l.length * 2 := by
  induction l with
  | nil => rfl
  | cons a l ih => simp [spotCells, List.flatMap_cons] at ih ⊢; omega
theorem spotCells_snoc (l : List (Int × Int)) (x y : Int) : spotCells (l ++ [(x, y)]) = spotCells l ++ [.int .i64 x, .int .i64 y] := by simp [spotCells]
/-- The cell i of a list of spots. -/
def spotAt (l : List (Int × Int)) (i : Nat) : Value := .int .i64 (if i % 2 = 0 then (l.getD (i / 2) (0, 0)).1 else (l.getD (i / 2) (0, 0)).2)
theorem spotAt_x (l : List (Int × Int)) (k : Nat) : spotAt l (k * 2) = .int .i64 (l.getD k (0, 0)).1 := by simp [spotAt]
theorem spotAt_y (l : List (Int × Int)) (k : Nat) : spotAt l (k * 2 + 1) = .int .i64 (l.getD k (0, 0)).2 := by
  unfold spotAt
  rw [if_neg (by omega), show (k * 2 + 1) / 2 = k by omega]
theorem spotCells_at (l : List (Int × Int)) : ∀ i (hi : i < (spotCells l).length), (spotCells l)[i] = spotAt l i := by
  induction l with
  | nil => intro i hi; simp [spotCells] at hi
  | cons a l ih =>
    intro i hi
    have e : spotCells (a :: l) = .int .i64 a.1 :: .int .i64 a.2 :: spotCells l := by simp [spotCells]
    match i with
    | 0 => simp [e, spotAt]
    | 1 => simp [e, spotAt]
    | j + 2 =>
      have hj : j < (spotCells l).length := by rw [e] at hi; simp at hi; omega
      have : (spotCells (a :: l))[j + 2] = (spotCells l)[j] := by simp [e]
      rw [this, ih j hj]
      simp [spotAt, show (j + 2) / 2 = j / 2 + 1 by omega, show (j + 2) % 2 = j % 2 by omega]

/-- The black ones of the first n pixels. -/
def spotsTo (W : Nat) (f : Nat → Bool) (n : Nat) : List (Int × Int) := (List.range n).filterMap fun i => if f i then some (((i % W : Nat) : Int), ((i / W : Nat) : Int)) else none
theorem spotsTo_succ (W : Nat) (f : Nat → Bool) (n : Nat) : spotsTo W f (n + 1) = spotsTo W f n ++ (if f n then [(((n % W : Nat) : Int), ((n / W : Nat) : Int))] else []) := by
  unfold spotsTo
  rw [List.range_succ, List.filterMap_append]
  congr 1
  by_cases h : f n <;> simp [h]
theorem spotsTo_len (W : Nat) (f : Nat → Bool) (n : Nat) : (spotsTo W f n).length ≤ n := by
  have := List.length_filterMap_le (fun i => if f i then some (((i % W : Nat) : Int), ((i / W : Nat) : Int)) else none) (List.range n)
  simpa [spotsTo] using this
theorem at_mod {W x y : Nat} (hx : x < W) : (y * W + x) % W = x ∧ (y * W + x) / W = y :=
  ⟨by rw [Nat.mul_comm, Nat.mul_add_mod, Nat.mod_eq_of_lt hx], by rw [Nat.mul_comm, Nat.mul_add_div (by omega), Nat.div_eq_of_lt hx, Nat.add_zero]⟩

theorem info_spot : (Try.prog.info? 143).map (fun i => (i.zero, i.size, i.bytes)) = some (some (.agg #[.int .i64 0, .int .i64 0]), 2, 16) := by kernel_rfl

/-- A slice of spots of the call's own, from block B on. -/
def OwnSpots (B : Nat) (w : World) (v : Value) (l : List (Int × Int)) : Prop :=
  ∃ p c, v = .slice p l.length c ∧ w.ownsRow B 143 2 v l.length (spotCells l)
theorem OwnSpots.bl {B : Nat} {w w' : World} {v : Value} {l : List (Int × Int)} (h : OwnSpots B w v l) (hb : Below w.heap.size w w') : OwnSpots B w' v l := by
  obtain ⟨p, c, hv, ho⟩ := h
  exact ⟨p, c, hv, own_below ho hb (Nat.le_refl _)⟩
theorem OwnSpots.mono {B B' : Nat} {w : World} {v : Value} {l : List (Int × Int)} (h : OwnSpots B w v l) (hb : B' ≤ B) : OwnSpots B' w v l := by
  obtain ⟨p, c, hv, ho⟩ := h
  exact ⟨p, c, hv, own_mono ho hb⟩
theorem OwnSpots.nil (B : Nat) (w : World) : OwnSpots B w (.slice none 0 0) [] := ⟨none, 0, rfl, World.ownsRow_nil _ _ _ _⟩
theorem OwnSpots.form {B : Nat} {w : World} {v : Value} {l : List (Int × Int)} (h : OwnSpots B w v l) : ∃ p c, v = .slice p l.length c := by
  obtain ⟨p, c, hv, _⟩ := h
  exact ⟨p, c, hv⟩
theorem OwnSpots.ge {B : Nat} {w : World} {v : Value} {l : List (Int × Int)} (h : OwnSpots B w v l) : ∀ k, v.ownBlock = some k → B ≤ k ∧ k < w.heap.size := by
  obtain ⟨p, c, hv, ho⟩ := h
  exact ho.lt
theorem OwnSpots.rd {B : Nat} {w : World} {p : Option Addr} {n c : Nat} {l : List (Int × Int)} (h : OwnSpots B w (.slice p n c) l) : Rd w p (l.length * 2) (spotAt l) := by
  obtain ⟨p', c', hv, ho⟩ := h
  simp only [Value.slice.injEq] at hv
  obtain ⟨rfl, rfl, rfl⟩ := hv
  have := Rd.of_own ho (spotCells_at l)
  rwa [spotCells_len] at this
theorem OwnSpots.grown {B : Nat} {w w' : World} {v : Value} {l : List (Int × Int)} (h : OwnSpots B w v l) {r : Option Nat} (hg : w.grownBy w' r) (hr : ∀ k, v.ownBlock = some k → some k ≠ r) : OwnSpots B w' v l := by
  obtain ⟨p, c, hv, ho⟩ := h
  refine ⟨p, c, hv, ho.kept hg ?_⟩
  cases hk : v.ownBlock with
  | none => exact .inl rfl
  | some k => exact .inr (hr k hk)

/-- A variable in block ob that holds a slice of spots of the call's own. -/
def SpotsIn (B : Nat) (w : World) (ob : Nat) (l : List (Int × Int)) : Prop :=
  ∃ p c, Box w ob (.slice p l.length c) 125 ∧ w.ownsRow B 143 2 (.slice p l.length c) l.length (spotCells l) ∧ p ≠ some ⟨ob, 0, none⟩

set_option maxHeartbeats 2000000 in
theorem spots1_any (B mb ob m g W H : Nat) (f : Nat → Bool) (x y : Nat) (l : List (Int × Int)) (w : World) (t1 : TypeId) (hm : Box w mb (.pointer (some ⟨m, 0, none⟩)) t1) (hI : Img w m g W H f) (hl : SpotsIn B w ob l)
    (hx : x < W) (hy : y < H) (hB : B ≤ w.heap.size) (hob : B ≤ ob) (hlen : l.length ≤ 256) :
    Calls Try.prog 115 #[.int .i64 x, .int .i64 y, .pointer (some ⟨mb, 0, none⟩), .pointer (some ⟨ob, 0, none⟩)] w fun e w' => e = .returned (.tuple #[]) ∧ SpotsIn B w' ob (l ++ if f (y * W + x) then [((x : Int), (y : Int))] else []) ∧ Below B w w' := by
  have m0 := hm.cell
  have hget := (get_any m g W H f (x : Int) (y : Int) w hI).mono (fun e w' q => (⟨q.1.trans (by rw [px_at hx hy]), q.2⟩ : e = .returned (.bool (f (y * W + x))) ∧ ∃ n, w' = w.drewN n))
  obtain ⟨p, c, ho, hown, hne⟩ := hl
  have hne' := own_ne_ptr hown hne
  have o0 := ho.cell
  have o1 := ho.frozen
  cases hb : f (y * W + x)
  · rw [hb] at hget
    have Hget := Lib.hid hget; clear hget
    have Hb := Lib.hid hb; clear hb
    go_enter Try.func115, Try.ntmps115
    go_wp2_with fail
    refine Hget.out.mono ?_
    rintro e w1 ⟨rfl, k, rfl⟩
    go_wp2
    go_end0
    exact ⟨rfl, ⟨p, c, ho.drew k, own_drewN hown k, hne⟩, below_drewN (Below.refl _ _) k⟩
  · rw [hb] at hget
    have Hget := Lib.hid hget; clear hget
    have Hb := Lib.hid hb; clear hb
    go_enter Try.func115, Try.ntmps115
    go_wp2_with fail
    refine Hget.out.mono ?_
    rintro e w1 ⟨rfl, k, rfl⟩
    go_wp2_with (at_builtin; refine wpList_push rfl _ _ 125 rfl B 143 (.agg #[.int .i64 0, .int .i64 0]) 2 16 Try.underlying125 info_spot rfl (by decide) (.slice p l.length c) l.length _ rfl (own_drewN hown k) _ 1 rfl rfl (one_spot _ _) (by omega) (by simp [maxLen]; omega) hB ?_; intro g' cap w2 hown2 hgr hat hlt2; have bx := (ho.drew k).grown hgr hne'; have e2 := bx.cell; have f2 := bx.frozen)
    go_end0
    have hg2 : g' ≠ ob := by
      rcases hat with hat | hat
      · exact fun e => hne' (by rw [hat, e])
      · have := ho.lt; simp at hat; omega
    refine ⟨rfl, ⟨some ⟨g', 0, none⟩, cap, ?_, ?_, by simp⟩, (below_own (below_drewN (Below.refl _ _) k) hgr (own_ge hown) hB).setCell hob _⟩
    · simpa using bx.set (.slice (some ⟨g', 0, none⟩) (l.length + 1) cap)
    · have h3 : (w2.setCell ⟨ob, 0, none⟩ (.slice (some ⟨g', 0, none⟩) (l.length + 1) cap)).ownsRow B 143 2 (.slice (some ⟨g', 0, none⟩) (l.length + 1) cap) (l.length + 1) (spotCells (l ++ [((x : Int), (y : Int))])) := by
        rw [spotCells_snoc]
        exact own_other hown2 (by simp [Value.ownBlock]; omega) _
      simpa using h3
theorem callFunc_spots1 : ∀ args w, (callFunc 115 args).run Try.prog w = .ok (.enter 115 args) w := fun args w => by kernel_rfl

set_option maxHeartbeats 2000000 in
theorem spots_any (m g W H : Nat) (f : Nat → Bool) (w : World) (h : Img w m g W H f) :
    Calls Try.prog 99 #[.pointer (some ⟨m, 0, none⟩)] w fun e w' => ∃ v, e = .returned v ∧ OwnSpots w.heap.size w' v (spotsTo W f (W * H)) ∧ Below w.heap.size w w' := by
  have hsf := callFunc_spots1
  have hlt := h.lt
  go_enter Try.func99, Try.ntmps99
  go_wp2_with fail
  have M0 := ((Box.new w (.pointer (some ⟨m, 0, none⟩)) 89).alloc (.cells #[] 143)).alloc (.cells #[.slice (some ⟨w.heap.size + 1, 0, none⟩) 0 0] 125)
  have O0 := Box.new ((w.alloc (.cells #[.pointer (some ⟨m, 0, none⟩)] 89)).alloc (.cells #[] 143)) (.slice (some ⟨w.heap.size + 1, 0, none⟩) 0 0) 125
  have R0 := (World.ownsRow_made (base := w.heap.size + 1) (size := 2) (e := 143) (w.alloc (.cells #[.pointer (some ⟨m, 0, none⟩)] 89)) #[] 0 (by simp) (by decide) rfl).alloc (.cells #[.slice (some ⟨w.heap.size + 1, 0, none⟩) 0 0] 125)
  simp only [World.size_alloc] at O0 R0
  have S := (((Since.refl w).alloc (.cells #[.pointer (some ⟨m, 0, none⟩)] 89)).alloc (.cells #[] 143)).alloc (.cells #[.slice (some ⟨w.heap.size + 1, 0, none⟩) 0 0] 125)
  have S1 := S.below
  generalize (((w.alloc (.cells #[.pointer (some ⟨m, 0, none⟩)] 89)).alloc (.cells #[] 143)).alloc (.cells #[.slice (some ⟨w.heap.size + 1, 0, none⟩) 0 0] 125)) = w0 at *
  have hI0 := h.below S1 hlt.1 hlt.2
  have hsz0 := M0.lt
  have hsz1 := O0.lt
  refine (each_any 115 m g W H _ (fun n w' => Box w' w.heap.size (.pointer (some ⟨m, 0, none⟩)) 89 ∧ Img w' m g W H f ∧ SpotsIn (w.heap.size + 1) w' (w.heap.size + 1 + 1) (spotsTo W f n) ∧ Below w.heap.size w w' ∧ w.heap.size + 1 ≤ w'.heap.size) _ h.w16 h.h16 hsf ?_ ?_ ?_).mono ?_
  · exact fun n w' J => ⟨J.2.1.c0, J.2.1.c1⟩
  · intro x y w' hx hy ⟨J1, J2, J3, J4, J5⟩
    have hn : y * W + x < 256 := by have := at_lt hx hy; have := mul_256 h.w16 h.h16; omega
    refine (spots1_any (w.heap.size + 1) w.heap.size (w.heap.size + 1 + 1) m g W H f x y _ w' _ J1 J2 J3 hx hy J5 (by omega) (by have := spotsTo_len W f (y * W + x); omega)).mono ?_
    rintro e w'' ⟨rfl, K1, K2⟩
    refine ⟨rfl, J1.below K2 (by omega), J2.below K2 (by omega) (by omega), ?_, J4.trans (K2.mono (by omega)), Nat.le_trans J5 K2.size⟩
    rw [spotsTo_succ, (at_mod hx).1, (at_mod hx).2]
    exact K1
  · exact ⟨M0, hI0, ⟨_, _, O0, R0, by simp⟩, S1, by omega⟩
  · rintro e w2 ⟨rfl, J1, J2, ⟨p, c, J3, J4, J5⟩, J6, J7⟩
    have e0 := J3.cell
    go_wp2
    go_ret
    exact ⟨_, rfl, ⟨p, c, rfl, own_mono J4 (by omega)⟩, J6⟩
set_option maxHeartbeats 400000 in
theorem count_any (m g W H : Nat) (f : Nat → Bool) (w : World) (h : Img w m g W H f) :
    Calls Try.prog 70 #[.pointer (some ⟨m, 0, none⟩)] w fun e w' => e = .returned (.int .i64 ((spotsTo W f (W * H)).length : Int)) ∧ Below w.heap.size w w' := by
  go_enter Try.func70, Try.ntmps70
  go_wp2_with fail
  refine (spots_any m g W H f w h).mono ?_
  rintro e w1 ⟨v, rfl, ho, hb⟩
  obtain ⟨p, c, rfl⟩ := ho.form
  go_wp2
  go_ret
  exact ⟨rfl, hb⟩
end Go.Proofs.Ytnenogpagkepfaa
