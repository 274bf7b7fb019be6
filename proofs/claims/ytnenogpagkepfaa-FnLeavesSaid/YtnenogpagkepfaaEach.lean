/- Contracts of each, and of what is made by it. -/
import Derived.Test.YtnenogpagkepfaaImgOf
set_option linter.unusedVariables false
namespace Go.Proofs.Ytnenogpagkepfaa
open Go.RowKit

set_option maxHeartbeats 1000000 in
theorem each_any (k : FuncId) (m g W H : Nat) (cap : Array Value) (I : Nat → World → Prop) (w : World) (hw16 : W ≤ 16) (hh16 : H ≤ 16)
    (hk : ∀ args w, (callFunc k args).run Try.prog w = .ok (.enter k args) w)
    (hI : ∀ n w', I n w' → w'.cell? ⟨m, 0, none⟩ = some (.int .i64 W) ∧ w'.cell? ⟨m, 1, none⟩ = some (.int .i64 H))
    (hcall : ∀ (x y : Nat) w', x < W → y < H → I (y * W + x) w' → Calls Try.prog k (#[.int .i64 x, .int .i64 y] ++ cap) w' fun e w'' => e = .returned (.tuple #[]) ∧ I (y * W + x + 1) w'') (h0 : I 0 w) :
    Calls Try.prog 104 #[.pointer (some ⟨m, 0, none⟩), .func (.func k) #[] cap] w fun e w' => e = .returned (.tuple #[]) ∧ I (W * H) w' := by
  have e1 := (hI 0 w h0).2
  go_enter Try.func104, Try.ntmps104
  go_wp2
  go_loopw [10] (fun i wr => ∃ y : Nat, y ≤ H ∧ i = .int .i64 y ∧ I (y * W) wr) (fun i _ => H - (intOf i).toNat)
  case atStart => exact ⟨0, Nat.zero_le _, rfl, by rw [Nat.zero_mul]; exact h0⟩
  case round =>
    obtain ⟨y, hy, rfl, hIy⟩ := hrel
    clear e1
    by_cases hyH : y < H
    · have e0 := (hI _ _ hIy).1
      go_wp2_with fail
      go_loopw [17] (fun i wr => ∃ x : Nat, x ≤ W ∧ i = .int .i64 x ∧ I (y * W + x) wr) (fun i _ => W - (intOf i).toNat)
      case atStart => exact ⟨0, Nat.zero_le _, rfl, hIy⟩
      case round =>
        obtain ⟨x, hx, rfl, hIx⟩ := hrel
        clear e0
        by_cases hxW : x < W
        · have hc := hcall x y _ hxW hyH hIx
          have Hc := Lib.hid hc; clear hc
          clear hcall hI
          go_wp2_with fail
          refine Hc.out.mono ?_
          rintro e w1 ⟨rfl, hI1⟩
          go_wp2
          go_roundw
          case rel => exact ⟨x + 1, by omega, by go_num, hI1⟩
          case measure => simp [intOf]; omega
        · obtain rfl : x = W := by omega
          have hI2 : I ((y + 1) * x) wr := by rw [Nat.add_mul, Nat.one_mul]; exact hIx
          go_wp2
          go_roundw
          case rel => exact ⟨y + 1, by omega, by go_num, hI2⟩
          case measure => simp [intOf]; omega
    · obtain rfl : y = H := by omega
      go_wp2
      go_end0
      exact ⟨rfl, by rw [Nat.mul_comm]; exact hIy⟩

theorem callFunc_made1 : ∀ args w, (callFunc 105 args).run Try.prog w = .ok (.enter 105 args) w := fun args w => by kernel_rfl

set_option maxRecDepth 100000 in
set_option maxHeartbeats 2000000 in
theorem made1_any (mb bb mt gt W H : Nat) (f0 : Nat → Bool) (kb : FuncId) (capb : Array Value) (v : Bool) (x y : Nat) (w : World) (t1 t2 : TypeId)
    (hm : Box w mb (.pointer (some ⟨mt, 0, none⟩)) t1) (hbk : Box w bb (.func (.func kb) #[] capb) t2) (hI : Img w mt gt W H f0) (hx : x < W) (hy : y < H)
    (hk : ∀ args w, (callFunc kb args).run Try.prog w = .ok (.enter kb args) w)
    (hcall : ∀ k, Calls Try.prog kb (#[.int .i64 x, .int .i64 y] ++ capb) (w.drewN k) fun e w' => e = .returned (.bool v) ∧ Below w.heap.size w w') (n1 : mb ≠ gt) (n2 : bb ≠ gt) :
    Calls Try.prog 105 #[.int .i64 x, .int .i64 y, .pointer (some ⟨mb, 0, none⟩), .pointer (some ⟨bb, 0, none⟩)] w fun e w' => e = .returned (.tuple #[]) ∧ ∃ w1, Below w.heap.size w w1 ∧ w' = (w1.setCell ⟨gt, y * W + x, none⟩ (.bool v)).drew := by
  have x0 := hm.cell
  have y0 := hbk.cell
  have hg := hI.lt.2
  have hc := hcall 1
  have Hc := Lib.hid hc; clear hc
  clear hcall
  go_enter Try.func105, Try.ntmps105
  go_wp2_with fail
  go_region_held3 (fun w' => w'.cell? ⟨mb, 0, none⟩ = some (.pointer (some ⟨mt, 0, none⟩)) ∧ w'.cell? ⟨bb, 0, none⟩ = some (.func (.func kb) #[] capb))
    (first
      | exact ⟨x0, y0⟩
      | exact ⟨(hb.cell (p := ⟨mb, 0, none⟩) hm.lt).trans x0, (hb.cell (p := ⟨bb, 0, none⟩) hbk.lt).trans y0⟩
      | exact ⟨((hm.bl hb).other (a := ⟨gt, y * W + x, none⟩) n1 _).cell, ((hbk.bl hb).other (a := ⟨gt, y * W + x, none⟩) n2 _).cell⟩)
    ((first
      | (go_at_call 97; refine (set_any mt gt W H f0 (x : Int) (y : Int) v _ (hI.below hb hI.lt.1 hI.lt.2) (by omega) (by omega) (by omega) (by omega)).mono ?_; rintro e w2 ⟨rfl, rfl⟩)
      | (refine Hc.out.mono ?_; rintro e w1 ⟨rfl, hb⟩)))
  go_wp2
  go_end0
  exact ⟨rfl, w1, hb, rfl⟩

/-- While an image is made: its box, the box of the function, the pixels that are there. -/
structure Making (w : World) (mb bb mt gt W H n : Nat) (f : Nat → Bool) (kb : FuncId) (capb : Array Value) (w' : World) : Prop where
  m : Box w' mb (.pointer (some ⟨mt, 0, none⟩)) 89
  b : Box w' bb (.func (.func kb) #[] capb) 99
  img : Img w' mt gt W H (fun i => if i < n then f i else false)
  below : Below w.heap.size w w'

set_option maxRecDepth 100000 in
set_option maxHeartbeats 2000000 in
theorem made_any (kb : FuncId) (capb : Array Value) (W H : Nat) (f : Nat → Bool) (w : World) (hw1 : 1 ≤ W) (hw16 : W ≤ 16) (hh1 : 1 ≤ H) (hh16 : H ≤ 16)
    (hk : ∀ args w, (callFunc kb args).run Try.prog w = .ok (.enter kb args) w)
    (hcall : ∀ (x y : Nat) w', x < W → y < H → Below w.heap.size w w' → Calls Try.prog kb (#[.int .i64 x, .int .i64 y] ++ capb) w' fun e w'' => e = .returned (.bool (f (y * W + x))) ∧ Below w'.heap.size w' w'') :
    Calls Try.prog 79 #[.int .i64 W, .int .i64 H, .func (.func kb) #[] capb] w fun e w' => ∃ m g, e = .returned (.pointer (some ⟨m, 0, none⟩)) ∧ Img w' m g W H f ∧ w.heap.size ≤ m ∧ w.heap.size ≤ g ∧ Below w.heap.size w w' := by
  have hmf := callFunc_made1
  go_enter Try.func79, Try.ntmps79
  go_wp2_with fail
  refine (blank_any W H _ hw1 hw16 hh1 hh16).mono ?_
  rintro e w1 ⟨mt, gt, rfl, hI, hm, hg, hb⟩
  have B0 := (Box.new w (.func (.func kb) #[] capb) 99).bl hb
  have S := ((Since.refl w).alloc _).bl hb
  replace B0 := B0.alloc (.cells #[.pointer (some ⟨mt, 0, none⟩)] 89)
  replace S := S.alloc (.cells #[.pointer (some ⟨mt, 0, none⟩)] 89)
  have M0 := Box.new w1 (.pointer (some ⟨mt, 0, none⟩)) 89
  have hlt := hI.lt
  have hI1 := hI.below (bl_alloc w1 (.cells #[.pointer (some ⟨mt, 0, none⟩)] 89)) hlt.1 hlt.2
  simp only [World.size_alloc] at hm hg
  have J0 : Making w w1.heap.size w.heap.size mt gt W H 0 f kb capb (w1.alloc (.cells #[.pointer (some ⟨mt, 0, none⟩)] 89)) :=
    ⟨M0, B0, hI1.congr (fun i _ => by simp), S.below⟩
  have hlt1 := hlt.1
  clear hb hI hI1 M0 B0 S
  go_wp2_with fail
  refine (each_any 105 mt gt W H #[.pointer (some ⟨w1.heap.size, 0, none⟩), .pointer (some ⟨w.heap.size, 0, none⟩)] (fun n w' => Making w w1.heap.size w.heap.size mt gt W H n f kb capb w') _ hw16 hh16 hmf ?_ ?_ J0).mono ?_
  · exact fun n w' J => ⟨J.img.c0, J.img.c1⟩
  · intro x y w' hx hy J
    have hsz : w.heap.size ≤ w'.heap.size := J.below.size
    refine (made1_any w1.heap.size w.heap.size mt gt W H _ kb capb (f (y * W + x)) x y w' _ _ J.m J.b J.img hx hy hk ?_ (by omega) (by omega)).mono ?_
    · intro k
      exact (hcall x y (w'.drewN k) hx hy (below_drewN J.below k)).mono fun e w'' q => ⟨q.1, (bl_drewN w' k).trans (q.2.mono (Nat.le_refl _))⟩
    · rintro e w'' ⟨rfl, w2, hb, rfl⟩
      refine ⟨rfl, (J.m.bl hb).other (by simp; omega) _, (J.b.bl hb).other (by simp; omega) _, ?_, ((J.below.trans (hb.mono hsz)).setCell (by simp; omega) _).drew⟩
      refine (((J.img.below hb J.img.lt.1 J.img.lt.2).set (y * W + x) (f (y * W + x))).drewN 1).congr (fun i _ => ?_)
      by_cases e : i = y * W + x
      · subst e; simp
      · by_cases l : i < y * W + x
        · simp [e, l, show i < y * W + x + 1 by omega]
        · simp [e, l, show ¬ i < y * W + x + 1 by omega]
  · rintro e w2 ⟨rfl, J⟩
    have m0 := J.m.cell
    go_wp2
    go_ret
    exact ⟨mt, gt, rfl, J.img.congr (fun i hi => by simp [hi]), by omega, by omega, J.below⟩
end Go.Proofs.Ytnenogpagkepfaa
