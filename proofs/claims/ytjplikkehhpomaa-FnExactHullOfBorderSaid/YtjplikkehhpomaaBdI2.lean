/- Contract of the steps of a border. -/
import Derived.Test.YtjplikkehhpomaaBdI1
import Derived.StillTailTactics
import Derived.Deep.DeepCutAuto
set_option linter.unusedVariables false
set_option linter.unusedSimpArgs false
namespace Go.Proofs.Ytjplikkehhpomaa
open Go.RowKit

theorem edges_at3 {x y : Int} {s : ByteArray} {n k : Nat} (h : k < n) : (edges x y s n).getD k (0, 0, 0) = ((pos x y s k).1, (pos x y s k).2, way s k) := edges_at h _
theorem Since.setE {w a : World} (h : Since w a) {p : Addr} (hp : w.heap.size ≤ p.block) (v : Value) : Since w (a.setCell p v) := ⟨h.below.setCell hp v⟩
theorem Since.set2E {w a : World} (h : Since w a) {b : Nat} (hb : w.heap.size ≤ b) (x y : Value) : Since w ((a.setCell ⟨b, 0, none⟩ x).setCell ⟨b, 1, none⟩ y) := (h.setE hb _).setE hb _
theorem Blk.twoE {w : World} {b : Nat} {u v : Value} {t : TypeId} (h : Blk w b #[u, v] t) (x y : Value) :
    w.cell? ⟨b, 0, none⟩ = some u ∧ w.frozen? ⟨b, 0, none⟩ = false ∧ (w.setCell ⟨b, 0, none⟩ x).cell? ⟨b, 1, none⟩ = some v ∧ (w.setCell ⟨b, 0, none⟩ x).frozen? ⟨b, 1, none⟩ = false ∧ w.cell? ⟨b, 1, none⟩ = some v ∧ w.frozen? ⟨b, 1, none⟩ = false ∧
    Blk ((w.setCell ⟨b, 0, none⟩ x).setCell ⟨b, 1, none⟩ y) b #[x, y] t := by
  have h1 := h.set 0 x
  have h2 := h1.set 1 y
  exact ⟨h.cell 0 rfl, h.frozen 0, h1.cell 1 rfl, h1.frozen 1, h.cell 1 rfl, h.frozen 1, h2⟩
/-- Where the making of the steps stands. -/
structure EdRel (x y : Int) (s : ByteArray) (b a : Nat) (w wr : World) (v : Value) (k : Nat) : Prop where
  blk : Blk wr b #[.int .i64 x, .int .i64 y, .string s] 30
  at0 : Blk wr a #[.int .i64 (pos x y s k).1, .int .i64 (pos x y s k).2] 28
  own : OwnTris 56 w.heap.size wr v (edges x y s k)
  ne : ∀ i, v.ownBlock = some i → ¬ i = a
  since : Since w wr
  ge : w.heap.size ≤ a
  lt : b < w.heap.size
theorem EdRel.bl {x y : Int} {s : ByteArray} {b a : Nat} {w wr w' : World} {v : Value} {k : Nat} (r : EdRel x y s b a w wr v k) (hb : Below wr.heap.size wr w') : EdRel x y s b a w w' v k :=
  ⟨r.blk.bl hb, r.at0.bl hb, r.own.bl hb, r.ne, r.since.bl hb, r.ge, r.lt⟩
set_option maxRecDepth 100000 in
set_option maxHeartbeats 4000000 in
theorem edges_ok (b : Nat) (x y : Int) (s : ByteArray) (w : World) (hs : s.size ≤ 600) (hsm : small (x, y)) (B : Blk w b #[.int .i64 x, .int .i64 y, .string s] 30) (hw : ∀ i < s.size, 0 ≤ way s i) :
    Calls Try.prog 32 #[.pointer (some ⟨b, 0, none⟩)] w fun e w' => ∃ v, e = .returned (.tuple #[v, .bool (decide (pos x y s s.size = (x, y)))]) ∧ OwnTris 56 w.heap.size w' v (edges x y s s.size) ∧ Below w.heap.size w w' := by
  have hlt := B.lt
  have k0 := B.cell 0 rfl
  have k1 := B.cell 1 rfl
  have k2 := B.cell 2 rfl
  have hW : ∀ i w, Calls Try.prog 59 #[.int .u8 (byteAt s i).toNat] w fun e w' => e = .returned (.int .i64 (way s i)) ∧ w = w' := fun i w => stepOf_any _ w
  obtain ⟨Z, hZ⟩ : ∃ Z, decide (pos x y s s.size = (x, y)) = Z := ⟨_, rfl⟩
  rw [hZ]
  have Hw := Lib.hid hw; clear hw
  have HW := Lib.hid hW; clear hW
  have HZ := Lib.hid hZ; clear hZ
  go_enter Try.func32, Try.ntmps32
  go_upto_region 1 with (fail)
  go_cut [4, 5] (fun s4 s5 wx => ∃ a, s5 = .pointer (some ⟨a, 0, none⟩) ∧ EdRel x y s b a w wx s4 0)
  case first =>
    have Lx := fun (o1 : Obj) => (Blk.new w #[.int .i64 x, .int .i64 y] 28).bl (bl_alloc _ o1)
    have Ux := fun (o1 : Obj) => Blk.new (w.alloc o1) #[.int .i64 x, .int .i64 y] 28
    have Ex := fun (o1 : Obj) => World.ownsRow_made (base := w.heap.size) (e := 56) (size := 3) (w.alloc o1) #[] 0 (by simp) (by decide) rfl
    have Ey := fun (o1 : Obj) => own_below (World.ownsRow_made (base := w.heap.size) (e := 56) (size := 3) w #[] 0 (Nat.le_refl _) (by decide) rfl) (bl_alloc _ o1) (Nat.le_refl _)
    simp only [World.size_alloc] at Ux Ex
    have Sx := fun (o1 o2 : Obj) => (((Since.refl w).alloc o1).alloc o2)
    have Bx := fun (o1 o2 : Obj) => (B.alloc o1).alloc o2
    go_region
    all_goals
      go_wp2_with fail
      go_meet
      first
        | exact ⟨w.heap.size, rfl, (Bx _ _).bl (bl_drew _), (Lx _).bl (bl_drew _), ⟨_, _, rfl, Ex _⟩, by simp [Value.ownBlock], (Sx _ _).bl (bl_drew _), by omega, hlt⟩
        | exact ⟨w.heap.size + 1, rfl, (Bx _ _).bl (bl_drew _), (Ux _).bl (bl_drew _), ⟨_, _, rfl, Ey _⟩, by simp [Value.ownBlock], (Sx _ _).bl (bl_drew _), by omega, hlt⟩
  case rest =>
  obtain ⟨a, rfl, e0⟩ := hcut
  clear k0 k1 k2
  have k2 := e0.blk.cell 2 rfl
  have hlt := e0.lt
  have E0 := Lib.hid e0; clear e0
  go_wp2
  go_loopw [4, 18] (fun v i wr => ∃ k : Nat, k ≤ s.size ∧ i = .int .i64 k ∧ EdRel x y s b a w wr v k) (fun _ i _ => s.size - (intOf i).toNat)
  case atStart => exact ⟨0, Nat.zero_le _, rfl, E0.out⟩
  case round =>
    clear k2 E0
    obtain ⟨k, hk, rfl, r⟩ := hrel
    by_cases hlt : k < s.size
    · have k2 := r.blk.cell 2 rfl
      have hv0 := Hw.out k hlt
      have hv3 := (way_in s k).2
      have w1 : ∀ w, Calls Try.prog 59 #[.int .u8 s[k].toNat] w fun e w' => e = .returned (.int .i64 (way s k)) ∧ w = w' := fun w => by
        rw [byteAt_get hlt]
        exact HW.out k w
      have hpn : pos x y s (k + 1) = nxt (pos x y s k) (way s k) := rfl
      have hes : edges x y s (k + 1) = edges x y s k ++ [((pos x y s k).1, (pos x y s k).2, way s k)] := edges_succ x y s k
      have hel := edges_len x y s k
      have A0 := r.at0
      have O0 := r.own
      obtain ⟨P1, e1⟩ : ∃ P, (pos x y s k).1 = P := ⟨_, rfl⟩
      obtain ⟨P2, e2⟩ : ∃ P, (pos x y s k).2 = P := ⟨_, rfl⟩
      obtain ⟨V, ev⟩ : ∃ P, way s k = P := ⟨_, rfl⟩
      have hpe : pos x y s k = (P1, P2) := Prod.ext e1 e2
      rw [e1, e2] at A0
      rw [ev] at hv0 hv3 w1
      rw [hpe, ev] at hpn
      rw [e1, e2, ev] at hes
      obtain ⟨Ls, eLs⟩ : ∃ L, edges x y s k = L := ⟨_, rfl⟩
      rw [eLs] at hes hel O0
      obtain ⟨q, c, rfl, ho⟩ := O0
      rw [hel] at ho
      have hne := r.ne
      rw [hel] at hne
      have S0 := r.since
      have B0 := r.blk
      have hwa := r.ge
      have hmv := fun w => moved_any P1 P2 V hv0 hv3 w
      have hsz := S0.size
      have c0 := A0.cell 0 rfl
      have c1 := A0.cell 1 rfl
      rw [hel]
      clear k2
      have k2 := B0.cell 2 rfl
      obtain ⟨N1, en1⟩ : ∃ P, (nxt (P1, P2) V).1 = P := ⟨_, rfl⟩
      obtain ⟨N2, en2⟩ : ∃ P, (nxt (P1, P2) V).2 = P := ⟨_, rfl⟩
      simp only [en1, en2] at hmv
      rw [← hpn] at en1 en2
      have hna : some a ≠ (Value.slice q k c).ownBlock := fun e => hne a e.symm rfl
      have En1 := Lib.hid en1; clear en1
      have En2 := Lib.hid en2; clear en2
      have Hna := Lib.hid hna; clear hna
      have Hes := Lib.hid hes; clear hes
      have Hel := Lib.hid hel; clear hel
      have ELs := Lib.hid eLs; clear eLs
      have R := Lib.hid r; clear r
      have Hpn := Lib.hid hpn; clear hpn
      have Hmv := Lib.hid hmv; clear hmv
      have W1 := Lib.hid w1; clear w1
      have E1 := Lib.hid e1; clear e1
      have E2 := Lib.hid e2; clear e2
      have Ev := Lib.hid ev; clear ev
      have Hpe := Lib.hid hpe; clear hpe
      have Hne := Lib.hid hne; clear hne
      go_wp2_with fail
      refine (W1.out _).mono ?_
      rintro e w3 ⟨rfl, rfl⟩
      go_wp2_with (at_builtin; refine wpList_push rfl _ _ 51 rfl w.heap.size 56 (.agg #[.int .i64 0, .int .i64 0, .int .i64 0]) 3 24 Try.underlying51 info_edge rfl (by decide) (.slice q k c) k _ rfl ho _ 1 rfl rfl (one_tri _ _ _) (by omega) (by simp [maxLen]; omega) hsz ?_; intro g' cap w2 hown2 hgr hat hlt2; have A2 := A0.grown hgr Hna.out; have d0 := A2.cell 0 rfl; have d1 := A2.cell 1 rfl)
      refine (Hmv.out _).mono ?_
      rintro e w3 ⟨rfl, hb⟩
      have B2 := B0.grown hgr (fun e => by have := own_ge ho _ e.symm; have := R.out.lt; omega)
      have S2 : Since w w2 := ⟨below_own S0.below hgr (own_ge ho) S0.size⟩
      have hga : ¬ g' = a := by
        have := A0.lt
        rcases hat with h | h
        · exact Hne.out g' h
        · omega
      have hown3 := own_below hown2 hb (Nat.le_refl _)
      replace A2 := A2.bl hb
      replace B2 := B2.bl hb
      replace S2 := S2.bl hb
      clear c0 c1 d0 d1 hb hgr hat hown2 k2
      obtain ⟨f0, f1, f2, f3, f4, f5, A3⟩ := A2.twoE (.int .i64 N1) (.int .i64 N2)
      have B3 := (B2.other (a := ⟨a, 0, none⟩) (by simp; omega) (.int .i64 N1)).other (a := ⟨a, 1, none⟩) (by simp; omega) (.int .i64 N2)
      have S3 := S2.set2E hwa (.int .i64 N1) (.int .i64 N2)
      have hown4 := own_other (own_other hown3 (a := ⟨a, 0, none⟩) (by simp [Value.ownBlock]; omega) (.int .i64 N1)) (a := ⟨a, 1, none⟩) (by simp [Value.ownBlock]; omega) (.int .i64 N2)
      have hr2 : EdRel x y s b a w ((w3.setCell ⟨a, 0, none⟩ (.int .i64 N1)).setCell ⟨a, 1, none⟩ (.int .i64 N2)) (.slice (some ⟨g', 0, none⟩) (k + 1) cap) (k + 1) := by
        refine ⟨B3, ?_, ⟨some ⟨g', 0, none⟩, cap, by rw [edges_len], ?_⟩, ?_, S3, hwa, R.out.lt⟩
        · rw [En1.out, En2.out]; exact A3
        · rw [edges_len, Hes.out, triCells_snoc]; exact hown4
        · intro i hi
          simp only [Value.ownBlock, Option.some.injEq] at hi
          omega
      clear hown3 hown4 B2 B3 S2 S3 A2 A3
      have Hr2 := Lib.hid hr2; clear hr2
      go_wp2
      go_roundw
      case rel => exact ⟨k + 1, by omega, by go_num, Hr2.out⟩
      case measure => simp [intOf]; omega
    · obtain rfl : k = s.size := by omega
      have k0 := r.blk.cell 0 rfl
      have k1 := r.blk.cell 1 rfl
      have q0 := r.at0.cell 0 rfl
      have q1 := r.at0.cell 1 rfl
      obtain ⟨P1, e1⟩ : ∃ P, (pos x y s s.size).1 = P := ⟨_, rfl⟩
      obtain ⟨P2, e2⟩ : ∃ P, (pos x y s s.size).2 = P := ⟨_, rfl⟩
      have hz2 : Z = decide (P1 = x ∧ P2 = y) := by
        rw [← HZ.out]
        simp [Prod.ext_iff, e1, e2]
      rw [e1] at q0
      rw [e2] at q1
      have R := Lib.hid r; clear r
      have Hz2 := Lib.hid hz2; clear hz2
      clear e1 e2
      by_cases h1 : P1 = x
      · subst h1
        by_cases h2 : P2 = y
        · subst h2
          have hz3 : Z = true := by rw [Hz2.out]; simp
          subst hz3
          go_wp2_with fail
          go_quiet (fail)
          go_wp2
          go_ret2
          exact ⟨_, rfl, (R.out.bl (bl_drewN _ _)).own, (R.out.bl (bl_drewN _ _)).since.below⟩
        · have h3 := h2
          have hz3 : Z = false := by rw [Hz2.out]; simp [h2]
          subst hz3
          go_wp2_with fail
          go_quiet (fail)
          go_wp2
          go_ret2
          exact ⟨_, rfl, (R.out.bl (bl_drewN _ _)).own, (R.out.bl (bl_drewN _ _)).since.below⟩
      · have h3 := h1
        have hz3 : Z = false := by rw [Hz2.out]; simp [h1]
        subst hz3
        go_wp2_with fail
        go_quiet (fail)
        go_wp2
        go_ret2
        exact ⟨_, rfl, (R.out.bl (bl_drewN _ _)).own, (R.out.bl (bl_drewN _ _)).since.below⟩
set_option maxRecDepth 100000 in
set_option maxHeartbeats 4000000 in
theorem edges_bad (b : Nat) (x y : Int) (s : ByteArray) (w : World) (hs : s.size ≤ 600) (hsm : small (x, y)) (B : Blk w b #[.int .i64 x, .int .i64 y, .string s] 30) (m : Nat) (hm : m < s.size) (hmb : way s m < 0) :
    Calls Try.prog 32 #[.pointer (some ⟨b, 0, none⟩)] w fun e w' => e = .returned (.tuple #[.slice none 0 0, .bool false]) ∧ Below w.heap.size w w' := by
  have hlt := B.lt
  have k0 := B.cell 0 rfl
  have k1 := B.cell 1 rfl
  have k2 := B.cell 2 rfl
  have hW : ∀ i w, Calls Try.prog 59 #[.int .u8 (byteAt s i).toNat] w fun e w' => e = .returned (.int .i64 (way s i)) ∧ w = w' := fun i w => stepOf_any _ w
  have Hmb := Lib.hid hmb; clear hmb
  have HW := Lib.hid hW; clear hW
  go_enter Try.func32, Try.ntmps32
  go_upto_region 1 with (fail)
  go_cut [4, 5] (fun s4 s5 wx => ∃ a, s5 = .pointer (some ⟨a, 0, none⟩) ∧ EdRel x y s b a w wx s4 0)
  case first =>
    have Lx := fun (o1 : Obj) => (Blk.new w #[.int .i64 x, .int .i64 y] 28).bl (bl_alloc _ o1)
    have Ux := fun (o1 : Obj) => Blk.new (w.alloc o1) #[.int .i64 x, .int .i64 y] 28
    have Ex := fun (o1 : Obj) => World.ownsRow_made (base := w.heap.size) (e := 56) (size := 3) (w.alloc o1) #[] 0 (by simp) (by decide) rfl
    have Ey := fun (o1 : Obj) => own_below (World.ownsRow_made (base := w.heap.size) (e := 56) (size := 3) w #[] 0 (Nat.le_refl _) (by decide) rfl) (bl_alloc _ o1) (Nat.le_refl _)
    simp only [World.size_alloc] at Ux Ex
    have Sx := fun (o1 o2 : Obj) => (((Since.refl w).alloc o1).alloc o2)
    have Bx := fun (o1 o2 : Obj) => (B.alloc o1).alloc o2
    go_region
    all_goals
      go_wp2_with fail
      go_meet
      first
        | exact ⟨w.heap.size, rfl, (Bx _ _).bl (bl_drew _), (Lx _).bl (bl_drew _), ⟨_, _, rfl, Ex _⟩, by simp [Value.ownBlock], (Sx _ _).bl (bl_drew _), by omega, hlt⟩
        | exact ⟨w.heap.size + 1, rfl, (Bx _ _).bl (bl_drew _), (Ux _).bl (bl_drew _), ⟨_, _, rfl, Ey _⟩, by simp [Value.ownBlock], (Sx _ _).bl (bl_drew _), by omega, hlt⟩
  case rest =>
  obtain ⟨a, rfl, e0⟩ := hcut
  clear k0 k1 k2
  have k2 := e0.blk.cell 2 rfl
  have hlt := e0.lt
  have E0 := Lib.hid e0; clear e0
  go_wp2
  go_loopw [4, 18] (fun v i wr => ∃ k : Nat, k ≤ s.size ∧ i = .int .i64 k ∧ EdRel x y s b a w wr v k ∧ ∀ j < k, 0 ≤ way s j) (fun _ i _ => s.size - (intOf i).toNat)
  case atStart => exact ⟨0, Nat.zero_le _, rfl, E0.out, fun j hj => absurd hj (Nat.not_lt_zero j)⟩
  case round =>
    clear k2 E0
    obtain ⟨k, hk, rfl, r, ha⟩ := hrel
    by_cases hlt : k < s.size
    · have k2 := r.blk.cell 2 rfl
      have hv3 := (way_in s k).2
      have w1 : ∀ w, Calls Try.prog 59 #[.int .u8 s[k].toNat] w fun e w' => e = .returned (.int .i64 (way s k)) ∧ w = w' := fun w => by
        rw [byteAt_get hlt]
        exact HW.out k w
      by_cases hv0 : way s k < 0
      · obtain ⟨V, ev⟩ : ∃ P, way s k = P := ⟨_, rfl⟩
        rw [ev] at hv0 w1
        have R := Lib.hid r; clear r
        have W1 := Lib.hid w1; clear w1
        have Ha := Lib.hid ha; clear ha
        have Ev := Lib.hid ev; clear ev
        go_wp2_with fail
        refine (W1.out _).mono ?_
        rintro e w3 ⟨rfl, rfl⟩
        go_wp2
        go_ret2
        exact ⟨rfl, R.out.since.below⟩
      replace hv0 : 0 ≤ way s k := by omega
      have ha2 : ∀ j < k + 1, 0 ≤ way s j := fun j hj => by
        rcases Nat.lt_or_ge j k with h | h
        · exact ha j h
        · obtain rfl : j = k := by omega
          exact hv0
      have hpn : pos x y s (k + 1) = nxt (pos x y s k) (way s k) := rfl
      have hes : edges x y s (k + 1) = edges x y s k ++ [((pos x y s k).1, (pos x y s k).2, way s k)] := edges_succ x y s k
      have hel := edges_len x y s k
      have A0 := r.at0
      have O0 := r.own
      obtain ⟨P1, e1⟩ : ∃ P, (pos x y s k).1 = P := ⟨_, rfl⟩
      obtain ⟨P2, e2⟩ : ∃ P, (pos x y s k).2 = P := ⟨_, rfl⟩
      obtain ⟨V, ev⟩ : ∃ P, way s k = P := ⟨_, rfl⟩
      have hpe : pos x y s k = (P1, P2) := Prod.ext e1 e2
      rw [e1, e2] at A0
      rw [ev] at hv0 hv3 w1
      rw [hpe, ev] at hpn
      rw [e1, e2, ev] at hes
      obtain ⟨Ls, eLs⟩ : ∃ L, edges x y s k = L := ⟨_, rfl⟩
      rw [eLs] at hes hel O0
      obtain ⟨q, c, rfl, ho⟩ := O0
      rw [hel] at ho
      have hne := r.ne
      rw [hel] at hne
      have S0 := r.since
      have B0 := r.blk
      have hwa := r.ge
      have hmv := fun w => moved_any P1 P2 V hv0 hv3 w
      have hsz := S0.size
      have c0 := A0.cell 0 rfl
      have c1 := A0.cell 1 rfl
      rw [hel]
      clear k2
      have k2 := B0.cell 2 rfl
      obtain ⟨N1, en1⟩ : ∃ P, (nxt (P1, P2) V).1 = P := ⟨_, rfl⟩
      obtain ⟨N2, en2⟩ : ∃ P, (nxt (P1, P2) V).2 = P := ⟨_, rfl⟩
      simp only [en1, en2] at hmv
      rw [← hpn] at en1 en2
      have hna : some a ≠ (Value.slice q k c).ownBlock := fun e => hne a e.symm rfl
      have Ha := Lib.hid ha; clear ha
      have Ha2 := Lib.hid ha2; clear ha2
      have En1 := Lib.hid en1; clear en1
      have En2 := Lib.hid en2; clear en2
      have Hna := Lib.hid hna; clear hna
      have Hes := Lib.hid hes; clear hes
      have Hel := Lib.hid hel; clear hel
      have ELs := Lib.hid eLs; clear eLs
      have R := Lib.hid r; clear r
      have Hpn := Lib.hid hpn; clear hpn
      have Hmv := Lib.hid hmv; clear hmv
      have W1 := Lib.hid w1; clear w1
      have E1 := Lib.hid e1; clear e1
      have E2 := Lib.hid e2; clear e2
      have Ev := Lib.hid ev; clear ev
      have Hpe := Lib.hid hpe; clear hpe
      have Hne := Lib.hid hne; clear hne
      go_wp2_with fail
      refine (W1.out _).mono ?_
      rintro e w3 ⟨rfl, rfl⟩
      go_wp2_with (at_builtin; refine wpList_push rfl _ _ 51 rfl w.heap.size 56 (.agg #[.int .i64 0, .int .i64 0, .int .i64 0]) 3 24 Try.underlying51 info_edge rfl (by decide) (.slice q k c) k _ rfl ho _ 1 rfl rfl (one_tri _ _ _) (by omega) (by simp [maxLen]; omega) hsz ?_; intro g' cap w2 hown2 hgr hat hlt2; have A2 := A0.grown hgr Hna.out; have d0 := A2.cell 0 rfl; have d1 := A2.cell 1 rfl)
      refine (Hmv.out _).mono ?_
      rintro e w3 ⟨rfl, hb⟩
      have B2 := B0.grown hgr (fun e => by have := own_ge ho _ e.symm; have := R.out.lt; omega)
      have S2 : Since w w2 := ⟨below_own S0.below hgr (own_ge ho) S0.size⟩
      have hga : ¬ g' = a := by
        have := A0.lt
        rcases hat with h | h
        · exact Hne.out g' h
        · omega
      have hown3 := own_below hown2 hb (Nat.le_refl _)
      replace A2 := A2.bl hb
      replace B2 := B2.bl hb
      replace S2 := S2.bl hb
      clear c0 c1 d0 d1 hb hgr hat hown2 k2
      obtain ⟨f0, f1, f2, f3, f4, f5, A3⟩ := A2.twoE (.int .i64 N1) (.int .i64 N2)
      have B3 := (B2.other (a := ⟨a, 0, none⟩) (by simp; omega) (.int .i64 N1)).other (a := ⟨a, 1, none⟩) (by simp; omega) (.int .i64 N2)
      have S3 := S2.set2E hwa (.int .i64 N1) (.int .i64 N2)
      have hown4 := own_other (own_other hown3 (a := ⟨a, 0, none⟩) (by simp [Value.ownBlock]; omega) (.int .i64 N1)) (a := ⟨a, 1, none⟩) (by simp [Value.ownBlock]; omega) (.int .i64 N2)
      have hr2 : EdRel x y s b a w ((w3.setCell ⟨a, 0, none⟩ (.int .i64 N1)).setCell ⟨a, 1, none⟩ (.int .i64 N2)) (.slice (some ⟨g', 0, none⟩) (k + 1) cap) (k + 1) := by
        refine ⟨B3, ?_, ⟨some ⟨g', 0, none⟩, cap, by rw [edges_len], ?_⟩, ?_, S3, hwa, R.out.lt⟩
        · rw [En1.out, En2.out]; exact A3
        · rw [edges_len, Hes.out, triCells_snoc]; exact hown4
        · intro i hi
          simp only [Value.ownBlock, Option.some.injEq] at hi
          omega
      clear hown3 hown4 B2 B3 S2 S3 A2 A3
      have Hr2 := Lib.hid hr2; clear hr2
      go_wp2
      go_roundw
      case rel => exact ⟨k + 1, by omega, by go_num, Hr2.out, Ha2.out⟩
      case measure => simp [intOf]; omega
    · have := ha m (by omega)
      have := Hmb.out
      omega
end Go.Proofs.Ytjplikkehhpomaa
