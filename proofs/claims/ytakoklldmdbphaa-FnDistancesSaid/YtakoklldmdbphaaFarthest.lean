/- Contracts of the reference's and the program's FarthestOf. -/
import Derived.Test.YtakoklldmdbphaaGrid
import Derived.Test.YtakoklldmdbphaaEach
set_option linter.unusedVariables false
namespace Go.Proofs.Ytakoklldmdbphaa
open Go.RowKit

/-- The first farthest one of the first n pixels, and its distance. -/
def farN (W : Nat) (d : Nat → Int) : Nat → (Int × Int) × Int
  | 0 => ((0, 0), -1)
  | n + 1 => if (farN W d n).2 < d n then ((((n % W : Nat) : Int), ((n / W : Nat) : Int)), d n) else farN W d n
def farR (ss : List ByteArray) (k : Int) : (Int × Int) × Int := if someB ss k then farN (wid ss) (distD ss k) (wid ss * ss.length) else ((0, 0), 0)

theorem gridRd {w : World} {p : Option Addr} {W H : Nat} {d : Nat → Int} (h : RdSS w p (gridL W H d)) {y : Nat} (hy : y < H) (hW : 0 < W) :
    ∃ b o b2 o2 c2, p = some ⟨b, o, none⟩ ∧ w.cell? ⟨b, o + y, none⟩ = some (.slice (some ⟨b2, o2, none⟩) W c2) ∧ ∀ x, x < W → w.cell? ⟨b2, o2 + x, none⟩ = some (.int .i64 (d (y * W + x))) := by
  obtain ⟨vs, h1, h2⟩ := h
  rw [gridL_len] at h1
  obtain ⟨b, o, hp, _, hc⟩ := h1.at hy
  obtain ⟨q, c2, e, hr⟩ := h2 y (by rw [gridL_len]; exact hy)
  rw [gridL_at _ _ _ _ hy, rowL_len] at e hr
  obtain ⟨b2, o2, rfl, _, hc2⟩ := hr.at hW
  refine ⟨b, o, b2, o2, c2, hp, by rw [hc y hy, e], fun x hx => ?_⟩
  rw [hc2 x hx, intAt, rowL_at _ _ _ hx]
theorem Rd.set {w : World} {p : Option Addr} {m : Nat} {f : Nat → Value} (h : Rd w p m f) {a : Addr} (ha : ∀ b o, p = some ⟨b, o, none⟩ → b ≠ a.block) (v : Value) : Rd (w.setCell a v) p m f := by
  rcases h with h | ⟨b, o, hp, hc⟩
  · exact .inl h
  · exact .inr ⟨b, o, hp, fun i hi => (World.cell?_setCell_other _ _ _ _ (fun e => ha b o hp (by have := congrArg Addr.block e; simpa using this.symm))).trans (hc i hi)⟩
theorem Img.other' {w : World} {m g W H : Nat} {f : Nat → Bool} (h : Img w m g W H f) {a : Addr} (h1 : m ≠ a.block) (h2 : g ≠ a.block) (v : Value) : Img (w.setCell a v) m g W H f := by
  have ho : ∀ j, (w.setCell a v).cell? ⟨m, j, none⟩ = w.cell? ⟨m, j, none⟩ := fun j => World.cell?_setCell_other _ _ _ _ (fun e => h1 (by have := congrArg Addr.block e; simpa using this.symm))
  exact ⟨h.w1, h.w16, h.h1, h.h16, (ho 0).trans h.c0, (ho 1).trans h.c1, (ho 2).trans h.c2, h.row.of_block (Below.heap_setCell _ _ _ _ h2), h.ne⟩

theorem OwnIntss.set {B : Nat} {w : World} {v : Value} {L : List (List Int)} {vs : Nat → Value} (h : OwnIntss B w v L vs) {a : Addr} (ha : a.block < B) (u : Value) : OwnIntss B (w.setCell a u) v L vs := by
  obtain ⟨p, c, hv, ho⟩ := h.own
  refine ⟨⟨p, c, hv, own_set ho ha u⟩, fun i hi => ?_, h.apart, h.apart0⟩
  obtain ⟨p', c', hv', ho'⟩ := h.inner i hi
  exact ⟨p', c', hv', own_set ho' ha u⟩
/-- While the farthest pixel is sought: n pixels are looked at. -/
structure FarRel (w : World) (W H : Nat) (d : Nat → Int) (bb : Nat) (q : Option Addr) (n : Nat) (v : Value) (wr : World) : Prop where
  v : v = .int .i64 (farN W d n).2
  res : Blk wr (w.heap.size + 1) #[.int .i64 0, .int .i64 0] 27
  best : Blk wr bb #[.int .i64 (farN W d n).1.1, .int .i64 (farN W d n).1.2] 27
  since : Since w wr
theorem FarRel.go {w wr : World} {W H : Nat} {d : Nat → Int} {bb : Nat} {q : Option Addr} {n : Nat} {v : Value} (J : FarRel w W H d bb q n v wr) (x y : Nat) (hx : n % W = x) (hy : n / W = y) (hbb : w.heap.size + 1 < bb) (h : (farN W d n).2 < d n) :
    FarRel w W H d bb q (n + 1) (.int .i64 (d n)) ((wr.setCell ⟨bb, 0, none⟩ (.int .i64 x)).setCell ⟨bb, 1, none⟩ (.int .i64 y)) := by
  have e : farN W d (n + 1) = (((x : Int), (y : Int)), d n) := by rw [farN, if_pos h, hx, hy]
  have n1 : w.heap.size + 1 ≠ bb := by omega
  exact ⟨by rw [e], (J.res.other (a := ⟨bb, 0, none⟩) n1 _).other (a := ⟨bb, 1, none⟩) n1 _, by rw [e]; exact J.best.set2 _ _, J.since.set2 (by omega) _ _⟩
theorem FarRel.stay {w wr : World} {W H : Nat} {d : Nat → Int} {bb : Nat} {q : Option Addr} {n : Nat} {v : Value} (J : FarRel w W H d bb q n v wr) (h : ¬ (farN W d n).2 < d n) : FarRel w W H d bb q (n + 1) v wr := by
  have e : farN W d (n + 1) = farN W d n := by rw [farN, if_neg h]
  exact ⟨by rw [e]; exact J.v, J.res, by rw [e]; exact J.best, J.since⟩
set_option maxRecDepth 100000 in
set_option maxHeartbeats 4000000 in
theorem sFarthestOf_any (p : Option Addr) (c : Nat) (ss : List ByteArray) (k : Int) (w : World) (hn : ss.length ≤ 1048576) (hs : ∀ s ∈ ss, s.size ≤ 1048576) (hr : Rd w p ss.length (strAt ss)) :
    Calls Try.prog 46 #[.agg #[.slice p ss.length c], .int .i64 k] w fun e w' =>
      e = .returned (.tuple #[.agg #[.int .i64 (farR ss k).1.1, .int .i64 (farR ss k).1.2], .int .i64 (farR ss k).2, .bool (someB ss k)]) ∧ Below w.heap.size w w' := by
  have S := ((Since.refl w).alloc (.cells #[.slice p ss.length c] 30)).alloc (.cells #[.int .i64 0, .int .i64 0] 27)
  have P : PicVar ((w.alloc (.cells #[.slice p ss.length c] 30)).alloc (.cells #[.int .i64 0, .int .i64 0] 27)) w.heap.size p c ss := ⟨((Blk.new w #[.slice p ss.length c] 30).alloc _).cell 0 rfl, (hr.alloc _).alloc _⟩
  have B := Blk.new (w.alloc (.cells #[.slice p ss.length c] 30)) #[.int .i64 0, .int .i64 0] 27
  simp only [World.size_alloc] at B
  have c0 := fun w' h => l06Some_any w.heap.size p c ss k w' hn hs h
  cases hsm : someB ss k
  · have hv : farR ss k = ((0, 0), 0) := by simp [farR, hsm]
    rw [hv]
    rw [hsm] at c0
    have C0 := Lib.hid c0; clear c0
    have Hsm := Lib.hid hsm; clear hsm
    clear hv
    go_enter Try.func46, Try.ntmps46
    go_wp2_with fail
    refine (C0.out _ P).mono ?_
    rintro e w1 ⟨rfl, n, rfl⟩
    replace S := S.bl (bl_drewN _ n)
    replace B := B.bl (bl_drewN _ n)
    obtain ⟨e0, f0, e1, f1, t0, t1⟩ := B.two (.int .i64 0) (.int .i64 0)
    go_wp2
    refine bodyPost_ret (v := .tuple #[.agg #[.int .i64 0, .int .i64 0], .int .i64 0, .bool false]) (by simp [results, Try.results46, go_sem, t0, t1]) rfl ⟨rfl, (S.set2 (b := w.heap.size + 1) (by omega) _ _).below⟩
  · obtain ⟨ho, hk, h0⟩ := someB_true hsm
    have hd := okPic_dims ho
    obtain ⟨hd1, hd2, hd3, hd4⟩ := hd
    have hv : farR ss k = farN (wid ss) (distD ss k) (wid ss * ss.length) := by simp [farR, hsm]
    have P1 := P.at ho
    have c1 := fun w' h => l06Distances_any w.heap.size p c ss k w' h
    rw [hv]
    rw [hsm] at c0
    obtain ⟨d, ed⟩ : ∃ d, distD ss k = d := ⟨_, rfl⟩
    rw [ed] at c1 ⊢
    have c1' : ∀ w', PicAt w' w.heap.size p c ss → Calls Try.prog 105 #[.pointer (some ⟨w.heap.size, 0, none⟩), .int .i64 k] w' fun e w'' => ∃ q d' vs, e = .returned (.slice q ss.length d') ∧ OwnIntss w'.heap.size w'' (.slice q ss.length d') (gridL (wid ss) ss.length d) vs ∧ Below w'.heap.size w' w'' := fun w' h =>
      (c1 w' h).mono fun e w'' ⟨v, he, ⟨vs, hO⟩, hb⟩ => by
        obtain ⟨q, d', hv⟩ := hO.form
        rw [gridL_len] at hv
        subst hv
        exact ⟨q, d', vs, he, hO, hb⟩
    have C0 := Lib.hid c0; clear c0
    have C1' := Lib.hid c1'; clear c1'
    have Hsm := Lib.hid hsm; clear hsm
    have Ho := Lib.hid ho; clear ho
    have Hk := Lib.hid hk; clear hk
    have Ed := Lib.hid ed; clear ed
    clear hv c1
    go_enter Try.func46, Try.ntmps46
    go_wp2_with fail
    refine (C0.out _ P).mono ?_
    rintro e w1 ⟨rfl, n, rfl⟩
    replace S := (S.bl (bl_drewN _ n)).alloc (.cells #[.int .i64 0, .int .i64 0] 27)
    replace B := (B.bl (bl_drewN _ n)).alloc (.cells #[.int .i64 0, .int .i64 0] 27)
    replace P1 := (P1.bl (bl_drewN _ n)).bl (bl_alloc _ (.cells #[.int .i64 0, .int .i64 0] 27))
    have C := Blk.new (((w.alloc (.cells #[.slice p ss.length c] 30)).alloc (.cells #[.int .i64 0, .int .i64 0] 27)).drewN n) #[.int .i64 0, .int .i64 0] 27
    have hszn : (((w.alloc (.cells #[.slice p ss.length c] 30)).alloc (.cells #[.int .i64 0, .int .i64 0] 27)).drewN n).heap.size = w.heap.size + 1 + 1 := by simp
    rw [hszn] at C
    clear hszn
    go_wp2_with fail
    refine (C1'.out _ (by first | exact P1 | (simpa using P1))).mono ?_
    rintro e w2 ⟨q, d', vs, rfl, hO, hb⟩
    replace S := S.bl hb
    replace B := B.bl hb
    replace C := C.bl hb
    clear hb P1
    replace hO := hO.mono (show w.heap.size + 1 + 1 + 1 ≤ _ by simp)
    have J0 : FarRel w (wid ss) ss.length d (w.heap.size + 1 + 1) q (0 * wid ss) (.int .i64 (-1)) w2 := by
      rw [Nat.zero_mul]
      exact ⟨rfl, B, C, S⟩
    clear B C S
    go_wp2
    go_loopw [8, 10] (fun v i wr => ∃ y : Nat, y ≤ ss.length ∧ i = .int .i64 y ∧ FarRel w (wid ss) ss.length d (w.heap.size + 1 + 1) q (y * wid ss) v wr ∧ OwnIntss (w.heap.size + 1 + 1 + 1) wr (.slice q ss.length d') (gridL (wid ss) ss.length d) vs) (fun _ i _ => ss.length - (intOf i).toNat)
    case atStart => exact ⟨0, Nat.zero_le _, rfl, J0, hO⟩
    case round =>
      clear J0 hO
      obtain ⟨y, hy, rfl, J, hO⟩ := hrel
      obtain rfl := J.v
      by_cases hyH : y < ss.length
      · go_wp2_with fail
        go_loopw [8, 11] (fun v i wr => ∃ x : Nat, x ≤ wid ss ∧ i = .int .i64 x ∧ FarRel w (wid ss) ss.length d (w.heap.size + 1 + 1) q (y * wid ss + x) v wr ∧ OwnIntss (w.heap.size + 1 + 1 + 1) wr (.slice q ss.length d') (gridL (wid ss) ss.length d) vs) (fun _ i _ => wid ss - (intOf i).toNat)
        case atStart => exact ⟨0, Nat.zero_le _, rfl, J, hO⟩
        case round =>
          clear J hO
          obtain ⟨x, hx, rfl, J, hO⟩ := hrel
          obtain rfl := J.v
          obtain ⟨b, o, b2, o2, c2, rfl, h1, h2⟩ := gridRd hO.rds hyH hd3
          have hy0 : (0 : Int) ≤ (y : Int) := Int.natCast_nonneg _
          have hy1 : (y : Int) < (ss.length : Int) := by omega
          by_cases hxW : x < wid ss
          · have h3 := h2 x hxW
            have hx0 : (0 : Int) ≤ (x : Int) := Int.natCast_nonneg _
            have hx1 : (x : Int) < (wid ss : Int) := by omega
            have hst := J.stay
            have hgo := J.go x y (at_mod hxW).1 (at_mod hxW).2 (by omega)
            obtain ⟨e0, f0, e1, f1, -, -⟩ := J.best.two (.int .i64 x) (.int .i64 y)
            have hO2 := (hO.set (a := ⟨w.heap.size + 1 + 1, 0, none⟩) (by simp) (.int .i64 x)).set (a := ⟨w.heap.size + 1 + 1, 1, none⟩) (by simp) (.int .i64 y)
            have ev := J.v
            rw [Nat.add_assoc] at hst hgo
            generalize (farN (wid ss) d (y * wid ss + x)).2 = M at *
            generalize (farN (wid ss) d (y * wid ss + x)).1.1 = M1 at *
            generalize (farN (wid ss) d (y * wid ss + x)).1.2 = M2 at *
            generalize d (y * wid ss + x) = D at *
            clear h2 J ev
            by_cases hlt : M < D
            · have J2 := hgo hlt
              clear hgo hst
              go_wp2
              go_roundw
              case rel => exact ⟨x + 1, by omega, by go_num, J2, hO2⟩
              case measure => simp [intOf]; omega
            · have J2 := hst hlt
              have hle : D ≤ M := Int.not_lt.1 hlt
              clear hgo hst hlt
              go_wp2
              go_roundw
              case rel => exact ⟨x + 1, by omega, by go_num, J2, hO⟩
              case measure => simp [intOf]; omega
          · obtain rfl : x = wid ss := by omega
            have e1 : y * wid ss + wid ss = (y + 1) * wid ss := by rw [Nat.add_mul, Nat.one_mul]
            rw [e1] at J
            have E1 := Lib.hid e1; clear e1
            clear h2
            go_wp2
            go_roundw
            case rel => exact ⟨y + 1, by omega, by go_num, by rw [E1.out]; exact J, hO⟩
            case measure => simp [intOf]; omega
      · obtain rfl : y = ss.length := by omega
        have e1 : ss.length * wid ss = wid ss * ss.length := Nat.mul_comm _ _
        rw [e1] at J
        have r0 := J.best.cell 0 rfl
        have r1 := J.best.cell 1 rfl
        obtain ⟨s0, g0, s1, g1, t0, t1⟩ := J.res.two (.int .i64 (farN (wid ss) d (wid ss * ss.length)).1.1) (.int .i64 (farN (wid ss) d (wid ss * ss.length)).1.2)
        have S3 := J.since.set2 (b := w.heap.size + 1) (by omega) (.int .i64 (farN (wid ss) d (wid ss * ss.length)).1.1) (.int .i64 (farN (wid ss) d (wid ss * ss.length)).1.2)
        obtain ⟨⟨⟨m1, m2⟩, m3⟩, eM⟩ : ∃ M, farN (wid ss) d (wid ss * ss.length) = M := ⟨_, rfl⟩
        rw [eM] at r0 r1 g1 s1 t0 t1 S3
        dsimp only at r0 r1 g1 s1 t0 t1 S3
        have EM := Lib.hid eM; clear eM
        have E1 := Lib.hid e1; clear e1
        clear J hO
        rw [E1.out, EM.out]
        dsimp only
        go_wp2
        refine bodyPost_ret (v := .tuple #[.agg #[.int .i64 m1, .int .i64 m2], .int .i64 m3, .bool true]) (by simp [results, Try.results46, go_sem, t0, t1]) rfl ⟨by rw [EM.out], S3.below⟩
end Go.Proofs.Ytakoklldmdbphaa
