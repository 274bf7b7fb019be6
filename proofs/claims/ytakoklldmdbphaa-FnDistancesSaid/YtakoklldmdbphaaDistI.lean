/- Contract of the program's DistancesOf. -/
import Derived.Test.YtakoklldmdbphaaFarthest
import Derived.Test.YtakoklldmdbphaaAllSpots
set_option linter.unusedVariables false
namespace Go.Proofs.Ytakoklldmdbphaa
open Go.RowKit

def distL (ss : List ByteArray) (k : Int) : List (List Int) := if someB ss k then gridL (wid ss) ss.length (distD ss k) else []
theorem callFunc_dist1 : ∀ args w, (callFunc 109 args).run Try.prog w = .ok (.enter 109 args) w := fun args w => by kernel_rfl
set_option maxHeartbeats 4000000 in
theorem dist1_any (k : Int) (q : Option Addr) (c : Nat) (l : List (Int × Int)) (x y kb lb : Nat) (t1 t2 : TypeId) (w : World) (hx : x < 16) (hy : y < 16) (h0 : 0 < l.length) (h1 : l.length ≤ 256) (hl : ∀ s ∈ l, (-1000 ≤ s.1 ∧ s.1 ≤ 1000) ∧ (-1000 ≤ s.2 ∧ s.2 ≤ 1000))
    (K : Box w kb (.int .i64 k) t1) (L : Box w lb (.slice q l.length c) t2) (R : Rd w q (l.length * 2) (spotAt l)) :
    Calls Try.prog 109 #[.int .i64 x, .int .i64 y, .pointer (some ⟨kb, 0, none⟩), .pointer (some ⟨lb, 0, none⟩)] w fun e w' => e = .returned (.int .i64 (farG k x y (bestS (farG k x y) l))) ∧ Below w.heap.size w w' := by
  have k0 := K.cell
  have l0 := L.cell
  have c0 := least_any k x y q c l w (by omega) (by omega) hl h0 h1 R
  generalize leastN (farG k x y) l l.length = N at *
  generalize farG k x y (bestS (farG k x y) l) = D at *
  have C0 := Lib.hid c0; clear c0
  have Hl := Lib.hid hl; clear hl
  clear K L R
  go_enter Try.func109, Try.ntmps109
  go_wp2_with fail
  with_reducible (refine C0.out.mono ?_)
  rintro e w1 ⟨rfl, hb⟩
  go_wp2
  go_ret
  exact ⟨rfl, hb⟩
set_option maxRecDepth 100000 in
set_option maxHeartbeats 4000000 in
theorem distancesOf_any (p : Option Addr) (c : Nat) (ss : List ByteArray) (k : Int) (w : World) (hn : ss.length ≤ 1048576) (hs : ∀ s ∈ ss, s.size ≤ 1048576) (hr : Rd w p ss.length (strAt ss)) :
    Calls Try.prog 49 #[.agg #[.slice p ss.length c], .int .i64 k] w fun e w' => ∃ v, e = .returned (.tuple #[v, .bool (someB ss k)]) ∧ OwnSS w.heap.size w' v (distL ss k) ∧ Below w.heap.size w w' := by
  have S := ((Since.refl w).alloc (.cells #[.slice p ss.length c] 30)).alloc (.cells #[.int .i64 k] 2)
  have R := (hr.alloc (.cells #[.slice p ss.length c] 30)).alloc (.cells #[.int .i64 k] 2)
  have A := Box.new (w.alloc (.cells #[.slice p ss.length c] 30)) (.int .i64 k) 2
  simp only [World.size_alloc] at A
  have a0 := A.cell
  have hv0 : someB ss k = false → distL ss k = [] := fun h => by simp [distL, h]
  have hv1 : someB ss k = true → distL ss k = gridL (wid ss) ss.length (distD ss k) := fun h => by simp [distL, h]
  have Hv0 := Lib.hid hv0; clear hv0
  have Hv1 := Lib.hid hv1; clear hv1
  go_enter Try.func49, Try.ntmps49
  go_wp2_with fail
  with_reducible (refine (withBlack_any p c ss k _ hn hs R).mono ?_)
  rintro e w1 ⟨hb, ⟨h, rfl⟩ | ⟨h, m, g, v, rfl, I, O, hm, hg⟩⟩
  · replace S := (S.bl hb).alloc (.cells #[.slice none 0 0] 51)
    have v1 := Hv0.out h
    have H := Lib.hid h; clear h
    have V1 := Lib.hid v1; clear v1
    clear hb R A a0
    go_wp2
    go_ret2
    exact ⟨_, by rw [H.out]; rfl, by rw [V1.out]; exact ⟨_, OwnIntss.nil _ _⟩, S.below⟩
  · have v1 := Hv1.out h
    obtain ⟨ho, _, h0⟩ := someB_true h
    obtain ⟨hd1, hd2, hd3, hd4⟩ := okPic_dims ho
    replace S := S.bl hb
    replace A := A.bl hb
    clear hb R a0
    obtain ⟨q, d, rfl⟩ := O.form
    have Q := O.rd
    have y1 := bl_alloc w1 (.cells #[.slice q (spotsL ss).length d] 51)
    have L := Box.new w1 (.slice q (spotsL ss).length d) 51
    replace S := S.bl y1
    replace A := A.bl y1
    replace I := I.bl y1
    replace Q := Q.bl y1
    have hl := spotsL_len ss
    have cg := grid_any m g (wid ss) ss.length (bits ss) 109 #[.pointer (some ⟨w.heap.size + 1, 0, none⟩), .pointer (some ⟨w1.heap.size, 0, none⟩)] (distD ss k) _ I callFunc_dist1
      (fun x y w' hx hy hb => by
        rw [distD_at hx, bestD, if_neg (by omega)]
        exact dist1_any k q d (spotsL ss) x y _ _ _ _ w' (by omega) (by omega) h0 hl (fun s hs => by have := spotsL_mem hs; omega) (A.bl hb) (L.bl hb) (Q.bl hb))
    have hsz := S.size
    have H := Lib.hid h; clear h
    have V1 := Lib.hid v1; clear v1
    have Ho := Lib.hid ho; clear ho
    have Cg := Lib.hid cg; clear cg
    have Hl := Lib.hid hl; clear hl
    clear O y1 A I Q L hm hg
    go_wp2_with fail
    with_reducible (refine Cg.out.mono ?_)
    rintro e w3 ⟨v, rfl, ⟨vs, O⟩, hb⟩
    replace S := S.bl hb
    clear hb
    obtain ⟨q', c', rfl⟩ := O.form
    have O2 : OwnSS w.heap.size w3 _ (gridL (wid ss) ss.length (distD ss k)) := ⟨vs, O.mono hsz⟩
    clear O
    go_wp2
    go_ret2
    exact ⟨_, by rw [H.out]; rfl, by rw [V1.out]; exact O2, S.below⟩
end Go.Proofs.Ytakoklldmdbphaa
