/- The parts of a text between marks: the plain law of the library's cut, and the reference's contract. -/
import Derived.Test.YtdjjfgkcheimjaaDoorLawStr
import Derived.Test.YtdjjfgkcheimjaaDoorBase
import Derived.Lib.SplitLaws
import Derived.Lib.IndexBytes
set_option linter.unusedVariables false
set_option linter.unusedSimpArgs false
namespace Go.Proofs.YtdjjfgkcheimjaaDoor
open Go.RowKit

/-- The parts of what is left, when a part has begun. -/
def cutF (c : UInt8) : List UInt8 → List UInt8 → List (List UInt8)
  | cur, [] => [cur]
  | cur, b :: r => if b = c then cur :: cutF c [] r else cutF c (cur ++ [b]) r
def mkS (l : List UInt8) : ByteArray := ⟨l.toArray⟩
def cutS (s : ByteArray) (c : UInt8) : List ByteArray := (cutF c [] s.data.toList).map mkS
theorem cutF_byte (c : UInt8) : ∀ (l cur : List UInt8), cutF c cur l = if Lib.indexByte l c = -1 then [cur ++ l] else (cur ++ l.take (Lib.indexByte l c).toNat) :: cutF c [] (l.drop ((Lib.indexByte l c).toNat + 1)) := by
  intro l
  induction l with
  | nil => intro cur; simp [cutF, Lib.indexByte]
  | cons b l ih =>
    intro cur
    rw [cutF, Lib.indexByte]
    by_cases hb : b = c
    · subst hb
      simp
    · have hb' : (b == c) = false := by simp [hb]
      have hge := Lib.indexByte_ge l c
      rw [if_neg hb, ih, hb']
      by_cases hm : Lib.indexByte l c = -1
      · simp [hm]
      · have e : (Lib.indexByte l c + 1).toNat = (Lib.indexByte l c).toNat + 1 := by omega
        have hm2 : ¬ Lib.indexByte l c + 1 = -1 := by omega
        have hm3 : (Lib.indexByte l c == -1) = false := by simp [hm]
        rw [if_neg hm]
        simp only [hm3, Bool.false_eq_true, if_false]
        rw [if_neg hm2, e]
        simp
theorem splitK_cut (c : UInt8) : ∀ (n : Nat) (l : List UInt8), l.length ≤ n → Lib.splitK [c] 0 (Lib.count l [c]) l = cutF c [] l := by
  intro n
  induction n with
  | zero =>
    intro l h
    obtain rfl : l = [] := List.length_eq_zero_iff.1 (by omega)
    rw [cutF_byte]
    simp [Lib.indexByte, Lib.count_miss (s := []) (sub := [c]) (by simp [Lib.index]), Lib.splitK]
  | succ n ih =>
    intro l h
    rw [cutF_byte]
    have hi := Lib.index_one l c
    have hge := Lib.indexByte_ge l c
    by_cases hm : Lib.indexByte l c = -1
    · rw [if_pos hm, Lib.count_miss (by rw [hi, hm])]
      simp [Lib.splitK]
    · have e : Lib.index l [c] = ((Lib.indexByte l c).toNat : Nat) := by rw [hi]; omega
      rw [if_neg hm, Lib.count_hit (by simp) e, Nat.add_comm, Lib.splitK, if_neg (by rw [hi]; simpa using hm), hi]
      have hne : l ≠ [] := by
        rintro rfl
        exact hm (by simp [Lib.indexByte])
      have hp := List.length_pos_iff.2 hne
      rw [List.length_singleton, ih _ (by rw [List.length_drop]; omega)]
      simp
theorem split_cut (s : ByteArray) (c : UInt8) : Lib.splitB ⟨#[c]⟩ 0 (Lib.countB s ⟨#[c]⟩) s = cutS s c := by
  have h := Lib.splitB_data ⟨#[c]⟩ 0 (Lib.countB s ⟨#[c]⟩) s
  have h2 := splitK_cut c _ s.data.toList (Nat.le_refl _)
  rw [show (Lib.countB s ⟨#[c]⟩) = Lib.count s.data.toList [c] from rfl, show (⟨#[c]⟩ : ByteArray).data.toList = [c] from rfl] at h
  rw [h2] at h
  rw [cutS, ← h, List.map_map]
  rw [show (mkS ∘ fun x : ByteArray => x.data.toList) = id from funext fun x => by simp [mkS]]
  simp
theorem cutF_len (c : UInt8) : ∀ (l cur : List UInt8), (cutF c cur l).length ≤ l.length + 1 := by
  intro l
  induction l with
  | nil => intro cur; simp [cutF]
  | cons b l ih =>
    intro cur
    rw [cutF]
    split
    · have := ih []; simp; omega
    · have := ih (cur ++ [b]); simp; omega
theorem cutS_len (s : ByteArray) (c : UInt8) : (cutS s c).length ≤ s.size + 1 := by
  have := cutF_len c s.data.toList []
  rw [cutS, List.length_map]
  rw [Array.length_toList] at this
  exact this
theorem cutF_ne (c : UInt8) : ∀ (l cur : List UInt8), 1 ≤ (cutF c cur l).length := by
  intro l
  induction l with
  | nil => intro cur; simp [cutF]
  | cons b l ih =>
    intro cur
    rw [cutF]
    split
    · simp
    · exact ih _
theorem cutS_ne (s : ByteArray) (c : UInt8) : 1 ≤ (cutS s c).length := by rw [cutS, List.length_map]; exact cutF_ne _ _ _
theorem cutF_size (c : UInt8) : ∀ (l cur : List UInt8), ∀ x ∈ cutF c cur l, x.length ≤ cur.length + l.length := by
  intro l
  induction l with
  | nil => intro cur x hx; simp [cutF] at hx; subst hx; simp
  | cons b l ih =>
    intro cur x hx
    rw [cutF] at hx
    split at hx
    · rcases List.mem_cons.1 hx with rfl | hx
      · omega
      · have := ih [] x hx; simp at this ⊢; omega
    · have := ih (cur ++ [b]) x hx; simp at this ⊢; omega
theorem cutS_size {s : ByteArray} {c : UInt8} : ∀ x ∈ cutS s c, x.size ≤ s.size := by
  intro x hx
  obtain ⟨l, hl, rfl⟩ := List.mem_map.1 hx
  have := cutF_size c s.data.toList [] l hl
  simp only [List.length_nil, Nat.zero_add, Array.length_toList] at this
  show l.toArray.size ≤ s.size
  rw [List.size_toArray]
  exact this
theorem mkS_extract (s : ByteArray) {f k : Nat} (h : f ≤ k) : mkS ((s.data.toList.drop f).take (k - f)) = s.extract f k := by
  have h2 : (s.extract f k).data.toList = (s.data.toList.drop f).take (k - f) := by
    rw [ByteArray.data_extract, Array.toList_extract, List.extract_eq_take_drop]
  rw [← h2]
  rfl
/-- Where the loop stands: at byte k, in a part that began at f, with the parts L behind it. -/
def CutSt (s : ByteArray) (c : UInt8) (k f : Nat) (L : List ByteArray) : Prop :=
  (f ≤ k ∧ k ≤ s.size ∧ L.length ≤ k ∧ cutS s c = L ++ (cutF c ((s.data.toList.drop f).take (k - f)) (s.data.toList.drop k)).map mkS) ∨ (k = s.size + 1 ∧ L = cutS s c ∧ f ≤ s.size + 1)
theorem cut_start (s : ByteArray) (c : UInt8) : CutSt s c 0 0 [] := .inl ⟨Nat.le_refl _, Nat.zero_le _, by simp, by simp [cutS]⟩
theorem cut_drop {s : ByteArray} {k : Nat} (h : k < s.size) : s.data.toList.drop k = s[k] :: s.data.toList.drop (k + 1) := by
  rw [List.drop_eq_getElem_cons (by rw [Array.length_toList]; exact h)]; rfl
theorem cut_mark {s : ByteArray} {c : UInt8} {k f : Nat} {L : List ByteArray} (hf : f ≤ k) (hk : k < s.size) (hL : L.length ≤ k) (h : cutS s c = L ++ (cutF c ((s.data.toList.drop f).take (k - f)) (s.data.toList.drop k)).map mkS) (hb : s[k] = c) :
    CutSt s c (k + 1) (k + 1) (L ++ [s.extract f k]) := by
  refine .inl ⟨Nat.le_refl _, hk, by simp; omega, ?_⟩
  rw [h, cut_drop hk, cutF, if_pos hb, List.map_cons, mkS_extract s hf]
  simp
theorem cut_byte {s : ByteArray} {c : UInt8} {k f : Nat} {L : List ByteArray} (hf : f ≤ k) (hk : k < s.size) (hL : L.length ≤ k) (h : cutS s c = L ++ (cutF c ((s.data.toList.drop f).take (k - f)) (s.data.toList.drop k)).map mkS) (hb : ¬ s[k] = c) :
    CutSt s c (k + 1) f L := by
  refine .inl ⟨by omega, hk, by omega, ?_⟩
  rw [h, cut_drop hk, cutF, if_neg hb]
  have e : (s.data.toList.drop f).take (k - f) ++ [s[k]] = (s.data.toList.drop f).take (k + 1 - f) := by
    rw [show k + 1 - f = k - f + 1 by omega, List.take_add_one]
    congr 1
    rw [List.getElem?_drop, show f + (k - f) = k by omega, List.getElem?_eq_getElem (by rw [Array.length_toList]; exact hk)]
    rfl
  rw [e]
theorem cut_last {s : ByteArray} {c : UInt8} {f : Nat} {L : List ByteArray} (hf : f ≤ s.size) (h : cutS s c = L ++ (cutF c ((s.data.toList.drop f).take (s.size - f)) (s.data.toList.drop s.size)).map mkS) :
    CutSt s c (s.size + 1) (s.size + 1) (L ++ [s.extract f s.size]) := by
  refine .inr ⟨rfl, ?_, Nat.le_refl _⟩
  have hd : s.data.toList.drop s.size = [] := List.drop_of_length_le (by rw [Array.length_toList]; exact Nat.le_refl _)
  rw [h, hd, cutF, List.map_cons, mkS_extract s hf, List.map_nil]
theorem info_st : (Tryd.prog.info? 9).map (fun i => (i.zero, i.size, i.bytes)) = some (some (.string ByteArray.empty), 1, 16) := by kernel_rfl
theorem one_st (x : ByteArray) : ∀ u ∈ (#[Value.string x] : Array Value).toList, u.oneCell' = true := by simp [Value.oneCell']
/-- The parts as they lie. -/
def StrsAt (w : World) (L : List ByteArray) (v : Value) (wr : World) : Prop := ∃ q d, v = .slice q L.length d ∧ wr.ownsRow w.heap.size 9 1 (.slice q L.length d) L.length (L.map Value.string) ∧ Since w wr
theorem strs_push {w w2 : World} {L : List ByteArray} {x : ByteArray} {q : Option Addr} {cap : Nat} (ho : w2.ownsRow w.heap.size 9 1 (.slice q (L.length + 1) cap) (L.length + 1) (L.map Value.string ++ (#[Value.string x] : Array Value).toList)) (S : Since w w2) : StrsAt w (L ++ [x]) (.slice q (L.length + 1) cap) w2 := by
  have e : L.length + 1 = (L ++ [x]).length := by simp
  have e2 : L.map Value.string ++ (#[Value.string x] : Array Value).toList = (L ++ [x]).map Value.string := by simp
  rw [e, e2] at ho
  rw [e]
  exact ⟨_, _, rfl, ho, S⟩
set_option maxRecDepth 100000 in
set_option maxHeartbeats 4000000 in
theorem l01Cut_any (s : ByteArray) (c : UInt8) (w : World) (hs : s.size ≤ 1048576) :
    Calls Tryd.prog 42 #[.string s, .int .u8 c.toNat] w fun e w' => ∃ v, e = .returned v ∧ OwnStrs w.heap.size w' v (cutS s c) ∧ Below w.heap.size w w' := by
  have S0 := (Since.refl w).alloc (.cells #[] 9)
  have T0 := World.ownsRow_made (base := w.heap.size) (size := 1) (e := 9) w #[] 0 (Nat.le_refl _) (by decide) rfl
  have hmk := c.toNat_lt
  go_enter Tryd.func42, Tryd.ntmps42
  go_wp2
  go_loopw [5, 6, 7] (fun v f i wr => ∃ (k f0 : Nat) (L : List ByteArray), i = .int .i64 k ∧ f = .int .i64 f0 ∧ CutSt s c k f0 L ∧ StrsAt w L v wr) (fun _ _ i _ => s.size + 1 - (intOf i).toNat)
  case atStart => exact ⟨0, 0, [], rfl, rfl, cut_start s c, ⟨_, _, rfl, T0, S0⟩⟩
  case round =>
    clear T0 S0
    obtain ⟨k, f0, L, rfl, rfl, hst, ⟨q, d, rfl, hown, S⟩⟩ := hrel
    have hsS := S.size
    rcases hst with ⟨hf, hk, hL, hst⟩ | ⟨rfl, rfl, hf⟩
    · by_cases hlt : k < s.size
      · by_cases hb : s[k] = c
        · have hst2 := cut_mark hf hlt hL hst hb
          have hb2 : s[k].toNat = c.toNat := by rw [hb]
          have Hst2 := Lib.hid hst2; clear hst2
          have Hst := Lib.hid hst; clear hst
          clear hb
          go_wp2_with (at_builtin; refine wpList_push rfl _ _ 30 rfl w.heap.size 9 (.string ByteArray.empty) 1 16 Tryd.underlying30 info_st rfl (by decide) (.slice q L.length d) L.length _ rfl hown _ 1 rfl rfl (one_st _) (by omega) (by simp [maxLen]; omega) hsS ?_; intro g' cap w2 hown2 hgr hat hlt2)
          have S2 : Since w w2 := ⟨below_own S.below hgr (own_ge hown) hsS⟩
          go_roundw
          case rel => exact ⟨k + 1, k + 1, L ++ [s.extract f0 k], by go_num, by go_num, Hst2.out, strs_push hown2 S2⟩
          case measure => simp [intOf]; omega
        · have hst2 := cut_byte hf hlt hL hst hb
          have hb1 : ¬ s[k].toNat = c.toNat := fun e => hb (UInt8.toNat_inj.1 e)
          have hb2 : ((s[k].toNat : Int) == (c.toNat : Int)) = false := by rw [beq_eq_false_iff_ne]; omega
          clear hb1
          have Hst2 := Lib.hid hst2; clear hst2
          have Hst := Lib.hid hst; clear hst
          clear hb
          have hby := s[k].toNat_lt
          go_wp2
          go_roundw
          case rel => exact ⟨k + 1, f0, L, by go_num, rfl, Hst2.out, ⟨_, _, rfl, hown, S⟩⟩
          case measure => simp [intOf]; omega
      · obtain rfl : k = s.size := by omega
        have hst2 := cut_last hf hst
        have Hst2 := Lib.hid hst2; clear hst2
        have Hst := Lib.hid hst; clear hst
        go_wp2_with (at_builtin; refine wpList_push rfl _ _ 30 rfl w.heap.size 9 (.string ByteArray.empty) 1 16 Tryd.underlying30 info_st rfl (by decide) (.slice q L.length d) L.length _ rfl hown _ 1 rfl rfl (one_st _) (by omega) (by simp [maxLen]; omega) hsS ?_; intro g' cap w2 hown2 hgr hat hlt2)
        have S2 : Since w w2 := ⟨below_own S.below hgr (own_ge hown) hsS⟩
        go_roundw
        case rel => exact ⟨s.size + 1, s.size + 1, L ++ [s.extract f0 s.size], by go_num, by go_num, Hst2.out, strs_push hown2 S2⟩
        case measure => simp [intOf]
    · go_wp2
      go_ret
      exact ⟨_, rfl, ⟨_, _, rfl, hown⟩, S.below⟩
end Go.Proofs.YtdjjfgkcheimjaaDoor
