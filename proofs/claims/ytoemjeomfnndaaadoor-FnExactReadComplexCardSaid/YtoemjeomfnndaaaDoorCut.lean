/- A text cut at its commas, in plain words. No program in sight. -/
import Derived.Test.YtoemjeomfnndaaaDoorVal
import Derived.Lib.Split
import Derived.Lib.IndexLaws
import Derived.Lib.IndexBytes
namespace Go.Proofs.YtoemjeomfnndaaaDoor
set_option linter.unusedVariables false
/-- The pieces of a text, the first begun with cur. -/
def cutR : List UInt8 → List UInt8 → List (List UInt8)
  | [], cur => [cur]
  | c :: l, cur => if c = 44 then cur :: cutR l [] else cutR l (cur ++ [c])
theorem cutR_cons (c : UInt8) (l cur : List UInt8) : cutR (c :: l) cur = if c = 44 then cur :: cutR l [] else cutR l (cur ++ [c]) := rfl
theorem cutR_none : ∀ (l cur : List UInt8), (∀ c ∈ l, c ≠ 44) → cutR l cur = [cur ++ l]
  | [], cur, _ => by simp [cutR]
  | c :: l, cur, h => by
    rw [cutR_cons, if_neg (h c List.mem_cons_self), cutR_none l (cur ++ [c]) (fun d hd => h d (List.mem_cons_of_mem _ hd))]
    simp
theorem cutR_hit : ∀ (a b cur : List UInt8), (∀ c ∈ a, c ≠ 44) → cutR (a ++ 44 :: b) cur = (cur ++ a) :: cutR b []
  | [], b, cur, _ => by rw [List.nil_append, cutR_cons, if_pos rfl, List.append_nil]
  | c :: a, b, cur, h => by
    rw [List.cons_append, cutR_cons, if_neg (h c List.mem_cons_self), cutR_hit a b (cur ++ [c]) (fun d hd => h d (List.mem_cons_of_mem _ hd))]
    simp
theorem splitK_cut : ∀ (k : Nat) (l : List UInt8), Lib.count l [44] = k → Lib.splitK [44] 0 k l = cutR l [] := by
  intro k
  induction k with
  | zero =>
    intro l h
    have hi : Lib.index l [44] = -1 := by
      rcases Int.lt_or_le (Lib.index l [44]) 0 with q | q
      · have := Lib.index_ge l [44]; omega
      · obtain ⟨i, hi⟩ : ∃ i : Nat, Lib.index l [44] = i := ⟨(Lib.index l [44]).toNat, by omega⟩
        have := Lib.count_hit (by simp) hi
        omega
    rw [Lib.index_one] at hi
    have hn := Lib.indexByte_none hi
    rw [cutR_none l [] fun c hc e => by
      obtain ⟨j, hj⟩ := List.mem_iff_getElem?.1 hc
      exact hn j (by rw [hj, e])]
    rfl
  | succ k ih =>
    intro l h
    obtain ⟨i, hi⟩ : ∃ i : Nat, Lib.index l [44] = i := by
      rcases Int.lt_or_le (Lib.index l [44]) 0 with q | q
      · have : Lib.index l [44] = -1 := by have := Lib.index_ge l [44]; omega
        have := Lib.count_miss this
        omega
      · exact ⟨(Lib.index l [44]).toNat, by omega⟩
    have hc := Lib.count_hit (sub := [44]) (by simp) hi
    have hk : Lib.count (l.drop (i + 1)) [44] = k := by
      have : ([44] : List UInt8).length = 1 := rfl
      rw [this] at hc
      omega
    unfold Lib.splitK
    rw [hi, if_neg (by rw [beq_iff_eq]; omega)]
    show l.take i :: Lib.splitK [44] 0 k (l.drop (i + 1)) = _
    rw [ih _ hk]
    rw [Lib.index_one] at hi
    obtain ⟨h1, h2⟩ := Lib.indexByte_some hi
    have hlt : i < l.length := (List.getElem?_eq_some_iff.1 h1).1
    have he : l = l.take i ++ 44 :: l.drop (i + 1) := by
      have := List.take_append_drop i l
      rw [List.drop_eq_getElem_cons hlt] at this
      rw [List.getElem?_eq_getElem hlt] at h1
      rw [Option.some.inj h1] at this
      exact this.symm
    have hn : ∀ c ∈ l.take i, c ≠ 44 := fun c hc e => by
      obtain ⟨j, hj⟩ := List.mem_iff_getElem?.1 hc
      have hji : j < i := by
        have := (List.getElem?_eq_some_iff.1 hj).1
        rw [List.length_take] at this
        omega
      rw [List.getElem?_take_of_lt hji] at hj
      exact h2 j hji (by rw [hj, e])
    have hh := cutR_hit (l.take i) (l.drop (i + 1)) [] hn
    rw [← he] at hh
    rw [hh]; rfl
/-- The pieces of a text. -/
def pcs (l : List UInt8) : List (List UInt8) := cutR l []
/-- Its piece at i. -/
def pc (l : List UInt8) (i : Nat) : List UInt8 := (pcs l).getD i []
theorem cutR_pos : ∀ (l cur : List UInt8), 1 ≤ (cutR l cur).length
  | [], _ => by simp [cutR]
  | c :: l, cur => by
    unfold cutR
    split
    · simp
    · exact cutR_pos l _
theorem cutR_len : ∀ (l cur : List UInt8), (cutR l cur).length ≤ l.length + 1
  | [], _ => by simp [cutR]
  | c :: l, cur => by
    unfold cutR
    split
    · have := cutR_len l []; simp; omega
    · have := cutR_len l (cur ++ [c]); simp; omega
theorem cutR_size : ∀ (l cur : List UInt8), ∀ x ∈ cutR l cur, x.length ≤ cur.length + l.length
  | [], cur, x, h => by simp [cutR] at h; subst h; simp
  | c :: l, cur, x, h => by
    unfold cutR at h
    split at h
    · rcases List.mem_cons.1 h with rfl | h
      · omega
      · have := cutR_size l [] x h; simp at *; omega
    · have := cutR_size l (cur ++ [c]) x h
      simp at *; omega
theorem pcs_pos (l : List UInt8) : 1 ≤ (pcs l).length := cutR_pos l []
theorem pcs_len (l : List UInt8) : (pcs l).length ≤ l.length + 1 := cutR_len l []
theorem pc_size (l : List UInt8) (i : Nat) : (pc l i).length ≤ l.length := by
  unfold pc
  rw [List.getD_eq_getElem?_getD]
  cases h : (pcs l)[i]? with
  | none => simp
  | some x =>
    have := cutR_size l [] x (List.mem_iff_getElem?.2 ⟨i, h⟩)
    simpa using this
/-- What the reference's loop holds: the bytes before i are cut into k pieces and the piece from f on. -/
def CutAt (l : List UInt8) (i f k : Nat) : Prop := f ≤ i ∧ ∃ done : List (List UInt8), done.length = k ∧ pcs l = done ++ cutR (l.drop i) ((l.take i).drop f)
theorem CutAt.start (l : List UInt8) : CutAt l 0 0 0 := ⟨Nat.le_refl _, [], rfl, by simp [pcs]⟩
theorem CutAt.skip {l : List UInt8} {i f k : Nat} (h : CutAt l i f k) (hi : i < l.length) (hc : l[i] ≠ 44) : CutAt l (i + 1) f k := by
  obtain ⟨h1, done, h2, h3⟩ := h
  refine ⟨by omega, done, h2, ?_⟩
  rw [h3, List.drop_eq_getElem_cons hi]
  conv => lhs; unfold cutR
  rw [if_neg hc, List.take_succ_eq_append_getElem hi, List.drop_append_of_le_length (by rw [List.length_take]; omega)]
theorem CutAt.hit {l : List UInt8} {i f k : Nat} (h : CutAt l i f k) (hi : i < l.length) (hc : l[i] = 44) : pc l k = (l.take i).drop f ∧ CutAt l (i + 1) (i + 1) (k + 1) := by
  obtain ⟨h1, done, h2, h3⟩ := h
  rw [List.drop_eq_getElem_cons hi] at h3
  unfold cutR at h3
  rw [if_pos hc] at h3
  refine ⟨?_, Nat.le_refl _, done ++ [(l.take i).drop f], by simp [h2], ?_⟩
  · unfold pc
    rw [h3, List.getD_eq_getElem?_getD, List.getElem?_append_right (by omega), h2, Nat.sub_self]; rfl
  · have e : (l.take (i + 1)).drop (i + 1) = [] := List.drop_of_length_le (by rw [List.length_take]; omega)
    rw [h3, e]
    simp
theorem CutAt.last {l : List UInt8} {f k : Nat} (h : CutAt l l.length f k) : pc l k = (l.take l.length).drop f ∧ k + 1 = (pcs l).length := by
  obtain ⟨h1, done, h2, h3⟩ := h
  rw [List.drop_length] at h3
  unfold cutR at h3
  refine ⟨?_, by rw [h3]; simp [h2]⟩
  unfold pc
  rw [h3, List.getD_eq_getElem?_getD, List.getElem?_append_right (by omega), h2, Nat.sub_self]; rfl
theorem CutAt.room {l : List UInt8} {i f k : Nat} (h : CutAt l i f k) : k < (pcs l).length := by
  obtain ⟨h1, done, h2, h3⟩ := h
  have := cutR_pos (l.drop i) ((l.take i).drop f)
  rw [h3, List.length_append]; omega
end Go.Proofs.YtoemjeomfnndaaaDoor
