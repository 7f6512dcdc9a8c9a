/- IsName: both sides. -/
import Derived.Test.YtoemjeomfnndaaaDoorName
import Derived.Test.YtoemjeomfnndaaaDoorSlC
import Derived.Test.YtoemjeomfnndaaaDoorShTrim
import Derived.Deep.LoopGhost
namespace Go.Proofs.YtoemjeomfnndaaaDoor
open Go.RowKit Go.Shelf
set_option linter.unusedVariables false
theorem ret_bool {a b : Bool} (h : a = b) : Ending.returned (.bool a) = .returned (.bool b) := by rw [h]
theorem all_take_succ (s : ByteArray) (k : Nat) (h : k < s.size) : (s.data.toList.take (k + 1)).all low = ((s.data.toList.take k).all low && low s[k]) := by
  have hk : k < s.data.toList.length := by simpa using h
  rw [List.take_add_one, List.getElem?_eq_getElem hk, List.all_append]
  have : s.data.toList[k] = s[k] := rfl
  rw [this]
  simp
theorem all_take (s : ByteArray) (k : Nat) (h : k < s.size) (hf : low s[k] = false) : s.data.toList.all low = false := by
  rw [List.all_eq_false]
  exact ⟨s[k], List.getElem_mem (by simpa using h), by simp [hf]⟩
theorem low_yes {c : UInt8} (h : low c = true) : 97 ≤ c.toNat ∧ c.toNat ≤ 122 := by
  unfold low at h
  simpa using h
theorem low_no {c : UInt8} (h : low c = false) : c.toNat < 97 ∨ (97 ≤ c.toNat ∧ 122 < c.toNat) := by
  unfold low at h
  simp at h
  omega
set_option maxHeartbeats 400000 in
theorem specName_any (s : ByteArray) (w : World) (hs : s.size ≤ 1048576) :
    Calls Tryd.prog 28 #[.string s] w fun e w' => e = .returned (.bool (nameB s.data.toList)) ∧ Below w.heap.size w w' := by
  go_enter Tryd.func28, Tryd.ntmps28
  go_wp2
  go_loop [3] (fun i => ∃ k : Nat, k ≤ s.size ∧ i = .int .i64 k ∧ Hid ((s.data.toList.take k).all low = true)) (fun i => s.size - (intOf i).toNat)
  case atStart => exact ⟨0, Nat.zero_le _, rfl, Lib.hid rfl⟩
  case round =>
    obtain ⟨k, hk, rfl, hA⟩ := hrel
    by_cases hlt : k < s.size
    · cases hq : low s[k] with
      | true =>
        have hn := Lib.hid (show (s.data.toList.take (k + 1)).all low = true by rw [all_take_succ s k hlt, hA.out, hq]; rfl)
        obtain ⟨h1, h2⟩ := low_yes hq
        clear hq
        go_wp2
        go_round
        case rel => exact ⟨k + 1, by omega, by go_num, hn⟩
        case measure => simp [intOf]; omega
      | false =>
        have hn := Lib.hid (all_take s k hlt hq)
        rcases low_no hq with h1 | ⟨h1, h2⟩
        · clear hq
          go_wp2
          go_ret
          exact ⟨by unfold nameB; rw [hn.out, Bool.and_false]; rfl, Below.refl _ _⟩
        · clear hq
          go_wp2
          go_ret
          exact ⟨by unfold nameB; rw [hn.out, Bool.and_false]; rfl, Below.refl _ _⟩
    · obtain rfl : k = s.size := by omega
      have hB : nameB s.data.toList = (decide (1 ≤ s.size) && decide (s.size ≤ 8)) := by
        have := hA.out
        rw [List.take_of_length_le (by simp)] at this
        unfold nameB; rw [this, Bool.and_true]; simp
      have hC := Lib.hid hB
      clear hB
      by_cases q1 : 1 ≤ s.size
      · go_wp2
        go_ret
        exact ⟨ret_bool (by rw [hC.out, decide_eq_true q1, Bool.true_and]; exact decide_eq_decide.2 (by omega)), Below.refl _ _⟩
      · go_wp2
        go_ret
        exact ⟨ret_bool (by rw [hC.out, decide_eq_false q1, Bool.false_and]), Below.refl _ _⟩
set_option maxHeartbeats 400000 in
theorem implName_any (s : ByteArray) (w : World) (hs : s.size ≤ 1048576) :
    Calls Tryd.prog 29 #[.string s] w fun e w' => e = .returned (.bool (nameB s.data.toList)) ∧ Below w.heap.size w w' := by
  have hT := Any.strings_Trim_laid Tryd.lays160 (by kernel_rfl) s ⟨alphabet.toArray⟩ w (by omega) (by decide) (ascii_of_all (by decide))
  change Calls Tryd.prog 47 _ _ (fun e w' => e = .returned (.string ⟨(Lib.trimS s.data.toList alphabet).toArray⟩) ∧ Below w.heap.size w w') at hT
  have HT := Lib.hid hT
  have hL := Lib.hid (show nameB s.data.toList = ((decide (1 ≤ s.size) && decide (s.size ≤ 8)) && (s.data.toList.all low)) by unfold nameB; simp)
  clear hT
  by_cases q1 : 1 ≤ s.size
  · by_cases q2 : s.size ≤ 8
    · cases hq : s.data.toList.all low with
      | true =>
        have e1 := (trim_nil s.data.toList).2 hq
        rw [e1] at HT
        have hq := Lib.hid hq
        go_enter Tryd.func29, Tryd.ntmps29
        go_wp2_with (go_at_call 47; refine HT.out.mono ?_; rintro e w' ⟨rfl, hB⟩)
        go_ret
        exact ⟨ret_bool (by rw [hL.out, decide_eq_true q1, decide_eq_true q2, hq.out]; rfl), hB⟩
      | false =>
        have e1 : Lib.trimS s.data.toList alphabet ≠ [] := fun h => by rw [(trim_nil _).1 h] at hq; cases hq
        have hq := Lib.hid hq
        obtain ⟨c, l, e2⟩ : ∃ c l, Lib.trimS s.data.toList alphabet = c :: l := List.exists_cons_of_ne_nil e1
        rw [e2] at HT
        have e3 : (⟨(c :: l).toArray⟩ : ByteArray).toList.isEmpty = false := by rw [Lib.toList_data]; rfl
        clear e1 e2
        generalize (⟨(c :: l).toArray⟩ : ByteArray) = t at *
        go_enter Tryd.func29, Tryd.ntmps29
        go_wp2_with (go_at_call 47; refine HT.out.mono ?_; rintro e w' ⟨rfl, hB⟩)
        go_ret
        exact ⟨ret_bool (by rw [hL.out, hq.out, Bool.and_false]), hB⟩
    · go_enter Tryd.func29, Tryd.ntmps29
      go_wp2
      go_ret
      exact ⟨ret_bool (by rw [hL.out, decide_eq_false q2, Bool.and_false, Bool.false_and]), Below.refl _ _⟩
  · go_enter Tryd.func29, Tryd.ntmps29
    go_wp2
    go_ret
    exact ⟨ret_bool (by rw [hL.out, decide_eq_false q1, Bool.false_and, Bool.false_and]), Below.refl _ _⟩
end Go.Proofs.YtoemjeomfnndaaaDoor
