/- ReadDecimal: the reference. -/
import Derived.Test.YtoemjeomfnndaaaDoorVal
import Derived.Test.YtoemjeomfnndaaaDoorDecC
import Derived.Test.YtoemjeomfnndaaaDoorInC
import Derived.Deep.DeepCutAuto
namespace Go.Proofs.YtoemjeomfnndaaaDoor
open Go.RowKit
set_option linter.unusedVariables false
/-- What both sides return of a text. -/
def ValE (l : List UInt8) (e : Ending) : Prop := e = .returned (.tuple #[.int .i64 ((valT l).getD 0), .bool (valT l).isSome])
theorem ValE.none {l : List UInt8} (h : valT l = none) : ValE l (.returned (.tuple #[.int .i64 0, .bool false])) := by unfold ValE; rw [h]; rfl
theorem ValE.some {l : List UInt8} {n : Int} (h : valT l = some n) : ValE l (.returned (.tuple #[.int .i64 n, .bool true])) := by unfold ValE; rw [h]; rfl
theorem valT_long {l : List UInt8} (h : l.length < 1 ∨ 17 < l.length) : valT l = none := valT_none fun n hn e => by
  have := itoa_len hn
  rw [e] at this
  omega
/-- Two texts of other bytes, as a test asks it. -/
theorem str_ne {t s : ByteArray} (h : t.data.toList ≠ s.data.toList) : (t.toList == s.toList) = false := by
  rw [Lib.toList_data, Lib.toList_data, beq_eq_false_iff_ne]; exact h
theorem len_of (s : ByteArray) : s.data.toList.length = s.size := by simp
theorem dv_take (s : ByteArray) (k : Nat) (h : k < s.size) : dv (s.data.toList.take (k + 1)) = dstep (dv (s.data.toList.take k)) s[k] := by
  have hk : k < s.data.toList.length := by simpa using h
  rw [List.take_add_one, List.getElem?_eq_getElem hk]
  exact dv_snoc _ _
theorem dv_take_lt (s : ByteArray) (k : Nat) (h : k ≤ 17) : dv (s.data.toList.take k) < 100000000000000000 := by
  have h1 := dv_lt (s.data.toList.take k) 0 0 (by decide)
  have h2 : (s.data.toList.take k).length ≤ 17 := by rw [List.length_take]; omega
  have h3 := Nat.pow_le_pow_right (show 0 < 10 by omega) (show 0 + (s.data.toList.take k).length ≤ 17 by omega)
  unfold dv
  omega
set_option maxHeartbeats 1000000 in
theorem l01Value_any (s : ByteArray) (w : World) (hs : s.size ≤ 1048576) :
    Calls Tryd.prog 55 #[.string s] w fun e w' => ValE s.data.toList e ∧ Below w.heap.size w w' := by
  by_cases h1 : s.size < 1
  · go_enter Tryd.func55, Tryd.ntmps55
    go_wp2
    go_ret2
    exact ⟨ValE.none (valT_long (by rw [len_of]; omega)), Below.refl _ _⟩
  by_cases h2 : 17 < s.size
  · go_enter Tryd.func55, Tryd.ntmps55
    go_wp2
    go_ret2
    exact ⟨ValE.none (valT_long (by rw [len_of]; omega)), Below.refl _ _⟩
  go_enter Tryd.func55, Tryd.ntmps55
  go_wp2
  go_loop [4, 5] (fun n i => ∃ k : Nat, k ≤ s.size ∧ i = .int .i64 k ∧ n = .int .i64 (dv (s.data.toList.take k))) (fun _ i => s.size - (intOf i).toNat)
  case atStart => exact ⟨0, Nat.zero_le _, rfl, rfl⟩
  case round =>
    obtain ⟨k, hk, rfl, rfl⟩ := hrel
    have hm := dv_take_lt s k (by omega)
    by_cases hlt : k < s.size
    · have HS := Lib.hid (dv_take s k hlt)
      generalize dv (s.data.toList.take k) = m at *
      by_cases c1 : 48 ≤ s[k].toNat
      · by_cases c2 : s[k].toNat ≤ 57
        · go_wp2
          go_round
          case rel => exact ⟨k + 1, by omega, by go_num, by rw [HS.out]; unfold dstep; rw [if_pos ⟨c1, c2⟩]; congr 1; omega⟩
          case measure => simp [intOf]; omega
        · go_wp2
          go_round
          case rel => exact ⟨k + 1, by omega, by go_num, by rw [HS.out]; unfold dstep; rw [if_neg (fun q => c2 q.2)]⟩
          case measure => simp [intOf]; omega
      · go_wp2
        go_round
        case rel => exact ⟨k + 1, by omega, by go_num, by rw [HS.out]; unfold dstep; rw [if_neg (fun q => c1 q.1)]⟩
        case measure => simp [intOf]; omega
    · obtain rfl : k = s.size := by omega
      rw [List.take_of_length_le (by simp)] at *
      have hd : s.data.toList.head? = some s[0] := by
        have hk : 0 < s.data.toList.length := by rw [len_of]; omega
        rw [List.head?_eq_getElem?, List.getElem?_eq_getElem hk]; rfl
      have hV : dvS s.data.toList = (if s[0] = 45 then -(dv s.data.toList : Int) else (dv s.data.toList : Int)) := by
        unfold dvS; rw [hd]; simp
      by_cases c0 : s[0].toNat = 45
      · rw [if_pos (UInt8.toNat_inj.1 c0)] at hV
        by_cases hin : inV (-(dv s.data.toList : Int))
        · have hi := inR_yes (x := (-(dv s.data.toList : Int))) (lo := -1000000000000000) (hi := 1000000000000000) hin.1 hin.2
          by_cases heq : Lib.itoa (-(dv s.data.toList : Int)) = s.data.toList
          · have hR := Lib.hid (valT_some hin heq)
            have D := fun w => l01Dec_any (-(dv s.data.toList : Int)) w (by omega) (by omega)
            rw [heq, show (⟨s.data.toList.toArray⟩ : ByteArray) = s by simp] at D
            have D := Lib.hid D
            clear heq hin hV hd
            generalize dv s.data.toList = m at *
            go_wp2_with (first | (go_at_call 72; refine (l00InR_any _ _ _ _).mono ?_; rintro e w' ⟨rfl, rfl⟩; rw [hi]) | (go_at_call 45; refine (D.out _).mono ?_; rintro e w' ⟨rfl, hb⟩))
            go_ret2
            exact ⟨ValE.some hR.out, hb⟩
          · have hR := Lib.hid (valT_none (l := s.data.toList) fun n hn e => by
              have := dvS_itoa n
              rw [e, hV] at this
              subst this
              exact heq e)
            have D := Lib.hid (fun w => l01Dec_any (-(dv s.data.toList : Int)) w (by omega) (by omega))
            have ht := str_ne (t := ⟨(Lib.itoa (-(dv s.data.toList : Int))).toArray⟩) (s := s) heq
            generalize (⟨(Lib.itoa (-(dv s.data.toList : Int))).toArray⟩ : ByteArray) = t at *
            clear heq hin hV hd
            generalize dv s.data.toList = m at *
            go_wp2_with (first | (go_at_call 72; refine (l00InR_any _ _ _ _).mono ?_; rintro e w' ⟨rfl, rfl⟩; rw [hi]) | (go_at_call 45; refine (D.out _).mono ?_; rintro e w' ⟨rfl, hb⟩))
            go_ret2
            exact ⟨ValE.none hR.out, hb⟩
        · have hi := inR_no (x := (-(dv s.data.toList : Int))) (lo := -1000000000000000) (hi := 1000000000000000) (by unfold inV at hin; omega)
          have hR := Lib.hid (valT_none (l := s.data.toList) fun n hn e => by
            have := dvS_itoa n
            rw [e, hV] at this
            subst this
            exact hin hn)
          clear hin hV hd
          generalize dv s.data.toList = m at *
          go_wp2_with (go_at_call 72; refine (l00InR_any _ _ _ _).mono ?_; rintro e w' ⟨rfl, rfl⟩; rw [hi])
          go_ret2
          exact ⟨ValE.none hR.out, Below.refl _ _⟩
      · rw [if_neg (fun q => c0 (by rw [q]; rfl))] at hV
        by_cases hin : inV (dv s.data.toList : Int)
        · have hi := inR_yes (x := (dv s.data.toList : Int)) (lo := -1000000000000000) (hi := 1000000000000000) hin.1 hin.2
          by_cases heq : Lib.itoa (dv s.data.toList : Int) = s.data.toList
          · have hR := Lib.hid (valT_some hin heq)
            have D := fun w => l01Dec_any (dv s.data.toList : Int) w (by omega) (by omega)
            rw [heq, show (⟨s.data.toList.toArray⟩ : ByteArray) = s by simp] at D
            have D := Lib.hid D
            clear heq hin hV hd
            generalize dv s.data.toList = m at *
            go_wp2_with (first | (go_at_call 72; refine (l00InR_any _ _ _ _).mono ?_; rintro e w' ⟨rfl, rfl⟩; rw [hi]) | (go_at_call 45; refine (D.out _).mono ?_; rintro e w' ⟨rfl, hb⟩))
            go_ret2
            exact ⟨ValE.some hR.out, hb⟩
          · have hR := Lib.hid (valT_none (l := s.data.toList) fun n hn e => by
              have := dvS_itoa n
              rw [e, hV] at this
              subst this
              exact heq e)
            have D := Lib.hid (fun w => l01Dec_any (dv s.data.toList : Int) w (by omega) (by omega))
            have ht := str_ne (t := ⟨(Lib.itoa (dv s.data.toList : Int)).toArray⟩) (s := s) heq
            generalize (⟨(Lib.itoa (dv s.data.toList : Int)).toArray⟩ : ByteArray) = t at *
            clear heq hin hV hd
            generalize dv s.data.toList = m at *
            go_wp2_with (first | (go_at_call 72; refine (l00InR_any _ _ _ _).mono ?_; rintro e w' ⟨rfl, rfl⟩; rw [hi]) | (go_at_call 45; refine (D.out _).mono ?_; rintro e w' ⟨rfl, hb⟩))
            go_ret2
            exact ⟨ValE.none hR.out, hb⟩
        · have hi := inR_no (x := (dv s.data.toList : Int)) (lo := -1000000000000000) (hi := 1000000000000000) (by unfold inV at hin; omega)
          have hR := Lib.hid (valT_none (l := s.data.toList) fun n hn e => by
            have := dvS_itoa n
            rw [e, hV] at this
            subst this
            exact hin hn)
          clear hin hV hd
          generalize dv s.data.toList = m at *
          go_wp2_with (go_at_call 72; refine (l00InR_any _ _ _ _).mono ?_; rintro e w' ⟨rfl, rfl⟩; rw [hi])
          go_ret2
          exact ⟨ValE.none hR.out, Below.refl _ _⟩
end Go.Proofs.YtoemjeomfnndaaaDoor
