/- RankOfBits: the implementation's side. -/
import Derived.Test.YtlaelfaalgmicaaRankS
import Derived.Lib.SliceRun
import Derived.Lib.Walk
namespace Go.Proofs.Ytlaelfaalgmicaa
open Go.RowKit
set_option linter.unusedVariables false
set_option maxRecDepth 100000 in
set_option maxHeartbeats 1000000 in
theorem clone_new (b off n cap : Nat) (z : Nat → Nat) (w : World) (h3 : b < w.heap.size) (hh4 : Hid (∀ i, i < n → w.cell? ⟨b, off + i, none⟩ = some (.int .i64 (z i)))) (hn1 : 1 ≤ n) (hn : n ≤ 32) :
    Calls Try.prog 76 #[.slice (some ⟨b, off, none⟩) n cap] w (fun e w' => ∃ a' cap', e = .returned (.slice a' n cap') ∧ NewS w a' n cap' (kI fun i => (z i : Int)) w') := by
  obtain ⟨i0, hi, hz0, hz1, hz2⟩ := info_parts infoInt
  have HI := Lib.hid hi
  have HZ := Lib.hid (And.intro hz0 (And.intro hz1 hz2))
  clear hi hz0 hz1 hz2
  have q22 := fun (w : World) (a : Option Addr) (n c n' c' : Nat) => Lib.run_eql_slice_nil (P := Try.prog) w 44 _ a n c n' c' Try.underlying44
  go_enter Try.func76, Try.ntmps76
  have hG := Grow.start (B := w.heap.size) (e := 2) (kI fun i => (z i : Int)) (Below.refl w.heap.size w) (Nat.le_refl _) (Nat.le_refl _)
  have hc := fun i hi => (alloc_cell (hh4.out i hi) h3 (.cells #[] 2))
  go_wp2_with (at_builtin; refine wpList_append_own _ rfl _ _ 44 rfl w.heap.size 2 i0 (.int .i64 0) 1 8 Try.underlying44 HI.out HZ.out.1 HZ.out.2.1 HZ.out.2.2 rfl (by decide) _ 0 [] rfl hG.own ⟨b, off, none⟩ n cap (rowF (kI fun i => (z i : Int)) n) rfl (by rw [rowF_len, Nat.mul_one]) ?c1 ?c2 ?c3 ?c4 ?c5 ?_)
  case c1 =>
    intro j u hu
    obtain ⟨hj, rfl⟩ := rowF_get hu
    rw [add_at]
    exact hc j hj
  case c2 =>
    intro u hu
    obtain ⟨j, _, rfl⟩ := List.mem_map.1 hu
    rfl
  case c3 => unfold maxLen; omega
  case c4 => omega
  case c5 => simp
  intro v' w1 ho hg _
  obtain ⟨a', cap', rfl, hN⟩ := (hG.copy ho hg).form
  clear ho hg hG hc
  go_wp2
  go_ret
  exact ⟨a', cap', rfl, hN⟩
/-- The first row with the bit, or -1. -/
def FirstB (g : Nat → Nat) (b n : Nat) (v : Int) : Prop := (v = -1 ∧ ∀ i, i < n → (g i).testBit b = false) ∨ ∃ k : Nat, v = (k : Int) ∧ k < n ∧ (g k).testBit b = true
set_option maxRecDepth 100000 in
set_option maxHeartbeats 1000000 in
theorem findBit_any (b' o' n cap cb b : Nat) (g : Nat → Nat) (w : World) (hh : Hid (∀ i, i < n → w.cell? ⟨b', o' + i, none⟩ = some (.int .i64 (g i)))) (hZ : Hid (∀ i, i < n → g i < 4294967296)) (hc : w.cell? ⟨cb, 0, none⟩ = some (.int .i64 b)) (hb : b ≤ 31) (h1 : n ≤ cap) (h2 : cap ≤ 9223372036854775807) (hn : n ≤ 32) :
    Calls Try.prog 77 #[.slice (some ⟨b', o', none⟩) n cap, .func (.func 78) #[] #[.pointer (some ⟨cb, 0, none⟩)]] w fun e w' => ∃ v : Int, e = .returned (.int .i64 v) ∧ FirstB g b n v ∧ w = w' := by
  go_enter Try.func77, Try.ntmps77
  go_wp2
  go_loop [8] (fun s8 => ∃ k : Nat, k ≤ n ∧ s8 = .int .i64 k ∧ Hid (∀ i, i < k → (g i).testBit b = false)) (fun s8 => n - (intOf s8).toNat)
  case atStart => exact ⟨0, Nat.zero_le _, rfl, Lib.hid fun i hi => absurd hi (Nat.not_lt_zero _)⟩
  case round =>
    obtain ⟨k, hk, rfl, hl⟩ := hrel
    by_cases hlt : k < n
    · have x1 := hh.out k hlt
      have gz := hZ.out k hlt
      cases hbit : (g k).testBit b with
      | false =>
        have e1 : bits .and .i64 ((g k : Int) / 2 ^ b) 1 = 0 := by rw [bit_i64, hbit]; rfl
        have hbit := Lib.hid hbit
        go_wp2_with go_in
        exact ⟨⟨k + 1, by omega, by go_num, Lib.hid fun i h1 => by
          by_cases e : i = k
          · rw [e]; exact hbit.out
          · exact hl.out i (by omega)⟩, by simp [intOf]; omega⟩
      | true =>
        have e1 : bits .and .i64 ((g k : Int) / 2 ^ b) 1 = 1 := by rw [bit_i64, hbit]; rfl
        have hbit := Lib.hid hbit
        go_wp2_with go_in
        go_ret
        exact ⟨_, rfl, .inr ⟨k, rfl, hlt, hbit.out⟩, rfl⟩
    · obtain rfl : k = n := by omega
      go_wp2
      go_ret
      exact ⟨_, rfl, .inl ⟨rfl, hl.out⟩, rfl⟩
/-- The rows without row v. -/
def erA (g : Nat → Nat) (v : Nat) : Nat → Nat := fun i => if i < v then g i else g (i + 1)
/-- Of these the first j with p taken off. -/
def erB (g : Nat → Nat) (b v j : Nat) : Nat → Nat := fun i => if i < j then red b (g v) (erA g v i) else erA g v i
theorem er_cut {g : Nat → Nat} {b v n : Nat} (h : v < n + 1) (hb : (g v).testBit b = true) : Cut b (g v) (fun x => ∃ i, i < n + 1 ∧ x = g i) (fun x => ∃ i, i < n ∧ x = erB g b v n i) := by
  refine ⟨⟨v, h, rfl⟩, hb, ?_, ?_⟩
  · rintro x ⟨i, hi, rfl⟩
    by_cases e : i = v
    · left
      subst e
      unfold red; rw [if_pos hb, Nat.xor_self]
    · right
      by_cases hl : i < v
      · refine ⟨i, by omega, ?_⟩
        have : erA g v i = g i := by unfold erA; rw [if_pos hl]
        unfold erB; rw [if_pos (by omega), this]
      · refine ⟨i - 1, by omega, ?_⟩
        have : erA g v (i - 1) = g i := by unfold erA; rw [if_neg (by omega), show i - 1 + 1 = i by omega]
        unfold erB; rw [if_pos (by omega), this]
  · rintro y ⟨i, hi, rfl⟩
    unfold erB
    rw [if_pos hi]
    by_cases hl : i < v
    · exact ⟨g i, ⟨i, by omega, rfl⟩, by unfold erA; rw [if_pos hl]⟩
    · exact ⟨g (i + 1), ⟨i + 1, by omega, rfl⟩, by unfold erA; rw [if_neg hl]⟩
end Go.Proofs.Ytlaelfaalgmicaa
