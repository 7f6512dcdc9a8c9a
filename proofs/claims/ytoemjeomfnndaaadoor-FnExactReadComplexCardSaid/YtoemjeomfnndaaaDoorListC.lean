/- ListText: both sides. -/
import Derived.Test.YtoemjeomfnndaaaDoorTx
import Derived.Test.YtoemjeomfnndaaaDoorDecC
import Derived.Test.YtoemjeomfnndaaaDoorValC
import Derived.Test.YtoemjeomfnndaaaDoorShJoin
import Derived.Deep.DeepCutAuto
import Derived.Maps.AppendAt
namespace Go.Proofs.YtoemjeomfnndaaaDoor
open Go.RowKit Go.Shelf
set_option linter.unusedVariables false
theorem specList_any (a : Option Addr) (n cap : Nat) (z : Nat → Int) (w : World) (h : IEls w a n cap z) (hn : n ≤ 1048576) :
    Calls Tryd.prog 48 #[.slice a n cap] w fun e w' => e = .returned (.bool (ltB z n)) ∧ w = w' := by
  go_enter Tryd.func48, Tryd.ntmps48
  go_wp2
  go_loop [3] (fun s => ∃ k : Nat, k ≤ n ∧ s = .int .i64 k ∧ Hid (allV z k = true)) (fun s => n - (intOf s).toNat)
  case atStart => exact ⟨0, Nat.zero_le _, rfl, Lib.hid rfl⟩
  case round =>
    obtain ⟨k, hk, rfl, hA⟩ := hrel
    by_cases hlt : k < n
    · rcases h with h0 | ⟨b, off, rfl, h1, h2, h3, h4⟩
      · omega
      have hc := h4 k hlt
      unfold maxLen at h2
      clear h4
      cases hR : inR (z k) (-1000000000000000) 1000000000000000 with
      | true =>
        have hn2 := Lib.hid (show allV z (k + 1) = true by rw [allV_succ, hA.out, hR]; rfl)
        go_wp2_with (go_at_call 72; refine (l00InR_any _ _ _ _).mono ?_; rintro e w' ⟨rfl, rfl⟩; rw [hR])
        exact ⟨⟨k + 1, by omega, by go_num, hn2⟩, by simp [intOf]; omega⟩
      | false =>
        have hn2 := Lib.hid (show ltB z n = false by unfold ltB; rw [allV_no hR n hlt, Bool.false_and])
        go_wp2_with (go_at_call 72; refine (l00InR_any _ _ _ _).mono ?_; rintro e w' ⟨rfl, rfl⟩; rw [hR])
        go_ret
        exact ⟨boolR hn2.out.symm, rfl⟩
    · obtain rfl : k = n := by omega
      have hB := Lib.hid (show ltB z k = decide ((k : Int) ≤ 64) by unfold ltB; rw [hA.out, Bool.true_and]; exact decide_eq_decide.2 (by omega))
      go_wp2
      go_ret
      exact ⟨boolR hB.out.symm, rfl⟩
set_option maxHeartbeats 1000000 in
theorem specText_any (a : Option Addr) (n cap : Nat) (z : Nat → Int) (w : World) (h : IEls w a n cap z) (hn : n ≤ 64) (hz : ∀ i, i < n → inV (z i)) :
    Calls Tryd.prog 49 #[.slice a n cap] w fun e w' => e = .returned (.string ⟨(listTx (ptI z) n).toArray⟩) ∧ Below w.heap.size w w' := by
  by_cases h0 : n = 0
  · subst h0
    go_enter Tryd.func49, Tryd.ntmps49
    go_wp2
    go_ret
    exact ⟨rfl, Below.refl _ _⟩
  · rcases h with h9 | ⟨b, off, rfl, h1, h2, h3, h4⟩
    · exact absurd h9 h0
    unfold maxLen at h2
    have hh4 := Lib.hid h4
    have hZ := Lib.hid hz
    clear h4 hz
    have c0 : w.cell? ⟨b, off, none⟩ = some (.int .i64 (z 0)) := by simpa using hh4.out 0 (by omega)
    have r0 := hZ.out 0 (by omega)
    unfold inV at r0
    have hne : ((n : Int) == 0) = false := by rw [beq_eq_false_iff_ne]; omega
    go_enter Tryd.func49, Tryd.ntmps49
    go_wp2_with (go_at_call 45; refine (l01Dec_any _ _ (by omega) (by omega)).mono ?_; rintro e w1 ⟨rfl, b1⟩)
    have hB := Lib.hid b1
    clear b1 c0 r0
    go_loopw [3, 4] (fun s i wr => ∃ k : Nat, 1 ≤ k ∧ k ≤ n ∧ i = .int .i64 k ∧ s = .string ⟨(tx (ptI z) k).toArray⟩ ∧ Hid (Below w.heap.size w wr)) (fun _ i _ => n - (intOf i).toNat)
    case atStart => exact ⟨1, by omega, by omega, rfl, rfl, hB⟩
    case round =>
      clear hB
      obtain ⟨k, k1, hk, rfl, rfl, hB⟩ := hrel
      by_cases hlt : k < n
      · have hc : wr.cell? ⟨b, off + k, none⟩ = some (.int .i64 (z k)) := by rw [hB.out.cell h3]; exact hh4.out k hlt
        have r0 := hZ.out k hlt
        unfold inV at r0
        have hS := Lib.hid (tx_succ (ptI z) k k1)
        have hl1 : (tx (ptI z) k).length ≤ 2000 := by have := tx_len (ptI z) 17 k (fun i hi => (itoa_len (hZ.out i (by omega))).2); omega
        have hl2 := (itoa_len (hZ.out k hlt)).2
        go_wp2_with (go_at_call 45; refine (l01Dec_any _ _ (by omega) (by omega)).mono ?_; rintro e w1 ⟨rfl, b1⟩)
        exact ⟨⟨k + 1, by omega, by omega, by go_num, by rw [hS.out, ← cat_list, ← cat_list]; rfl, Lib.hid (bel_next hB.out b1)⟩, by simp [intOf]; omega⟩
      · obtain rfl : k = n := by omega
        have hT := Lib.hid (show listTx (ptI z) k = tx (ptI z) k by unfold listTx; rw [if_neg h0])
        go_wp2
        go_ret
        exact ⟨by rw [hT.out]; rfl, hB.out⟩
/-- The text of a list, empty where it may not be written. -/
def ltT (z : Nat → Int) (n : Nat) : List UInt8 := if ltB z n then listTx (ptI z) n else []
/-- What both sides return of a list. -/
def LtE (z : Nat → Int) (n : Nat) (e : Ending) : Prop := e = .returned (.tuple #[.string ⟨(ltT z n).toArray⟩, .bool (ltB z n)])
theorem LtE.no {z : Nat → Int} {n : Nat} (h : ltB z n = false) : LtE z n (.returned (.tuple #[.string ⟨#[]⟩, .bool false])) := by unfold LtE ltT; rw [h]; rfl
theorem LtE.yes {z : Nat → Int} {n : Nat} (h : ltB z n = true) : LtE z n (.returned (.tuple #[.string ⟨(listTx (ptI z) n).toArray⟩, .bool true])) := by unfold LtE ltT; rw [h]; rfl
theorem ltB_of {z : Nat → Int} {n : Nat} (h : ltB z n = true) : (∀ i, i < n → inV (z i)) ∧ n ≤ 64 := by
  unfold ltB at h
  rw [Bool.and_eq_true, decide_eq_true_eq] at h
  exact ⟨allV_at h.1, h.2⟩
theorem specLt_any (a : Option Addr) (n cap : Nat) (z : Nat → Int) (w : World) (h : IEls w a n cap z) (hn : n ≤ 1048576) :
    Calls Tryd.prog 30 #[.slice a n cap] w fun e w' => LtE z n e ∧ Below w.heap.size w w' := by
  cases hB : ltB z n with
  | true =>
    obtain ⟨hz, h64⟩ := ltB_of hB
    have T := Lib.hid (specText_any a n cap z w h h64 hz)
    have hB2 := Lib.hid hB
    go_enter Tryd.func30, Tryd.ntmps30
    go_wp2_with (first | (go_at_call 48; refine (specList_any _ _ _ z _ h hn).mono ?_; rintro e w' ⟨rfl, rfl⟩; rw [hB]) | (go_at_call 49; refine T.out.mono ?_; rintro e w1 ⟨rfl, b1⟩))
    go_ret2
    exact ⟨LtE.yes hB2.out, b1⟩
  | false =>
    have hB2 := Lib.hid hB
    go_enter Tryd.func30, Tryd.ntmps30
    go_wp2_with (go_at_call 48; refine (specList_any _ _ _ z _ h hn).mono ?_; rintro e w' ⟨rfl, rfl⟩; rw [hB])
    go_ret2
    exact ⟨LtE.no hB2.out, Below.refl _ _⟩
/-- The texts with commas between, or none. -/
theorem listOrNone_any (lo hi : Nat) (a : Option Addr) (n cap : Nat) (p : Nat → List UInt8) (w : World) (h : SIn w lo hi a n cap (kS p)) (hn : n ≤ 1048576) (hp : ∀ i, i < n → (p i).length ≤ 1000) :
    Calls Tryd.prog 51 #[.slice a n cap] w fun e w' => e = .returned (.string ⟨(listTx p n).toArray⟩) ∧ Below w.heap.size w w' := by
  by_cases h0 : n = 0
  · subst h0
    go_enter Tryd.func51, Tryd.ntmps51
    go_wp2
    go_ret
    exact ⟨rfl, Below.refl _ _⟩
  · rcases h with h9 | ⟨b, off, rfl, _, _, h1, h2, h3, h4⟩
    · exact absurd h9 h0
    have hL := tx_len p 1000 n hp
    have e1 : (((List.range n).map fun i => (⟨(p i).toArray⟩ : ByteArray)).map (·.data.toList)) = (List.range n).map p := by
      rw [List.map_map]; rfl
    have hj : Lib.join (((List.range n).map fun i => (⟨(p i).toArray⟩ : ByteArray)).map (·.data.toList)) (⟨#[44]⟩ : ByteArray).data.toList = tx p n := by
      rw [e1]; exact tx_join p n (by omega)
    have J := Any.strings_Join Tryd.lays156 Tryd.Builder_Extra_156 b off cap ((List.range n).map fun i => (⟨(p i).toArray⟩ : ByteArray)) ⟨#[44]⟩ w (fun j x hx => by
        have hj : j < n := by
          have := (List.getElem?_eq_some_iff.1 hx).1
          simpa using this
        rw [List.getElem?_map, List.getElem?_range hj] at hx
        obtain rfl := Option.some.inj hx
        exact h4 j hj) h3 (by simp; omega) (by simp; omega) (by
        rw [hj]
        have : n * (1000 + 1) ≤ 1048576 * 1001 := Nat.mul_le_mul_right _ hn
        omega)
    rw [hj] at J
    rw [show ((List.range n).map fun i => (⟨(p i).toArray⟩ : ByteArray)).length = n by simp] at J
    change Calls Tryd.prog 74 _ _ (fun e w' => e = .returned (.string ⟨(tx p n).toArray⟩) ∧ Below w.heap.size w w') at J
    have J := Lib.hid J
    have hT := Lib.hid (show listTx p n = tx p n by unfold listTx; rw [if_neg h0])
    have hne : ((n : Int) == 0) = false := by rw [beq_eq_false_iff_ne]; omega
    clear h4 hj e1 hL hp
    go_enter Tryd.func51, Tryd.ntmps51
    go_wp2_with (go_at_call 74; refine J.out.mono ?_; rintro e w1 ⟨rfl, b1⟩)
    go_ret
    exact ⟨by rw [hT.out]; rfl, b1⟩
end Go.Proofs.YtoemjeomfnndaaaDoor
