/- The hexadecimal text of a number's bits: the reference; the library's function at base 16. -/
import Derived.Test.YtoemjeomfnndaaaDoorHex
import Derived.Test.YtoemjeomfnndaaaDoorBitsC
import Derived.Test.YtoemjeomfnndaaaDoorDecS
import Derived.Test.YtoemjeomfnndaaaDoorDoor
import Derived.Deep.DeepCutAuto
import Derived.Laws.Bits64
import Derived.Laws.BitsLemmas
namespace Go.Proofs.YtoemjeomfnndaaaDoor
open Go.RowKit
set_option linter.unusedVariables false
theorem i64_and15 (n : Int) : bits .and .i64 n 15 = n % 16 := by
  have h1 : (BitVec.ofInt 64 15).toNat = 2 ^ 4 - 1 := by decide
  have key : (BitVec.ofInt 64 n &&& BitVec.ofInt 64 15).toNat = (n % ((2 ^ 64 : Nat) : Int)).toNat % 2 ^ 4 := by
    rw [BitVec.toNat_and, BitVec.toNat_ofInt, h1, Nat.and_two_pow_sub_one_eq_mod]
  show IntKind.i64.wrap ((BitVec.ofInt 64 n &&& BitVec.ofInt 64 15).toNat : Nat) = n % 16
  rw [key, IntKind.wrap_i64]
  omega
theorem u64_and15 (n : Int) : bits .and .u64 n 15 = n % 16 := by
  have h1 : (BitVec.ofInt 64 15).toNat = 2 ^ 4 - 1 := by decide
  have key : (BitVec.ofInt 64 n &&& BitVec.ofInt 64 15).toNat = (n % ((2 ^ 64 : Nat) : Int)).toNat % 2 ^ 4 := by
    rw [BitVec.toNat_and, BitVec.toNat_ofInt, h1, Nat.and_two_pow_sub_one_eq_mod]
  show IntKind.u64.wrap ((BitVec.ofInt 64 n &&& BitVec.ofInt 64 15).toNat : Nat) = n % 16
  rw [key, IntKind.wrap_u64]
  omega
/-- The digits of eight, as the reference lays them. -/
def kX (n : Nat) : Nat → Value := fun i => .int .u8 ((hx n (7 - i)).toNat : Int)
theorem kX_cells (n j : Nat) (hj : j < (hexL n 8).length) : some (kX n j) = some (Value.int .u8 (((hexL n 8)[j]).toNat : Int)) := by
  have h8 : j < 8 := by rwa [hexL_len] at hj
  have := hexL_get (n := n) h8
  rw [List.getElem?_eq_getElem hj] at this
  rw [Option.some.inj this]
  rfl
theorem at_digs : ∀ d : Fin 16, (⟨#[48, 49, 50, 51, 52, 53, 54, 55, 56, 57, 97, 98, 99, 100, 101, 102]⟩ : ByteArray)[d.val]'(d.isLt) = hd d.val := by decide
theorem digit_at (n m j : Nat) (h : m + 4 * j = 28) : bits .and .i64 ((n : Int) / 2 ^ m) 15 = ((n / 16 ^ (7 - j) % 16 : Nat) : Int) := by
  have e : (n : Int) / 2 ^ m = ((n / 2 ^ m : Nat) : Int) := by rw [Int.natCast_ediv, Int.natCast_pow]; rfl
  rw [i64_and15, e, show 2 ^ m = 16 ^ (7 - j) by rw [show m = 4 * (7 - j) by omega, Nat.pow_mul]]
  rfl
set_option maxRecDepth 100000 in
set_option maxHeartbeats 1000000 in
theorem l01Hex_any (x : Nat) (w : World) (hx0 : x < 4294967296) :
    Calls Tryd.prog 75 #[.float .f32 x] w (fun e w' => e = .returned (.string ⟨(hexL (bitsN x) 8).toArray⟩) ∧ Below w.heap.size w w') := by
  have C := Lib.hid (l01Bits_any x w hx0)
  have hn := bitsN_lt hx0
  unfold bitsZ at C
  generalize bitsN x = n at *
  obtain ⟨i0, hi, hz0, hz1, hz2⟩ := info_parts infoU8
  have HI := Lib.hid hi
  have HZ := Lib.hid (And.intro hz0 (And.intro hz1 hz2))
  clear hi hz0 hz1 hz2
  have hF := Lib.hid (Grow.start (B := w.heap.size) (e := 5) (kX n) (Below.refl w.heap.size w) (Nat.le_refl _) (Nat.le_refl _))
  go_enter Tryd.func75, Tryd.ntmps75
  go_wp2_with (go_at_call 60; refine C.out.mono ?_; rintro e w' ⟨rfl, rfl⟩)
  generalize w.alloc (.cells #[] 5) = W at *
  go_loopw [4, 5] (fun v i wr => ∃ j : Nat, Hid (Grow w.heap.size w 5 v j (kX n) wr) ∧ ((∃ m : Nat, m + 4 * j = 28 ∧ i = .int .i64 m) ∨ (j = 8 ∧ i = .int .i64 (-4)))) (fun _ i _ => (intOf i + 4).toNat)
  case atStart => exact ⟨0, hF, .inl ⟨28, rfl, rfl⟩⟩
  case round =>
    obtain ⟨j, hG, ⟨m, hm, rfl⟩ | ⟨rfl, rfl⟩⟩ := hrel
    · clear hF C
      have hd0 := digit_at n m j hm
      have hlt : n / 16 ^ (7 - j) % 16 < 16 := Nat.mod_lt _ (by omega)
      have hk : kX n j = .int .u8 ((hd (n / 16 ^ (7 - j) % 16)).toNat : Int) := rfl
      generalize n / 16 ^ (7 - j) % 16 = d at *
      have e1 : Value.int .u8 (((⟨#[48, 49, 50, 51, 52, 53, 54, 55, 56, 57, 97, 98, 99, 100, 101, 102]⟩ : ByteArray)[d]'hlt).toNat : Int) = kX n j := by rw [hk, at_digs ⟨d, hlt⟩]
      go_wp2_with (at_builtin; refine wpList_append_own _ rfl _ _ 78 rfl (w.heap.size) 5 i0 (.int .u8 0) 1 1 Tryd.underlying78 HI.out HZ.out.1 HZ.out.2.1 HZ.out.2.2 rfl (by decide) _ _ _ rfl (hG.out.own.alloc _) ⟨wr.heap.size, 0, none⟩ 1 1 [kX n j] rfl rfl ?c1 ?c2 ?c3 ?c4 ?c5 ?_)
      case c1 => rw [hk]; exact cell_one_new _ _ _
      case c2 => intro u hu; simp at hu; subst hu; rfl
      case c3 => unfold maxLen; omega
      case c4 => omega
      case c5 => have := hG.out.hi; simp; omega
      intro v' w2 hown' hgrow _
      have R := Lib.hid (hG.out.step (by rw [hk]; exact hown') hgrow)
      clear hown' hgrow hG
      by_cases m0 : m = 0
      · subst m0
        go_wp2
        exact ⟨⟨j + 1, R, .inr ⟨by omega, rfl⟩⟩, by simp [intOf]⟩
      · go_wp2
        exact ⟨⟨j + 1, R, .inl ⟨m - 4, by omega, by congr 1; omega⟩⟩, by simp [intOf]; omega⟩
    · obtain ⟨a', c', rfl, hN⟩ := hG.out.form
      rcases hN.own.sin with h0 | ⟨b', o', rfl, g1, g2, g3, g4, g5, g6⟩
      · cases h0
      have hv := run_convert_bytes_back (P := Tryd.prog) wr 78 9 5 ⟨b', o', none⟩ c' (hexL n 8) Tryd.underlying78 Tryd.underlying5 Tryd.underlying9 (fun j hj => by
        rw [add_at, g6 j (by rwa [hexL_len] at hj)]
        exact kX_cells n j hj)
      rw [hexL_len] at hv
      have hb := Lib.hid hN.bel
      clear hN g1 g2 g3 g4 g5 g6 hG hF C
      go_wp2
      go_ret
      exact ⟨rfl, hb.out⟩
end Go.Proofs.YtoemjeomfnndaaaDoor
