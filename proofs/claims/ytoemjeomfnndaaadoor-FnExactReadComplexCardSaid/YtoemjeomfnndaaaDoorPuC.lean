/- The library's reading of a text at base 16. -/
import Derived.Test.YtoemjeomfnndaaaDoorNr
import Derived.Test.YtoemjeomfnndaaaDoorNtC
import Derived.Test.YtoemjeomfnndaaaDoorValC
import Derived.Lib.Strings
import Derived.Lib.ConvBytes
import Derived.Laws.Strings3
import Derived.Laws.Closers25
import Derived.Laws.Closers25b
namespace Go.Proofs.YtoemjeomfnndaaaDoor
open Go.RowKit Go.Shelf
set_option linter.unusedVariables false
theorem lower_any (c : Int) (w : World) (h0 : 0 ≤ c) (h1 : c < 256) : Calls Tryd.prog 104 #[.int .u8 c] w fun e w' => e = .returned (.int .u8 (bits .or .u8 c 32)) ∧ w = w' := by
  have hv0 := bits_lo_u8 .or c 32
  have hv1 := bits_hi_u8 .or c 32
  go_enter Tryd.func104, Tryd.ntmps104
  go_wp2
  go_ret
  exact ⟨rfl, rfl⟩
theorem or32 : ∀ c : Fin 256, 97 ≤ c.val → c.val ≤ 102 → bits .or .u8 ((c.val : Nat) : Int) 32 = ((c.val : Nat) : Int) := by decide +kernel
theorem or32_at (c : UInt8) (h0 : 97 ≤ c.toNat) (h1 : c.toNat ≤ 102) : bits .or .u8 (c.toNat : Int) 32 = (c.toNat : Int) := or32 ⟨c.toNat, c.toNat_lt⟩ h0 h1
/-- What a reading returns: a number below 2^32, and no error if the text is that of a number m. -/
def PuE (l : List UInt8) (v : Int) (r : Value) : Prop := 0 ≤ v ∧ v ≤ 4294967295 ∧ ∀ m, m < 4294967296 → l = hexL m 8 → v = (m : Int) ∧ r = .nilIface
/-- It is no number's text. -/
def NoHex (l : List UInt8) : Prop := ∀ m, m < 4294967296 → l ≠ hexL m 8
theorem PuE.bad {l : List UInt8} {v : Int} {r : Value} (h : NoHex l) (h0 : 0 ≤ v) (h1 : v ≤ 4294967295) : PuE l v r := ⟨h0, h1, fun m hm e => absurd e (h m hm)⟩
set_option maxHeartbeats 32000000 in
set_option maxRecDepth 100000 in
theorem pu_in (t : ByteArray) (w : World) (hmax : t.size ≤ 1048576) :
    Calls Tryd.prog 82 #[.string t, .int .i64 16, .int .i64 32] w fun e w' => ∃ (v : Int) (r : Value), e = .returned (.tuple #[.int .u64 v, r]) ∧ PuE t.data.toList v r ∧ (r = .nilIface ∨ r = .iface 114 (.int .i64 2) ∨ r = .iface 114 (.int .i64 1)) ∧ Below w.heap.size w w' := by
  by_cases h0 : t.size = 0
  · have hemp : t.toList.isEmpty = true := by
      rw [Lib.toList_data, List.isEmpty_iff]; exact List.eq_nil_of_length_eq_zero (by rw [len_of]; exact h0)
    have hbad := Lib.hid (show NoHex t.data.toList from fun m hm e => by
      have := len_of t
      rw [e, hexL_len] at this; omega)
    go_enter Tryd.func82, Tryd.ntmps82
    go_wp2
    go_ret2
    exact ⟨_, _, rfl, PuE.bad hbad.out (by omega) (by omega), .inr (.inl rfl), Below.refl _ _⟩
  have hemp : t.toList.isEmpty = false := by
    rw [← decide_eq_emptyBytes]
    exact decide_eq_false (fun h => h0 (by rw [h]; rfl))
  have hcv := Lib.run_convert_string_bytes (P := Tryd.prog) w 9 78 5 t (u := .string) Tryd.underlying9 Tryd.underlying78 Tryd.underlying5
  have hB : ∀ j, j < t.size → (Lib.bytesWorld w 5 t).cell? ⟨w.heap.size, j, none⟩ = some (.int .u8 (t.data.toList.getD j 0).toNat) := fun j hj => Lib.bytesWorld_cell w 5 t j hj
  have hBel := Lib.hid (Lib.bytesWorld_below w 5 t)
  obtain ⟨W1, hW1⟩ : ∃ W1, W1 = Lib.bytesWorld w 5 t := ⟨_, rfl⟩
  rw [← hW1] at hcv hB hBel
  clear hW1
  have hLn := len_of t
  generalize t.data.toList = bs at *
  have hmv : IntKind.u64.wrap (IntKind.u64.wrap 4294967296 - 1) = 4294967295 := by
    rw [IntKind.wrap_u64, IntKind.wrap_u64]
    decide
  go_enter Tryd.func82, Tryd.ntmps82
  go_wp2
  go_loop [12, 13, 101] (fun vu vn vi => ∃ (k : Nat) (a : Int), vu = .bool false ∧ vn = .int .u64 a ∧ vi = .int .i64 k ∧ k ≤ t.size ∧ 0 ≤ a ∧ a ≤ 4294967295 ∧ Hid (∀ m, m < 4294967296 → bs = hexL m 8 → a = ((m / 16 ^ (8 - k) : Nat) : Int)))
    (fun _ _ vi => t.size - (intOf vi).toNat)
  case atStart => exact ⟨0, 0, rfl, rfl, rfl, by omega, by omega, by omega, Lib.hid fun m hm _ => by rw [Nat.div_eq_of_lt (by omega)]; rfl⟩
  case round =>
    obtain ⟨k, a, rfl, rfl, rfl, hk, a0, a1, hh⟩ := hrel
    by_cases hkn : k < t.size
    · have hc := hB k hkn
      have hget : bs.getD k 0 = bs[k]'(by omega) := by simp [List.getD, List.getElem?_eq_getElem (show k < bs.length by omega)]
      rw [hget] at hc
      have hG : ∀ m, m < 4294967296 → bs = hexL m 8 → k < 8 ∧ a = ((m / 16 ^ (8 - k) : Nat) : Int) ∧ bs[k]'(by omega) = hx m (7 - k) := fun m hm e => by
        have h8 : k < 8 := by
          have := congrArg List.length e
          rw [hexL_len] at this; omega
        refine ⟨h8, hh.out m hm e, ?_⟩
        subst e
        exact hexL_at _
      have hG := Lib.hid hG
      generalize bs[k]'(by omega) = c at *
      have hc256 : c.toNat < 256 := c.toNat_lt
      clear hB hget
      -- one digit more
      have hgo : ∀ d : Nat, (∀ m, m < 4294967296 → bs = hexL m 8 → (c.toNat : Int) = if d < 10 then 48 + (d : Int) else 87 + (d : Int)) → d < 16 → ∀ m, m < 4294967296 → bs = hexL m 8 → 16 * a + (d : Int) = ((m / 16 ^ (8 - (k + 1)) : Nat) : Int) := fun d hd hd16 m hm e => by
        obtain ⟨h8, ha, hcx⟩ := hG.out m hm e
        obtain ⟨d', hd', e1, e2⟩ := hx_nat m (7 - k)
        rw [← hcx] at e2
        have := hd m hm e
        have hdd : d = d' := by split at this <;> split at e2 <;> omega
        subst hdd
        rw [show 8 - (k + 1) = 7 - k by omega, e1, ha, show 7 - k + 1 = 8 - k by omega]
        omega
      have hgo := Lib.hid hgo
      have hno : ∀ m, m < 4294967296 → bs = hexL m 8 → (48 ≤ c.toNat ∧ c.toNat ≤ 57) ∨ (97 ≤ c.toNat ∧ c.toNat ≤ 102) := fun m hm e => by
        obtain ⟨h8, ha, hcx⟩ := hG.out m hm e
        obtain ⟨d', hd', e1, e2⟩ := hx_nat m (7 - k)
        rw [← hcx] at e2
        split at e2 <;> omega
      have hno := Lib.hid hno
      have hbig : ∀ d : Int, 0 ≤ d → 4294967295 < 16 * a + d → (∀ m, m < 4294967296 → bs = hexL m 8 → 16 * a + d = ((m / 16 ^ (8 - (k + 1)) : Nat) : Int)) → NoHex bs := fun d _ h1 h2 m hm e => by
        have := h2 m hm e
        have := Nat.div_le_self m (16 ^ (8 - (k + 1)))
        omega
      have hbig := Lib.hid hbig
      by_cases hdig : 48 ≤ c.toNat ∧ c.toNat ≤ 57
      · obtain ⟨hd0, hd1⟩ := hdig
        have hdd := Lib.hid (hgo.out (c.toNat - 48) (fun m hm e => by
          obtain ⟨h8, ha, hcx⟩ := hG.out m hm e
          obtain ⟨d', hd', e1, e2⟩ := hx_nat m (7 - k)
          rw [← hcx] at e2
          split <;> split at e2 <;> omega) (by omega))
        by_cases hov : 4294967295 < a * 16 + ((c.toNat : Int) - 48)
        · have hbad := Lib.hid (hbig.out ((c.toNat : Int) - 48) (by omega) (by omega) (fun m hm e => by have := hdd.out m hm e; omega))
          clear hdd hgo hh hG hbig hno
          go_wp2
          go_ret2
          exact ⟨_, _, rfl, PuE.bad hbad.out (by omega) (by omega), .inr (.inr rfl), hBel.out⟩
        · have hR := Lib.hid (fun m (hm : m < 4294967296) (e : bs = hexL m 8) => show a * 16 + ((c.toNat : Int) - 48) = ((m / 16 ^ (8 - (k + 1)) : Nat) : Int) by have := hdd.out m hm e; omega)
          clear hdd hgo hh hG hbig hno
          go_wp2
          exact ⟨⟨k + 1, a * 16 + ((c.toNat : Int) - 48), rfl, by first | rfl | (congr 1; omega), by first | rfl | (congr 1; omega), by omega, by omega, by omega, hR⟩, by simp [intOf]; omega⟩
      by_cases h95 : c.toNat = 95
      · have hbad := Lib.hid (show NoHex bs from fun m hm e => by rcases hno.out m hm e with q | q <;> omega)
        have hb : bits .or .u8 95 32 = 127 := by decide
        have hlw := Lib.hid (fun W => lower_any 95 W (by omega) (by omega))
        rw [hb] at hlw
        rw [h95] at hc
        clear hgo hh hG hbig hno hdig hc256 h95
        go_wp2_with (go_at_call 104; refine (hlw.out _).mono ?_; rintro e w' ⟨rfl, rfl⟩)
        all_goals go_ret2
        all_goals exact ⟨_, _, rfl, PuE.bad hbad.out (by omega) (by omega), .inr (.inl rfl), hBel.out⟩
      · have h95b : ((c.toNat : Int) == 95) = false := by rw [beq_eq_false_iff_ne]; omega
        have hlc : ∀ m, m < 4294967296 → bs = hexL m 8 → bits .or .u8 (c.toNat : Int) 32 = (c.toNat : Int) ∧ 97 ≤ c.toNat ∧ c.toNat ≤ 102 := fun m hm e => by
          rcases hno.out m hm e with q | q
          · exact absurd q hdig
          · exact ⟨or32_at c q.1 q.2, q.1, q.2⟩
        have hlc := Lib.hid hlc
        have hv0 := bits_lo_u8 .or (c.toNat : Int) 32
        have hv1 := bits_hi_u8 .or (c.toNat : Int) 32
        have hlw := Lib.hid (fun W => lower_any (c.toNat : Int) W (by omega) (by omega))
        generalize bits .or .u8 (c.toNat : Int) 32 = lc at *
        have hdig2 : ¬ (48 ≤ (c.toNat : Int) ∧ (c.toNat : Int) ≤ 57) := by omega
        by_cases hin : 97 ≤ lc ∧ lc ≤ 102
        · obtain ⟨hd0, hd1⟩ := hin
          have hdd := Lib.hid (hgo.out (lc.toNat - 87) (fun m hm e => by
            obtain ⟨q1, q2, q3⟩ := hlc.out m hm e
            rw [if_neg (by omega)]; omega) (by omega))
          by_cases hov : 4294967295 < a * 16 + (lc - 97 + 10)
          · have hbad := Lib.hid (hbig.out (lc - 97 + 10) (by omega) (by omega) (fun m hm e => by have := hdd.out m hm e; omega))
            clear hdd hgo hh hG hbig hno hlc hdig
            go_wp2_with (go_at_call 104; refine (hlw.out _).mono ?_; rintro e w' ⟨rfl, rfl⟩)
            all_goals go_ret2
            all_goals exact ⟨_, _, rfl, PuE.bad hbad.out (by omega) (by omega), .inr (.inr rfl), hBel.out⟩
          · have hR := Lib.hid (fun m (hm : m < 4294967296) (e : bs = hexL m 8) => show a * 16 + (lc - 97 + 10) = ((m / 16 ^ (8 - (k + 1)) : Nat) : Int) by have := hdd.out m hm e; omega)
            clear hdd hgo hh hG hbig hno hlc hdig
            go_wp2_with (go_at_call 104; refine (hlw.out _).mono ?_; rintro e w' ⟨rfl, rfl⟩)
            all_goals exact ⟨⟨k + 1, a * 16 + (lc - 97 + 10), rfl, by first | rfl | (congr 1; omega), by first | rfl | (congr 1; omega), by omega, by omega, by omega, hR⟩, by simp [intOf]; omega⟩
        · have hbad := Lib.hid (show NoHex bs from fun m hm e => by
            obtain ⟨q1, q2, q3⟩ := hlc.out m hm e
            omega)
          clear hgo hh hG hbig hno hlc hdig
          have hin2 : lc < 97 ∨ 102 < lc := by omega
          clear hin
          rcases hin2 with q | q
          · go_wp2_with (go_at_call 104; refine (hlw.out _).mono ?_; rintro e w' ⟨rfl, rfl⟩)
            all_goals go_ret2
            all_goals exact ⟨_, _, rfl, PuE.bad hbad.out (by omega) (by omega), .inr (.inl rfl), hBel.out⟩
          · by_cases q2 : lc ≤ 122
            · go_wp2_with (go_at_call 104; refine (hlw.out _).mono ?_; rintro e w' ⟨rfl, rfl⟩)
              all_goals go_ret2
              all_goals exact ⟨_, _, rfl, PuE.bad hbad.out (by omega) (by omega), .inr (.inl rfl), hBel.out⟩
            · go_wp2_with (go_at_call 104; refine (hlw.out _).mono ?_; rintro e w' ⟨rfl, rfl⟩)
              all_goals go_ret2
              all_goals exact ⟨_, _, rfl, PuE.bad hbad.out (by omega) (by omega), .inr (.inl rfl), hBel.out⟩
    · have hkk : k = t.size := by omega
      subst hkk
      have hR := Lib.hid (show PuE bs a .nilIface from ⟨a0, a1, fun m hm e => by
        have h1 := hh.out m hm e
        have h8 : t.size = 8 := by rw [← hLn, e, hexL_len]
        rw [h8, Nat.sub_self, Nat.pow_zero, Nat.div_one] at h1
        exact ⟨h1, rfl⟩⟩)
      clear hB hh
      go_wp2
      go_ret2
      exact ⟨a, .nilIface, rfl, hR.out, .inl rfl, hBel.out⟩
end Go.Proofs.YtoemjeomfnndaaaDoor
