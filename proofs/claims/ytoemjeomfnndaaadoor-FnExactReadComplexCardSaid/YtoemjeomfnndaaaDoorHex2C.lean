/- The library's text of a number at base 16; hexOf. -/
import Derived.Test.YtoemjeomfnndaaaDoorHexC
import Derived.Test.YtoemjeomfnndaaaDoorShRep
import Derived.Test.YtoemjeomfnndaaaDoorTx
namespace Go.Proofs.YtoemjeomfnndaaaDoor
open Go.RowKit Go.Shelf
set_option linter.unusedVariables false
/-- The cell of the table that tells 16's zeros. -/
def Bru (w : World) : Prop := w.cell? ⟨(Tryd.prog.globalNamed "math/bits.deBruijn64tab").getD 0, 15, none⟩ = some (.int .u8 4)
theorem Bru.bel {w w' : World} (h : Bru w) (hb : Below w.heap.size w w') : Bru w' := by
  unfold Bru at *
  rw [hb.cell (p := ⟨_, 15, none⟩) (World.block_lt_of_cell? _ _ h)]; exact h
theorem tz64_16 (w : World) (h : Bru w) : Calls Tryd.prog 126 #[.int .u64 16] w fun e w' => e = .returned (.int .i64 4) ∧ w = w' := by
  have hg : (Tryd.prog.globalNamed "math/bits.deBruijn64tab").getD 0 = 8 := by kernel_rfl
  unfold Bru at h
  rw [hg] at h
  have ha : bits .and .u64 16 (IntKind.u64.wrap (-16)) = 16 := by decide
  go_enter Tryd.func126, Tryd.ntmps126
  go_wp2
  go_ret
  exact ⟨rfl, rfl⟩
theorem tz_16 (w : World) (h : Bru w) : Calls Tryd.prog 110 #[.int .u64 16] w fun e w' => e = .returned (.int .i64 4) ∧ w = w' := by
  have C := Lib.hid (tz64_16 w h)
  clear h
  go_enter Tryd.func110, Tryd.ntmps110
  go_wp2_with (go_at_call 126; refine C.out.mono ?_; rintro e w' ⟨rfl, rfl⟩)
  go_ret
  exact ⟨rfl, rfl⟩
theorem pow2_16 (w : World) : Calls Tryd.prog 109 #[.int .i64 16] w fun e w' => e = .returned (.bool true) ∧ w = w' := by
  have ha : bits .and .i64 16 15 = 0 := by decide
  go_enter Tryd.func109, Tryd.ntmps109
  go_wp2
  go_ret
  exact ⟨rfl, rfl⟩
/-- The new array while digits are laid: the last j. -/
structure Digs (w : World) (n j : Nat) (wr : World) : Prop where
  bel : Below w.heap.size w wr
  size : w.heap.size < wr.heap.size
  free : ∀ p, wr.frozen? ⟨w.heap.size, p, none⟩ = false
  cell : ∀ p, p < 65 → ∃ v : Int, wr.cell? ⟨w.heap.size, p, none⟩ = some (.int .u8 v)
  done : ∀ s, s < j → wr.cell? ⟨w.heap.size, 64 - s, none⟩ = some (.int .u8 ((hx n s).toNat : Int))
theorem Digs.step {w wr : World} {n j : Nat} (h : Digs w n j wr) (hj : j ≤ 64) {u : Nat} (hu : n / 16 ^ j = u) {p : Nat} (hp : p = 64 - j) : Digs w n (j + 1) (wr.setCell ⟨w.heap.size, p, none⟩ (.int .u8 ((hd (u % 16)).toNat : Int))) := by
  subst hp
  refine ⟨h.bel.setCell (Nat.le_refl _) _, by simpa using h.size, fun p => by rw [World.frozen?_setCell]; exact h.free p, fun p hp => ?_, fun s hs => ?_⟩
  · obtain ⟨v, hv⟩ := h.cell p hp
    rw [store1 hv]
    by_cases e : p = 64 - j
    · rw [if_pos e]; exact ⟨_, rfl⟩
    · rw [if_neg e]; exact ⟨v, rfl⟩
  · by_cases e : s = j
    · subst e
      obtain ⟨v, hv⟩ := h.cell (64 - s) (by omega)
      rw [store1 hv, if_pos rfl]
      unfold hx; rw [hu]
    · rw [store1 (h.done s (by omega)), if_neg (by omega)]
theorem Digs.text {w wr : World} {n j : Nat} (h : Digs w n (j + 1) wr) (hj : j ≤ 7) : ∀ i (hi : i < (hexL n (j + 1)).length), wr.cell? ((⟨w.heap.size, 64 - j, none⟩ : Addr).add i) = some (.int .u8 (((hexL n (j + 1))[i]).toNat : Int)) := by
  intro i hi
  have h8 : i < j + 1 := by rwa [hexL_len] at hi
  have hg := hexL_get (n := n) h8
  rw [List.getElem?_eq_getElem hi] at hg
  rw [add_at, Option.some.inj hg, show 64 - j + i = 64 - (j + 1 - 1 - i) by omega]
  exact h.done _ (by omega)
theorem at_digs36 : ∀ d : Fin 16, (⟨#[48, 49, 50, 51, 52, 53, 54, 55, 56, 57, 97, 98, 99, 100, 101, 102, 103, 104, 105, 106, 107, 108, 109, 110, 111, 112, 113, 114, 115, 116, 117, 118, 119, 120, 121, 122]⟩ : ByteArray)[d.val]'(Nat.lt_trans d.isLt (by decide)) = hd d.val := by decide
theorem digit_u (u : Nat) : bits .and .u64 (u : Int) 15 = ((u % 16 : Nat) : Int) := by rw [u64_and15]; rfl
set_option maxRecDepth 100000 in
set_option maxHeartbeats 1000000 in
theorem formatBits_16 (n : Nat) (w : World) (hn : n < 4294967296) (hB : Bru w) :
    Calls Tryd.prog 86 #[.slice none 0 0, .int .u64 n, .int .i64 16, .bool false, .bool false] w
      fun e w' => ∃ j : Nat, j ≤ 7 ∧ n < 16 ^ (j + 1) ∧ e = .returned (.tuple #[.slice none 0 0, .string ⟨(hexL n (j + 1)).toArray⟩]) ∧ Below w.heap.size w w' := by
  have hB := Lib.hid hB
  go_enter Tryd.func86, Tryd.ntmps86
  have h0 : Digs w n 0 (w.alloc (.cells (Tryd.zeroCells124) 124)) := by
    refine ⟨(Below.refl _ _).alloc (Nat.le_refl _) _, by simp, fun p => by simp, fun p hp => ⟨0, ?_⟩, fun s hs => absurd hs (Nat.not_lt_zero _)⟩
    have : Tryd.zeroCells124[p]? = some (Value.int .u8 0) := by
      have hz : Tryd.zeroCells124 = Array.replicate 65 (Value.int .u8 0) := by kernel_rfl
      rw [hz, Array.getElem?_replicate, if_pos hp]
    simpa using this
  have h0 := Lib.hid h0
  go_wp2_with (first | (go_at_call 109; refine (pow2_16 _).mono ?_; rintro e w' ⟨rfl, rfl⟩) | (go_at_call 110; refine (tz_16 _ (hB.out.bel h0.out.bel)).mono ?_; rintro e w' ⟨rfl, rfl⟩))
  generalize w.alloc (.cells (Tryd.zeroCells124) 124) = W at *
  have hI := Lib.hid at_digs36
  go_loopw [1, 13] (fun su si wr => ∃ j q u : Nat, su = .int .u64 u ∧ si = .int .i64 ((q : Int) + 1) ∧ q + j = 64 ∧ j ≤ 7 ∧ u ≤ 4294967295 ∧ Hid (n / 16 ^ j = u) ∧ Hid (Digs w n j wr)) (fun su _ _ => (intOf su).toNat)
  case atStart => exact ⟨0, 64, n, rfl, rfl, rfl, by omega, by omega, Lib.hid (by simp), h0⟩
  case round =>
    obtain ⟨j, q, u, rfl, rfl, hq, hj, hu4, hU, hD⟩ := hrel
    clear h0
    obtain ⟨v0, hc⟩ := hD.out.cell q (by omega)
    have hf := hD.out.free q
    have ha := digit_u u
    have hlt : u % 16 < 16 := Nat.mod_lt _ (by omega)
    have e1 : (((⟨#[48, 49, 50, 51, 52, 53, 54, 55, 56, 57, 97, 98, 99, 100, 101, 102, 103, 104, 105, 106, 107, 108, 109, 110, 111, 112, 113, 114, 115, 116, 117, 118, 119, 120, 121, 122]⟩ : ByteArray)[u % 16]'(Nat.lt_trans hlt (by decide))).toNat : Int) = ((hd (u % 16)).toNat : Int) := by rw [hI.out ⟨u % 16, hlt⟩]
    have hs := Lib.hid (hD.out.step (by omega) hU.out (p := q) (by omega))
    by_cases hge : 16 ≤ u
    · have hj6 : j ≤ 6 := by
        rcases Nat.lt_or_ge 6 j with h | h
        · obtain rfl : j = 7 := by omega
          have := hU.out
          omega
        · exact h
      have hu2 := Lib.hid (show n / 16 ^ (j + 1) = u / 16 by rw [Nat.pow_succ, ← Nat.div_div_eq_div_mul, hU.out])
      generalize u % 16 = d at *
      go_wp2
      exact ⟨⟨j + 1, q - 1, u / 16, by congr 1, by congr 1; omega, by omega, by omega, by omega, hu2, hs⟩, by simp [intOf]; omega⟩
    · have hd16 : u % 16 = u := Nat.mod_eq_of_lt (by omega)
      have hN := Lib.hid (show n < 16 ^ (j + 1) by
        have h1 := hU.out
        have h2 : n < 16 ^ j * 16 := by
          have := Nat.div_lt_iff_lt_mul (x := n) (y := 16) (Nat.pow_pos (n := j) (show 0 < 16 by omega))
          have := this.1 (by omega)
          rwa [Nat.mul_comm] at this
        rwa [Nat.pow_succ])
      have hv := run_convert_bytes_back (P := Tryd.prog) (wr.setCell ⟨w.heap.size, q, none⟩ (.int .u8 ((hd (u % 16)).toNat : Int))) 78 9 5 ⟨w.heap.size, 64 - j, none⟩ (j + 1) (hexL n (j + 1)) Tryd.underlying78 Tryd.underlying5 Tryd.underlying9 (hs.out.text hj)
      rw [hexL_len, show 64 - j = q by omega] at hv
      have hb := hs.out.bel
      have hal : Tryd.prog.arrayLen 124 = 65 := by simp [Program.arrayLen, Tryd.underlying124]
      have hel : Tryd.prog.elem 124 = 5 := by simp [Program.elem, Tryd.underlying124]
      have hsl : ∀ W, (Instr.sliceAt 124 (.pointer (some ⟨w.heap.size, 0, none⟩)) (some (.int .i64 (q : Int))) none none).run Tryd.prog W = .ok (.slice (some ⟨w.heap.size, q, none⟩) (j + 1) (j + 1)) W := fun W => by
        rw [run_sliceAt_array_l W 124 ⟨w.heap.size, 0, none⟩ (by rw [hal, hel, Tryd.underlying124]) .i64 (q : Int) (by omega) (by rw [hal]; omega), hel, hal]
        go_simp
        have h1 : ¬ 65 = q := by omega
        simp [h1, show 65 - q = j + 1 by omega]
      have hu16 : u < 16 := by omega
      simp only [hd16] at e1 hv hb
      have hb := Lib.hid hb
      clear ha hs hge
      go_wp2
      go_ret2
      exact ⟨j, hj, hN.out, rfl, hb.out⟩
theorem size_hex (n k : Nat) : (⟨(hexL n k).toArray⟩ : ByteArray).size = k := by simp [ByteArray.size, hexL_len]
theorem formatInt_16 (n : Nat) (w : World) (hn : n < 4294967296) (hB : Bru w) :
    Calls Tryd.prog 46 #[.int .i64 n, .int .i64 16] w fun e w' => ∃ j : Nat, j ≤ 7 ∧ n < 16 ^ (j + 1) ∧ e = .returned (.string ⟨(hexL n (j + 1)).toArray⟩) ∧ Below w.heap.size w w' := by
  have C := Lib.hid (formatBits_16 n w hn hB)
  have D : Hid (Calls Tryd.prog 64 #[.int .i64 n, .int .i64 16] w fun e w' => ∃ j : Nat, j ≤ 7 ∧ n < 16 ^ (j + 1) ∧ e = .returned (.string ⟨(hexL n (j + 1)).toArray⟩) ∧ Below w.heap.size w w') := by
    refine Lib.hid ?_
    clear hB
    go_enter Tryd.func64, Tryd.ntmps64
    go_wp2_with (go_at_call 86; refine C.out.mono ?_; rintro e w' ⟨j, h1, h2, rfl, h3⟩; have H := Lib.hid (And.intro h1 (And.intro h2 h3)); clear h1 h2 h3)
    go_ret
    exact ⟨j, H.out.1, H.out.2.1, rfl, H.out.2.2⟩
  clear hB C
  go_enter Tryd.func46, Tryd.ntmps46
  go_wp2_with (go_at_call 64; refine D.out.mono ?_; rintro e w' ⟨j, h1, h2, rfl, h3⟩; have H := Lib.hid (And.intro h1 (And.intro h2 h3)); clear h1 h2 h3)
  go_ret
  exact ⟨j, H.out.1, H.out.2.1, rfl, H.out.2.2⟩
theorem repeat_one (c : Nat) : Lib.repeatL ([48] : List UInt8) c = List.replicate c 48 := by
  have := Lib.repeatL_replicate 48 1 c
  rwa [Nat.mul_one] at this
theorem hexOf_any (x : Nat) (w : World) (hx0 : x < 4294967296) (hB : Bru w) :
    Calls Tryd.prog 54 #[.float .f32 x] w (fun e w' => e = .returned (.string ⟨(hexL (bitsN x) 8).toArray⟩) ∧ Below w.heap.size w w') := by
  have C := Lib.hid (BitsOf_any x w hx0)
  have hn := bitsN_lt hx0
  unfold bitsZ at C
  generalize bitsN x = n at *
  have D := Lib.hid (formatInt_16 n w hn hB)
  clear hB
  go_enter Tryd.func54, Tryd.ntmps54
  go_wp2_with (first | (go_at_call 76; refine C.out.mono ?_; rintro e w' ⟨rfl, rfl⟩) | (go_at_call 46; refine D.out.mono ?_; rintro e w1 ⟨j, h1, h2, rfl, b1⟩; have H := Lib.hid (And.intro h2 b1); clear h2 b1; have hlen := size_hex n (j + 1)) | fail)
  rw [show (8 - ((j : Int) + 1)) = ((7 - j : Nat) : Int) by omega]
  refine (Tryd.strings_Repeat ⟨#[48]⟩ (7 - j) _ (by omega) (by rw [show (⟨#[48]⟩ : ByteArray).size = 1 from rfl]; omega)).mono ?_
  rintro e w2 ⟨rfl, b2⟩
  rw [show (⟨#[48]⟩ : ByteArray).data.toList = [48] from rfl, repeat_one]
  have hp := Lib.hid (hexL_pad H.out.1 (7 - j))
  have hl2 : (⟨(List.replicate (7 - j) (48 : UInt8)).toArray⟩ : ByteArray).size = 7 - j := by simp [ByteArray.size]
  go_wp2
  go_ret
  exact ⟨by rw [show (8 : Nat) = j + 1 + (7 - j) by omega, hp.out, ← cat_list]; rfl, bel_next H.out.2 b2⟩
end Go.Proofs.YtoemjeomfnndaaaDoor
