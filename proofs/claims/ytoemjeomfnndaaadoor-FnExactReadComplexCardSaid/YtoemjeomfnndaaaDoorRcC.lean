/- ReadComplex: what both sides lean on: complex numbers with texts of 16 hexadecimal digits, the reference's digits. -/
import Derived.Test.YtoemjeomfnndaaaDoorNrC
namespace Go.Proofs.YtoemjeomfnndaaaDoor
open Go.RowKit Go.Shelf
set_option linter.unusedVariables false
def qC (l : List UInt8) : Bool := decide (l.length = 16) && (qN (l.take 8) && qN (l.drop 8))
/-- The parts of the numbers of a text. -/
def zR (l : List UInt8) : Nat → Nat := fun i => (numN ((pc l i).take 8)).getD 0
def zI (l : List UInt8) : Nat → Nat := fun i => (numN ((pc l i).drop 8)).getD 0
abbrev kC (x y : Nat → Nat) : Nat → Value := fun i => .complex .f32 (x i) (y i)
theorem qC_len {l : List UInt8} (h : l.length ≠ 16) : qC l = false := by unfold qC; rw [decide_eq_false h]; rfl
theorem qC_one {l : List UInt8} (h : qN (l.take 8) = false) : qC l = false := by unfold qC; rw [h, Bool.false_and, Bool.and_false]
theorem qC_two {l : List UInt8} (h : qN (l.drop 8) = false) : qC l = false := by unfold qC; rw [h, Bool.and_false, Bool.and_false]
theorem qC_yes {l : List UInt8} (h : l.length = 16) (h1 : qN (l.take 8) = true) (h2 : qN (l.drop 8) = true) : qC l = true := by unfold qC; rw [decide_eq_true h, h1, h2]; rfl
theorem qN_some {l : List UInt8} (h : qN l = true) : ∃ v, numN l = some v := Option.isSome_iff_exists.1 h
theorem qN_of {l : List UInt8} {v : Nat} (h : numN l = some v) : qN l = true := by unfold qN; rw [h]; rfl
theorem qN_not {l : List UInt8} (h : numN l = none) : qN l = false := by unfold qN; rw [h]; rfl
theorem fC_of {l : List UInt8} {k a b : Nat} (h1 : numN ((pc l k).take 8) = some a) (h2 : numN ((pc l k).drop 8) = some b) : kC (zR l) (zI l) k = .complex .f32 a b := by
  show Value.complex .f32 (zR l k) (zI l k) = _
  unfold zR zI; rw [h1, h2]; rfl
theorem cut_lo (s : ByteArray) : (s.extract 0 8).data.toList = s.data.toList.take 8 := by
  rw [piece_str, List.drop_zero]
theorem cut_hi (s : ByteArray) : (s.extract 8 s.size).data.toList = s.data.toList.drop 8 := by
  have h : s.data.toList.length = s.size := rfl
  rw [piece_str, List.take_of_length_le (by omega)]
theorem cut_lo_size (s : ByteArray) (h : s.size = 16) : (s.extract 0 8).size = 8 := by simp [ByteArray.size_extract, h]
theorem cut_hi_size (s : ByteArray) (h : s.size = 16) : (s.extract 8 s.size).size = 8 := by simp [ByteArray.size_extract, h]
set_option maxRecDepth 100000 in
set_option maxHeartbeats 2000000 in
theorem l01Digits_any (S : ByteArray) (w : World) (h8 : S.size = 8) :
    Calls Tryd.prog 63 #[.string S] w fun e w' => HexE S.data.toList e ∧ w = w' := by
  have hSn := len_of S
  have hat : ∀ j (h : j < S.data.toList.length), S.data.toList[j] = S[j]'(by rw [← hSn]; exact h) := fun j h => rfl
  have hat := Lib.hid hat
  have hE0 : Hid (numN S.data.toList = none → HexE S.data.toList (.returned (.tuple #[.float .f32 0, .bool false]))) := Lib.hid fun h => ⟨0, by unfold qN; rw [h]; rfl, fun m hm => by rw [h] at hm; cases hm⟩
  have hE1 : Hid (∀ m, numN S.data.toList = some m → HexE S.data.toList (.returned (.tuple #[.float .f32 m, .bool true]))) := Lib.hid fun m h => ⟨m, by unfold qN; rw [h]; rfl, fun m' hm => by rw [h] at hm; exact Option.some.inj hm⟩
  have hT0 : Hid (hexV (S.data.toList.take 0) = some 0) := Lib.hid rfl
  go_enter Tryd.func63, Tryd.ntmps63
  go_wp2
  go_loop [4, 5] (fun sm sk => ∃ j m : Nat, sm = .int .i64 m ∧ sk = .int .i64 j ∧ j ≤ 8 ∧ m < 4294967296 ∧ Hid (hexV (S.data.toList.take j) = some m)) (fun _ sk => 8 - (intOf sk).toNat)
  case atStart => exact ⟨0, 0, rfl, rfl, by omega, by omega, hT0⟩
  case round =>
    clear hT0
    obtain ⟨j, m, rfl, rfl, hj, hm, hH⟩ := hrel
    by_cases hj8 : j < 8
    · have hjs : j < S.size := by omega
      have hjl : j < S.data.toList.length := by omega
      have hstep := Lib.hid (hexV_take hjl)
      have hcc := Lib.hid (hat.out j hjl)
      have hnx : ∀ d, dval S[j] = some d → hexV (S.data.toList.take (j + 1)) = some (16 * m + d) ∧ 16 * m + d < 4294967296 := fun d hd => by
        have h1 : hexV (S.data.toList.take (j + 1)) = some (16 * m + d) := by
          rw [hstep.out, hcc.out, hH.out]
          show (dval S[j]).map _ = _
          rw [hd]; rfl
        have h2 := hexV_take_lt (by omega) h1
        have h3 := Nat.pow_le_pow_right (show 0 < 16 by omega) (show j + 1 ≤ 8 by omega)
        exact ⟨h1, by omega⟩
      have hnx := Lib.hid hnx
      have hbd := Lib.hid (fun (h : dval S[j] = none) => hE0.out (numN_bad hjl (by rw [hcc.out]; exact h)))
      have hdv : dval S[j] = if 48 ≤ S[j].toNat ∧ S[j].toNat ≤ 57 then some (S[j].toNat - 48) else if 97 ≤ S[j].toNat ∧ S[j].toNat ≤ 102 then some (S[j].toNat - 87) else none := rfl
      have hdv := Lib.hid hdv
      clear hstep hcc
      have hc256 : S[j].toNat < 256 := S[j].toNat_lt
      by_cases hdig : 48 ≤ S[j].toNat ∧ S[j].toNat ≤ 57
      · obtain ⟨q1, q2⟩ := hnx.out (S[j].toNat - 48) (by rw [hdv.out, if_pos hdig])
        have q1 := Lib.hid q1
        obtain ⟨d1, d2⟩ := hdig
        go_wp2
        go_round
        case rel => exact ⟨j + 1, 16 * m + (S[j].toNat - 48), by congr 1; omega, by go_num, by omega, q2, q1⟩
        case measure => simp [intOf]; omega
      · by_cases hlet : 97 ≤ S[j].toNat ∧ S[j].toNat ≤ 102
        · obtain ⟨q1, q2⟩ := hnx.out (S[j].toNat - 87) (by rw [hdv.out, if_neg hdig, if_pos hlet])
          have q1 := Lib.hid q1
          obtain ⟨d1, d2⟩ := hlet
          go_wp2
          go_round
          case rel => exact ⟨j + 1, 16 * m + (S[j].toNat - 87), by congr 1; omega, by go_num, by omega, q2, q1⟩
          case measure => simp [intOf]; omega
        · have hr := Lib.hid (hbd.out (by rw [hdv.out, if_neg hdig, if_neg hlet]))
          have hd2 : S[j].toNat < 48 ∨ (57 < S[j].toNat ∧ S[j].toNat < 97) ∨ 102 < S[j].toNat := by omega
          clear hdig hlet
          rcases hd2 with d | ⟨d, d2⟩ | d
          · go_wp2
            go_ret2
            exact ⟨hr.out, rfl⟩
          · go_wp2
            go_ret2
            exact ⟨hr.out, rfl⟩
          · go_wp2
            go_ret2
            exact ⟨hr.out, rfl⟩
    · obtain rfl : j = 8 := by omega
      have hv := hH.out
      rw [List.take_of_length_le (by omega)] at hv
      have hV := numN_val (by omega) hv
      have C1 := Lib.hid (fun W => l01From_any m W hm)
      have C2 := Lib.hid (fun W => l01Bits_any m W hm)
      unfold bitsZ at C2
      by_cases hbb : bitsN m = m
      · rw [if_pos hbb] at hV
        rw [hbb] at C2
        have hr := Lib.hid (hE1.out m hV)
        clear hV hv hbb
        go_wp2_with (first
          | (go_at_call 59; refine (C1.out _).mono ?_; rintro e w2 ⟨rfl, rfl⟩)
          | (go_at_call 60; refine (C2.out _).mono ?_; rintro e w2 ⟨rfl, rfl⟩))
        go_ret2
        exact ⟨hr.out, rfl⟩
      · rw [if_neg hbb] at hV
        have hr := Lib.hid (hE0.out hV)
        have hne : (((bitsN m : Nat) : Int) != ((m : Nat) : Int)) = true := by rw [bne_iff_ne]; omega
        have hne2 : (((bitsN m : Nat) : Int) == ((m : Nat) : Int)) = false := by rw [beq_eq_false_iff_ne]; omega
        generalize bitsN m = q at *
        clear hV hv hbb
        go_wp2_with (first
          | (go_at_call 59; refine (C1.out _).mono ?_; rintro e w2 ⟨rfl, rfl⟩)
          | (go_at_call 60; refine (C2.out _).mono ?_; rintro e w2 ⟨rfl, rfl⟩))
        go_ret2
        exact ⟨hr.out, rfl⟩
theorem HexE.yes {l : List UInt8} {e : Ending} {v : Nat} (h : HexE l e) (hv : numN l = some v) : e = .returned (.tuple #[.float .f32 v, .bool true]) := by
  obtain ⟨x, rfl, hx⟩ := h
  rw [hx v hv, qN_of hv]
theorem HexE.no {l : List UInt8} {e : Ending} (h : HexE l e) (hv : numN l = none) : ∃ x, e = .returned (.tuple #[.float .f32 x, .bool false]) := by
  obtain ⟨x, rfl, hx⟩ := h
  exact ⟨x, by rw [qN_not hv]⟩
theorem HexE.any {l : List UInt8} {e : Ending} (h : HexE l e) : ∃ x b, e = .returned (.tuple #[.float .f32 x, .bool b]) := by
  obtain ⟨x, rfl, hx⟩ := h
  exact ⟨x, _, rfl⟩
abbrev OutZ (l : List UInt8) (w : World) (e : Ending) (w' : World) : Prop := OutS (rdN qC 256 l) (rdOk qC 256 l) (kC (zR l) (zI l)) w e w'
theorem OutZ.no {l : List UInt8} {w w' : World} {e : Ending} (h : rdOk qC 256 l = false ∧ rdN qC 256 l = 0) (hb : Below w.heap.size w w') (he : e = .returned (.tuple #[.slice none 0 0, .bool false])) : OutZ l w e w' := by
  unfold OutZ; rw [h.1, h.2]; exact OutS.fail hb he
theorem OutZ.yes {l : List UInt8} {w wr : World} {v : Value} {k : Nat} {en : Ending} (h : rdOk qC 256 l = true ∧ rdN qC 256 l = k) (hG : Grow w.heap.size w 56 v k (kC (zR l) (zI l)) wr) (he : en = .returned (.tuple #[v, .bool true])) : OutZ l w en wr := by
  unfold OutZ; rw [h.1, h.2]; exact hG.out he
theorem infoC64 : (Tryd.prog.info? 56).map (fun i => (i.zero, i.size, i.bytes)) = some (some (.complex .f32 0 0), 1, 8) := by kernel_rfl
theorem digits_lo (S : ByteArray) (w : World) (h : S.size = 16) : Calls Tryd.prog 63 #[.string (S.extract 0 8)] w fun e w' => HexE (S.data.toList.take 8) e ∧ w = w' := by
  have := l01Digits_any (S.extract 0 8) w (cut_lo_size S h)
  rwa [cut_lo] at this
theorem digits_hi (S : ByteArray) (w : World) (h : S.size = 16) : Calls Tryd.prog 63 #[.string (S.extract 8 16)] w fun e w' => HexE (S.data.toList.drop 8) e ∧ w = w' := by
  have := l01Digits_any (S.extract 8 S.size) w (cut_hi_size S h)
  rw [cut_hi] at this
  rwa [h] at this
theorem hex_lo (S : ByteArray) (w : World) (h : S.size = 16) (hE : ErrsIn w) (hB : Bru w) : Calls Tryd.prog 41 #[.string (S.extract 0 8)] w fun e w' => HexE (S.data.toList.take 8) e ∧ Below w.heap.size w w' := by
  have := readHex_any (S.extract 0 8) w (by rw [cut_lo_size S h]; omega) hE hB
  rwa [cut_lo] at this
theorem hex_hi (S : ByteArray) (w : World) (h : S.size = 16) (hE : ErrsIn w) (hB : Bru w) : Calls Tryd.prog 41 #[.string (S.extract 8 16)] w fun e w' => HexE (S.data.toList.drop 8) e ∧ Below w.heap.size w w' := by
  have := readHex_any (S.extract 8 S.size) w (by rw [cut_hi_size S h]; omega) hE hB
  rw [cut_hi] at this
  rwa [h] at this
end Go.Proofs.YtoemjeomfnndaaaDoor
