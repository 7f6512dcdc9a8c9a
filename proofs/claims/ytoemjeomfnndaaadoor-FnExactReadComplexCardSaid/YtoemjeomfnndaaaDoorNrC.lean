/- ReadNumbers: both sides. -/
import Derived.Test.YtoemjeomfnndaaaDoorPuC
import Derived.Test.YtoemjeomfnndaaaDoorMfC
import Derived.Test.YtoemjeomfnndaaaDoorReadC
namespace Go.Proofs.YtoemjeomfnndaaaDoor
open Go.RowKit Go.Shelf
set_option linter.unusedVariables false
theorem toErr2 (fn s : ByteArray) (w : World) (hs : s.size ≤ 1048576) (hE : ErrsIn w) :
    Calls Tryd.prog 79 #[.string fn, .string s, .int .i64 16, .int .i64 32, .iface 114 (.int .i64 2)] w fun e w' => (∃ t p, e = .returned (.iface t p)) ∧ Below w.heap.size w w' := by
  obtain ⟨tp, p, hv⟩ := hE.es
  have h0 := World.var?_cell (g := Tryd.laysC174_ren.g 15) (by kernel_rfl) hv 0
  have C := Any.strconv_toError_syntax (P := Tryd.prog) (ρ := Tryd.laysC174_ren) { Tryd.laysC174 with } fn s 16 32 (.iface tp p) w (by omega) (by simpa using h0) (Or.inr ⟨tp, p, rfl⟩)
  exact Calls.mono C fun e w' ⟨N, he, _, _, hb⟩ => ⟨⟨_, _, he⟩, hb⟩
theorem toErr1 (fn s : ByteArray) (w : World) (hs : s.size ≤ 1048576) (hE : ErrsIn w) :
    Calls Tryd.prog 79 #[.string fn, .string s, .int .i64 16, .int .i64 32, .iface 114 (.int .i64 1)] w fun e w' => (∃ t p, e = .returned (.iface t p)) ∧ Below w.heap.size w w' := by
  obtain ⟨tp, p, hv⟩ := hE.er
  have h0 := World.var?_cell (g := Tryd.laysC174_ren.g 16) (by kernel_rfl) hv 0
  have C := Any.strconv_toError_range (P := Tryd.prog) (ρ := Tryd.laysC174_ren) { Tryd.laysC174 with } fn s 16 32 (.iface tp p) w (by omega) (by simpa using h0) (Or.inr ⟨tp, p, rfl⟩)
  exact Calls.mono C fun e w' ⟨N, he, _, _, hb⟩ => ⟨⟨_, _, he⟩, hb⟩
set_option maxHeartbeats 1000000 in
theorem pu_any (s : ByteArray) (w : World) (hs : s.size ≤ 1048576) (hE : ErrsIn w) :
    Calls Tryd.prog 61 #[.string s, .int .i64 16, .int .i64 32] w fun e w' => ∃ (v : Int) (r : Value), e = .returned (.tuple #[.int .u64 v, r]) ∧ PuE s.data.toList v r ∧ (r = .nilIface ∨ ∃ t p, r = .iface t p) ∧ Below w.heap.size w w' := by
  have C := Lib.hid (pu_in s w hs)
  have hE := Lib.hid hE
  go_enter Tryd.func61, Tryd.ntmps61
  go_wp2_with fail
  refine C.out.mono ?_
  rintro e w1 ⟨v, r, rfl, hp, hr, b1⟩
  have hp := Lib.hid hp
  have hb := Lib.hid b1
  have hE1 := hE.out.bel b1
  have hno : r ≠ .nilIface → Hid (∀ m, m < 4294967296 → s.data.toList ≠ hexL m 8) := fun hne => Lib.hid fun m hm e => hne (hp.out.2.2 m hm e).2
  have T2 := Lib.hid (fun fn => toErr2 fn s w1 hs hE1)
  have T1 := Lib.hid (fun fn => toErr1 fn s w1 hs hE1)
  clear b1 hE1
  rcases hr with rfl | rfl | rfl
  · clear hno
    go_wp2
    go_ret2
    exact ⟨v, _, rfl, hp.out, .inl rfl, hb.out⟩
  · have hno := hno (fun q => by cases q)
    go_wp2_with (go_at_call 79; refine (T2.out _).mono ?_; rintro e w2 ⟨⟨tt, pp, rfl⟩, b2⟩)
    go_ret2
    exact ⟨v, _, rfl, PuE.bad hno.out hp.out.1 hp.out.2.1, .inr ⟨_, _, rfl⟩, bel_next hb.out b2⟩
  · have hno := hno (fun q => by cases q)
    go_wp2_with (go_at_call 79; refine (T1.out _).mono ?_; rintro e w2 ⟨⟨tt, pp, rfl⟩, b2⟩)
    go_ret2
    exact ⟨v, _, rfl, PuE.bad hno.out hp.out.1 hp.out.2.1, .inr ⟨_, _, rfl⟩, bel_next hb.out b2⟩
/-- What a reading of one number returns. -/
def HexE (l : List UInt8) (e : Ending) : Prop := ∃ x, e = .returned (.tuple #[.float .f32 x, .bool (qN l)]) ∧ ∀ m, numN l = some m → x = m
set_option maxHeartbeats 1000000 in
theorem readHex_any (s : ByteArray) (w : World) (hs : s.size ≤ 1048576) (hE : ErrsIn w) (hB : Bru w) :
    Calls Tryd.prog 41 #[.string s] w fun e w' => HexE s.data.toList e ∧ Below w.heap.size w w' := by
  have C := Lib.hid (pu_any s w hs hE)
  have hB := Lib.hid hB
  clear hE
  go_enter Tryd.func41, Tryd.ntmps41
  go_wp2_with fail
  refine C.out.mono ?_
  rintro e w1 ⟨v, r, rfl, hp, hr, b1⟩
  obtain ⟨v0, v1, hp⟩ := hp
  obtain ⟨n, rfl⟩ : ∃ n : Nat, v = n := ⟨v.toNat, by omega⟩
  have hn : n < 4294967296 := by omega
  have D := Lib.hid (hexOf_any n w1 hn (hB.out.bel b1))
  have hb := Lib.hid b1
  have hN := Lib.hid (fun h => numN_none (l := s.data.toList) h n hn)
  have hp := Lib.hid hp
  clear b1
  cases hq : numN s.data.toList with
  | some m =>
    obtain ⟨e1, e2, e3⟩ := numN_of hq
    obtain ⟨h1, rfl⟩ := hp.out m e2 e1
    obtain rfl : n = m := by omega
    have hQ := Lib.hid (show qN s.data.toList = true by unfold qN; rw [hq]; rfl)
    have hes : (⟨(hexL (bitsN n) 8).toArray⟩ : ByteArray) = s := by
      rw [e3, ← e1]
    rw [hes] at D
    have hx := Lib.hid hq
    clear e1 hp hr hes e3 hN h1 hq
    go_wp2_with (go_at_call 54; refine D.out.mono ?_; rintro e w2 ⟨rfl, b2⟩)
    go_ret2
    exact ⟨⟨n, by rw [hQ.out]; rfl, fun m h => by rw [hx.out] at h; exact Option.some.inj h⟩, bel_next hb.out b2⟩
  | none =>
    have hQ := Lib.hid (show qN s.data.toList = false by unfold qN; rw [hq]; rfl)
    have hx := Lib.hid hq
    have hne := str_ne (t := ⟨(hexL (bitsN n) 8).toArray⟩) (s := s) (by rw [back_list]; exact hN.out hq)
    generalize (⟨(hexL (bitsN n) 8).toArray⟩ : ByteArray) = tt at *
    clear hp hN hq
    rcases hr with rfl | ⟨t, p, rfl⟩
    · go_wp2_with (go_at_call 54; refine D.out.mono ?_; rintro e w2 ⟨rfl, b2⟩)
      go_ret2
      exact ⟨⟨n, by rw [hQ.out]; rfl, fun m h => by rw [hx.out] at h; cases h⟩, bel_next hb.out b2⟩
    · go_wp2_with (go_at_call 54; refine D.out.mono ?_; rintro e w2 ⟨rfl, b2⟩)
      go_ret2
      exact ⟨⟨n, by rw [hQ.out]; rfl, fun m h => by rw [hx.out] at h; cases h⟩, hb.out⟩
abbrev OutH (l : List UInt8) (w : World) (e : Ending) (w' : World) : Prop := OutS (rdN qN 256 l) (rdOk qN 256 l) (kF (fH l)) w e w'
theorem OutH.no {l : List UInt8} {w w' : World} {e : Ending} (h : rdOk qN 256 l = false ∧ rdN qN 256 l = 0) (hb : Below w.heap.size w w') (he : e = .returned (.tuple #[.slice none 0 0, .bool false])) : OutH l w e w' := by
  unfold OutH; rw [h.1, h.2]; exact OutS.fail hb he
theorem OutH.yes {l : List UInt8} {w wr : World} {v : Value} {k : Nat} {en : Ending} (h : rdOk qN 256 l = true ∧ rdN qN 256 l = k) (hG : Grow w.heap.size w 51 v k (kF (fH l)) wr) (he : en = .returned (.tuple #[v, .bool true])) : OutH l w en wr := by
  unfold OutH; rw [h.1, h.2]; exact hG.out he
theorem infoF32 : (Tryd.prog.info? 51).map (fun i => (i.zero, i.size, i.bytes)) = some (some (.float .f32 0), 1, 4) := by kernel_rfl
/-- What the implementation leans on: variables of the library. -/
structure VarsN (w : World) : Prop where
  bru : Bru w
  errs : ErrsIn w
  maxl : MaxC w
theorem VarsN.bel {w w' : World} (h : VarsN w) (hb : Below w.heap.size w w') : VarsN w' := ⟨h.bru.bel hb, h.errs.bel hb, h.maxl.bel hb⟩
theorem l01From_any (n : Nat) (w : World) (hn : n < 4294967296) : Calls Tryd.prog 59 #[.int .i64 n] w fun e w' => e = .returned (.float .f32 n) ∧ w = w' := by
  go_enter Tryd.func59, Tryd.ntmps59
  go_wp2
  go_ret
  exact ⟨rfl, rfl⟩
end Go.Proofs.YtoemjeomfnndaaaDoor
