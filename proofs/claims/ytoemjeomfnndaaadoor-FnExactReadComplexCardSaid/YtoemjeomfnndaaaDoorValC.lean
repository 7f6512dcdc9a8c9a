/- ReadDecimal: both sides. -/
import Derived.Test.YtoemjeomfnndaaaDoorValS
import Derived.Test.YtoemjeomfnndaaaDoorShParse
namespace Go.Proofs.YtoemjeomfnndaaaDoor
open Go.RowKit Go.Shelf
set_option linter.unusedVariables false
/-- What the two error variables hold. -/
structure ErrsIn (w : World) : Prop where
  es : ∃ tp p, w.var? Tryd.prog "strconv.ErrSyntax" = some #[.iface tp p]
  er : ∃ tp p, w.var? Tryd.prog "strconv.ErrRange" = some #[.iface tp p]
theorem var_bel {P : Program} {w w' : World} {name : String} {cs : Array Value} (h : w.var? P name = some cs) (hB : Below w.heap.size w w') : w'.var? P name = some cs := by
  unfold World.var? at *
  cases hg : P.globalNamed name with
  | none => rw [hg] at h; cases h
  | some g =>
    rw [hg] at h
    simp only [Option.bind_some] at h ⊢
    have hl : g < w.heap.size := by
      rcases Nat.lt_or_ge g w.heap.size with q | q
      · exact q
      · rw [Array.getElem?_eq_none q] at h; cases h
    rw [hB.5 g hl]
    exact h
theorem ErrsIn.bel {w w' : World} (h : ErrsIn w) (hB : Below w.heap.size w w') : ErrsIn w' := by
  obtain ⟨⟨t1, p1, h1⟩, ⟨t2, p2, h2⟩⟩ := h
  exact ⟨⟨t1, p1, var_bel h1 hB⟩, ⟨t2, p2, var_bel h2 hB⟩⟩
theorem errStar : "*" ++ "errors.errorString" = "*errors.errorString" := by decide
theorem errRow (u : TypeId) (h : Tryd.prog.typeName? 3 u = some "*errors.errorString") : u = 148 :=
  typeName_ptr_named (nm := "errors.errorString") (by rw [errStar]; kernel_rfl) (by kernel_rfl) (by decide) u (by rw [errStar]; exact h)
theorem errs_of {W : World} {n : String} {text : List UInt8} {r : List (String × DataW Unit)} {g : Nat} (hg : Tryd.prog.globalNamed n = some g) (hty : (Tryd.prog.globals[g]?).map (·.type) = some 66)
    (h : laidMet Tryd.prog ((n, .iface "*errors.errorString" (.ptr (.agg [.lit (.string text)]))) :: r) W) : ∃ tp p, W.var? Tryd.prog n = some #[.iface tp p] := by
  obtain ⟨a0, s0, hv0, -, -, -⟩ := laid_sentinel h hg hty Tryd.underlying66 errRow Tryd.underlying148 Tryd.underlying150 rfl rfl Tryd.underlying9 (by kernel_rfl) (by kernel_rfl)
  exact ⟨_, _, hv0⟩
theorem laid_errs {W : World} (h : laidMetH Tryd.prog Rows.fnExactReadDecimalRow.laid W) : Pow W ∧ ErrsIn W := by
  rw [MakeChecks.laidMetH_plain _ _ _ (by kernel_rfl)] at h
  refine ⟨pow_of h.tail.tail, ?_, ?_⟩
  · exact errs_of (g := (Tryd.prog.globalNamed "strconv.ErrSyntax").getD 0) (by kernel_rfl) (by kernel_rfl) h.tail.tail.tail.tail
  · exact errs_of (g := (Tryd.prog.globalNamed "strconv.ErrRange").getD 0) (by kernel_rfl) (by kernel_rfl) h.tail.tail.tail
theorem specRead_any (s : ByteArray) (w : World) (hs : s.size ≤ 1048576) :
    Calls Tryd.prog 36 #[.string s] w fun e w' => ValE s.data.toList e ∧ Below w.heap.size w w' := by
  have C := Lib.hid (l01Value_any s w hs)
  go_enter Tryd.func36, Tryd.ntmps36
  go_wp2_with (go_at_call 55; refine C.out.mono ?_; rintro e w' ⟨hv, hb⟩; unfold ValE at hv; subst hv)
  go_ret2
  exact ⟨rfl, hb⟩
theorem isValue_any (n : Int) (w : World) : Calls Tryd.prog 50 #[.int .i64 n] w fun e w' => e = .returned (.bool (inR n (-1000000000000000) 1000000000000000)) ∧ w = w' := by
  go_enter Tryd.func50, Tryd.ntmps50
  go_wp2_with (go_at_call 73; refine (withinR_any _ _ _ _).mono ?_; rintro e w' ⟨rfl, rfl⟩)
  go_ret
  exact ⟨rfl, rfl⟩
theorem not_val {l : List UInt8} {v : Int} (h : Lib.parseIntB 64 l = .ok v) (hn : ¬ (inV v ∧ Lib.itoa v = l)) : valT l = none := valT_none fun n hi e => by
  have := parse_itoa hi
  rw [e, h] at this
  obtain rfl : v = n := by injection this
  exact hn ⟨hi, e⟩
theorem no_val {l : List UInt8} (h : ∀ v, Lib.parseIntB 64 l ≠ .ok v) : valT l = none := valT_none fun n hi e => h n (by rw [← e]; exact parse_itoa hi)
set_option maxHeartbeats 1000000 in
theorem implRead_any (s : ByteArray) (w : World) (hs : s.size ≤ 1048576) (hT : Pow w) (hE : ErrsIn w) :
    Calls Tryd.prog 37 #[.string s] w fun e w' => ValE s.data.toList e ∧ Below w.heap.size w w' := by
  have hT := Lib.hid hT
  have hE := Lib.hid hE
  cases h : Lib.parseIntB 64 s.data.toList
  · rename_i v
    have C : Hid (Calls Tryd.prog 56 #[.string s, .int .i64 10, .int .i64 64] w fun e w' => e = .returned (.tuple #[.int .i64 v, .nilIface]) ∧ Below w.heap.size w w') := by
      refine Lib.hid ?_
      have := Any.strconv_ParseInt_10_at64_ok Tryd.laysC174 s (by omega) v h w
      refine Calls.mono this fun e w' ⟨he, hw⟩ => ⟨he, ?_⟩
      rcases hw with rfl | ⟨t, rfl⟩
      · exact Below.refl _ _
      · exact Lib.bytesWorld_below _ _ _
    by_cases hin : inV v
    · have hi := inR_yes (x := v) (lo := -1000000000000000) (hi := 1000000000000000) hin.1 hin.2
      have hv : -9223372036854775808 ≤ v ∧ v ≤ 9223372036854775807 := by unfold inV at hin; omega
      by_cases heq : Lib.itoa v = s.data.toList
      · have hR := Lib.hid (valT_some hin heq)
        have D : Hid (∀ w, Pow w → Calls Tryd.prog 27 #[.int .i64 v] w fun e w' => e = .returned (.string s) ∧ Below w.heap.size w w') := Lib.hid fun w q => by
          have := implDec_any v w hv.1 hv.2 q
          rwa [heq, show (⟨s.data.toList.toArray⟩ : ByteArray) = s by simp] at this
        clear heq hin h
        go_enter Tryd.func37, Tryd.ntmps37
        go_wp2_with (first | (go_at_call 56; refine C.out.mono ?_; rintro e w1 ⟨rfl, b1⟩) | (go_at_call 50; refine (isValue_any _ _).mono ?_; rintro e w' ⟨rfl, rfl⟩; rw [hi]) | (go_at_call 27; refine (D.out _ (pow_bel hT.out b1)).mono ?_; rintro e w2 ⟨rfl, b2⟩))
        go_ret2
        exact ⟨ValE.some hR.out, bel_next b1 b2⟩
      · have hR := Lib.hid (not_val h (fun q => heq q.2))
        have D := Lib.hid (fun w q => implDec_any v w hv.1 hv.2 q)
        have ht := str_ne (t := ⟨(Lib.itoa v).toArray⟩) (s := s) heq
        generalize (⟨(Lib.itoa v).toArray⟩ : ByteArray) = t at *
        clear heq hin h
        go_enter Tryd.func37, Tryd.ntmps37
        go_wp2_with (first | (go_at_call 56; refine C.out.mono ?_; rintro e w1 ⟨rfl, b1⟩) | (go_at_call 50; refine (isValue_any _ _).mono ?_; rintro e w' ⟨rfl, rfl⟩; rw [hi]) | (go_at_call 27; refine (D.out _ (pow_bel hT.out b1)).mono ?_; rintro e w2 ⟨rfl, b2⟩))
        go_ret2
        exact ⟨ValE.none hR.out, bel_next b1 b2⟩
    · have hi := inR_no (x := v) (lo := -1000000000000000) (hi := 1000000000000000) (by unfold inV at hin; omega)
      have hR := Lib.hid (not_val h (fun q => hin q.1))
      clear hin h
      go_enter Tryd.func37, Tryd.ntmps37
      go_wp2_with (first | (go_at_call 56; refine C.out.mono ?_; rintro e w1 ⟨rfl, b1⟩) | (go_at_call 50; refine (isValue_any _ _).mono ?_; rintro e w' ⟨rfl, rfl⟩; rw [hi]))
      go_ret2
      exact ⟨ValE.none hR.out, b1⟩
  · have hR := Lib.hid (no_val (l := s.data.toList) fun v q => by rw [h] at q; cases q)
    obtain ⟨tp, p, hv⟩ := hE.out.es
    have C := Lib.hid (Any.strconv_ParseInt_10_at64_syntax_var Tryd.laysC174 s (by omega) h tp p w hv)
    clear h hv
    go_enter Tryd.func37, Tryd.ntmps37
    go_wp2_with (go_at_call 56; refine C.out.mono ?_; rintro e w1 ⟨N, rfl, _, _, b1⟩)
    go_ret2
    exact ⟨ValE.none hR.out, b1⟩
  · have hR := Lib.hid (no_val (l := s.data.toList) fun v q => by rw [h] at q; cases q)
    obtain ⟨tp, p, hv⟩ := hE.out.er
    have C := Lib.hid (Any.strconv_ParseInt_10_at64_range_var Tryd.laysC174 s (by omega) h tp p w hv)
    clear h hv
    go_enter Tryd.func37, Tryd.ntmps37
    go_wp2_with (go_at_call 56; refine C.out.mono ?_; rintro e w1 ⟨N, rfl, _, _, b1⟩)
    go_ret2
    exact ⟨ValE.none hR.out, b1⟩
end Go.Proofs.YtoemjeomfnndaaaDoor
