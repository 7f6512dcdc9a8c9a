/- CombineSeeds: what both sides compute, and the reference's side. -/
import Derived.Test.YtlaelfaalgmicaaNext2C
import Derived.Test.YtlaelfaalgmicaaGrowC
import Derived.Test.YtlaelfaalgmicaaInC
namespace Go.Proofs.Ytlaelfaalgmicaa
open Go.RowKit
set_option linter.unusedVariables false
/-- A seed's parts behind i steps. -/
def sA (k : Int) (s : Int × Int) : Nat → Int × Int
  | 0 => s
  | i + 1 => (nxA k (sA k s i).1 (sA k s i).2, nxB k (sA k s i).1 (sA k s i).2)
def sW (k : Int) (s : Int × Int) (i : Nat) : Int := wd k (sA k s i).1 (sA k s i).2
theorem sW_range (k : Int) (s : Int × Int) (i : Nat) : 0 ≤ sW k s i ∧ sW k s i < 4294967296 := wd_range _ _ _
def cmbZ (k : Int) (s : Int × Int) (k' : Int) (s' : Int × Int) (i : Nat) : Int := (sW k s i + sW k' s' i) % 4294967296
theorem cmbZ_range (k : Int) (s : Int × Int) (k' : Int) (s' : Int × Int) (i : Nat) : 0 ≤ cmbZ k s k' s' i ∧ cmbZ k s k' s' i < 4294967296 := by
  unfold cmbZ; omega
/-- Two seeds in blocks B and B + 1, that may be written. -/
structure TwoM (B : Nat) (k : Int) (s : Int × Int) (k' : Int) (s' : Int × Int) (wr : World) : Prop where
  s0 : SeedAt wr B k s.1 s.2
  f0 : Free3 wr B
  s1 : SeedAt wr (B + 1) k' s'.1 s'.2
  f1 : Free3 wr (B + 1)
theorem TwoM.kept {B : Nat} {k k' : Int} {s s' : Int × Int} {wr w1 : World} (h : TwoM B k s k' s' wr) (K : Below (B + 2) wr w1) : TwoM B k s k' s' w1 := by
  have c : ∀ P o, P < B + 2 → w1.cell? ⟨P, o, none⟩ = wr.cell? ⟨P, o, none⟩ := fun P o hP => World.cell?_of_block (w := wr) (K.block P hP)
  have z : ∀ P o, P < B + 2 → w1.frozen? ⟨P, o, none⟩ = wr.frozen? ⟨P, o, none⟩ := fun P o hP => World.frozen?_of_block (w := wr) (K.block P hP)
  refine ⟨⟨?_, ?_, ?_⟩, ⟨?_, ?_, ?_⟩, ⟨?_, ?_, ?_⟩, ⟨?_, ?_, ?_⟩⟩
  · rw [c _ _ (by omega)]; exact h.s0.1
  · rw [c _ _ (by omega)]; exact h.s0.2.1
  · rw [c _ _ (by omega)]; exact h.s0.2.2
  · rw [z _ _ (by omega)]; exact h.f0.1
  · rw [z _ _ (by omega)]; exact h.f0.2.1
  · rw [z _ _ (by omega)]; exact h.f0.2.2
  · rw [c _ _ (by omega)]; exact h.s1.1
  · rw [c _ _ (by omega)]; exact h.s1.2.1
  · rw [c _ _ (by omega)]; exact h.s1.2.2
  · rw [z _ _ (by omega)]; exact h.f1.1
  · rw [z _ _ (by omega)]; exact h.f1.2.1
  · rw [z _ _ (by omega)]; exact h.f1.2.2
theorem TwoM.mov0 {B : Nat} {k k' a b : Int} {s s' : Int × Int} {wr w1 : World} (h : TwoM B k s k' s' wr) (m : Moved B k a b wr w1) : TwoM B k (a, b) k' s' w1 := by
  have c : ∀ o, w1.cell? ⟨B + 1, o, none⟩ = wr.cell? ⟨B + 1, o, none⟩ := fun o => World.cell?_of_block (w := wr) (m.oth (B + 1) (by omega))
  have z : ∀ o, w1.frozen? ⟨B + 1, o, none⟩ = wr.frozen? ⟨B + 1, o, none⟩ := fun o => World.frozen?_of_block (w := wr) (m.oth (B + 1) (by omega))
  exact ⟨m.at, m.fr, ⟨(c _).trans h.s1.1, (c _).trans h.s1.2.1, (c _).trans h.s1.2.2⟩, ⟨(z _).trans h.f1.1, (z _).trans h.f1.2.1, (z _).trans h.f1.2.2⟩⟩
theorem TwoM.mov1 {B : Nat} {k k' a b : Int} {s s' : Int × Int} {wr w1 : World} (h : TwoM B k s k' s' wr) (m : Moved (B + 1) k' a b wr w1) : TwoM B k s k' (a, b) w1 := by
  have c : ∀ o, w1.cell? ⟨B, o, none⟩ = wr.cell? ⟨B, o, none⟩ := fun o => World.cell?_of_block (w := wr) (m.oth B (by omega))
  have z : ∀ o, w1.frozen? ⟨B, o, none⟩ = wr.frozen? ⟨B, o, none⟩ := fun o => World.frozen?_of_block (w := wr) (m.oth B (by omega))
  exact ⟨⟨(c _).trans h.s0.1, (c _).trans h.s0.2.1, (c _).trans h.s0.2.2⟩, ⟨(z _).trans h.f0.1, (z _).trans h.f0.2.1, (z _).trans h.f0.2.2⟩, m.at, m.fr⟩
theorem TwoM.start (k a b k' a' b' : Int) (w : World) (t t' : TypeId) : TwoM w.heap.size k (a, b) k' (a', b') ((w.alloc (.cells #[.int .i64 k, .int .u64 a, .int .u64 b] t)).alloc (.cells #[.int .i64 k', .int .u64 a', .int .u64 b'] t')) := by
  have q := free3_new (w.alloc (.cells #[.int .i64 k, .int .u64 a, .int .u64 b] t)) (.int .i64 k') (.int .u64 a') (.int .u64 b') t'
  refine ⟨⟨by simp, by simp, by simp⟩, free3_alloc (free3_new _ _ _ _ _) (by simp) _, ⟨by simp, by simp, by simp⟩, by simpa only [World.size_alloc] using q⟩
theorem Grow.moved {Bs P : Nat} {k a b : Int} {w wr w1 : World} {e : TypeId} {v : Value} {n : Nat} {f : Nat → Value} (h : Grow Bs w e v n f wr) (m : Moved P k a b wr w1) (h1 : w.heap.size ≤ P) (h2 : P < Bs) : Grow Bs w e v n f w1 := by
  refine ⟨h.bel.trans (m.bel h1), ?_, h.low, by rw [m.size]; exact h.hi⟩
  refine ⟨h.own.1, ?_⟩
  rcases h.own.2 with hn | ⟨g, cap, cur, rfl, hbg, hgg, rest⟩
  · exact .inl hn
  · exact .inr ⟨g, cap, cur, rfl, hbg, by rw [m.oth g (by omega)]; exact hgg, rest⟩
theorem u32_add (k : Int) (s : Int × Int) (k' : Int) (s' : Int × Int) (i : Nat) : IntKind.u32.wrap (sW k s i + sW k' s' i) = cmbZ k s k' s' i := by
  rw [IntKind.wrap_u32']; rfl
set_option maxRecDepth 100000 in
set_option maxHeartbeats 2000000 in
theorem specComb_yes (k a b k' a' b' : Int) (N : Nat) (w : World) (hb : 0 ≤ b) (hb' : 0 ≤ b') (v1 : valB k a b = true) (v2 : valB k' a' b' = true) (hN : N ≤ 256) :
    Calls Try.prog 33 #[.agg #[.int .i64 k, .int .u64 a, .int .u64 b], .agg #[.int .i64 k', .int .u64 a', .int .u64 b'], .int .i64 N] w (OutS N true (kI (cmbZ k (a, b) k' (a', b'))) w) := by
  have hR : inR N 0 256 = true := inR_yes (by omega) (by omega)
  obtain ⟨i0, hi, hz0, hz1, hz2⟩ := info_parts infoInt
  have HI := Lib.hid hi
  have HZ := Lib.hid (And.intro hz0 (And.intro hz1 hz2))
  clear hi hz0 hz1 hz2
  go_enter Try.func33, Try.ntmps33
  go_upto_region 1 with fail
  have hT := TwoM.start k a b k' a' b' w 29 29
  have hB := ((Below.refl w.heap.size w).alloc (Nat.le_refl _) (.cells #[.int .i64 k, .int .u64 a, .int .u64 b] 29)).alloc (by simp) (.cells #[.int .i64 k', .int .u64 a', .int .u64 b'] 29)
  have hz : ((w.alloc (.cells #[.int .i64 k, .int .u64 a, .int .u64 b] 29)).alloc (.cells #[.int .i64 k', .int .u64 a', .int .u64 b'] 29)).heap.size = w.heap.size + 2 := by simp
  generalize ((w.alloc (.cells #[.int .i64 k, .int .u64 a, .int .u64 b] 29)).alloc (.cells #[.int .i64 k', .int .u64 a', .int .u64 b'] 29)) = W at *
  have C0 := Lib.hid fun w0 h => l02Is_any w.heap.size k a b w0 hb h
  have C1 := Lib.hid fun w0 h => l02Is_any (w.heap.size + 1) k' a' b' w0 hb' h
  rw [v1] at C0
  rw [v2] at C1
  clear hb hb' v1 v2
  have HT := Lib.hid hT
  clear hT
  have HR0 := trivial
  go_upto_region 4 with (first
    | (go_at_call 61; first | (clear HR0; refine (C0.out _ HT.out.s0).mono ?_; rintro e w' ⟨rfl, rfl⟩) | (refine (C1.out _ HT.out.s1).mono ?_; rintro e w' ⟨rfl, rfl⟩))
    | (go_at_call 59; refine (l00InR_any _ _ _ _).mono ?_; rintro e w' ⟨rfl, rfl⟩)
    | go_in)
  have hG0 := Grow.start (B := w.heap.size + 2) (e := 2) (kI (cmbZ k (a, b) k' (a', b'))) hB (by omega) (Nat.le_of_eq hz.symm)
  have hT0 := HT.out.kept ((Below.refl (w.heap.size + 2) W).alloc (Nat.le_of_eq hz.symm) (.cells #[] 2))
  rw [hz] at hG0
  generalize (W.alloc (.cells #[] 2)) = W1 at *
  clear hB hz HT C0 C1
  go_wp2
  go_loopw [8, 9] (fun v i wr => ∃ j : Nat, j ≤ N ∧ i = .int .i64 j ∧ Grow (w.heap.size + 2) w 2 v j (kI (cmbZ k (a, b) k' (a', b'))) wr ∧ TwoM w.heap.size k (sA k (a, b) j) k' (sA k' (a', b') j) wr) (fun _ i _ => N - (intOf i).toNat)
  case atStart => exact ⟨0, Nat.zero_le _, rfl, hG0, hT0⟩
  case round =>
    obtain ⟨j, hj, rfl, hG, hT⟩ := hrel
    clear hG0 hT0
    by_cases hlt : j < N
    · have HG := Lib.hid hG
      have HT := Lib.hid hT
      have e1 := u32_add k (a, b) k' (a', b') j
      obtain ⟨r0, r1⟩ := cmbZ_range k (a, b) k' (a', b') j
      unfold sW at e1
      clear hG hT
      have HR1 := trivial
      go_wp2_with (first
        | (at_builtin; refine wpList_append_own _ rfl _ _ 44 rfl (w.heap.size + 2) 2 i0 (.int .i64 0) 1 8 Try.underlying44 HI.out HZ.out.1 HZ.out.2.1 HZ.out.2.2 rfl (by decide) _ _ _ rfl (HG2.out.own.alloc _) ⟨w4.heap.size, 0, none⟩ 1 1 [.int .i64 (cmbZ k (a, b) k' (a', b') j)] rfl rfl ?c1 ?c2 ?c3 ?c4 ?c5 ?_)
        | go_at_call 64; first
        | (clear HR1; refine (l02Next_wd w.heap.size k _ _ _ HT.out.s0 HT.out.f0).mono ?_; rintro e w3 ⟨rfl, h3⟩; have HT1 := Lib.hid (HT.out.mov0 h3); have HG1 := Lib.hid (HG.out.moved h3 (Nat.le_refl _) (by omega)); clear HT HG h3)
        | (refine (l02Next_wd (w.heap.size + 1) k' _ _ _ HT1.out.s1 HT1.out.f1).mono ?_; rintro e w4 ⟨rfl, h4⟩; have HT2 := Lib.hid (HT1.out.mov1 h4); have HG2 := Lib.hid (HG1.out.moved h4 (Nat.le_succ _) (by omega)); clear HT1 HG1 h4))
      case c1 => exact cell_one_new _ _ _
      case c2 => intro u hu; simp at hu; subst hu; rfl
      case c3 => unfold maxLen; omega
      case c4 => omega
      case c5 => have := HG2.out.hi; simp; omega
      intro v' w5 hown' hgrow _
      have R := Lib.hid (HG2.out.step hown' hgrow)
      have T := Lib.hid (HT2.out.kept (grown_keeps HG2.out hgrow))
      clear hown' hgrow HG2 HT2
      go_wp2
      exact ⟨⟨j + 1, by omega, by go_num, R.out, T.out⟩, by simp [intOf]; omega⟩
    · obtain rfl : j = N := by omega
      have HG := Lib.hid hG
      clear hG hT
      go_wp2
      go_ret2
      exact HG.out.out rfl
end Go.Proofs.Ytlaelfaalgmicaa
