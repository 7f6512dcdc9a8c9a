/- Slices by the range of blocks in which they lie; the law's small functions in these words. -/
import Derived.Test.YtoemjeomfnndaaaDoorBlC
namespace Go.Proofs.YtoemjeomfnndaaaDoor
open Go.RowKit
set_option linter.unusedVariables false
/-- A slice value with the n elements f, in a block from lo on and below hi. -/
def SIn (w : World) (lo hi : Nat) (a : Option Addr) (n cap : Nat) (f : Nat → Value) : Prop :=
  n = 0 ∨ ∃ b off, a = some ⟨b, off, none⟩ ∧ lo ≤ b ∧ b < hi ∧ n ≤ cap ∧ cap ≤ maxLen ∧ b < w.heap.size ∧ ∀ i, i < n → w.cell? ⟨b, off + i, none⟩ = some (f i)
/-- None of its cells is frozen. -/
def SFree (w : World) (a : Option Addr) (n : Nat) : Prop := ∀ b off, a = some ⟨b, off, none⟩ → ∀ i, i < n → w.frozen? ⟨b, off + i, none⟩ = false
/-- Of what was there only blocks from lo on and below hi may have been written. -/
structure Chg (lo hi : Nat) (w w' : World) : Prop where
  os : w'.os = w.os
  tape : w'.tape = w.tape
  output : w'.output = w.output
  size : w.heap.size ≤ w'.heap.size
  oth : ∀ j, j < w.heap.size → (j < lo ∨ hi ≤ j) → w'.heap[j]? = w.heap[j]?
  fr : ∀ b o, b < w.heap.size → w'.frozen? ⟨b, o, none⟩ = w.frozen? ⟨b, o, none⟩
theorem Chg.of_bel {lo hi : Nat} {w w' : World} (h : Below w.heap.size w w') : Chg lo hi w w' :=
  ⟨h.1, h.2, h.3, h.4, fun j hj _ => h.5 j hj, fun b o hb => h.frozen (p := ⟨b, o, none⟩) hb⟩
theorem Chg.of_wrote {lo hi b : Nat} {w w' : World} (h : Wrote b w w') (h1 : lo ≤ b) (h2 : b < hi) : Chg lo hi w w' :=
  ⟨h.os, h.tape, h.output, Nat.le_of_eq h.size.symm, fun j _ hj => h.oth j (by omega), fun b' o hb => by
    by_cases e : b' = b
    · subst e; exact h.fr o
    · exact World.frozen?_of_block (h.oth b' e)⟩
theorem Chg.bel {lo hi : Nat} {w0 w w' : World} (h : Chg lo hi w w') (hB : Below w0.heap.size w0 w) (hs : w0.heap.size ≤ lo) : Below w0.heap.size w0 w' :=
  ⟨h.os.trans hB.1, h.tape.trans hB.2, h.output.trans hB.3, Nat.le_trans hB.4 h.size, fun j hj => (h.oth j (Nat.lt_of_lt_of_le hj hB.4) (.inl (by omega))).trans (hB.5 j hj)⟩
theorem bel_next {w0 w w' : World} (hB : Below w0.heap.size w0 w) (h : Below w.heap.size w w') : Below w0.heap.size w0 w' := hB.trans (h.mono hB.size)
theorem bel_drewsI {B : Nat} {w w' : World} (h : Below B w w') (n : Nat) : Below B w (w'.drewN n) := by
  induction n with
  | zero => exact h
  | succ n ih => exact ih.drew
theorem SIn.chg {w w' : World} {lo hi lo' hi' n cap : Nat} {a : Option Addr} {f : Nat → Value} (h : SIn w lo hi a n cap f) (hc : Chg lo' hi' w w') (hd : hi ≤ lo' ∨ hi' ≤ lo) : SIn w' lo hi a n cap f := by
  rcases h with h | ⟨b, off, rfl, h1, h2, h3, h4, h5, h6⟩
  · exact .inl h
  · exact .inr ⟨b, off, rfl, h1, h2, h3, h4, Nat.lt_of_lt_of_le h5 hc.size, fun i hi => (World.cell?_of_block (hc.oth b h5 (by omega))).trans (h6 i hi)⟩
theorem SIn.bel {w w' : World} {lo hi n cap : Nat} {a : Option Addr} {f : Nat → Value} (h : SIn w lo hi a n cap f) (hb : Below w.heap.size w w') : SIn w' lo hi a n cap f := by
  rcases h with h | ⟨b, off, rfl, h1, h2, h3, h4, h5, h6⟩
  · exact .inl h
  · exact .inr ⟨b, off, rfl, h1, h2, h3, h4, Nat.lt_of_lt_of_le h5 hb.size, fun i hi => (hb.cell (p := ⟨b, off + i, none⟩) h5).trans (h6 i hi)⟩
theorem SIn.congr {w : World} {lo hi n cap : Nat} {a : Option Addr} {f g : Nat → Value} (h : SIn w lo hi a n cap f) (e : ∀ i, i < n → f i = g i) : SIn w lo hi a n cap g := by
  rcases h with h | ⟨b, off, rfl, h1, h2, h3, h4, h5, h6⟩
  · exact .inl h
  · exact .inr ⟨b, off, rfl, h1, h2, h3, h4, h5, fun i hi => by rw [h6 i hi, e i hi]⟩
/-- A slice with its cells free to be written, in a block from lo on and below hi. -/
structure SOwn (w : World) (lo hi : Nat) (a : Option Addr) (n cap : Nat) (f : Nat → Value) : Prop where
  sin : SIn w lo hi a n cap f
  free : n = 0 ∨ SFree w a n
theorem SOwn.chg {w w' : World} {lo hi lo' hi' n cap : Nat} {a : Option Addr} {f : Nat → Value} (h : SOwn w lo hi a n cap f) (hc : Chg lo' hi' w w') (hd : hi ≤ lo' ∨ hi' ≤ lo) : SOwn w' lo hi a n cap f := by
  refine ⟨h.sin.chg hc hd, ?_⟩
  rcases h.sin with h0 | ⟨b, off, rfl, h1, h2, h3, h4, h5, h6⟩
  · exact .inl h0
  · rcases h.free with h0 | hf
    · exact .inl h0
    · exact .inr fun b' off' e i hi => by
        obtain ⟨rfl, rfl⟩ : b = b' ∧ off = off' := by simpa using e
        rw [hc.fr b _ h5]; exact hf b off rfl i hi
theorem SOwn.bel {w w' : World} {lo hi n cap : Nat} {a : Option Addr} {f : Nat → Value} (h : SOwn w lo hi a n cap f) (hb : Below w.heap.size w w') : SOwn w' lo hi a n cap f := by
  refine ⟨h.sin.bel hb, ?_⟩
  rcases h.sin with h0 | ⟨b, off, rfl, h1, h2, h3, h4, h5, h6⟩
  · exact .inl h0
  · rcases h.free with h0 | hf
    · exact .inl h0
    · exact .inr fun b' off' e i hi => by
        obtain ⟨rfl, rfl⟩ : b = b' ∧ off = off' := by simpa using e
        rw [hb.frozen (p := ⟨b, off + i, none⟩) h5]; exact hf b off rfl i hi
/-- A new slice: in blocks that were not there before. -/
structure NewS (w : World) (a : Option Addr) (n cap : Nat) (f : Nat → Value) (w' : World) : Prop where
  bel : Below w.heap.size w w'
  own : SOwn w' w.heap.size w'.heap.size a n cap f
/-- The result of a function that returns a new slice, and whether it may. -/
def OutS (n : Nat) (ok : Bool) (f : Nat → Value) (w : World) (e : Ending) (w' : World) : Prop := ∃ a cap, e = .returned (.tuple #[.slice a n cap, .bool ok]) ∧ NewS w a n cap f w'
theorem OutS.fail {w w' : World} {f : Nat → Value} {e : Ending} (h : Below w.heap.size w w') (he : e = .returned (.tuple #[.slice none 0 0, .bool false])) : OutS 0 false f w e w' :=
  ⟨none, 0, he, h, .inl rfl, .inl rfl⟩
abbrev kI (z : Nat → Int) : Nat → Value := fun i => .int .i64 (z i)
abbrev kB (z : Nat → Bool) : Nat → Value := fun i => .bool (z i)
theorem SIn.ints {w : World} {lo hi n cap : Nat} {a : Option Addr} {z : Nat → Int} (h : SIn w lo hi a n cap (kI z)) : IEls w a n cap z := by
  rcases h with h | ⟨b, off, rfl, h1, h2, h3, h4, h5, h6⟩
  · exact .inl h
  · exact .inr ⟨b, off, rfl, h3, h4, h5, h6⟩
theorem SIn.bools {w : World} {lo hi n cap : Nat} {a : Option Addr} {z : Nat → Bool} (h : SIn w lo hi a n cap (kB z)) : BEls w a n cap z := by
  rcases h with h | ⟨b, off, rfl, h1, h2, h3, h4, h5, h6⟩
  · exact .inl h
  · exact .inr ⟨b, off, rfl, h3, h4, h5, h6⟩
theorem lt_size {w : World} {b off : Nat} {v : Value} (h : w.cell? ⟨b, off, none⟩ = some v) : b < w.heap.size := by
  rcases Nat.lt_or_ge b w.heap.size with h' | h'
  · exact h'
  · unfold World.cell? at h
    rw [Array.getElem?_eq_none h'] at h
    cases h
theorem isRow_ints {w : World} {a : Option Addr} {n cap : Nat} {zs : List Int} (h : IsRow .i64 w a n cap zs) : SIn w 0 w.heap.size a n cap (kI fun i => zs.getD i 0) ∧ ∀ i, i < n → -9223372036854775808 ≤ zs.getD i 0 ∧ zs.getD i 0 ≤ 9223372036854775807 := by
  rcases h with ⟨_, rfl, _⟩ | ⟨x, rfl, hl, hm, hz, hc, hw⟩
  · exact ⟨.inl rfl, fun i hi => absurd hi (Nat.not_lt_zero _)⟩
  · refine ⟨?_, fun i hi => ?_⟩
    · by_cases h0 : n = 0
      · exact .inl h0
      · obtain ⟨b, off, spot⟩ := x
        have h1 := hc 0 (by omega)
        have hspot : spot = none := by simpa [Addr.add] using World.cell?_spot h1
        subst hspot
        have hcell : ∀ i, i < cap → w.cell? ⟨b, off + i, none⟩ = some (.int .i64 (zs.getD i 0)) := by
          intro i hi
          have := hc i (by omega)
          unfold Addr.add at this
          by_cases hi0 : i = 0
          · subst hi0; simpa using this
          · simpa [hi0] using this
        have hb := lt_size (hcell 0 (by omega))
        exact .inr ⟨b, off, rfl, Nat.zero_le _, hb, hl, hm, hb, fun i hi => hcell i (by omega)⟩
    · have hi2 : i < zs.length := by omega
      have hg : zs.getD i 0 = zs[i] := by simp [hi2]
      have := hw (zs.getD i 0) (by rw [hg]; exact List.getElem_mem hi2)
      generalize zs.getD i 0 = y at *
      have hb : (IntKind.i64.bits : Nat) = 64 := rfl
      simp [Lit.wf, IntKind.min, IntKind.max, IntKind.signed, hb] at this
      omega
theorem isRow_bools {w : World} {a : Option Addr} {n cap : Nat} {z : Nat → Bool} (h : IsRowB w a n cap z) : SIn w 0 w.heap.size a n cap (kB z) := by
  rcases h with ⟨_, rfl, _⟩ | ⟨x, rfl, hl, hm, hc⟩
  · exact .inl rfl
  · by_cases h0 : n = 0
    · exact .inl h0
    · obtain ⟨b, off, spot⟩ := x
      have h1 := hc 0 (by omega)
      have hspot : spot = none := by simpa [Addr.add] using World.cell?_spot h1
      subst hspot
      have hcell : ∀ i, i < cap → w.cell? ⟨b, off + i, none⟩ = some (.bool (z i)) := by
        intro i hi
        have := hc i hi
        unfold Addr.add at this
        by_cases hi0 : i = 0
        · subst hi0; simpa using this
        · simpa [hi0] using this
      have hb := lt_size (hcell 0 (by omega))
      exact .inr ⟨b, off, rfl, Nat.zero_le _, hb, hl, hm, hb, fun i hi => hcell i (by omega)⟩
/-- A new row of n cells at the heap's old end, of which each but those from k on holds f. -/
structure Fill (w : World) (n k : Nat) (f : Nat → Value) (ok : Value → Prop) (wr : World) : Prop where
  bel : Below w.heap.size w wr
  size : wr.heap.size = w.heap.size + 1
  free : ∀ j, wr.frozen? ⟨w.heap.size, j, none⟩ = false
  cell : ∀ j, j < n → ∃ v, wr.cell? ⟨w.heap.size, j, none⟩ = some v ∧ ok v ∧ (j < k → v = f j)
theorem Fill.step {w : World} {n k : Nat} {f : Nat → Value} {ok : Value → Prop} {wr : World} (h : Fill w n k f ok wr) (hk : ok (f k)) : Fill w n (k + 1) f ok (wr.setCell ⟨w.heap.size, k, none⟩ (f k)) := by
  refine ⟨h.bel.setCell (Nat.le_refl _) _, by simp [h.size], fun j => by rw [World.frozen?_setCell]; exact h.free j, fun j hj => ?_⟩
  obtain ⟨v, h1, h2, h3⟩ := h.cell j hj
  rw [store1 h1]
  by_cases e : j = k
  · subst e; exact ⟨_, by rw [if_pos rfl], hk, fun _ => rfl⟩
  · exact ⟨v, by rw [if_neg e], h2, fun hj => h3 (by omega)⟩
theorem Fill.new {w : World} {n : Nat} {f : Nat → Value} {ok : Value → Prop} {wr : World} (h : Fill w n n f ok wr) (hn : n ≤ maxLen) : NewS w (some ⟨w.heap.size, 0, none⟩) n n f wr := by
  refine ⟨h.bel, .inr ⟨_, 0, rfl, Nat.le_refl _, by rw [h.size]; omega, Nat.le_refl _, hn, by rw [h.size]; omega, fun i hi => ?_⟩, .inr fun b off e i _ => ?_⟩
  · obtain ⟨v, h1, _, h3⟩ := h.cell i hi
    rw [Nat.zero_add, h1, h3 hi]
  · obtain ⟨rfl, rfl⟩ : w.heap.size = b ∧ 0 = off := by simpa using e
    exact h.free _
theorem Fill.start (w : World) (n : Nat) (f : Nat → Value) (ok : Value → Prop) (z : Value) (hz : ok z) (e : TypeId) : Fill w n 0 f ok (w.alloc (.cells (madeCells #[z] n) e)) := by
  refine ⟨(Below.refl _ _).alloc (Nat.le_refl _) _, by simp, fun j => by simp, fun j hj => ⟨z, ?_, hz, fun h => absurd h (Nat.not_lt_zero _)⟩⟩
  have h : (madeCells #[z] n)[j]? = some z := by
    rw [← Array.getElem?_toList, toList_madeCells_one, List.getElem?_replicate, if_pos hj]
  simp [h]
set_option maxHeartbeats 400000 in
theorem toInts_new (a : Option Addr) (n cap : Nat) (z : Nat → Int) (w : World) (h : IEls w a n cap z) (hn : n ≤ 1048576) :
    Calls Tryd.prog 31 #[.slice a n cap] w fun e w' => e = .returned (.slice (some ⟨w.heap.size, 0, none⟩) n n) ∧ NewS w (some ⟨w.heap.size, 0, none⟩) n n (kI z) w' := by
  have hmk := fun w => run_make_row' (P := Tryd.prog) 22 2 (.int .i64 0) 8 Tryd.underlying22 (by kernel_rfl) rfl .i64 .i64 n (by omega) (by omega) w
  go_enter Tryd.func31, Tryd.ntmps31
  go_wp2
  have hF := Fill.start w n (kI z) (fun v => ∃ x, v = .int .i64 x) (.int .i64 0) ⟨0, rfl⟩ 2
  generalize w.alloc (.cells (madeCells #[.int .i64 0] n) 2) = W at *
  clear hmk
  go_loopw [4] (fun i wr => ∃ k : Nat, k ≤ n ∧ i = .int .i64 k ∧ Hid (Fill w n k (kI z) (fun v => ∃ x, v = .int .i64 x) wr)) (fun i _ => n - (intOf i).toNat)
  case atStart => exact ⟨0, Nat.zero_le _, rfl, Lib.hid hF⟩
  case round =>
    obtain ⟨k, hk, rfl, HR⟩ := hrel
    clear hF
    by_cases hlt : k < n
    · rcases h with h0 | ⟨b, off, rfl, h1, h2, h3, h4⟩
      · omega
      obtain ⟨_, hd, ⟨x, rfl⟩, _⟩ := HR.out.cell k hlt
      have hf := HR.out.free k
      have hc : wr.cell? ⟨b, off + k, none⟩ = some (.int .i64 (z k)) := by rw [HR.out.1.cell h3]; exact h4 k hlt
      clear h4
      unfold maxLen at h2
      go_wp2
      exact ⟨⟨k + 1, by omega, by go_num, Lib.hid (HR.out.step ⟨_, rfl⟩)⟩, by simp [intOf]; omega⟩
    · clear h
      obtain rfl : k = n := by omega
      go_wp2
      go_ret
      exact ⟨rfl, HR.out.new (by unfold maxLen; omega)⟩
theorem BFilled.new {w : World} {n : Nat} {z : Nat → Bool} {wr : World} (h : BFilled w n n z wr) (hn : n ≤ maxLen) : NewS w (some ⟨w.heap.size, 0, none⟩) n n (kB z) wr := by
  obtain ⟨h1, h2, h3, Z, h4, h5⟩ := h
  refine ⟨h1, .inr ⟨_, 0, rfl, Nat.le_refl _, by rw [h2]; omega, Nat.le_refl _, hn, by rw [h2]; omega, fun i hi => ?_⟩, .inr fun b off e i _ => ?_⟩
  · rw [Nat.zero_add, h4 i hi, h5 i hi]
  · obtain ⟨rfl, rfl⟩ : w.heap.size = b ∧ 0 = off := by simpa using e
    exact h3 _
theorem markInts_none (a : Option Addr) (cap : Nat) (k : Int) (w : World) (k0 : 0 ≤ k) (k1 : k ≤ 4294967296) :
    Calls Tryd.prog 14 #[.slice a 0 cap, .int .i64 k] w fun e w' => e = .returned (.int .i64 k) ∧ w = w' := by
  go_enter Tryd.func14, Tryd.ntmps14
  go_wp2
  refine wp_loop_rounds 1 ?_
  rw [rounds_succ]
  go_wp2
  go_ret
  exact ⟨rfl, rfl⟩
theorem markInts_own (a : Option Addr) (lo hi n cap : Nat) (z : Nat → Int) (k : Int) (w : World) (h : SOwn w lo hi a n cap (kI z)) (hn : n ≤ 1048576) (k0 : 0 ≤ k) (k1 : k ≤ 4294967296) :
    Calls Tryd.prog 14 #[.slice a n cap, .int .i64 k] w fun e w' => e = .returned (.int .i64 (k + n)) ∧ Chg lo hi w w' ∧ SIn w' lo hi a n cap (kI fun i => k + i) := by
  by_cases h0 : n = 0
  · subst h0
    exact (markInts_none a cap k w k0 k1).mono fun e w' q => ⟨by rw [q.1]; simp, q.2 ▸ Chg.of_bel (Below.refl _ _), .inl rfl⟩
  · rcases h.sin with h9 | ⟨b, off, rfl, h1, h2, h3, h4, h5, h6⟩
    · exact absurd h9 h0
    have hf := h.free.resolve_left h0
    refine (markInts_any b off n cap z k w hn h3 h4 h5 h6 (fun i hi => hf b off rfl i hi) k0 k1).mono fun e w' q => ⟨q.1, Chg.of_wrote q.2.1 h1 h2, ?_⟩
    rcases q.2.2 with h9 | ⟨b', off', e', g1, g2, g3, g4⟩
    · exact absurd h9 h0
    · obtain ⟨rfl, rfl⟩ : b = b' ∧ off = off' := by simpa using e'
      exact .inr ⟨b, off, rfl, h1, h2, h3, h4, g3, g4⟩
theorem drewN_bel (w : World) (m : Nat) : Below w.heap.size w (w.drewN m) := bel_drewsI (Below.refl _ _) m
theorem eqInts_bel (a a' : Option Addr) (n cap cap' : Nat) (z : Nat → Int) (w : World) (h : IEls w a n cap z) (h' : IEls w a' n cap' z) (hn : n ≤ 1048576) :
    Calls Tryd.prog 13 #[.slice a n cap, .slice a' n cap'] w fun e w' => e = .returned (.bool true) ∧ Below w.heap.size w w' :=
  (eqInts_any a a' n cap cap' z w h h' hn).mono fun e w' ⟨h1, m, h2⟩ => ⟨h1, h2 ▸ drewN_bel w m⟩
theorem heldInts_bel (a : Option Addr) (n cap : Nat) (k : Int) (w : World) (h : IEls w a n cap (fun i => k + i)) (hn : n ≤ 1048576) (h0 : 0 ≤ k) (h1 : k ≤ 4294967296) :
    Calls Tryd.prog 15 #[.slice a n cap, .int .i64 k] w fun e w' => e = .returned (.int .i64 (k + n)) ∧ Below w.heap.size w w' :=
  (heldInts_any a n cap k w h hn h0 h1).mono fun e w' ⟨h1, h2⟩ => ⟨h1, h2 ▸ Below.refl _ _⟩
end Go.Proofs.YtoemjeomfnndaaaDoor
