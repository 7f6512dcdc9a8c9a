/- CombineSeeds: the implementation's side. -/
import Derived.Test.YtlaelfaalgmicaaComb2C
namespace Go.Proofs.Ytlaelfaalgmicaa
open Go.RowKit
set_option linter.unusedVariables false
theorem Chg.set {w : World} (p : Addr) (v : Value) : Chg p.block (p.block + 1) w (w.setCell p v) :=
  ⟨rfl, rfl, rfl, by simp, fun j _ hj => Below.heap_setCell _ _ _ _ (by omega), fun b o _ => by simp⟩
theorem SOwn.set {w : World} {lo hi n cap : Nat} {a : Option Addr} {f : Nat → Value} (h : SOwn w lo hi a n cap f) {p : Addr} (hp : p.block < lo ∨ hi ≤ p.block) (v : Value) : SOwn (w.setCell p v) lo hi a n cap f :=
  h.chg (Chg.set p v) (by omega)
theorem SIn.set {w : World} {lo hi n cap : Nat} {a : Option Addr} {f : Nat → Value} (h : SIn w lo hi a n cap f) {p : Addr} (hp : p.block < lo ∨ hi ≤ p.block) (v : Value) : SIn (w.setCell p v) lo hi a n cap f :=
  h.chg (Chg.set p v) (by omega)
theorem SOwn.mono {w : World} {lo hi lo' hi' n cap : Nat} {a : Option Addr} {f : Nat → Value} (h : SOwn w lo hi a n cap f) (h1 : lo' ≤ lo) (h2 : hi ≤ hi') : SOwn w lo' hi' a n cap f := by
  refine ⟨?_, h.free⟩
  rcases h.sin with h0 | ⟨b, off, rfl, g1, g2, rest⟩
  · exact .inl h0
  · exact .inr ⟨b, off, rfl, by omega, by omega, rest⟩
theorem SOwn.put {w : World} {lo hi n cap b off j : Nat} {f g : Nat → Value} (h : SOwn w lo hi (some ⟨b, off, none⟩) n cap f) (hj : j < n) (hg : ∀ i, i ≠ j → g i = f i) : SOwn (w.setCell ⟨b, off + j, none⟩ (g j)) lo hi (some ⟨b, off, none⟩) n cap g := by
  rcases h.sin with h0 | ⟨b', off', e, g1, g2, g3, g4, g5, g6⟩
  · omega
  · obtain ⟨rfl, rfl⟩ : b = b' ∧ off = off' := by simpa using e
    refine ⟨.inr ⟨b, off, rfl, g1, g2, g3, g4, by simpa using g5, fun i hi => ?_⟩, ?_⟩
    · by_cases hij : i = j
      · subst hij; exact World.cell?_setCell_same _ _ _ (g6 i hi)
      · rw [World.cell?_setCell_other _ _ _ _ (by first | (simp; done) | (simp; omega)), g6 i hi, hg i hij]
    · rcases h.free with h0 | hf
      · exact .inl h0
      · exact .inr fun b' off' e i hi => by
          obtain ⟨rfl, rfl⟩ : b = b' ∧ off = off' := by simpa using e
          have := hf b off rfl i hi
          simpa using this
set_option maxHeartbeats 800000 in
theorem wordsOf_yes (k a b : Int) (N : Nat) (w : World) (hb : 0 ≤ b) (hv : valB k a b = true) (hN : N ≤ 256) :
    Calls Try.prog 70 #[.agg #[.int .i64 k, .int .u64 a, .int .u64 b], .int .i64 N] w (fun e w' => ∃ K A B aW cW, e = .returned (.tuple #[.agg #[.int .i64 K, .int .u64 A, .int .u64 B], .slice aW N cW, .bool true]) ∧ NewS w aW N cW (kI (sW k (a, b))) w') := by
  have hR0 : inR N 0 256 = true := inR_yes (by omega) (by omega)
  have CW := Lib.hid fun w => words_any k a b N w hN
  go_enter Try.func70, Try.ntmps70
  go_upto_region 1 with fail
  have hs := lies_start k a b w 29 29
  generalize ((w.alloc (Obj.cells #[.int .i64 k, .int .u64 a, .int .u64 b] 29)).alloc (Obj.cells #[.int .i64 0, .int .u64 0, .int .u64 0] 29)) = W at *
  generalize hB : w.heap.size = B at *
  generalize hR : B + 1 = R at *
  obtain ⟨p0, p1, p2, q0, q1, q2, hbl, hlo, hhi, how, hf0, hf1, hf2⟩ := id hs
  go_upto_region 4 with (first
    | (go_at_call 22; refine (implValid_any k a b _ hb).mono ?_; rintro e w1 ⟨rfl, h1⟩; replace hs := hs.step h1 (by omega); clear p0 p1 p2 q0 q1 q2 hbl hlo hhi how hf0 hf1 hf2 h1; obtain ⟨p0, p1, p2, q0, q1, q2, hbl, hlo, hhi, how, hf0, hf1, hf2⟩ := id hs)
    | (go_at_call 60; refine (withinR_any _ _ _ _).mono ?_; rintro e w2 ⟨rfl, rfl⟩)
    | (go_at_call 86; refine (CW.out _).mono ?_; rintro e w3 ⟨K, A, B', aW, cW, rfl, h3⟩; have O := Lib.hid (h3.own.bel ((Below.refl _ _).alloc (Nat.le_refl _) (.cells #[.int .i64 K, .int .u64 A, .int .u64 B'] 29))); have lo := hhi; replace hs := hs.step h3.bel (by omega); have sz := h3.bel.size; clear p0 p1 p2 q0 q1 q2 hbl hlo hhi how hf0 hf1 hf2 h3; replace hs := hs.alloc (.cells #[.int .i64 K, .int .u64 A, .int .u64 B'] 29); obtain ⟨p0, p1, p2, q0, q1, q2, hbl, hlo, hhi, how, hf0, hf1, hf2⟩ := id hs))
  have e5 : (w3.alloc (.cells #[.int .i64 K, .int .u64 A, .int .u64 B'] 29)).heap.size = w3.heap.size + 1 := by simp
  generalize hE : w3.heap.size = E at *
  have c0 : (w3.alloc (.cells #[.int .i64 K, .int .u64 A, .int .u64 B'] 29)).cell? ⟨E, 0, none⟩ = some (.int .i64 K) := by simp [← hE]
  have c1 : (w3.alloc (.cells #[.int .i64 K, .int .u64 A, .int .u64 B'] 29)).cell? ⟨E, 1, none⟩ = some (.int .u64 A) := by simp [← hE]
  have c2 : (w3.alloc (.cells #[.int .i64 K, .int .u64 A, .int .u64 B'] 29)).cell? ⟨E, 2, none⟩ = some (.int .u64 B') := by simp [← hE]
  generalize (w3.alloc (.cells #[.int .i64 K, .int .u64 A, .int .u64 B'] 29)) = V at *
  clear hE CW hb hv
  go_wp2_with fail
  refine bodyPost_ret (v := .tuple #[.agg #[.int .i64 K, .int .u64 A, .int .u64 B'], .slice aW N cW, .bool true]) (by simp [results, Try.results70, go_sem, *]) rfl ?_
  have hr : ∀ o, (⟨R, o, none⟩ : Addr).block < w1.heap.size ∨ E ≤ (⟨R, o, none⟩ : Addr).block := fun _ => .inl lo
  refine ⟨_, _, _, aW, cW, rfl, ⟨?_, ?_⟩⟩
  · rw [hB]; repeat (first | exact hbl | refine Below.setCell ?_ how _)
  · rw [hB]; exact SOwn.mono (((O.out.set (hr 0) (.int .i64 K)).set (hr 1) (.int .u64 A)).set (hr 2) (.int .u64 B')) (by omega) (by simp; omega)
set_option maxHeartbeats 800000 in
theorem wordsOf_no (k a b n : Int) (w : World) (hb : 0 ≤ b) (hn : valB k a b = true → inR n 0 256 = false) :
    Calls Try.prog 70 #[.agg #[.int .i64 k, .int .u64 a, .int .u64 b], .int .i64 n] w (fun e w' => e = .returned (.tuple #[.agg #[.int .i64 0, .int .u64 0, .int .u64 0], .slice none 0 0, .bool false]) ∧ Below w.heap.size w w') := by
  have hn := Lib.hid hn
  go_enter Try.func70, Try.ntmps70
  go_upto_region 1 with fail
  have hs := lies_start k a b w 29 29
  generalize ((w.alloc (Obj.cells #[.int .i64 k, .int .u64 a, .int .u64 b] 29)).alloc (Obj.cells #[.int .i64 0, .int .u64 0, .int .u64 0] 29)) = W at *
  generalize hB : w.heap.size = B at *
  generalize hR : B + 1 = R at *
  obtain ⟨p0, p1, p2, q0, q1, q2, hbl, hlo, hhi, how, hf0, hf1, hf2⟩ := id hs
  go_wp2_with (first
    | (go_at_call 22; refine (implValid_any k a b _ hb).mono ?_; rintro e w1 ⟨rfl, h1⟩; replace hs := hs.step h1 (by omega); clear p0 p1 p2 q0 q1 q2 hbl hlo hhi how hf0 hf1 hf2 h1; obtain ⟨p0, p1, p2, q0, q1, q2, hbl, hlo, hhi, how, hf0, hf1, hf2⟩ := id hs; cases hv : valB k a b)
    | (go_at_call 60; refine (withinR_any _ _ _ _).mono ?_; rintro e w2 ⟨rfl, rfl⟩; have hx := hn.out hv))
  all_goals
    rw [hB]
    refine bodyPost_ret (v := .tuple #[.agg #[.int .i64 0, .int .u64 0, .int .u64 0], .slice none 0 0, .bool false]) (by simp [results, Try.results70, go_sem, *]) rfl ⟨rfl, ?_⟩
    repeat (first | exact hbl | refine Below.setCell ?_ how _)
end Go.Proofs.Ytlaelfaalgmicaa
