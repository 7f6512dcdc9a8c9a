/- A region that draws its order, each of whose operations leaves the world in a class and yields a value that may hang on the world (a NaN's bits): one walk in the text's order, over every value that may be yielded, serves every order. -/
import Derived.Test.YtoemjeomfnndaaaDoorBase
import Derived.Deep.Draws
import Derived.Still
namespace Go.Proofs.YtoemjeomfnndaaaDoor
open Go

section
variable {P : Program} {ops : Array Oper} {md : Region.Mode} {C : World → Prop} {T : Nat → Value → Prop}

/-- Operation 'o' (number j) in state 'a' is good: in every world of the class it yields a value, or nothing, or calls a function that returns such as 'T j' says; and the world behind it is of the class. -/
def RGood (P : Program) (C : World → Prop) (T : Nat → Value → Prop) (ops : Array Oper) (j : Nat) (o : Oper) (a : Act) : Prop :=
  Region.wanted o (yielded ops a.tmps) = true → ∀ w, C w →
    (∃ v w', (execOp a.eval o).run P w = .ok (.value v) w' ∧ C w') ∨ (∃ w', (execOp a.eval o).run P w = .ok .skip w' ∧ C w') ∨
    (∃ f args w', (execOp a.eval o).run P w = .ok (.enter f args) w' ∧ Calls P f args w' fun e w'' => ∃ v, e = .returned v ∧ T j v ∧ C w'')

/-- A value that it may leave in its temporary. -/
def RYield (P : Program) (C : World → Prop) (T : Nat → Value → Prop) (ops : Array Oper) (j : Nat) (o : Oper) (a : Act) (v : Value) : Prop :=
  (Region.wanted o (yielded ops a.tmps) = true ∧ ((∃ w w', C w ∧ (execOp a.eval o).run P w = .ok (.value v) w') ∨ (v = undef ∧ ∃ w w', C w ∧ (execOp a.eval o).run P w = .ok .skip w') ∨
    (T j v ∧ ∃ w f args w', C w ∧ (execOp a.eval o).run P w = .ok (.enter f args) w'))) ∨
  (Region.wanted o (yielded ops a.tmps) = false ∧ v = undef)

/-- The walk in the text's order, over every value that may be yielded. -/
def wpRel (P : Program) (C : World → Prop) (T : Nat → Value → Prop) (ops : Array Oper) (Q : Act → Prop) : Nat → List Oper → Act → Prop
  | _, [], a => Q a
  | j, o :: rest, a => RGood P C T ops j o a ∧ ∀ v, RYield P C T ops j o a v → wpRel P C T ops Q (j + 1) rest (a.put o.dst v)

def rOp (P : Program) (C : World → Prop) (T : Nat → Value → Prop) (ops : Array Oper) (i : Nat) (K : Act → Prop) (a : Act) : Prop :=
  match ops[i]? with
  | none => K a
  | some o => RGood P C T ops i o a ∧ ∀ v, RYield P C T ops i o a v → K (a.put o.dst v)

theorem rOp_mono {i : Nat} {a : Act} {K K' : Act → Prop} (h : ∀ a, K a → K' a) (hh : rOp P C T ops i K a) : rOp P C T ops i K' a := by
  unfold rOp at *
  cases ho : ops[i]? with
  | none => rw [ho] at hh; exact h _ hh
  | some o => rw [ho] at hh; exact ⟨hh.1, fun v hv => h _ (hh.2 v hv)⟩

/-- Whatever order is picked from here on. -/
def wpAnyR (P : Program) (md : Region.Mode) (C : World → Prop) (T : Nat → Value → Prop) (ops : Array Oper) (Q : Act → Prop) : Nat → Array Bool → Act → Prop
  | 0, listed, a => Region.ready md ops listed = [] ∧ Q a
  | fuel + 1, listed, a =>
    (Region.ready md ops listed = [] → Q a) ∧
    ∀ i ∈ Region.ready md ops listed, rOp P C T ops i (wpAnyR P md C T ops Q fuel (listed.setIfInBounds i true)) a

theorem wpOp_of_rOp {i : Nat} {a : Act} {K : Act → Prop} {K' : Act → World → Prop} {Q' : Exit → Act → World → Prop} {w : World} (hC : C w) (h : ∀ a w', C w' → K a → K' a w') (hh : rOp P C T ops i K a) : wpOp P ops Q' i K' a w := by
  unfold rOp at hh
  unfold wpOp
  cases ho : ops[i]? with
  | none => rw [ho] at hh; exact h _ _ hC hh
  | some o =>
    rw [ho] at hh
    obtain ⟨hg, hy⟩ := hh
    simp only
    by_cases hw : Region.wanted o (yielded ops a.tmps) = true
    · rw [if_pos hw]
      left
      unfold Oper.wp
      rcases hg hw w hC with ⟨v, w', hr, hC'⟩ | ⟨w', hr, hC'⟩ | ⟨f, args, w', hr, hc⟩
      · rw [hr]
        exact h _ _ hC' (hy v (.inl ⟨hw, .inl ⟨w, w', hC, hr⟩⟩))
      · rw [hr]
        exact h _ _ hC' (hy undef (.inl ⟨hw, .inr (.inl ⟨rfl, w, w', hC, hr⟩)⟩))
      · rw [hr]
        exact hc.mono fun e w'' ⟨v, he, hT, hC'⟩ => by
          subst he
          exact h _ _ hC' (hy v (.inl ⟨hw, .inr (.inr ⟨hT, w, f, args, w', hC, hr⟩)⟩))
    · have hw' : Region.wanted o (yielded ops a.tmps) = false := by simpa using hw
      rw [if_neg hw]
      exact h _ _ hC (hy undef (.inr ⟨hw', rfl⟩))

theorem wpAny_of_rel {Q : Act → Prop} {Q' : Exit → Act → World → Prop} (hQ : ∀ a w, C w → Q a → Q' .normal a w) : ∀ (fuel : Nat) (listed : Array Bool) (a : Act) (w : World), C w →
    wpAnyR P md C T ops Q fuel listed a → wpAny P md ops Q' fuel listed a w
  | 0, _, _, _, hw, h => ⟨h.1, hQ _ _ hw h.2⟩
  | fuel + 1, _, _, _, hw, h => ⟨fun h0 => hQ _ _ hw (h.1 h0), fun i hi => wpOp_of_rOp hw (fun a' w' hw' => wpAny_of_rel hQ fuel _ a' w' hw') (h.2 i hi)⟩

/-- A good operation may yield something. -/
theorem RGood.some (hC0 : ∃ w, C w) {j : Nat} {o : Oper} {a : Act} (h : RGood P C T ops j o a) : ∃ v, RYield P C T ops j o a v := by
  by_cases hw : Region.wanted o (yielded ops a.tmps) = true
  · obtain ⟨w, hC⟩ := hC0
    rcases h hw w hC with ⟨v, w', hr, _⟩ | ⟨w', hr, _⟩ | ⟨f, args, w', hr, hc⟩
    · exact ⟨v, .inl ⟨hw, .inl ⟨w, w', hC, hr⟩⟩⟩
    · exact ⟨undef, .inl ⟨hw, .inr (.inl ⟨rfl, w, w', hC, hr⟩)⟩⟩
    · obtain ⟨e, w'', fr, ⟨v, _, hT, _⟩, _⟩ := hc []
      exact ⟨v, .inl ⟨hw, .inr (.inr ⟨hT, w, f, args, w', hC, hr⟩)⟩⟩
  · exact ⟨undef, .inr ⟨by simpa using hw, rfl⟩⟩

/-- What an operation does hangs on what it looks at alone. -/
theorem rgood_put {j : Nat} {o : Oper} (hs : ∀ cs b, o.op ≠ .select cs b) (a : Act) (dst : Option Tmp) (v : Value) (h : ∀ d, dst = some d → d ∉ o.looksAt ops) : RGood P C T ops j o (a.put dst v) ↔ RGood P C T ops j o a := by
  unfold RGood; rw [execOp_put o hs a dst v h, wanted_put o a dst v h]
theorem ryield_put {j : Nat} {o : Oper} (hs : ∀ cs b, o.op ≠ .select cs b) (a : Act) (dst : Option Tmp) (v u : Value) (h : ∀ d, dst = some d → d ∉ o.looksAt ops) : RYield P C T ops j o (a.put dst v) u ↔ RYield P C T ops j o a u := by
  unfold RYield; rw [execOp_put o hs a dst v h, wanted_put o a dst v h]

/-- Two operations that are apart may change places. -/
theorem rOp_swap (hC0 : ∃ w, C w) {i j : Nat} {oi oj : Oper} (hj : ops[j]? = some oj) (hap : oi.apart ops oj = true) (hsi : ∀ cs b, oi.op ≠ .select cs b) (hsj : ∀ cs b, oj.op ≠ .select cs b) {K : Act → Prop} {a : Act}
    (hg : RGood P C T ops i oi a) (h : ∀ v, RYield P C T ops i oi a v → rOp P C T ops j K (a.put oi.dst v)) :
    rOp P C T ops j (fun a' => RGood P C T ops i oi a' ∧ ∀ v, RYield P C T ops i oi a' v → K (a'.put oi.dst v)) a := by
  obtain ⟨h1, h2, h3⟩ := Oper.apart_spec hap
  unfold rOp at *
  simp only [hj] at *
  obtain ⟨v0, hv0⟩ := hg.some hC0
  refine ⟨(rgood_put hsj a oi.dst v0 h1).1 (h v0 hv0).1, fun u hu => ⟨(rgood_put hsi a oj.dst u h3).2 hg, fun v hv => ?_⟩⟩
  have hv' := (ryield_put hsi a oj.dst u v h3).1 hv
  rw [← Act.put_comm a v u h2]
  exact (h v hv').2 u ((ryield_put hsj a oi.dst v u h1).2 hu)

theorem wpAnyR_first (hC0 : ∃ w, C w) {Q : Act → Prop} {i : Nat} {oi : Oper} (hi : ops[i]? = some oi) (hsel : ∀ (j : Nat) (o : Oper) cs b, ops[j]? = some o → o.op ≠ .select cs b) :
    ∀ (fuel : Nat) (listed : Array Bool) (a : Act),
      (∀ j oj, ops[j]? = some oj → j ≠ i → listed.getD j true = false → (∀ e ∈ oj.after, Region.binds md e = true → e.on ≠ i) → oi.apart ops oj = true) →
      i ∈ Region.ready md ops listed → RGood P C T ops i oi a →
      (∀ v, RYield P C T ops i oi a v → wpAnyR P md C T ops Q fuel (listed.setIfInBounds i true) (a.put oi.dst v)) → wpAnyR P md C T ops Q (fuel + 1) listed a := by
  intro fuel
  induction fuel with
  | zero =>
    intro listed a _ hr hg H
    refine ⟨fun h => (by rw [h] at hr; cases hr), fun j hj => ?_⟩
    by_cases hji : j = i
    · subst hji; unfold rOp; rw [hi]; exact ⟨hg, H⟩
    · have := ready_mono hj hji
      obtain ⟨v0, hv0⟩ := hg.some hC0
      rw [(H v0 hv0).1] at this
      cases this
  | succ fuel ih =>
    intro listed a hfree hr hg H
    refine ⟨fun h => (by rw [h] at hr; cases hr), fun j hj => ?_⟩
    by_cases hji : j = i
    · subst hji; unfold rOp; rw [hi]; exact ⟨hg, H⟩
    · obtain ⟨hjun, oj, hoj, hall⟩ := mem_ready.1 hj
      have hnot : ∀ e ∈ oj.after, Region.binds md e = true → e.on ≠ i := fun e he hb heq => by
        have h1 := hall e he hb
        have h0 := (mem_ready.1 hr).1
        rw [heq] at h1
        rcases Nat.lt_or_ge i listed.size with h' | h'
        · simp [h'] at h0 h1; rw [h0] at h1; cases h1
        · simp [Array.getElem?_eq_none h'] at h1
      have h2 := rOp_swap hC0 hoj (hfree j oj hoj hji hjun hnot) (fun cs b => hsel i oi cs b hi) (fun cs b => hsel j oj cs b hoj) hg (fun v hv => (H v hv).2 j (ready_mono hj hji))
      refine rOp_mono (fun a' h3 => ih (listed.setIfInBounds j true) a' ?_ (ready_mono hr (Ne.symm hji)) h3.1 fun v hv => ?_) h2
      · intro k ok hk hki hun hno
        refine hfree k ok hk hki ?_ hno
        by_cases hjk : j = k
        · subst hjk; exact hjun
        · rw [getD_set_ne true hjk] at hun; exact hun
      · rw [Array.setIfInBounds_comm _ _ hji]
        exact h3.2 v hv

theorem wpAnyR_lex (hC0 : ∃ w, C w) {Q : Act → Prop} (hs : Region.noSelect ops = true) : ∀ (l : List Oper) (k : Nat) (listed : Array Bool) (a : Act), (∀ j, l[j]? = ops[k + j]?) →
    Region.lexFrom md ops l.length k listed = true → wpRel P C T ops Q k l a → wpAnyR P md C T ops Q l.length listed a
  | [], _, _, _, _, hB, h => ⟨by simpa [Region.lexFrom] using hB, h⟩
  | o :: l, k, listed, a, hl, hB, h => by
    have h0 : ops[k]? = some o := by simpa using (hl 0).symm
    simp only [List.length_cons, Region.lexFrom, Bool.and_eq_true] at hB
    obtain ⟨⟨hr, hf⟩, hB'⟩ := hB
    exact wpAnyR_first hC0 h0 (Region.noSelect_spec hs) l.length listed a (Region.free_spec h0 hf) (by simpa using hr) h.1
      (fun v hv => wpAnyR_lex hC0 hs l (k + 1) _ _ (fun j => by have := hl (j + 1); simpa [Nat.add_assoc, Nat.add_comm 1 j] using this) hB' (h.2 v hv))

/-- ONE WALK SERVES EVERY ORDER. -/
theorem wp_region_rel (C : World → Prop) (T : Nat → Value → Prop) {id : Nat} {Q : Exit → Act → World → Prop} {a : Act} {w : World} {l : List Oper} (hm : P.follows .mixedOrders = true) (hB : Region.lexB .any l.toArray = true) (hC : C w.drew)
    (h : wpRel P C T l.toArray (fun a' => ∀ w', C w' → Q .normal a' w') 0 l a) : (Code.region id l.toArray true).wp P Q a w := by
  simp only [Region.lexB, Bool.and_eq_true] at hB
  refine wp_region_any hm (wpAny_of_rel (C := C) (T := T) (Q := fun a' => ∀ w', C w' → Q .normal a' w') (fun _ w' hw' h => h w' hw') _ _ _ _ hC ?_)
  have := wpAnyR_lex (C := C) (T := T) (md := .any) ⟨_, hC⟩ hB.1 l 0 (Array.replicate l.toArray.size false) a (by simp) (by simpa using hB.2) h
  simpa using this

/-! ### Steps of that walk -/
variable {Q : Act → Prop} {j : Nat} {rest : List Oper} {a : Act}
theorem wpRel_nil (h : Q a) : wpRel P C T ops Q j [] a := h

/-- An operation without a guard that yields one value in every world of the class. -/
theorem wpRel_value {o : Oper} (v : Value) (hg : o.guard = none) (hr : ∀ w, C w → ∃ w', (execOp a.eval o).run P w = .ok (.value v) w' ∧ C w') (h : wpRel P C T ops Q (j + 1) rest (a.put o.dst v)) : wpRel P C T ops Q j (o :: rest) a := by
  have hw : Region.wanted o (yielded ops a.tmps) = true := by simp [Region.wanted, hg]
  refine ⟨fun _ w hC => .inl (let ⟨w', h1, h2⟩ := hr w hC; ⟨v, w', h1, h2⟩), fun u hu => ?_⟩
  rcases hu with ⟨_, ⟨w, w', hC, e⟩ | ⟨_, w, w', hC, e⟩ | ⟨_, w, f, args, w', hC, e⟩⟩ | ⟨h', _⟩
  · obtain ⟨w1, e1, _⟩ := hr w hC
    rw [e1] at e; cases e; exact h
  · obtain ⟨w1, e1, _⟩ := hr w hC
    rw [e1] at e; cases e
  · obtain ⟨w1, e1, _⟩ := hr w hC
    rw [e1] at e; cases e
  · rw [hw] at h'; cases h'

/-- An operation without a guard whose value hangs on the world. -/
theorem wpRel_some {o : Oper} (S : Value → Prop) (hg : o.guard = none) (hr : ∀ w, C w → ∃ v w', (execOp a.eval o).run P w = .ok (.value v) w' ∧ C w' ∧ S v) (h : ∀ v, S v → wpRel P C T ops Q (j + 1) rest (a.put o.dst v)) : wpRel P C T ops Q j (o :: rest) a := by
  have hw : Region.wanted o (yielded ops a.tmps) = true := by simp [Region.wanted, hg]
  refine ⟨fun _ w hC => .inl (let ⟨v, w', h1, h2, _⟩ := hr w hC; ⟨v, w', h1, h2⟩), fun u hu => ?_⟩
  rcases hu with ⟨_, ⟨w, w', hC, e⟩ | ⟨_, w, w', hC, e⟩ | ⟨_, w, f, args, w', hC, e⟩⟩ | ⟨h', _⟩
  · obtain ⟨v, w1, e1, _, hS⟩ := hr w hC
    rw [e1] at e; cases e; exact h _ hS
  · obtain ⟨v, w1, e1, _⟩ := hr w hC
    rw [e1] at e; cases e
  · obtain ⟨v, w1, e1, _⟩ := hr w hC
    rw [e1] at e; cases e
  · rw [hw] at h'; cases h'

/-- A call. -/
theorem wpRel_call {o : Oper} (f : FuncId) (args : Array Value) (hg : o.guard = none) (hr : ∀ w, C w → (execOp a.eval o).run P w = .ok (.enter f args) w) (hc : ∀ w, C w → Calls P f args w fun e w' => ∃ v, e = .returned v ∧ T j v ∧ C w')
    (h : ∀ v, T j v → wpRel P C T ops Q (j + 1) rest (a.put o.dst v)) : wpRel P C T ops Q j (o :: rest) a := by
  have hw : Region.wanted o (yielded ops a.tmps) = true := by simp [Region.wanted, hg]
  refine ⟨fun _ w hC => .inr (.inr ⟨f, args, w, hr w hC, hc w hC⟩), fun u hu => ?_⟩
  rcases hu with ⟨_, ⟨w, w', hC, e⟩ | ⟨_, w, w', hC, e⟩ | ⟨hT, w, f', args', w', hC, e⟩⟩ | ⟨h', _⟩
  · rw [hr w hC] at e; cases e
  · rw [hr w hC] at e; cases e
  · exact h u hT
  · rw [hw] at h'; cases h'
end
end Go.Proofs.YtoemjeomfnndaaaDoor
