/- A text cut at its commas: both sides. -/
import Derived.Test.YtoemjeomfnndaaaDoorRd
import Derived.Test.YtoemjeomfnndaaaDoorList2C
import Derived.Test.YtoemjeomfnndaaaDoorShSplit
namespace Go.Proofs.YtoemjeomfnndaaaDoor
open Go.RowKit Go.Shelf
set_option linter.unusedVariables false
/-- The type of its block's cells. -/
def TypS (w : World) (a : Option Addr) (e : TypeId) : Prop := ∀ b off, a = some ⟨b, off, none⟩ → ∃ c fz, w.heap[b]? = some (.cells c e fz)
theorem Grow.typed {B : Nat} {w wr : World} {e : TypeId} {a : Option Addr} {n m cap : Nat} {f : Nat → Value} (h : Grow B w e (.slice a m cap) n f wr) : TypS wr a e := by
  intro b off ha
  rcases h.own.2 with ⟨hv, _⟩ | ⟨g, c, cur, hv, _, hgg, _⟩
  · injection hv with h1 _ _; rw [ha] at h1; cases h1
  · injection hv with h1 _ _
    rw [ha] at h1
    obtain ⟨rfl, _⟩ : b = g ∧ off = 0 := by simpa using h1
    exact ⟨cur, _, hgg⟩
/-- An append leaves a block of another type as it was. -/
theorem Grow.keeps {B : Nat} {w wr w' : World} {e e' : TypeId} {v : Value} {n b : Nat} {f : Nat → Value} {o : Obj} {c : Array Value} {fz : Nat × Nat} (h : Grow B w e v n f wr) (hg : (wr.alloc o).grownBy w' v.ownBlock) (hb : wr.heap[b]? = some (.cells c e' fz)) (he : e' ≠ e) : w'.heap[b]? = some (.cells c e' fz) := by
  have hl : b < wr.heap.size := (Array.getElem?_eq_some_iff.1 hb).1
  rw [hg.block b (by simp; omega) (fun q => by
    rcases h.own.2 with ⟨rfl, _⟩ | ⟨g, c2, cur, rfl, _, hgg, _⟩
    · cases q
    · obtain rfl : b = g := by simpa [Value.ownBlock] using q
      rw [hgg] at hb
      injection hb with hb
      injection hb with _ hb _
      exact he hb.symm), Below.heap_alloc wr o b hl, hb]
/-- What a cutting returns: a new slice of the pieces. -/
def OutP (l : List UInt8) (w : World) (e : Ending) (w' : World) : Prop := ∃ a cap, e = .returned (.slice a (pcs l).length cap) ∧ NewS w a (pcs l).length cap (kS (pc l)) w' ∧ TypS w' a 9
set_option maxRecDepth 100000 in
set_option maxHeartbeats 1000000 in
theorem l01Cut_any (s : ByteArray) (w : World) (hs : s.size ≤ 1048576) :
    Calls Tryd.prog 57 #[.string s, .int .u8 44] w (OutP s.data.toList w) := by
  have hlen := len_of s
  have hat : ∀ j (h : j < s.data.toList.length), s.data.toList[j] = s[j]'(by rw [← hlen]; exact h) := fun j h => rfl
  have hP := Lib.hid (piece_str s)
  have hpl := Lib.hid (pcs_len s.data.toList)
  generalize s.data.toList = L at *
  obtain ⟨i0, hi, hz0, hz1, hz2⟩ := info_parts infoStr
  have HI := Lib.hid hi
  have HZ := Lib.hid (And.intro hz0 (And.intro hz1 hz2))
  clear hi hz0 hz1 hz2
  have hS := Lib.hid (CutAt.start L)
  go_enter Tryd.func57, Tryd.ntmps57
  have hF := Lib.hid (Grow.start (B := w.heap.size) (e := 9) (kS (pc L)) (Below.refl w.heap.size w) (Nat.le_refl _) (Nat.le_refl _))
  go_wp2
  generalize w.alloc (.cells #[] 9) = W at *
  go_loopw [5, 6, 7] (fun v f i wr => ∃ j g k : Nat, i = .int .i64 j ∧ f = .int .i64 g ∧ g ≤ j ∧ k ≤ j ∧ Hid (Grow w.heap.size w 9 v k (kS (pc L)) wr) ∧ ((j ≤ s.size ∧ Hid (CutAt L j g k)) ∨ (j = s.size + 1 ∧ Hid (k = (pcs L).length)))) (fun _ _ i _ => s.size + 1 - (intOf i).toNat)
  case atStart => exact ⟨0, 0, 0, rfl, rfl, by omega, by omega, hF, .inl ⟨by omega, hS⟩⟩
  case round =>
    obtain ⟨j, g, k, rfl, rfl, hgj, hkj, hG, hC⟩ := hrel
    clear hF hS
    rcases hC with ⟨hj, hC⟩ | ⟨rfl, hK⟩
    · by_cases hlt : j < s.size
      · have hlt2 : j < L.length := by omega
        by_cases c0 : s[j].toNat = 44
        · have cc : L[j] = 44 := by rw [hat j hlt2]; exact UInt8.toNat_inj.1 (by rw [c0]; rfl)
          have h1 := Lib.hid (hC.out.hit hlt2 cc)
          have e1 : (Value.string (s.extract g j)) = kS (pc L) k := by show _ = Value.string _; rw [h1.out.1, hP.out]
          have q1 : ((j : Int) == (s.size : Int)) = false := by rw [beq_eq_false_iff_ne]; omega
          have q2 : ((s[j].toNat : Int) == 44) = true := by rw [beq_iff_eq]; omega
          clear hat
          go_wp2_with (at_builtin; refine wpList_append_own _ rfl _ _ 49 rfl (w.heap.size) 9 i0 (.string ⟨#[]⟩) 1 16 Tryd.underlying49 HI.out HZ.out.1 HZ.out.2.1 HZ.out.2.2 rfl (by decide) _ _ _ rfl (hG.out.own.alloc _) ⟨wr.heap.size, 0, none⟩ 1 1 [kS (pc L) k] rfl rfl ?c1 ?c2 ?c3 ?c4 ?c5 ?_)
          case c1 => rw [← e1]; exact cell_one_new _ _ _
          case c2 => intro u hu; simp at hu; subst hu; rfl
          case c3 => unfold maxLen; omega
          case c4 => omega
          case c5 => have := hG.out.hi; simp; omega
          intro v' w2 hown' hgrow _
          have R := Lib.hid (hG.out.step hown' hgrow)
          clear hown' hgrow hG
          go_wp2
          exact ⟨⟨j + 1, j + 1, k + 1, by go_num, by go_num, by omega, by omega, R, .inl ⟨by omega, Lib.hid h1.out.2⟩⟩, by simp [intOf]; omega⟩
        · have cc : L[j] ≠ 44 := by rw [hat j hlt2]; intro q; exact c0 (by rw [q]; rfl)
          have h1 := Lib.hid (hC.out.skip hlt2 cc)
          have q1 : ((j : Int) == (s.size : Int)) = false := by rw [beq_eq_false_iff_ne]; omega
          have q2 : ((s[j].toNat : Int) == 44) = false := by rw [beq_eq_false_iff_ne]; omega
          clear hat
          go_wp2
          exact ⟨⟨j + 1, g, k, by go_num, rfl, by omega, by omega, hG, .inl ⟨by omega, h1⟩⟩, by simp [intOf]; omega⟩
      · obtain rfl : j = s.size := by omega
        have h1 := Lib.hid (CutAt.last (l := L) (by rw [hlen]; exact hC.out))
        have e1 : (Value.string (s.extract g s.size)) = kS (pc L) k := by show _ = Value.string _; rw [h1.out.1, hP.out, hlen]
        clear hat
        go_wp2_with (at_builtin; refine wpList_append_own _ rfl _ _ 49 rfl (w.heap.size) 9 i0 (.string ⟨#[]⟩) 1 16 Tryd.underlying49 HI.out HZ.out.1 HZ.out.2.1 HZ.out.2.2 rfl (by decide) _ _ _ rfl (hG.out.own.alloc _) ⟨wr.heap.size, 0, none⟩ 1 1 [kS (pc L) k] rfl rfl ?c1 ?c2 ?c3 ?c4 ?c5 ?_)
        case c1 => rw [← e1]; exact cell_one_new _ _ _
        case c2 => intro u hu; simp at hu; subst hu; rfl
        case c3 => unfold maxLen; omega
        case c4 => omega
        case c5 => have := hG.out.hi; simp; omega
        intro v' w2 hown' hgrow _
        have R := Lib.hid (hG.out.step hown' hgrow)
        clear hown' hgrow hG
        go_wp2
        exact ⟨⟨s.size + 1, s.size + 1, k + 1, by go_num, by go_num, by omega, by omega, R, .inr ⟨rfl, Lib.hid h1.out.2⟩⟩, by simp [intOf]⟩
    · obtain ⟨a', c', rfl, hN⟩ := hG.out.form
      have hN := Lib.hid hN
      have hT := Lib.hid hG.out.typed
      clear hG hat
      rw [hK.out] at hN
      have hK2 := hK.out
      go_wp2
      go_ret
      exact ⟨a', c', by rw [← hK.out]; rfl, hN.out, hT.out⟩
/-- The cell that holds the search's limit. -/
def MaxC (w : World) : Prop := ∃ m : Int, w.cell? ⟨Tryd.laysM146_ren.g 1, 0, none⟩ = some (.int .i64 m)
theorem MaxC.of {w : World} (h : w.ShapedOpen Tryd.prog) : MaxC w := Tryd.laysM146.s1_3 w h
theorem MaxC.bel {w w' : World} (h : MaxC w) (hb : Below w.heap.size w w') : MaxC w' := by
  obtain ⟨m, h⟩ := h
  exact ⟨m, by rw [hb.cell (p := ⟨_, 0, none⟩) (World.block_lt_of_cell? _ _ h)]; exact h⟩
theorem split_any (s : ByteArray) (w : World) (hs : s.size ≤ 1048576) (hm : MaxC w) :
    Calls Tryd.prog 58 #[.string s, .string ⟨#[44]⟩] w (OutP s.data.toList w) := by
  obtain ⟨m, hm⟩ := hm
  have hk : Lib.splitK [44] 0 (Lib.count s.data.toList [44]) s.data.toList = pcs s.data.toList := splitK_cut _ _ rfl
  have hd := Lib.splitB_data ⟨#[44]⟩ 0 (Lib.countB s ⟨#[44]⟩) s
  have hc : Lib.countB s ⟨#[44]⟩ = Lib.count s.data.toList [44] := rfl
  rw [hc, show (⟨#[44]⟩ : ByteArray).data.toList = [44] from rfl, hk] at hd
  have hl : Lib.countB s ⟨#[44]⟩ + 1 = (pcs s.data.toList).length := by
    rw [← hd, List.length_map, hc]
    exact (Lib.splitB_all ⟨#[44]⟩ (by decide) 0 _ s hc).symm
  refine (Tryd.strings_Split s ⟨#[44]⟩ m w (by omega) hm (by decide)).mono ?_
  rintro e w' ⟨rfl, rfl⟩
  rw [hl]
  refine ⟨_, _, rfl, ⟨(Below.refl _ _).alloc (Nat.le_refl _) _, .inr ⟨_, 0, rfl, Nat.le_refl _, by simp, Nat.le_refl _, ?_, by simp, fun i hi => ?_⟩, .inr fun b off e i _ => ?_⟩, fun b off e => ?_⟩
  · have := pcs_len s.data.toList
    rw [len_of] at this
    unfold maxLen; omega
  · rw [hc]
    generalize Lib.splitB ⟨#[44]⟩ 0 (Lib.count s.data.toList [44]) s = B at *
    have hB : i < B.length := by rw [← hd, List.length_map] at hi; exact hi
    have : pc s.data.toList i = B[i].data.toList := by
      unfold pc
      rw [← hd, List.getD_eq_getElem?_getD, List.getElem?_map, List.getElem?_eq_getElem hB]; rfl
    rw [show (kS (pc s.data.toList) i) = Value.string B[i] by show Value.string _ = _; rw [this]]
    rw [Nat.zero_add]
    simp [hB]
  · obtain ⟨rfl, rfl⟩ : w.heap.size = b ∧ 0 = off := by simpa using e
    simp
  · obtain ⟨rfl, rfl⟩ : w.heap.size = b ∧ 0 = off := by simpa using e
    exact ⟨_, (0, 0), by unfold World.alloc; simp; rfl⟩
end Go.Proofs.YtoemjeomfnndaaaDoor
