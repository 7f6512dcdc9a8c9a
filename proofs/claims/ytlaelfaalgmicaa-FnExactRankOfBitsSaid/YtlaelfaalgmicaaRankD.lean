/- RankOfBits: slices.Delete at one place, by the kit's contract. -/
import Derived.Test.YtlaelfaalgmicaaRankI
import Derived.Shelf.SlicesG.Delete
namespace Go.Proofs.Ytlaelfaalgmicaa
open Go.RowKit Go.Sort
set_option linter.unusedVariables false
def Try.delLay_ren : Go.Shelf.Ren := ⟨fun | 45 => 79 | n => n, fun | 22 => 44 | 23 => 2 | n => n, fun | n => n⟩
theorem Try.delLay : Go.Proofs.SlLaysN.n45 Try.prog Try.delLay_ren := {
  mixed := by kernel_rfl
  f45 := ⟨Try.f79.name, by decide, Try.func79.trans (congrArg some (by kernel_rfl))⟩
  t0 := Try.underlying0
  a0 := Try.isAgg0
  z0 := Try.sizeOf0
  v0 := Try.zeroValue0
  t3 := Try.underlying3
  a3 := Try.isAgg3
  z3 := Try.sizeOf3
  v3 := Try.zeroValue3
  t4 := Try.underlying4
  a4 := Try.isAgg4
  z4 := Try.sizeOf4
  v4 := Try.zeroValue4
  t22 := Try.underlying44
  a22 := Try.isAgg44
  z22 := Try.sizeOf44
  v22 := Try.zeroValue44
  t23 := Try.underlying2
  a23 := Try.isAgg2
  z23 := Try.sizeOf2
  v23 := Try.zeroValue2
  i23 := by kernel_rfl }
theorem delete_row (blk off cap i : Nat) (zs : List Int) (w : World) (hH : Holds (Value.int .i64) w blk off zs.toArray) (hcap : zs.length ≤ cap) (hm : cap ≤ 9223372036854775807) (hi : i < zs.length) :
    Calls Try.prog 79 #[.slice (some ⟨blk, off, none⟩) zs.length cap, .int .i64 i, .int .i64 ((i + 1 : Nat) : Int)] w fun e w' => e = .returned (.slice (some ⟨blk, off, none⟩) (zs.length - (i + 1 - i)) cap) ∧ ∃ q, w' = putRow (Value.int .i64) (Sort.ahead w q) blk off (zs.take i ++ zs.drop (i + 1) ++ List.replicate (i + 1 - i) 0).toArray := by
  have h := AnyG.slices_Delete_int Try.delLay blk off cap i (i + 1) zs w hH hcap hm (Nat.le_succ _) hi
  change Calls Try.prog 79 _ _ _ at h
  exact h
theorem putRow_wrote {α : Type} [Inhabited α] (enc : α → Value) (w : World) (q blk off : Nat) (d : Array α) : Wrote blk w (putRow enc (Sort.ahead w q) blk off d) :=
  ⟨rfl, rfl, rfl, by simp, fun j hj => by
    simp only [putRow, mapBlock, Array.getElem?_modify, heap_ahead]
    rw [if_neg (fun h => hj h.symm)], fun o => by simp⟩
/-- The rows behind the deletion. -/
theorem erA_get (g : Nat → Nat) (n i : Nat) (hi : i < n + 1) (j : Nat) (hj : j < n) :
    ((((List.range (n + 1)).map fun k => (g k : Int)).take i ++ ((List.range (n + 1)).map fun k => (g k : Int)).drop (i + 1) ++ List.replicate (i + 1 - i) 0).toArray)[j]! = (erA g i j : Int) := by
  rw [List.getElem!_toArray, List.getElem!_eq_getElem?_getD]
  unfold erA
  by_cases h : j < i
  · rw [List.append_assoc, List.getElem?_append_left (by simp; omega), List.getElem?_take_of_lt h, if_pos h]
    simp [show j < n + 1 by omega]
  · rw [List.getElem?_append_left (by simp; omega), List.getElem?_append_right (by simp; omega), if_neg h, List.getElem?_drop]
    have e' : i + 1 + (j - (List.take i (List.map (fun k => (g k : Int)) (List.range (n + 1)))).length) = j + 1 := by simp; omega
    rw [e']
    simp [show j + 1 < n + 1 by omega]
theorem delete_own (b' o' n cap i lo hi : Nat) (g : Nat → Nat) (w : World) (hO : SOwn w lo hi (some ⟨b', o', none⟩) (n + 1) cap (kI fun i => (g i : Int))) (hin : i < n + 1) :
    Calls Try.prog 79 #[.slice (some ⟨b', o', none⟩) (n + 1) cap, .int .i64 i, .int .i64 ((i : Int) + 1)] w fun e w' => e = .returned (.slice (some ⟨b', o', none⟩) n cap) ∧ SOwn w' lo hi (some ⟨b', o', none⟩) n cap (kI fun j => (erA g i j : Int)) ∧ Chg lo hi w w' := by
  obtain ⟨zs, hzs⟩ : ∃ zs : List Int, zs = (List.range (n + 1)).map fun k => (g k : Int) := ⟨_, rfl⟩
  have hlen : zs.length = n + 1 := by rw [hzs]; simp
  rcases hO.sin with h0 | ⟨b, off, e, h1, h2, h3, h4, h5, h6⟩
  · omega
  obtain ⟨rfl, rfl⟩ : b' = b ∧ o' = off := by simpa using e
  have hH : Holds (Value.int .i64) w b' o' zs.toArray := fun j hj => by
    have hj' : j < n + 1 := by simpa [hlen] using hj
    refine ⟨?_, (hO.at j hj').2⟩
    rw [(hO.at j hj').1, List.getElem!_toArray, List.getElem!_eq_getElem?_getD, hzs]
    simp [hj']
  have h := delete_row b' o' cap i zs w hH (by omega) (by unfold maxLen at h4; omega) (by omega)
  rw [hlen, show ((i + 1 : Nat) : Int) = (i : Int) + 1 from rfl] at h
  refine h.mono ?_
  rintro e w' ⟨rfl, q, rfl⟩
  have hz : (zs.take i ++ zs.drop (i + 1) ++ List.replicate (i + 1 - i) (0 : Int)).toArray.size = zs.toArray.size := by simp; omega
  have hc := Chg.of_wrote (lo := lo) (hi := hi) (putRow_wrote (Value.int .i64) w q b' o' (zs.take i ++ zs.drop (i + 1) ++ List.replicate (i + 1 - i) (0 : Int)).toArray) h1 h2
  have hH' := holds_putRow (Value.int .i64) (Sort.ahead w q) b' o' _ _ (holds_ahead _ w q b' o' _ hH) hz
  have hs : (zs.take i ++ zs.drop (i + 1) ++ List.replicate (i + 1 - i) (0 : Int)).toArray.size = n + 1 := by rw [hz]; simp [hlen]
  refine ⟨by simp, ⟨.inr ⟨b', o', rfl, h1, h2, by omega, h4, by simpa using h5, fun j hj => ?_⟩, .inr fun b o e j hj => ?_⟩, hc⟩
  · rw [(hH' j (by omega)).1, hzs, erA_get g n i hin j hj]
  · obtain ⟨rfl, rfl⟩ : b' = b ∧ o' = o := by simpa using e
    exact (hH' j (by omega)).2
end Go.Proofs.Ytlaelfaalgmicaa
