/-
  No cell of these rows narrows 'for every input' (looked for: loops, veiled, ifaces, maps, wideKeys, modest, calm, conditions, laid).
  DERIVED. THE GIVEN ROWS OF THIS SEAT. 15 by the template 'for every input the law returns true; each argument reads behind the call as it read before'; 0 by the template 'total and deterministic' (their statements: YtlaelfaalgmicaaTotals.lean).
  GIVEN WITH THE SEED: the statements are not yours to turn. If you find one false, say at which input.
  Laid BY PROGRAM, IN A SANDBOX (cutbox-rows.mjs): the forced cells as the released guide's own fill.sh prints them over the translation 7b437eaf05a45e96… (all of the seat's roots in one cut). By AI agents, Wed Nov 11 2026. No macro, syntax, notation, axiom, sorry.
-/
import Derived.Test.YtlaelfaalgmicaaChecked
import GoSem.Claim
import GoSem.ClaimJoined
import GoSem.ClaimMapViews
import Derived.JoinedTies
import Derived.KernelRfl
namespace Go.Proofs.Ytlaelfaalgmicaa
/- THE CELL 'sum', in the pinned program and in every row, IS THE sha256 OF THE DUMP (.gsa) THAT YtlaelfaalgmicaaProg.lean LOADS. Nothing in Lean hashes anything: it is a label: what it is worth is what the hold of that sum in a sandbox is worth. -/
noncomputable def Try.pinned : Pinned := { name := "ytlaelfaalgmicaa", sum := "7b437eaf05a45e968ae942158b8efa0ea72677924d9a218ab1905c64d74ef368", checked := Try.checked }
namespace Rows
def none {H : Type} : Left H := { results := [], args := [] }

/-- 'laws.FnExactSmallPeriod': WHATEVER THE INPUT: true; the input reads as it did. -/
def fnExactSmallPeriodSpec : ChangeSpec := { name := "fnExactSmallPeriod", fn := fun _ => fun
  | [d1, d2, d3, d4] => { results := [.lit (.bool true)], args := [d1, d2, d3, d4] }
  | _ => none }
def fnExactSmallPeriodRow : OpenClaim := { program := "ytlaelfaalgmicaa", sum := "7b437eaf05a45e968ae942158b8efa0ea72677924d9a218ab1905c64d74ef368", func := "loop.example/g01339/laws.FnExactSmallPeriod", spec := "fnExactSmallPeriod", apart := false }
def FnExactSmallPeriodSaid : Prop := fnExactSmallPeriodRow.holds Try.pinned (OpenSpec.ofChange fnExactSmallPeriodSpec)

/-- ITS FALSE NEIGHBOUR: 'it returns false'. Refute it at one input. -/
def fnExactSmallPeriodWrong : ChangeSpec := { name := "fnExactSmallPeriod", fn := fun _ => fun
  | [d1, d2, d3, d4] => { results := [.lit (.bool false)], args := [d1, d2, d3, d4] }
  | _ => none }
def FnExactSmallPeriodWrongFalsely : Prop := fnExactSmallPeriodRow.holds Try.pinned (OpenSpec.ofChange fnExactSmallPeriodWrong)

/-- 'laws.FnExactValidSeed': WHATEVER THE INPUT: true; the input reads as it did. -/
def fnExactValidSeedSpec : ChangeSpec := { name := "fnExactValidSeed", fn := fun _ => fun
  | [d] => { results := [.lit (.bool true)], args := [d] }
  | _ => none }
def fnExactValidSeedRow : OpenClaim := { program := "ytlaelfaalgmicaa", sum := "7b437eaf05a45e968ae942158b8efa0ea72677924d9a218ab1905c64d74ef368", func := "loop.example/g01339/laws.FnExactValidSeed", spec := "fnExactValidSeed", apart := false }
def FnExactValidSeedSaid : Prop := fnExactValidSeedRow.holds Try.pinned (OpenSpec.ofChange fnExactValidSeedSpec)

/-- ITS FALSE NEIGHBOUR: 'it returns false'. Refute it at one input. -/
def fnExactValidSeedWrong : ChangeSpec := { name := "fnExactValidSeed", fn := fun _ => fun
  | [d] => { results := [.lit (.bool false)], args := [d] }
  | _ => none }
def FnExactValidSeedWrongFalsely : Prop := fnExactValidSeedRow.holds Try.pinned (OpenSpec.ofChange fnExactValidSeedWrong)

/-- 'laws.FnExactSplitSeed': WHATEVER THE INPUT: true; the input reads as it did. -/
def fnExactSplitSeedSpec : ChangeSpec := { name := "fnExactSplitSeed", fn := fun _ => fun
  | [d1, d2] => { results := [.lit (.bool true)], args := [d1, d2] }
  | _ => none }
def fnExactSplitSeedRow : OpenClaim := { program := "ytlaelfaalgmicaa", sum := "7b437eaf05a45e968ae942158b8efa0ea72677924d9a218ab1905c64d74ef368", func := "loop.example/g01339/laws.FnExactSplitSeed", spec := "fnExactSplitSeed", apart := false }
def FnExactSplitSeedSaid : Prop := fnExactSplitSeedRow.holds Try.pinned (OpenSpec.ofChange fnExactSplitSeedSpec)

/-- ITS FALSE NEIGHBOUR: 'it returns false'. Refute it at one input. -/
def fnExactSplitSeedWrong : ChangeSpec := { name := "fnExactSplitSeed", fn := fun _ => fun
  | [d1, d2] => { results := [.lit (.bool false)], args := [d1, d2] }
  | _ => none }
def FnExactSplitSeedWrongFalsely : Prop := fnExactSplitSeedRow.holds Try.pinned (OpenSpec.ofChange fnExactSplitSeedWrong)

/-- 'laws.FnExactNextSeed': WHATEVER THE INPUT: true; the input reads as it did. -/
def fnExactNextSeedSpec : ChangeSpec := { name := "fnExactNextSeed", fn := fun _ => fun
  | [d] => { results := [.lit (.bool true)], args := [d] }
  | _ => none }
def fnExactNextSeedRow : OpenClaim := { program := "ytlaelfaalgmicaa", sum := "7b437eaf05a45e968ae942158b8efa0ea72677924d9a218ab1905c64d74ef368", func := "loop.example/g01339/laws.FnExactNextSeed", spec := "fnExactNextSeed", apart := false }
def FnExactNextSeedSaid : Prop := fnExactNextSeedRow.holds Try.pinned (OpenSpec.ofChange fnExactNextSeedSpec)

/-- ITS FALSE NEIGHBOUR: 'it returns false'. Refute it at one input. -/
def fnExactNextSeedWrong : ChangeSpec := { name := "fnExactNextSeed", fn := fun _ => fun
  | [d] => { results := [.lit (.bool false)], args := [d] }
  | _ => none }
def FnExactNextSeedWrongFalsely : Prop := fnExactNextSeedRow.holds Try.pinned (OpenSpec.ofChange fnExactNextSeedWrong)

/-- 'laws.FnExactShareSeed': WHATEVER THE INPUT: true; the input reads as it did. -/
def fnExactShareSeedSpec : ChangeSpec := { name := "fnExactShareSeed", fn := fun _ => fun
  | [d] => { results := [.lit (.bool true)], args := [d] }
  | _ => none }
def fnExactShareSeedRow : OpenClaim := { program := "ytlaelfaalgmicaa", sum := "7b437eaf05a45e968ae942158b8efa0ea72677924d9a218ab1905c64d74ef368", func := "loop.example/g01339/laws.FnExactShareSeed", spec := "fnExactShareSeed", apart := false }
def FnExactShareSeedSaid : Prop := fnExactShareSeedRow.holds Try.pinned (OpenSpec.ofChange fnExactShareSeedSpec)

/-- ITS FALSE NEIGHBOUR: 'it returns false'. Refute it at one input. -/
def fnExactShareSeedWrong : ChangeSpec := { name := "fnExactShareSeed", fn := fun _ => fun
  | [d] => { results := [.lit (.bool false)], args := [d] }
  | _ => none }
def FnExactShareSeedWrongFalsely : Prop := fnExactShareSeedRow.holds Try.pinned (OpenSpec.ofChange fnExactShareSeedWrong)

/-- 'laws.FnExactBelowSeed': WHATEVER THE INPUT: true; the input reads as it did. -/
def fnExactBelowSeedSpec : ChangeSpec := { name := "fnExactBelowSeed", fn := fun _ => fun
  | [d1, d2] => { results := [.lit (.bool true)], args := [d1, d2] }
  | _ => none }
def fnExactBelowSeedRow : OpenClaim := { program := "ytlaelfaalgmicaa", sum := "7b437eaf05a45e968ae942158b8efa0ea72677924d9a218ab1905c64d74ef368", func := "loop.example/g01339/laws.FnExactBelowSeed", spec := "fnExactBelowSeed", apart := false }
def FnExactBelowSeedSaid : Prop := fnExactBelowSeedRow.holds Try.pinned (OpenSpec.ofChange fnExactBelowSeedSpec)

/-- ITS FALSE NEIGHBOUR: 'it returns false'. Refute it at one input. -/
def fnExactBelowSeedWrong : ChangeSpec := { name := "fnExactBelowSeed", fn := fun _ => fun
  | [d1, d2] => { results := [.lit (.bool false)], args := [d1, d2] }
  | _ => none }
def FnExactBelowSeedWrongFalsely : Prop := fnExactBelowSeedRow.holds Try.pinned (OpenSpec.ofChange fnExactBelowSeedWrong)

/-- 'laws.FnExactCombineSeeds': WHATEVER THE INPUT: true; the input reads as it did. -/
def fnExactCombineSeedsSpec : ChangeSpec := { name := "fnExactCombineSeeds", fn := fun _ => fun
  | [d1, d2, d3] => { results := [.lit (.bool true)], args := [d1, d2, d3] }
  | _ => none }
def fnExactCombineSeedsRow : OpenClaim := { program := "ytlaelfaalgmicaa", sum := "7b437eaf05a45e968ae942158b8efa0ea72677924d9a218ab1905c64d74ef368", func := "loop.example/g01339/laws.FnExactCombineSeeds", spec := "fnExactCombineSeeds", apart := false }
def FnExactCombineSeedsSaid : Prop := fnExactCombineSeedsRow.holds Try.pinned (OpenSpec.ofChange fnExactCombineSeedsSpec)

/-- ITS FALSE NEIGHBOUR: 'it returns false'. Refute it at one input. -/
def fnExactCombineSeedsWrong : ChangeSpec := { name := "fnExactCombineSeeds", fn := fun _ => fun
  | [d1, d2, d3] => { results := [.lit (.bool false)], args := [d1, d2, d3] }
  | _ => none }
def FnExactCombineSeedsWrongFalsely : Prop := fnExactCombineSeedsRow.holds Try.pinned (OpenSpec.ofChange fnExactCombineSeedsWrong)

/-- 'laws.FnExactAreWords': WHATEVER THE INPUT: true; the input reads as it did. -/
def fnExactAreWordsSpec : ChangeSpec := { name := "fnExactAreWords", fn := fun _ => fun
  | [d] => { results := [.lit (.bool true)], args := [d] }
  | _ => none }
def fnExactAreWordsRow : OpenClaim := { program := "ytlaelfaalgmicaa", sum := "7b437eaf05a45e968ae942158b8efa0ea72677924d9a218ab1905c64d74ef368", func := "loop.example/g01339/laws.FnExactAreWords", spec := "fnExactAreWords", unfollowed := true, recurses := true, apart := false }
def FnExactAreWordsSaid : Prop := fnExactAreWordsRow.holds Try.pinned (OpenSpec.ofChange fnExactAreWordsSpec)

/-- ITS FALSE NEIGHBOUR: 'it returns false'. Refute it at one input. -/
def fnExactAreWordsWrong : ChangeSpec := { name := "fnExactAreWords", fn := fun _ => fun
  | [d] => { results := [.lit (.bool false)], args := [d] }
  | _ => none }
def FnExactAreWordsWrongFalsely : Prop := fnExactAreWordsRow.holds Try.pinned (OpenSpec.ofChange fnExactAreWordsWrong)

/-- 'laws.FnExactBitsOfWords': WHATEVER THE INPUT: true; the input reads as it did. -/
def fnExactBitsOfWordsSpec : ChangeSpec := { name := "fnExactBitsOfWords", fn := fun _ => fun
  | [d1, d2] => { results := [.lit (.bool true)], args := [d1, d2] }
  | _ => none }
def fnExactBitsOfWordsRow : OpenClaim := { program := "ytlaelfaalgmicaa", sum := "7b437eaf05a45e968ae942158b8efa0ea72677924d9a218ab1905c64d74ef368", func := "loop.example/g01339/laws.FnExactBitsOfWords", spec := "fnExactBitsOfWords", unfollowed := true, recurses := true, apart := false }
def FnExactBitsOfWordsSaid : Prop := fnExactBitsOfWordsRow.holds Try.pinned (OpenSpec.ofChange fnExactBitsOfWordsSpec)

/-- ITS FALSE NEIGHBOUR: 'it returns false'. Refute it at one input. -/
def fnExactBitsOfWordsWrong : ChangeSpec := { name := "fnExactBitsOfWords", fn := fun _ => fun
  | [d1, d2] => { results := [.lit (.bool false)], args := [d1, d2] }
  | _ => none }
def FnExactBitsOfWordsWrongFalsely : Prop := fnExactBitsOfWordsRow.holds Try.pinned (OpenSpec.ofChange fnExactBitsOfWordsWrong)

/-- 'laws.FnExactPairsIn': WHATEVER THE INPUT: true; the input reads as it did. -/
def fnExactPairsInSpec : ChangeSpec := { name := "fnExactPairsIn", fn := fun _ => fun
  | [d1, d2] => { results := [.lit (.bool true)], args := [d1, d2] }
  | _ => none }
def fnExactPairsInRow : OpenClaim := { program := "ytlaelfaalgmicaa", sum := "7b437eaf05a45e968ae942158b8efa0ea72677924d9a218ab1905c64d74ef368", func := "loop.example/g01339/laws.FnExactPairsIn", spec := "fnExactPairsIn", unfollowed := true, recurses := true, apart := false }
def FnExactPairsInSaid : Prop := fnExactPairsInRow.holds Try.pinned (OpenSpec.ofChange fnExactPairsInSpec)

/-- ITS FALSE NEIGHBOUR: 'it returns false'. Refute it at one input. -/
def fnExactPairsInWrong : ChangeSpec := { name := "fnExactPairsIn", fn := fun _ => fun
  | [d1, d2] => { results := [.lit (.bool false)], args := [d1, d2] }
  | _ => none }
def FnExactPairsInWrongFalsely : Prop := fnExactPairsInRow.holds Try.pinned (OpenSpec.ofChange fnExactPairsInWrong)

/-- 'laws.FnExactRunsIn': WHATEVER THE INPUT: true; the input reads as it did. -/
def fnExactRunsInSpec : ChangeSpec := { name := "fnExactRunsIn", fn := fun _ => fun
  | [d] => { results := [.lit (.bool true)], args := [d] }
  | _ => none }
def fnExactRunsInRow : OpenClaim := { program := "ytlaelfaalgmicaa", sum := "7b437eaf05a45e968ae942158b8efa0ea72677924d9a218ab1905c64d74ef368", func := "loop.example/g01339/laws.FnExactRunsIn", spec := "fnExactRunsIn", apart := false }
def FnExactRunsInSaid : Prop := fnExactRunsInRow.holds Try.pinned (OpenSpec.ofChange fnExactRunsInSpec)

/-- ITS FALSE NEIGHBOUR: 'it returns false'. Refute it at one input. -/
def fnExactRunsInWrong : ChangeSpec := { name := "fnExactRunsIn", fn := fun _ => fun
  | [d] => { results := [.lit (.bool false)], args := [d] }
  | _ => none }
def FnExactRunsInWrongFalsely : Prop := fnExactRunsInRow.holds Try.pinned (OpenSpec.ofChange fnExactRunsInWrong)

/-- 'laws.FnExactGapsIn': WHATEVER THE INPUT: true; the input reads as it did. -/
def fnExactGapsInSpec : ChangeSpec := { name := "fnExactGapsIn", fn := fun _ => fun
  | [d1, d2] => { results := [.lit (.bool true)], args := [d1, d2] }
  | _ => none }
def fnExactGapsInRow : OpenClaim := { program := "ytlaelfaalgmicaa", sum := "7b437eaf05a45e968ae942158b8efa0ea72677924d9a218ab1905c64d74ef368", func := "loop.example/g01339/laws.FnExactGapsIn", spec := "fnExactGapsIn", unfollowed := true, recurses := true, apart := false }
def FnExactGapsInSaid : Prop := fnExactGapsInRow.holds Try.pinned (OpenSpec.ofChange fnExactGapsInSpec)

/-- ITS FALSE NEIGHBOUR: 'it returns false'. Refute it at one input. -/
def fnExactGapsInWrong : ChangeSpec := { name := "fnExactGapsIn", fn := fun _ => fun
  | [d1, d2] => { results := [.lit (.bool false)], args := [d1, d2] }
  | _ => none }
def FnExactGapsInWrongFalsely : Prop := fnExactGapsInRow.holds Try.pinned (OpenSpec.ofChange fnExactGapsInWrong)

/-- 'laws.FnExactHandsIn': WHATEVER THE INPUT: true; the input reads as it did. -/
def fnExactHandsInSpec : ChangeSpec := { name := "fnExactHandsIn", fn := fun _ => fun
  | [d] => { results := [.lit (.bool true)], args := [d] }
  | _ => none }
def fnExactHandsInRow : OpenClaim := { program := "ytlaelfaalgmicaa", sum := "7b437eaf05a45e968ae942158b8efa0ea72677924d9a218ab1905c64d74ef368", func := "loop.example/g01339/laws.FnExactHandsIn", spec := "fnExactHandsIn", unfollowed := true, recurses := true, apart := false }
def FnExactHandsInSaid : Prop := fnExactHandsInRow.holds Try.pinned (OpenSpec.ofChange fnExactHandsInSpec)

/-- ITS FALSE NEIGHBOUR: 'it returns false'. Refute it at one input. -/
def fnExactHandsInWrong : ChangeSpec := { name := "fnExactHandsIn", fn := fun _ => fun
  | [d] => { results := [.lit (.bool false)], args := [d] }
  | _ => none }
def FnExactHandsInWrongFalsely : Prop := fnExactHandsInRow.holds Try.pinned (OpenSpec.ofChange fnExactHandsInWrong)

/-- 'laws.FnExactRankOfBits': WHATEVER THE INPUT: true; the input reads as it did. -/
def fnExactRankOfBitsSpec : ChangeSpec := { name := "fnExactRankOfBits", fn := fun _ => fun
  | [d] => { results := [.lit (.bool true)], args := [d] }
  | _ => none }
def fnExactRankOfBitsRow : OpenClaim := { program := "ytlaelfaalgmicaa", sum := "7b437eaf05a45e968ae942158b8efa0ea72677924d9a218ab1905c64d74ef368", func := "loop.example/g01339/laws.FnExactRankOfBits", spec := "fnExactRankOfBits", unfollowed := true, recurses := true, apart := false }
def FnExactRankOfBitsSaid : Prop := fnExactRankOfBitsRow.holds Try.pinned (OpenSpec.ofChange fnExactRankOfBitsSpec)

/-- ITS FALSE NEIGHBOUR: 'it returns false'. Refute it at one input. -/
def fnExactRankOfBitsWrong : ChangeSpec := { name := "fnExactRankOfBits", fn := fun _ => fun
  | [d] => { results := [.lit (.bool false)], args := [d] }
  | _ => none }
def FnExactRankOfBitsWrongFalsely : Prop := fnExactRankOfBitsRow.holds Try.pinned (OpenSpec.ofChange fnExactRankOfBitsWrong)

/-- 'laws.FnExactLatticeOf': WHATEVER THE INPUT: true; the input reads as it did. -/
def fnExactLatticeOfSpec : ChangeSpec := { name := "fnExactLatticeOf", fn := fun _ => fun
  | [d1, d2] => { results := [.lit (.bool true)], args := [d1, d2] }
  | _ => none }
def fnExactLatticeOfRow : OpenClaim := { program := "ytlaelfaalgmicaa", sum := "7b437eaf05a45e968ae942158b8efa0ea72677924d9a218ab1905c64d74ef368", func := "loop.example/g01339/laws.FnExactLatticeOf", spec := "fnExactLatticeOf", apart := false }
def FnExactLatticeOfSaid : Prop := fnExactLatticeOfRow.holds Try.pinned (OpenSpec.ofChange fnExactLatticeOfSpec)

/-- ITS FALSE NEIGHBOUR: 'it returns false'. Refute it at one input. -/
def fnExactLatticeOfWrong : ChangeSpec := { name := "fnExactLatticeOf", fn := fun _ => fun
  | [d1, d2] => { results := [.lit (.bool false)], args := [d1, d2] }
  | _ => none }
def FnExactLatticeOfWrongFalsely : Prop := fnExactLatticeOfRow.holds Try.pinned (OpenSpec.ofChange fnExactLatticeOfWrong)

/- THE SECOND FORM. 'bulk': how many values and letters a reading holds, each counted each time it is reached (what is shared counts as often as it is met; a slice's spare places count too). A statement '..UptoSaid' is the law's where the arguments, and the package variables that the reading takes, are together of bulk at most 1048576: NARROWER than '..Said'. Prove '..Said' where nothing that the law and all that it calls make is longer than what came in: it says more and counts as full. Else prove '..UptoSaid'. A law counts once. -/
mutual
def uptoBulk {H : Type} : DataW H → Nat
  | .lit (.string bytes) => bytes.length + 1
  | .lit _ => 1
  | .nil => 1
  | .ptr d => uptoBulk d + 1
  | .slice elems spare => uptoBulkAll elems + uptoBulkAll spare + 1
  | .agg parts => uptoBulkAll parts + 1
  | .iface _ d => uptoBulk d + 1
  | .map entries => uptoBulkEntries entries + 1
  | .held _ => 1
def uptoBulkAll {H : Type} : List (DataW H) → Nat
  | [] => 0
  | d :: r => uptoBulk d + uptoBulkAll r
def uptoBulkEntries {H : Type} : List (Lit × DataW H) → Nat
  | [] => 0
  | x :: r => uptoBulkEntry x + uptoBulkEntries r
def uptoBulkEntry {H : Type} : Lit × DataW H → Nat
  | (.string bytes, d) => bytes.length + uptoBulk d + 1
  | (_, d) => uptoBulk d + 1
 end
def uptoSmall : (H : Type) → List (DataW H) → Bool := fun _ ds => decide (uptoBulkAll ds ≤ 1048576)
def OpenSpec.upto (s : _root_.Go.ChangeSpec) : _root_.Go.OpenSpec := { _root_.Go.OpenSpec.ofChange s with cond := some uptoSmall }

/-- 'laws.FnExactSmallPeriod', WHERE WHAT IT READS IS OF BULK AT MOST 1048576: true; the input reads as it did. -/
def fnExactSmallPeriodUptoRow : OpenClaim := { program := "ytlaelfaalgmicaa", sum := "7b437eaf05a45e968ae942158b8efa0ea72677924d9a218ab1905c64d74ef368", func := "loop.example/g01339/laws.FnExactSmallPeriod", spec := "fnExactSmallPeriod", apart := false, narrowed := true }
def FnExactSmallPeriodUptoSaid : Prop := fnExactSmallPeriodUptoRow.holds Try.pinned (OpenSpec.upto fnExactSmallPeriodSpec)

/-- 'laws.FnExactValidSeed', WHERE WHAT IT READS IS OF BULK AT MOST 1048576: true; the input reads as it did. -/
def fnExactValidSeedUptoRow : OpenClaim := { program := "ytlaelfaalgmicaa", sum := "7b437eaf05a45e968ae942158b8efa0ea72677924d9a218ab1905c64d74ef368", func := "loop.example/g01339/laws.FnExactValidSeed", spec := "fnExactValidSeed", apart := false, narrowed := true }
def FnExactValidSeedUptoSaid : Prop := fnExactValidSeedUptoRow.holds Try.pinned (OpenSpec.upto fnExactValidSeedSpec)

/-- 'laws.FnExactSplitSeed', WHERE WHAT IT READS IS OF BULK AT MOST 1048576: true; the input reads as it did. -/
def fnExactSplitSeedUptoRow : OpenClaim := { program := "ytlaelfaalgmicaa", sum := "7b437eaf05a45e968ae942158b8efa0ea72677924d9a218ab1905c64d74ef368", func := "loop.example/g01339/laws.FnExactSplitSeed", spec := "fnExactSplitSeed", apart := false, narrowed := true }
def FnExactSplitSeedUptoSaid : Prop := fnExactSplitSeedUptoRow.holds Try.pinned (OpenSpec.upto fnExactSplitSeedSpec)

/-- 'laws.FnExactNextSeed', WHERE WHAT IT READS IS OF BULK AT MOST 1048576: true; the input reads as it did. -/
def fnExactNextSeedUptoRow : OpenClaim := { program := "ytlaelfaalgmicaa", sum := "7b437eaf05a45e968ae942158b8efa0ea72677924d9a218ab1905c64d74ef368", func := "loop.example/g01339/laws.FnExactNextSeed", spec := "fnExactNextSeed", apart := false, narrowed := true }
def FnExactNextSeedUptoSaid : Prop := fnExactNextSeedUptoRow.holds Try.pinned (OpenSpec.upto fnExactNextSeedSpec)

/-- 'laws.FnExactShareSeed', WHERE WHAT IT READS IS OF BULK AT MOST 1048576: true; the input reads as it did. -/
def fnExactShareSeedUptoRow : OpenClaim := { program := "ytlaelfaalgmicaa", sum := "7b437eaf05a45e968ae942158b8efa0ea72677924d9a218ab1905c64d74ef368", func := "loop.example/g01339/laws.FnExactShareSeed", spec := "fnExactShareSeed", apart := false, narrowed := true }
def FnExactShareSeedUptoSaid : Prop := fnExactShareSeedUptoRow.holds Try.pinned (OpenSpec.upto fnExactShareSeedSpec)

/-- 'laws.FnExactBelowSeed', WHERE WHAT IT READS IS OF BULK AT MOST 1048576: true; the input reads as it did. -/
def fnExactBelowSeedUptoRow : OpenClaim := { program := "ytlaelfaalgmicaa", sum := "7b437eaf05a45e968ae942158b8efa0ea72677924d9a218ab1905c64d74ef368", func := "loop.example/g01339/laws.FnExactBelowSeed", spec := "fnExactBelowSeed", apart := false, narrowed := true }
def FnExactBelowSeedUptoSaid : Prop := fnExactBelowSeedUptoRow.holds Try.pinned (OpenSpec.upto fnExactBelowSeedSpec)

/-- 'laws.FnExactCombineSeeds', WHERE WHAT IT READS IS OF BULK AT MOST 1048576: true; the input reads as it did. -/
def fnExactCombineSeedsUptoRow : OpenClaim := { program := "ytlaelfaalgmicaa", sum := "7b437eaf05a45e968ae942158b8efa0ea72677924d9a218ab1905c64d74ef368", func := "loop.example/g01339/laws.FnExactCombineSeeds", spec := "fnExactCombineSeeds", apart := false, narrowed := true }
def FnExactCombineSeedsUptoSaid : Prop := fnExactCombineSeedsUptoRow.holds Try.pinned (OpenSpec.upto fnExactCombineSeedsSpec)

/-- 'laws.FnExactAreWords', WHERE WHAT IT READS IS OF BULK AT MOST 1048576: true; the input reads as it did. -/
def fnExactAreWordsUptoRow : OpenClaim := { program := "ytlaelfaalgmicaa", sum := "7b437eaf05a45e968ae942158b8efa0ea72677924d9a218ab1905c64d74ef368", func := "loop.example/g01339/laws.FnExactAreWords", spec := "fnExactAreWords", unfollowed := true, recurses := true, apart := false, narrowed := true }
def FnExactAreWordsUptoSaid : Prop := fnExactAreWordsUptoRow.holds Try.pinned (OpenSpec.upto fnExactAreWordsSpec)

/-- 'laws.FnExactBitsOfWords', WHERE WHAT IT READS IS OF BULK AT MOST 1048576: true; the input reads as it did. -/
def fnExactBitsOfWordsUptoRow : OpenClaim := { program := "ytlaelfaalgmicaa", sum := "7b437eaf05a45e968ae942158b8efa0ea72677924d9a218ab1905c64d74ef368", func := "loop.example/g01339/laws.FnExactBitsOfWords", spec := "fnExactBitsOfWords", unfollowed := true, recurses := true, apart := false, narrowed := true }
def FnExactBitsOfWordsUptoSaid : Prop := fnExactBitsOfWordsUptoRow.holds Try.pinned (OpenSpec.upto fnExactBitsOfWordsSpec)

/-- 'laws.FnExactPairsIn', WHERE WHAT IT READS IS OF BULK AT MOST 1048576: true; the input reads as it did. -/
def fnExactPairsInUptoRow : OpenClaim := { program := "ytlaelfaalgmicaa", sum := "7b437eaf05a45e968ae942158b8efa0ea72677924d9a218ab1905c64d74ef368", func := "loop.example/g01339/laws.FnExactPairsIn", spec := "fnExactPairsIn", unfollowed := true, recurses := true, apart := false, narrowed := true }
def FnExactPairsInUptoSaid : Prop := fnExactPairsInUptoRow.holds Try.pinned (OpenSpec.upto fnExactPairsInSpec)

/-- 'laws.FnExactRunsIn', WHERE WHAT IT READS IS OF BULK AT MOST 1048576: true; the input reads as it did. -/
def fnExactRunsInUptoRow : OpenClaim := { program := "ytlaelfaalgmicaa", sum := "7b437eaf05a45e968ae942158b8efa0ea72677924d9a218ab1905c64d74ef368", func := "loop.example/g01339/laws.FnExactRunsIn", spec := "fnExactRunsIn", apart := false, narrowed := true }
def FnExactRunsInUptoSaid : Prop := fnExactRunsInUptoRow.holds Try.pinned (OpenSpec.upto fnExactRunsInSpec)

/-- 'laws.FnExactGapsIn', WHERE WHAT IT READS IS OF BULK AT MOST 1048576: true; the input reads as it did. -/
def fnExactGapsInUptoRow : OpenClaim := { program := "ytlaelfaalgmicaa", sum := "7b437eaf05a45e968ae942158b8efa0ea72677924d9a218ab1905c64d74ef368", func := "loop.example/g01339/laws.FnExactGapsIn", spec := "fnExactGapsIn", unfollowed := true, recurses := true, apart := false, narrowed := true }
def FnExactGapsInUptoSaid : Prop := fnExactGapsInUptoRow.holds Try.pinned (OpenSpec.upto fnExactGapsInSpec)

/-- 'laws.FnExactHandsIn', WHERE WHAT IT READS IS OF BULK AT MOST 1048576: true; the input reads as it did. -/
def fnExactHandsInUptoRow : OpenClaim := { program := "ytlaelfaalgmicaa", sum := "7b437eaf05a45e968ae942158b8efa0ea72677924d9a218ab1905c64d74ef368", func := "loop.example/g01339/laws.FnExactHandsIn", spec := "fnExactHandsIn", unfollowed := true, recurses := true, apart := false, narrowed := true }
def FnExactHandsInUptoSaid : Prop := fnExactHandsInUptoRow.holds Try.pinned (OpenSpec.upto fnExactHandsInSpec)

/-- 'laws.FnExactRankOfBits', WHERE WHAT IT READS IS OF BULK AT MOST 1048576: true; the input reads as it did. -/
def fnExactRankOfBitsUptoRow : OpenClaim := { program := "ytlaelfaalgmicaa", sum := "7b437eaf05a45e968ae942158b8efa0ea72677924d9a218ab1905c64d74ef368", func := "loop.example/g01339/laws.FnExactRankOfBits", spec := "fnExactRankOfBits", unfollowed := true, recurses := true, apart := false, narrowed := true }
def FnExactRankOfBitsUptoSaid : Prop := fnExactRankOfBitsUptoRow.holds Try.pinned (OpenSpec.upto fnExactRankOfBitsSpec)

/-- 'laws.FnExactLatticeOf', WHERE WHAT IT READS IS OF BULK AT MOST 1048576: true; the input reads as it did. -/
def fnExactLatticeOfUptoRow : OpenClaim := { program := "ytlaelfaalgmicaa", sum := "7b437eaf05a45e968ae942158b8efa0ea72677924d9a218ab1905c64d74ef368", func := "loop.example/g01339/laws.FnExactLatticeOf", spec := "fnExactLatticeOf", apart := false, narrowed := true }
def FnExactLatticeOfUptoSaid : Prop := fnExactLatticeOfUptoRow.holds Try.pinned (OpenSpec.upto fnExactLatticeOfSpec)

end Rows
end Go.Proofs.Ytlaelfaalgmicaa
