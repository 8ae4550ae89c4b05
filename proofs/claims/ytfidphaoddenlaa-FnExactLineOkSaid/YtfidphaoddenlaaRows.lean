/-
  No cell of these rows narrows 'for every input' (looked for: loops, veiled, ifaces, maps, wideKeys, modest, calm, conditions, laid).
  DERIVED. THE GIVEN ROWS OF THIS SEAT. 10 by the template 'for every input the law returns true; each argument reads behind the call as it read before'; 0 by the template 'total and deterministic' (their statements: YtfidphaoddenlaaTotals.lean).
  GIVEN WITH THE SEED: the statements are not yours to turn. If you find one false, say at which input.
  Laid BY PROGRAM, IN A SANDBOX (cutbox-rows.mjs): the forced cells as the released guide's own fill.sh prints them over the translation 807630457a1f6136… (all of the seat's roots in one cut). By AI agents, Wed Nov 11 2026. No macro, syntax, notation, axiom, sorry.
-/
import Derived.Test.YtfidphaoddenlaaChecked
import GoSem.Claim
import GoSem.ClaimJoined
import GoSem.ClaimMapViews
import Derived.JoinedTies
import Derived.KernelRfl
namespace Go.Proofs.Ytfidphaoddenlaa
/- THE CELL 'sum', in the pinned program and in every row, IS THE sha256 OF THE DUMP (.gsa) THAT YtfidphaoddenlaaProg.lean LOADS. Nothing in Lean hashes anything: it is a label: what it is worth is what the hold of that sum in a sandbox is worth. -/
noncomputable def Try.pinned : Pinned := { name := "ytfidphaoddenlaa", sum := "807630457a1f6136c170478a026874637ab1e943026a4ba7860b3997d4805d4b", checked := Try.checked }
namespace Rows
def none {H : Type} : Left H := { results := [], args := [] }

/-- 'laws.FnExactTextOf': WHATEVER THE INPUT: true; the input reads as it did. -/
def fnExactTextOfSpec : ChangeSpec := { name := "fnExactTextOf", fn := fun _ => fun
  | [d] => { results := [.lit (.bool true)], args := [d] }
  | _ => none }
def fnExactTextOfRow : OpenClaim := { program := "ytfidphaoddenlaa", sum := "807630457a1f6136c170478a026874637ab1e943026a4ba7860b3997d4805d4b", func := "loop.example/s01474/laws.FnExactTextOf", spec := "fnExactTextOf", apart := false }
def FnExactTextOfSaid : Prop := fnExactTextOfRow.holds Try.pinned (OpenSpec.ofChange fnExactTextOfSpec)

/-- ITS FALSE NEIGHBOUR: 'it returns false'. Refute it at one input. -/
def fnExactTextOfWrong : ChangeSpec := { name := "fnExactTextOf", fn := fun _ => fun
  | [d] => { results := [.lit (.bool false)], args := [d] }
  | _ => none }
def FnExactTextOfWrongFalsely : Prop := fnExactTextOfRow.holds Try.pinned (OpenSpec.ofChange fnExactTextOfWrong)

/-- 'laws.FnExactClean': WHATEVER THE INPUT: true; the input reads as it did. -/
def fnExactCleanSpec : ChangeSpec := { name := "fnExactClean", fn := fun _ => fun
  | [d] => { results := [.lit (.bool true)], args := [d] }
  | _ => none }
def fnExactCleanRow : OpenClaim := { program := "ytfidphaoddenlaa", sum := "807630457a1f6136c170478a026874637ab1e943026a4ba7860b3997d4805d4b", func := "loop.example/s01474/laws.FnExactClean", spec := "fnExactClean", apart := false }
def FnExactCleanSaid : Prop := fnExactCleanRow.holds Try.pinned (OpenSpec.ofChange fnExactCleanSpec)

/-- ITS FALSE NEIGHBOUR: 'it returns false'. Refute it at one input. -/
def fnExactCleanWrong : ChangeSpec := { name := "fnExactClean", fn := fun _ => fun
  | [d] => { results := [.lit (.bool false)], args := [d] }
  | _ => none }
def FnExactCleanWrongFalsely : Prop := fnExactCleanRow.holds Try.pinned (OpenSpec.ofChange fnExactCleanWrong)

/-- 'laws.FnExactTick': WHATEVER THE INPUT: true; the input reads as it did. -/
def fnExactTickSpec : ChangeSpec := { name := "fnExactTick", fn := fun _ => fun
  | [d] => { results := [.lit (.bool true)], args := [d] }
  | _ => none }
def fnExactTickRow : OpenClaim := { program := "ytfidphaoddenlaa", sum := "807630457a1f6136c170478a026874637ab1e943026a4ba7860b3997d4805d4b", func := "loop.example/s01474/laws.FnExactTick", spec := "fnExactTick", apart := false }
def FnExactTickSaid : Prop := fnExactTickRow.holds Try.pinned (OpenSpec.ofChange fnExactTickSpec)

/-- ITS FALSE NEIGHBOUR: 'it returns false'. Refute it at one input. -/
def fnExactTickWrong : ChangeSpec := { name := "fnExactTick", fn := fun _ => fun
  | [d] => { results := [.lit (.bool false)], args := [d] }
  | _ => none }
def FnExactTickWrongFalsely : Prop := fnExactTickRow.holds Try.pinned (OpenSpec.ofChange fnExactTickWrong)

/-- 'laws.FnExactClusters': WHATEVER THE INPUT: true; the input reads as it did. -/
def fnExactClustersSpec : ChangeSpec := { name := "fnExactClusters", fn := fun _ => fun
  | [d] => { results := [.lit (.bool true)], args := [d] }
  | _ => none }
def fnExactClustersRow : OpenClaim := { program := "ytfidphaoddenlaa", sum := "807630457a1f6136c170478a026874637ab1e943026a4ba7860b3997d4805d4b", func := "loop.example/s01474/laws.FnExactClusters", spec := "fnExactClusters", unfollowed := true, recurses := true, apart := false }
def FnExactClustersSaid : Prop := fnExactClustersRow.holds Try.pinned (OpenSpec.ofChange fnExactClustersSpec)

/-- ITS FALSE NEIGHBOUR: 'it returns false'. Refute it at one input. -/
def fnExactClustersWrong : ChangeSpec := { name := "fnExactClusters", fn := fun _ => fun
  | [d] => { results := [.lit (.bool false)], args := [d] }
  | _ => none }
def FnExactClustersWrongFalsely : Prop := fnExactClustersRow.holds Try.pinned (OpenSpec.ofChange fnExactClustersWrong)

/-- 'laws.FnExactWrap': WHATEVER THE INPUT: true; the input reads as it did. -/
def fnExactWrapSpec : ChangeSpec := { name := "fnExactWrap", fn := fun _ => fun
  | [d1, d2] => { results := [.lit (.bool true)], args := [d1, d2] }
  | _ => none }
def fnExactWrapRow : OpenClaim := { program := "ytfidphaoddenlaa", sum := "807630457a1f6136c170478a026874637ab1e943026a4ba7860b3997d4805d4b", func := "loop.example/s01474/laws.FnExactWrap", spec := "fnExactWrap", apart := false }
def FnExactWrapSaid : Prop := fnExactWrapRow.holds Try.pinned (OpenSpec.ofChange fnExactWrapSpec)

/-- ITS FALSE NEIGHBOUR: 'it returns false'. Refute it at one input. -/
def fnExactWrapWrong : ChangeSpec := { name := "fnExactWrap", fn := fun _ => fun
  | [d1, d2] => { results := [.lit (.bool false)], args := [d1, d2] }
  | _ => none }
def FnExactWrapWrongFalsely : Prop := fnExactWrapRow.holds Try.pinned (OpenSpec.ofChange fnExactWrapWrong)

/-- 'laws.FnExactNewScreen': WHATEVER THE INPUT: true; the input reads as it did. -/
def fnExactNewScreenSpec : ChangeSpec := { name := "fnExactNewScreen", fn := fun _ => fun
  | [d1, d2] => { results := [.lit (.bool true)], args := [d1, d2] }
  | _ => none }
def fnExactNewScreenRow : OpenClaim := { program := "ytfidphaoddenlaa", sum := "807630457a1f6136c170478a026874637ab1e943026a4ba7860b3997d4805d4b", func := "loop.example/s01474/laws.FnExactNewScreen", spec := "fnExactNewScreen", apart := false }
def FnExactNewScreenSaid : Prop := fnExactNewScreenRow.holds Try.pinned (OpenSpec.ofChange fnExactNewScreenSpec)

/-- ITS FALSE NEIGHBOUR: 'it returns false'. Refute it at one input. -/
def fnExactNewScreenWrong : ChangeSpec := { name := "fnExactNewScreen", fn := fun _ => fun
  | [d1, d2] => { results := [.lit (.bool false)], args := [d1, d2] }
  | _ => none }
def FnExactNewScreenWrongFalsely : Prop := fnExactNewScreenRow.holds Try.pinned (OpenSpec.ofChange fnExactNewScreenWrong)

/-- 'laws.FnExactSettle': WHATEVER THE INPUT: true; the input reads as it did. -/
def fnExactSettleSpec : ChangeSpec := { name := "fnExactSettle", fn := fun _ => fun
  | [d] => { results := [.lit (.bool true)], args := [d] }
  | _ => none }
def fnExactSettleRow : OpenClaim := { program := "ytfidphaoddenlaa", sum := "807630457a1f6136c170478a026874637ab1e943026a4ba7860b3997d4805d4b", func := "loop.example/s01474/laws.FnExactSettle", spec := "fnExactSettle", unfollowed := true, recurses := true, apart := false }
def FnExactSettleSaid : Prop := fnExactSettleRow.holds Try.pinned (OpenSpec.ofChange fnExactSettleSpec)

/-- ITS FALSE NEIGHBOUR: 'it returns false'. Refute it at one input. -/
def fnExactSettleWrong : ChangeSpec := { name := "fnExactSettle", fn := fun _ => fun
  | [d] => { results := [.lit (.bool false)], args := [d] }
  | _ => none }
def FnExactSettleWrongFalsely : Prop := fnExactSettleRow.holds Try.pinned (OpenSpec.ofChange fnExactSettleWrong)

/-- 'laws.FnExactScreenOk': WHATEVER THE INPUT: true; the input reads as it did. -/
def fnExactScreenOkSpec : ChangeSpec := { name := "fnExactScreenOk", fn := fun _ => fun
  | [d] => { results := [.lit (.bool true)], args := [d] }
  | _ => none }
def fnExactScreenOkRow : OpenClaim := { program := "ytfidphaoddenlaa", sum := "807630457a1f6136c170478a026874637ab1e943026a4ba7860b3997d4805d4b", func := "loop.example/s01474/laws.FnExactScreenOk", spec := "fnExactScreenOk", apart := false }
def FnExactScreenOkSaid : Prop := fnExactScreenOkRow.holds Try.pinned (OpenSpec.ofChange fnExactScreenOkSpec)

/-- ITS FALSE NEIGHBOUR: 'it returns false'. Refute it at one input. -/
def fnExactScreenOkWrong : ChangeSpec := { name := "fnExactScreenOk", fn := fun _ => fun
  | [d] => { results := [.lit (.bool false)], args := [d] }
  | _ => none }
def FnExactScreenOkWrongFalsely : Prop := fnExactScreenOkRow.holds Try.pinned (OpenSpec.ofChange fnExactScreenOkWrong)

/-- 'laws.FnExactHistoryOk': WHATEVER THE INPUT: true; the input reads as it did. -/
def fnExactHistoryOkSpec : ChangeSpec := { name := "fnExactHistoryOk", fn := fun _ => fun
  | [d] => { results := [.lit (.bool true)], args := [d] }
  | _ => none }
def fnExactHistoryOkRow : OpenClaim := { program := "ytfidphaoddenlaa", sum := "807630457a1f6136c170478a026874637ab1e943026a4ba7860b3997d4805d4b", func := "loop.example/s01474/laws.FnExactHistoryOk", spec := "fnExactHistoryOk", unfollowed := true, recurses := true, apart := false }
def FnExactHistoryOkSaid : Prop := fnExactHistoryOkRow.holds Try.pinned (OpenSpec.ofChange fnExactHistoryOkSpec)

/-- ITS FALSE NEIGHBOUR: 'it returns false'. Refute it at one input. -/
def fnExactHistoryOkWrong : ChangeSpec := { name := "fnExactHistoryOk", fn := fun _ => fun
  | [d] => { results := [.lit (.bool false)], args := [d] }
  | _ => none }
def FnExactHistoryOkWrongFalsely : Prop := fnExactHistoryOkRow.holds Try.pinned (OpenSpec.ofChange fnExactHistoryOkWrong)

/-- 'laws.FnExactLineOk': WHATEVER THE INPUT: true; the input reads as it did. -/
def fnExactLineOkSpec : ChangeSpec := { name := "fnExactLineOk", fn := fun _ => fun
  | [d] => { results := [.lit (.bool true)], args := [d] }
  | _ => none }
def fnExactLineOkRow : OpenClaim := { program := "ytfidphaoddenlaa", sum := "807630457a1f6136c170478a026874637ab1e943026a4ba7860b3997d4805d4b", func := "loop.example/s01474/laws.FnExactLineOk", spec := "fnExactLineOk", unfollowed := true, recurses := true, apart := false }
def FnExactLineOkSaid : Prop := fnExactLineOkRow.holds Try.pinned (OpenSpec.ofChange fnExactLineOkSpec)

/-- ITS FALSE NEIGHBOUR: 'it returns false'. Refute it at one input. -/
def fnExactLineOkWrong : ChangeSpec := { name := "fnExactLineOk", fn := fun _ => fun
  | [d] => { results := [.lit (.bool false)], args := [d] }
  | _ => none }
def FnExactLineOkWrongFalsely : Prop := fnExactLineOkRow.holds Try.pinned (OpenSpec.ofChange fnExactLineOkWrong)

/- THE SECOND FORM. 'bulk': how many values and letters a reading holds, each counted each time it is reached (what is shared counts as often as it is met; a slice's spare places count too). A statement '..UptoSaid' is the law's where the arguments, and the package variables that the reading takes, are together of bulk at most 1048576: NARROWER than '..Said'. Prove '..Said' where nothing that the law and all that it calls make is longer than what came in: it says more and counts as full. Else prove '..UptoSaid'. A law counts once. -/
mutual
def uptoBulk {H : Type} : DataW H → Nat
  | .lit (.string bytes) => bytes.length + 1
  | .lit _ => 1
  | .nil => 1
  | .ptr d => uptoBulk d + 1
  | .slice elems spare => uptoBulkAll elems + uptoBulkAll spare + 1
  | .agg parts => uptoBulkAll parts + 1
  | .iface _ d => uptoBulk d + 1
  | .map entries => uptoBulkEntries entries + 1
  | .held _ => 1
def uptoBulkAll {H : Type} : List (DataW H) → Nat
  | [] => 0
  | d :: r => uptoBulk d + uptoBulkAll r
def uptoBulkEntries {H : Type} : List (Lit × DataW H) → Nat
  | [] => 0
  | x :: r => uptoBulkEntry x + uptoBulkEntries r
def uptoBulkEntry {H : Type} : Lit × DataW H → Nat
  | (.string bytes, d) => bytes.length + uptoBulk d + 1
  | (_, d) => uptoBulk d + 1
 end
def uptoSmall : (H : Type) → List (DataW H) → Bool := fun _ ds => decide (uptoBulkAll ds ≤ 1048576)
def OpenSpec.upto (s : _root_.Go.ChangeSpec) : _root_.Go.OpenSpec := { _root_.Go.OpenSpec.ofChange s with cond := some uptoSmall }

/-- 'laws.FnExactTextOf', WHERE WHAT IT READS IS OF BULK AT MOST 1048576: true; the input reads as it did. -/
def fnExactTextOfUptoRow : OpenClaim := { program := "ytfidphaoddenlaa", sum := "807630457a1f6136c170478a026874637ab1e943026a4ba7860b3997d4805d4b", func := "loop.example/s01474/laws.FnExactTextOf", spec := "fnExactTextOf", apart := false, narrowed := true }
def FnExactTextOfUptoSaid : Prop := fnExactTextOfUptoRow.holds Try.pinned (OpenSpec.upto fnExactTextOfSpec)

/-- 'laws.FnExactClean', WHERE WHAT IT READS IS OF BULK AT MOST 1048576: true; the input reads as it did. -/
def fnExactCleanUptoRow : OpenClaim := { program := "ytfidphaoddenlaa", sum := "807630457a1f6136c170478a026874637ab1e943026a4ba7860b3997d4805d4b", func := "loop.example/s01474/laws.FnExactClean", spec := "fnExactClean", apart := false, narrowed := true }
def FnExactCleanUptoSaid : Prop := fnExactCleanUptoRow.holds Try.pinned (OpenSpec.upto fnExactCleanSpec)

/-- 'laws.FnExactTick', WHERE WHAT IT READS IS OF BULK AT MOST 1048576: true; the input reads as it did. -/
def fnExactTickUptoRow : OpenClaim := { program := "ytfidphaoddenlaa", sum := "807630457a1f6136c170478a026874637ab1e943026a4ba7860b3997d4805d4b", func := "loop.example/s01474/laws.FnExactTick", spec := "fnExactTick", apart := false, narrowed := true }
def FnExactTickUptoSaid : Prop := fnExactTickUptoRow.holds Try.pinned (OpenSpec.upto fnExactTickSpec)

/-- 'laws.FnExactClusters', WHERE WHAT IT READS IS OF BULK AT MOST 1048576: true; the input reads as it did. -/
def fnExactClustersUptoRow : OpenClaim := { program := "ytfidphaoddenlaa", sum := "807630457a1f6136c170478a026874637ab1e943026a4ba7860b3997d4805d4b", func := "loop.example/s01474/laws.FnExactClusters", spec := "fnExactClusters", unfollowed := true, recurses := true, apart := false, narrowed := true }
def FnExactClustersUptoSaid : Prop := fnExactClustersUptoRow.holds Try.pinned (OpenSpec.upto fnExactClustersSpec)

/-- 'laws.FnExactWrap', WHERE WHAT IT READS IS OF BULK AT MOST 1048576: true; the input reads as it did. -/
def fnExactWrapUptoRow : OpenClaim := { program := "ytfidphaoddenlaa", sum := "807630457a1f6136c170478a026874637ab1e943026a4ba7860b3997d4805d4b", func := "loop.example/s01474/laws.FnExactWrap", spec := "fnExactWrap", apart := false, narrowed := true }
def FnExactWrapUptoSaid : Prop := fnExactWrapUptoRow.holds Try.pinned (OpenSpec.upto fnExactWrapSpec)

/-- 'laws.FnExactNewScreen', WHERE WHAT IT READS IS OF BULK AT MOST 1048576: true; the input reads as it did. -/
def fnExactNewScreenUptoRow : OpenClaim := { program := "ytfidphaoddenlaa", sum := "807630457a1f6136c170478a026874637ab1e943026a4ba7860b3997d4805d4b", func := "loop.example/s01474/laws.FnExactNewScreen", spec := "fnExactNewScreen", apart := false, narrowed := true }
def FnExactNewScreenUptoSaid : Prop := fnExactNewScreenUptoRow.holds Try.pinned (OpenSpec.upto fnExactNewScreenSpec)

/-- 'laws.FnExactSettle', WHERE WHAT IT READS IS OF BULK AT MOST 1048576: true; the input reads as it did. -/
def fnExactSettleUptoRow : OpenClaim := { program := "ytfidphaoddenlaa", sum := "807630457a1f6136c170478a026874637ab1e943026a4ba7860b3997d4805d4b", func := "loop.example/s01474/laws.FnExactSettle", spec := "fnExactSettle", unfollowed := true, recurses := true, apart := false, narrowed := true }
def FnExactSettleUptoSaid : Prop := fnExactSettleUptoRow.holds Try.pinned (OpenSpec.upto fnExactSettleSpec)

/-- 'laws.FnExactScreenOk', WHERE WHAT IT READS IS OF BULK AT MOST 1048576: true; the input reads as it did. -/
def fnExactScreenOkUptoRow : OpenClaim := { program := "ytfidphaoddenlaa", sum := "807630457a1f6136c170478a026874637ab1e943026a4ba7860b3997d4805d4b", func := "loop.example/s01474/laws.FnExactScreenOk", spec := "fnExactScreenOk", apart := false, narrowed := true }
def FnExactScreenOkUptoSaid : Prop := fnExactScreenOkUptoRow.holds Try.pinned (OpenSpec.upto fnExactScreenOkSpec)

/-- 'laws.FnExactHistoryOk', WHERE WHAT IT READS IS OF BULK AT MOST 1048576: true; the input reads as it did. -/
def fnExactHistoryOkUptoRow : OpenClaim := { program := "ytfidphaoddenlaa", sum := "807630457a1f6136c170478a026874637ab1e943026a4ba7860b3997d4805d4b", func := "loop.example/s01474/laws.FnExactHistoryOk", spec := "fnExactHistoryOk", unfollowed := true, recurses := true, apart := false, narrowed := true }
def FnExactHistoryOkUptoSaid : Prop := fnExactHistoryOkUptoRow.holds Try.pinned (OpenSpec.upto fnExactHistoryOkSpec)

/-- 'laws.FnExactLineOk', WHERE WHAT IT READS IS OF BULK AT MOST 1048576: true; the input reads as it did. -/
def fnExactLineOkUptoRow : OpenClaim := { program := "ytfidphaoddenlaa", sum := "807630457a1f6136c170478a026874637ab1e943026a4ba7860b3997d4805d4b", func := "loop.example/s01474/laws.FnExactLineOk", spec := "fnExactLineOk", unfollowed := true, recurses := true, apart := false, narrowed := true }
def FnExactLineOkUptoSaid : Prop := fnExactLineOkUptoRow.holds Try.pinned (OpenSpec.upto fnExactLineOkSpec)

end Rows
end Go.Proofs.Ytfidphaoddenlaa
