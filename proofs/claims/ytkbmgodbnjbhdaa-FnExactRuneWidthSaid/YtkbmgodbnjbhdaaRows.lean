/-
  No cell of these rows narrows 'for every input' (looked for: loops, veiled, ifaces, maps, wideKeys, modest, calm, conditions, laid).
  DERIVED. THE GIVEN ROWS OF THIS SEAT. 6 by the template 'for every input the law returns true; each argument reads behind the call as it read before'; 0 by the template 'total and deterministic' (their statements: YtkbmgodbnjbhdaaTotals.lean).
  GIVEN WITH THE SEED: the statements are not yours to turn. If you find one false, say at which input.
  Laid BY PROGRAM, IN A SANDBOX (cutbox-rows.mjs): the forced cells as the released guide's own fill.sh prints them over the translation 0070fd757664679c… (all of the seat's roots in one cut). By AI agents, Wed Nov 11 2026. No macro, syntax, notation, axiom, sorry.
-/
import Derived.Test.YtkbmgodbnjbhdaaChecked
import GoSem.Claim
import GoSem.ClaimJoined
import GoSem.ClaimMapViews
import Derived.JoinedTies
import Derived.KernelRfl
namespace Go.Proofs.Ytkbmgodbnjbhdaa
/- THE CELL 'sum', in the pinned program and in every row, IS THE sha256 OF THE DUMP (.gsa) THAT YtkbmgodbnjbhdaaProg.lean LOADS. Nothing in Lean hashes anything: it is a label: what it is worth is what the hold of that sum in a sandbox is worth. -/
noncomputable def Try.pinned : Pinned := { name := "ytkbmgodbnjbhdaa", sum := "0070fd757664679cedc2aa122ba7d14c28b3a0b6dda760e171b21c02a4ed6a9a", checked := Try.checked }
namespace Rows
def none {H : Type} : Left H := { results := [], args := [] }

/-- 'laws.FnExactConstants': WHATEVER THE INPUT: true; the input reads as it did. -/
def fnExactConstantsSpec : ChangeSpec := { name := "fnExactConstants", fn := fun _ => fun
  | [] => { results := [.lit (.bool true)], args := [] }
  | _ => none }
def fnExactConstantsRow : OpenClaim := { program := "ytkbmgodbnjbhdaa", sum := "0070fd757664679cedc2aa122ba7d14c28b3a0b6dda760e171b21c02a4ed6a9a", func := "loop.example/s01474/laws.FnExactConstants", spec := "fnExactConstants", apart := false }
def FnExactConstantsSaid : Prop := fnExactConstantsRow.holds Try.pinned (OpenSpec.ofChange fnExactConstantsSpec)

/-- ITS FALSE NEIGHBOUR: 'it returns false'. Refute it at one input. -/
def fnExactConstantsWrong : ChangeSpec := { name := "fnExactConstants", fn := fun _ => fun
  | [] => { results := [.lit (.bool false)], args := [] }
  | _ => none }
def FnExactConstantsWrongFalsely : Prop := fnExactConstantsRow.holds Try.pinned (OpenSpec.ofChange fnExactConstantsWrong)

/-- 'laws.FnExactRuneWidth': WHATEVER THE INPUT: true; the input reads as it did. -/
def fnExactRuneWidthSpec : ChangeSpec := { name := "fnExactRuneWidth", fn := fun _ => fun
  | [d] => { results := [.lit (.bool true)], args := [d] }
  | _ => none }
def fnExactRuneWidthRow : OpenClaim := { program := "ytkbmgodbnjbhdaa", sum := "0070fd757664679cedc2aa122ba7d14c28b3a0b6dda760e171b21c02a4ed6a9a", func := "loop.example/s01474/laws.FnExactRuneWidth", spec := "fnExactRuneWidth", unfollowed := true, recurses := true, apart := false }
def FnExactRuneWidthSaid : Prop := fnExactRuneWidthRow.holds Try.pinned (OpenSpec.ofChange fnExactRuneWidthSpec)

/-- ITS FALSE NEIGHBOUR: 'it returns false'. Refute it at one input. -/
def fnExactRuneWidthWrong : ChangeSpec := { name := "fnExactRuneWidth", fn := fun _ => fun
  | [d] => { results := [.lit (.bool false)], args := [d] }
  | _ => none }
def FnExactRuneWidthWrongFalsely : Prop := fnExactRuneWidthRow.holds Try.pinned (OpenSpec.ofChange fnExactRuneWidthWrong)

/-- 'laws.FnExactTextOf': WHATEVER THE INPUT: true; the input reads as it did. -/
def fnExactTextOfSpec : ChangeSpec := { name := "fnExactTextOf", fn := fun _ => fun
  | [d] => { results := [.lit (.bool true)], args := [d] }
  | _ => none }
def fnExactTextOfRow : OpenClaim := { program := "ytkbmgodbnjbhdaa", sum := "0070fd757664679cedc2aa122ba7d14c28b3a0b6dda760e171b21c02a4ed6a9a", func := "loop.example/s01474/laws.FnExactTextOf", spec := "fnExactTextOf", apart := false }
def FnExactTextOfSaid : Prop := fnExactTextOfRow.holds Try.pinned (OpenSpec.ofChange fnExactTextOfSpec)

/-- ITS FALSE NEIGHBOUR: 'it returns false'. Refute it at one input. -/
def fnExactTextOfWrong : ChangeSpec := { name := "fnExactTextOf", fn := fun _ => fun
  | [d] => { results := [.lit (.bool false)], args := [d] }
  | _ => none }
def FnExactTextOfWrongFalsely : Prop := fnExactTextOfRow.holds Try.pinned (OpenSpec.ofChange fnExactTextOfWrong)

/-- 'laws.FnExactClean': WHATEVER THE INPUT: true; the input reads as it did. -/
def fnExactCleanSpec : ChangeSpec := { name := "fnExactClean", fn := fun _ => fun
  | [d] => { results := [.lit (.bool true)], args := [d] }
  | _ => none }
def fnExactCleanRow : OpenClaim := { program := "ytkbmgodbnjbhdaa", sum := "0070fd757664679cedc2aa122ba7d14c28b3a0b6dda760e171b21c02a4ed6a9a", func := "loop.example/s01474/laws.FnExactClean", spec := "fnExactClean", apart := false }
def FnExactCleanSaid : Prop := fnExactCleanRow.holds Try.pinned (OpenSpec.ofChange fnExactCleanSpec)

/-- ITS FALSE NEIGHBOUR: 'it returns false'. Refute it at one input. -/
def fnExactCleanWrong : ChangeSpec := { name := "fnExactClean", fn := fun _ => fun
  | [d] => { results := [.lit (.bool false)], args := [d] }
  | _ => none }
def FnExactCleanWrongFalsely : Prop := fnExactCleanRow.holds Try.pinned (OpenSpec.ofChange fnExactCleanWrong)

/-- 'laws.FnExactTick': WHATEVER THE INPUT: true; the input reads as it did. -/
def fnExactTickSpec : ChangeSpec := { name := "fnExactTick", fn := fun _ => fun
  | [d] => { results := [.lit (.bool true)], args := [d] }
  | _ => none }
def fnExactTickRow : OpenClaim := { program := "ytkbmgodbnjbhdaa", sum := "0070fd757664679cedc2aa122ba7d14c28b3a0b6dda760e171b21c02a4ed6a9a", func := "loop.example/s01474/laws.FnExactTick", spec := "fnExactTick", apart := false }
def FnExactTickSaid : Prop := fnExactTickRow.holds Try.pinned (OpenSpec.ofChange fnExactTickSpec)

/-- ITS FALSE NEIGHBOUR: 'it returns false'. Refute it at one input. -/
def fnExactTickWrong : ChangeSpec := { name := "fnExactTick", fn := fun _ => fun
  | [d] => { results := [.lit (.bool false)], args := [d] }
  | _ => none }
def FnExactTickWrongFalsely : Prop := fnExactTickRow.holds Try.pinned (OpenSpec.ofChange fnExactTickWrong)

/-- 'laws.FnExactClusters': WHATEVER THE INPUT: true; the input reads as it did. -/
def fnExactClustersSpec : ChangeSpec := { name := "fnExactClusters", fn := fun _ => fun
  | [d] => { results := [.lit (.bool true)], args := [d] }
  | _ => none }
def fnExactClustersRow : OpenClaim := { program := "ytkbmgodbnjbhdaa", sum := "0070fd757664679cedc2aa122ba7d14c28b3a0b6dda760e171b21c02a4ed6a9a", func := "loop.example/s01474/laws.FnExactClusters", spec := "fnExactClusters", unfollowed := true, recurses := true, apart := false }
def FnExactClustersSaid : Prop := fnExactClustersRow.holds Try.pinned (OpenSpec.ofChange fnExactClustersSpec)

/-- ITS FALSE NEIGHBOUR: 'it returns false'. Refute it at one input. -/
def fnExactClustersWrong : ChangeSpec := { name := "fnExactClusters", fn := fun _ => fun
  | [d] => { results := [.lit (.bool false)], args := [d] }
  | _ => none }
def FnExactClustersWrongFalsely : Prop := fnExactClustersRow.holds Try.pinned (OpenSpec.ofChange fnExactClustersWrong)

/- THE SECOND FORM. 'bulk': how many values and letters a reading holds, each counted each time it is reached (what is shared counts as often as it is met; a slice's spare places count too). A statement '..UptoSaid' is the law's where the arguments, and the package variables that the reading takes, are together of bulk at most 1048576: NARROWER than '..Said'. Prove '..Said' where nothing that the law and all that it calls make is longer than what came in: it says more and counts as full. Else prove '..UptoSaid'. A law counts once. -/
mutual
def uptoBulk {H : Type} : DataW H → Nat
  | .lit (.string bytes) => bytes.length + 1
  | .lit _ => 1
  | .nil => 1
  | .ptr d => uptoBulk d + 1
  | .slice elems spare => uptoBulkAll elems + uptoBulkAll spare + 1
  | .agg parts => uptoBulkAll parts + 1
  | .iface _ d => uptoBulk d + 1
  | .map entries => uptoBulkEntries entries + 1
  | .held _ => 1
def uptoBulkAll {H : Type} : List (DataW H) → Nat
  | [] => 0
  | d :: r => uptoBulk d + uptoBulkAll r
def uptoBulkEntries {H : Type} : List (Lit × DataW H) → Nat
  | [] => 0
  | x :: r => uptoBulkEntry x + uptoBulkEntries r
def uptoBulkEntry {H : Type} : Lit × DataW H → Nat
  | (.string bytes, d) => bytes.length + uptoBulk d + 1
  | (_, d) => uptoBulk d + 1
 end
def uptoSmall : (H : Type) → List (DataW H) → Bool := fun _ ds => decide (uptoBulkAll ds ≤ 1048576)
def OpenSpec.upto (s : _root_.Go.ChangeSpec) : _root_.Go.OpenSpec := { _root_.Go.OpenSpec.ofChange s with cond := some uptoSmall }

/-- 'laws.FnExactConstants', WHERE WHAT IT READS IS OF BULK AT MOST 1048576: true; the input reads as it did. -/
def fnExactConstantsUptoRow : OpenClaim := { program := "ytkbmgodbnjbhdaa", sum := "0070fd757664679cedc2aa122ba7d14c28b3a0b6dda760e171b21c02a4ed6a9a", func := "loop.example/s01474/laws.FnExactConstants", spec := "fnExactConstants", apart := false, narrowed := true }
def FnExactConstantsUptoSaid : Prop := fnExactConstantsUptoRow.holds Try.pinned (OpenSpec.upto fnExactConstantsSpec)

/-- 'laws.FnExactRuneWidth', WHERE WHAT IT READS IS OF BULK AT MOST 1048576: true; the input reads as it did. -/
def fnExactRuneWidthUptoRow : OpenClaim := { program := "ytkbmgodbnjbhdaa", sum := "0070fd757664679cedc2aa122ba7d14c28b3a0b6dda760e171b21c02a4ed6a9a", func := "loop.example/s01474/laws.FnExactRuneWidth", spec := "fnExactRuneWidth", unfollowed := true, recurses := true, apart := false, narrowed := true }
def FnExactRuneWidthUptoSaid : Prop := fnExactRuneWidthUptoRow.holds Try.pinned (OpenSpec.upto fnExactRuneWidthSpec)

/-- 'laws.FnExactTextOf', WHERE WHAT IT READS IS OF BULK AT MOST 1048576: true; the input reads as it did. -/
def fnExactTextOfUptoRow : OpenClaim := { program := "ytkbmgodbnjbhdaa", sum := "0070fd757664679cedc2aa122ba7d14c28b3a0b6dda760e171b21c02a4ed6a9a", func := "loop.example/s01474/laws.FnExactTextOf", spec := "fnExactTextOf", apart := false, narrowed := true }
def FnExactTextOfUptoSaid : Prop := fnExactTextOfUptoRow.holds Try.pinned (OpenSpec.upto fnExactTextOfSpec)

/-- 'laws.FnExactClean', WHERE WHAT IT READS IS OF BULK AT MOST 1048576: true; the input reads as it did. -/
def fnExactCleanUptoRow : OpenClaim := { program := "ytkbmgodbnjbhdaa", sum := "0070fd757664679cedc2aa122ba7d14c28b3a0b6dda760e171b21c02a4ed6a9a", func := "loop.example/s01474/laws.FnExactClean", spec := "fnExactClean", apart := false, narrowed := true }
def FnExactCleanUptoSaid : Prop := fnExactCleanUptoRow.holds Try.pinned (OpenSpec.upto fnExactCleanSpec)

/-- 'laws.FnExactTick', WHERE WHAT IT READS IS OF BULK AT MOST 1048576: true; the input reads as it did. -/
def fnExactTickUptoRow : OpenClaim := { program := "ytkbmgodbnjbhdaa", sum := "0070fd757664679cedc2aa122ba7d14c28b3a0b6dda760e171b21c02a4ed6a9a", func := "loop.example/s01474/laws.FnExactTick", spec := "fnExactTick", apart := false, narrowed := true }
def FnExactTickUptoSaid : Prop := fnExactTickUptoRow.holds Try.pinned (OpenSpec.upto fnExactTickSpec)

/-- 'laws.FnExactClusters', WHERE WHAT IT READS IS OF BULK AT MOST 1048576: true; the input reads as it did. -/
def fnExactClustersUptoRow : OpenClaim := { program := "ytkbmgodbnjbhdaa", sum := "0070fd757664679cedc2aa122ba7d14c28b3a0b6dda760e171b21c02a4ed6a9a", func := "loop.example/s01474/laws.FnExactClusters", spec := "fnExactClusters", unfollowed := true, recurses := true, apart := false, narrowed := true }
def FnExactClustersUptoSaid : Prop := fnExactClustersUptoRow.holds Try.pinned (OpenSpec.upto fnExactClustersSpec)

end Rows
end Go.Proofs.Ytkbmgodbnjbhdaa
