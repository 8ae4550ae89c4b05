/-
  No cell of these rows narrows 'for every input' (looked for: loops, veiled, ifaces, maps, wideKeys, modest, calm, conditions, laid).
  DERIVED. THE GIVEN ROWS OF THIS SEAT. 6 by the template 'for every input the law returns true; each argument reads behind the call as it read before'; 0 by the template 'total and deterministic' (their statements: YtkimeddfdcjlpaaTotals.lean).
  GIVEN WITH THE SEED: the statements are not yours to turn. If you find one false, say at which input.
  Laid BY PROGRAM, IN A SANDBOX (cutbox-rows.mjs): the forced cells as the released guide's own fill.sh prints them over the translation 3ad77955b5f79b92… (all of the seat's roots in one cut). By AI agents, Wed Nov 11 2026. No macro, syntax, notation, axiom, sorry.
-/
import Derived.Test.YtkimeddfdcjlpaaChecked
import GoSem.Claim
import GoSem.ClaimJoined
import GoSem.ClaimMapViews
import Derived.JoinedTies
import Derived.KernelRfl
namespace Go.Proofs.Ytkimeddfdcjlpaa
/- THE CELL 'sum', in the pinned program and in every row, IS THE sha256 OF THE DUMP (.gsa) THAT YtkimeddfdcjlpaaProg.lean LOADS. Nothing in Lean hashes anything: it is a label: what it is worth is what the hold of that sum in a sandbox is worth. -/
noncomputable def Try.pinned : Pinned := { name := "ytkimeddfdcjlpaa", sum := "3ad77955b5f79b921ed83c0eaeaffc794da58f195fc20a3b116bd59aeefd385b", checked := Try.checked }
namespace Rows
def none {H : Type} : Left H := { results := [], args := [] }

/-- 'laws.FnExactSetText': WHATEVER THE INPUT: true; the input reads as it did. -/
def fnExactSetTextSpec : ChangeSpec := { name := "fnExactSetText", fn := fun _ => fun
  | [d1, d2] => { results := [.lit (.bool true)], args := [d1, d2] }
  | _ => none }
def fnExactSetTextRow : OpenClaim := { program := "ytkimeddfdcjlpaa", sum := "3ad77955b5f79b921ed83c0eaeaffc794da58f195fc20a3b116bd59aeefd385b", func := "loop.example/s01474/laws.FnExactSetText", spec := "fnExactSetText", unfollowed := true, recurses := true, apart := false }
def FnExactSetTextSaid : Prop := fnExactSetTextRow.holds Try.pinned (OpenSpec.ofChange fnExactSetTextSpec)

/-- ITS FALSE NEIGHBOUR: 'it returns false'. Refute it at one input. -/
def fnExactSetTextWrong : ChangeSpec := { name := "fnExactSetText", fn := fun _ => fun
  | [d1, d2] => { results := [.lit (.bool false)], args := [d1, d2] }
  | _ => none }
def FnExactSetTextWrongFalsely : Prop := fnExactSetTextRow.holds Try.pinned (OpenSpec.ofChange fnExactSetTextWrong)

/-- 'laws.FnExactLayout': WHATEVER THE INPUT: true; the input reads as it did. -/
def fnExactLayoutSpec : ChangeSpec := { name := "fnExactLayout", fn := fun _ => fun
  | [d1, d2, d3, d4] => { results := [.lit (.bool true)], args := [d1, d2, d3, d4] }
  | _ => none }
def fnExactLayoutRow : OpenClaim := { program := "ytkimeddfdcjlpaa", sum := "3ad77955b5f79b921ed83c0eaeaffc794da58f195fc20a3b116bd59aeefd385b", func := "loop.example/s01474/laws.FnExactLayout", spec := "fnExactLayout", unfollowed := true, recurses := true, apart := false }
def FnExactLayoutSaid : Prop := fnExactLayoutRow.holds Try.pinned (OpenSpec.ofChange fnExactLayoutSpec)

/-- ITS FALSE NEIGHBOUR: 'it returns false'. Refute it at one input. -/
def fnExactLayoutWrong : ChangeSpec := { name := "fnExactLayout", fn := fun _ => fun
  | [d1, d2, d3, d4] => { results := [.lit (.bool false)], args := [d1, d2, d3, d4] }
  | _ => none }
def FnExactLayoutWrongFalsely : Prop := fnExactLayoutRow.holds Try.pinned (OpenSpec.ofChange fnExactLayoutWrong)

/-- 'laws.FnExactSessionOk': WHATEVER THE INPUT: true; the input reads as it did. -/
def fnExactSessionOkSpec : ChangeSpec := { name := "fnExactSessionOk", fn := fun _ => fun
  | [d] => { results := [.lit (.bool true)], args := [d] }
  | _ => none }
def fnExactSessionOkRow : OpenClaim := { program := "ytkimeddfdcjlpaa", sum := "3ad77955b5f79b921ed83c0eaeaffc794da58f195fc20a3b116bd59aeefd385b", func := "loop.example/s01474/laws.FnExactSessionOk", spec := "fnExactSessionOk", unfollowed := true, recurses := true, apart := false }
def FnExactSessionOkSaid : Prop := fnExactSessionOkRow.holds Try.pinned (OpenSpec.ofChange fnExactSessionOkSpec)

/-- ITS FALSE NEIGHBOUR: 'it returns false'. Refute it at one input. -/
def fnExactSessionOkWrong : ChangeSpec := { name := "fnExactSessionOk", fn := fun _ => fun
  | [d] => { results := [.lit (.bool false)], args := [d] }
  | _ => none }
def FnExactSessionOkWrongFalsely : Prop := fnExactSessionOkRow.holds Try.pinned (OpenSpec.ofChange fnExactSessionOkWrong)

/-- 'laws.FnExactLatest': WHATEVER THE INPUT: true; the input reads as it did. -/
def fnExactLatestSpec : ChangeSpec := { name := "fnExactLatest", fn := fun _ => fun
  | [d1, d2] => { results := [.lit (.bool true)], args := [d1, d2] }
  | _ => none }
def fnExactLatestRow : OpenClaim := { program := "ytkimeddfdcjlpaa", sum := "3ad77955b5f79b921ed83c0eaeaffc794da58f195fc20a3b116bd59aeefd385b", func := "loop.example/s01474/laws.FnExactLatest", spec := "fnExactLatest", inPlace := ["internal/bytealg.IndexByteString", "internal/bytealg.IndexString"], unfollowed := true, recurses := true, named := ["internal/bytealg.MaxLen"], apart := false }
def FnExactLatestSaid : Prop := fnExactLatestRow.holds Try.pinned (OpenSpec.ofChange fnExactLatestSpec)

/-- ITS FALSE NEIGHBOUR: 'it returns false'. Refute it at one input. -/
def fnExactLatestWrong : ChangeSpec := { name := "fnExactLatest", fn := fun _ => fun
  | [d1, d2] => { results := [.lit (.bool false)], args := [d1, d2] }
  | _ => none }
def FnExactLatestWrongFalsely : Prop := fnExactLatestRow.holds Try.pinned (OpenSpec.ofChange fnExactLatestWrong)

/-- 'laws.FnExactAdd': WHATEVER THE INPUT: true; the input reads as it did. -/
def fnExactAddSpec : ChangeSpec := { name := "fnExactAdd", fn := fun _ => fun
  | [d1, d2] => { results := [.lit (.bool true)], args := [d1, d2] }
  | _ => none }
def fnExactAddRow : OpenClaim := { program := "ytkimeddfdcjlpaa", sum := "3ad77955b5f79b921ed83c0eaeaffc794da58f195fc20a3b116bd59aeefd385b", func := "loop.example/s01474/laws.FnExactAdd", spec := "fnExactAdd", unfollowed := true, recurses := true, apart := false }
def FnExactAddSaid : Prop := fnExactAddRow.holds Try.pinned (OpenSpec.ofChange fnExactAddSpec)

/-- ITS FALSE NEIGHBOUR: 'it returns false'. Refute it at one input. -/
def fnExactAddWrong : ChangeSpec := { name := "fnExactAdd", fn := fun _ => fun
  | [d1, d2] => { results := [.lit (.bool false)], args := [d1, d2] }
  | _ => none }
def FnExactAddWrongFalsely : Prop := fnExactAddRow.holds Try.pinned (OpenSpec.ofChange fnExactAddWrong)

/-- 'laws.FnExactEdit': WHATEVER THE INPUT: true; the input reads as it did. -/
def fnExactEditSpec : ChangeSpec := { name := "fnExactEdit", fn := fun _ => fun
  | [d1, d2] => { results := [.lit (.bool true)], args := [d1, d2] }
  | _ => none }
def fnExactEditRow : OpenClaim := { program := "ytkimeddfdcjlpaa", sum := "3ad77955b5f79b921ed83c0eaeaffc794da58f195fc20a3b116bd59aeefd385b", func := "loop.example/s01474/laws.FnExactEdit", spec := "fnExactEdit", unfollowed := true, recurses := true, apart := false }
def FnExactEditSaid : Prop := fnExactEditRow.holds Try.pinned (OpenSpec.ofChange fnExactEditSpec)

/-- ITS FALSE NEIGHBOUR: 'it returns false'. Refute it at one input. -/
def fnExactEditWrong : ChangeSpec := { name := "fnExactEdit", fn := fun _ => fun
  | [d1, d2] => { results := [.lit (.bool false)], args := [d1, d2] }
  | _ => none }
def FnExactEditWrongFalsely : Prop := fnExactEditRow.holds Try.pinned (OpenSpec.ofChange fnExactEditWrong)

/- THE SECOND FORM. 'bulk': how many values and letters a reading holds, each counted each time it is reached (what is shared counts as often as it is met; a slice's spare places count too). A statement '..UptoSaid' is the law's where the arguments, and the package variables that the reading takes, are together of bulk at most 1048576: NARROWER than '..Said'. Prove '..Said' where nothing that the law and all that it calls make is longer than what came in: it says more and counts as full. Else prove '..UptoSaid'. A law counts once. -/
mutual
def uptoBulk {H : Type} : DataW H → Nat
  | .lit (.string bytes) => bytes.length + 1
  | .lit _ => 1
  | .nil => 1
  | .ptr d => uptoBulk d + 1
  | .slice elems spare => uptoBulkAll elems + uptoBulkAll spare + 1
  | .agg parts => uptoBulkAll parts + 1
  | .iface _ d => uptoBulk d + 1
  | .map entries => uptoBulkEntries entries + 1
  | .held _ => 1
def uptoBulkAll {H : Type} : List (DataW H) → Nat
  | [] => 0
  | d :: r => uptoBulk d + uptoBulkAll r
def uptoBulkEntries {H : Type} : List (Lit × DataW H) → Nat
  | [] => 0
  | x :: r => uptoBulkEntry x + uptoBulkEntries r
def uptoBulkEntry {H : Type} : Lit × DataW H → Nat
  | (.string bytes, d) => bytes.length + uptoBulk d + 1
  | (_, d) => uptoBulk d + 1
 end
def uptoSmall : (H : Type) → List (DataW H) → Bool := fun _ ds => decide (uptoBulkAll ds ≤ 1048576)
def OpenSpec.upto (s : _root_.Go.ChangeSpec) : _root_.Go.OpenSpec := { _root_.Go.OpenSpec.ofChange s with cond := some uptoSmall }

/-- 'laws.FnExactSetText', WHERE WHAT IT READS IS OF BULK AT MOST 1048576: true; the input reads as it did. -/
def fnExactSetTextUptoRow : OpenClaim := { program := "ytkimeddfdcjlpaa", sum := "3ad77955b5f79b921ed83c0eaeaffc794da58f195fc20a3b116bd59aeefd385b", func := "loop.example/s01474/laws.FnExactSetText", spec := "fnExactSetText", unfollowed := true, recurses := true, apart := false, narrowed := true }
def FnExactSetTextUptoSaid : Prop := fnExactSetTextUptoRow.holds Try.pinned (OpenSpec.upto fnExactSetTextSpec)

/-- 'laws.FnExactLayout', WHERE WHAT IT READS IS OF BULK AT MOST 1048576: true; the input reads as it did. -/
def fnExactLayoutUptoRow : OpenClaim := { program := "ytkimeddfdcjlpaa", sum := "3ad77955b5f79b921ed83c0eaeaffc794da58f195fc20a3b116bd59aeefd385b", func := "loop.example/s01474/laws.FnExactLayout", spec := "fnExactLayout", unfollowed := true, recurses := true, apart := false, narrowed := true }
def FnExactLayoutUptoSaid : Prop := fnExactLayoutUptoRow.holds Try.pinned (OpenSpec.upto fnExactLayoutSpec)

/-- 'laws.FnExactSessionOk', WHERE WHAT IT READS IS OF BULK AT MOST 1048576: true; the input reads as it did. -/
def fnExactSessionOkUptoRow : OpenClaim := { program := "ytkimeddfdcjlpaa", sum := "3ad77955b5f79b921ed83c0eaeaffc794da58f195fc20a3b116bd59aeefd385b", func := "loop.example/s01474/laws.FnExactSessionOk", spec := "fnExactSessionOk", unfollowed := true, recurses := true, apart := false, narrowed := true }
def FnExactSessionOkUptoSaid : Prop := fnExactSessionOkUptoRow.holds Try.pinned (OpenSpec.upto fnExactSessionOkSpec)

/-- 'laws.FnExactLatest', WHERE WHAT IT READS IS OF BULK AT MOST 1048576: true; the input reads as it did. -/
def fnExactLatestUptoRow : OpenClaim := { program := "ytkimeddfdcjlpaa", sum := "3ad77955b5f79b921ed83c0eaeaffc794da58f195fc20a3b116bd59aeefd385b", func := "loop.example/s01474/laws.FnExactLatest", spec := "fnExactLatest", inPlace := ["internal/bytealg.IndexByteString", "internal/bytealg.IndexString"], unfollowed := true, recurses := true, named := ["internal/bytealg.MaxLen"], apart := false, narrowed := true }
def FnExactLatestUptoSaid : Prop := fnExactLatestUptoRow.holds Try.pinned (OpenSpec.upto fnExactLatestSpec)

/-- 'laws.FnExactAdd', WHERE WHAT IT READS IS OF BULK AT MOST 1048576: true; the input reads as it did. -/
def fnExactAddUptoRow : OpenClaim := { program := "ytkimeddfdcjlpaa", sum := "3ad77955b5f79b921ed83c0eaeaffc794da58f195fc20a3b116bd59aeefd385b", func := "loop.example/s01474/laws.FnExactAdd", spec := "fnExactAdd", unfollowed := true, recurses := true, apart := false, narrowed := true }
def FnExactAddUptoSaid : Prop := fnExactAddUptoRow.holds Try.pinned (OpenSpec.upto fnExactAddSpec)

/-- 'laws.FnExactEdit', WHERE WHAT IT READS IS OF BULK AT MOST 1048576: true; the input reads as it did. -/
def fnExactEditUptoRow : OpenClaim := { program := "ytkimeddfdcjlpaa", sum := "3ad77955b5f79b921ed83c0eaeaffc794da58f195fc20a3b116bd59aeefd385b", func := "loop.example/s01474/laws.FnExactEdit", spec := "fnExactEdit", unfollowed := true, recurses := true, apart := false, narrowed := true }
def FnExactEditUptoSaid : Prop := fnExactEditUptoRow.holds Try.pinned (OpenSpec.upto fnExactEditSpec)

end Rows
end Go.Proofs.Ytkimeddfdcjlpaa
