/-
  DERIVED. GIVEN WITH THE SEED: THE CARDS: each row of YtjnjmbenbbcdjaaDoorRows.lean that lists a variable, with what it lists TIED to the program's text (the seventh form; the later family's looks); each row that meets fmt, with fmt's text TOLD by the authors' own Lean function (tested against real Go, not proved from fmt's source: count such statements apart). THE CARD IS WHAT COUNTS. Prove the row's statement (the work); the ties are given (YtjnjmbenbbcdjaaDoorTie.lean); close each card by the builder's one call (the guide's Derived/Test/ToyasCard.lean, 'card_holds'). Laid BY PROGRAM, IN A SANDBOX (cutbox-door.mjs). By AI agents, Wed Nov 11 2026. No macro, syntax, notation, axiom, sorry.
-/
import Derived.Test.YtjnjmbenbbcdjaaDoorRows
import GoSem.ClaimSeven
namespace Go.Proofs.YtjnjmbenbbcdjaaDoor
namespace Rows

/-- THE TIED CARD OF 'laws.FnExactErase'. -/
def fnExactEraseCard : Claim7 := { stood := { row := fnExactEraseRow, standIns := [], harness := (true, "c5f77f3e2daffa01a68d69958fc99a08b5ca15bffaef421ce578d34be1c3b2d1"), looks := false }, kinds := [], alts := [], laidByText := true, laidKinds := [.data, .data, .data], laidTests := true, laidLooks := .later }
def FnExactEraseCardSaid : Prop := Claim7.holds Tryd.pinned (.plain (OpenSpec.ofChange fnExactEraseSpec)) fnExactEraseCard

/-- THE TIED CARD OF 'laws.FnExactPaint'. -/
def fnExactPaintCard : Claim7 := { stood := { row := fnExactPaintRow, standIns := [], harness := (true, "c5f77f3e2daffa01a68d69958fc99a08b5ca15bffaef421ce578d34be1c3b2d1"), looks := false }, kinds := [], alts := [], laidByText := true, laidKinds := [.data, .data, .data], laidTests := true, laidLooks := .later }
def FnExactPaintCardSaid : Prop := Claim7.holds Tryd.pinned (.plain (OpenSpec.ofChange fnExactPaintSpec)) fnExactPaintCard

/-- THE TIED CARD OF 'laws.FnExactRedraw'. -/
def fnExactRedrawCard : Claim7 := { stood := { row := fnExactRedrawRow, standIns := [], harness := (true, "c5f77f3e2daffa01a68d69958fc99a08b5ca15bffaef421ce578d34be1c3b2d1"), looks := false }, kinds := [], alts := [], laidByText := true, laidKinds := [.data, .data, .data], laidTests := true, laidLooks := .later }
def FnExactRedrawCardSaid : Prop := Claim7.holds Tryd.pinned (.plain (OpenSpec.ofChange fnExactRedrawSpec)) fnExactRedrawCard

/-- THE TIED CARD OF 'laws.FnExactLines'. -/
def fnExactLinesCard : Claim7 := { stood := { row := fnExactLinesRow, standIns := [], harness := (true, "c5f77f3e2daffa01a68d69958fc99a08b5ca15bffaef421ce578d34be1c3b2d1"), looks := false }, kinds := [], alts := [], laidByText := true, laidKinds := [.data, .pinned], laidTests := true, laidLooks := .later }
def FnExactLinesCardSaid : Prop := Claim7.holds Tryd.pinned (.plain (OpenSpec.ofChange fnExactLinesSpec)) fnExactLinesCard

/-- THE TIED CARD OF 'laws.FnExactResize'. -/
def fnExactResizeCard : Claim7 := { stood := { row := fnExactResizeRow, standIns := [], harness := (true, "c5f77f3e2daffa01a68d69958fc99a08b5ca15bffaef421ce578d34be1c3b2d1"), looks := false }, kinds := [], alts := [], laidByText := true, laidKinds := [.data, .pinned], laidTests := true, laidLooks := .later }
def FnExactResizeCardSaid : Prop := Claim7.holds Tryd.pinned (.plain (OpenSpec.ofChange fnExactResizeSpec)) fnExactResizeCard

/-- THE TIED CARD OF 'laws.FnExactReadKeys'. -/
def fnExactReadKeysCard : Claim7 := { stood := { row := fnExactReadKeysRow, standIns := [], harness := (true, "c5f77f3e2daffa01a68d69958fc99a08b5ca15bffaef421ce578d34be1c3b2d1"), looks := false }, kinds := [], alts := [], laidByText := true, laidKinds := [.data, .pinned], laidTests := true, laidLooks := .later }
def FnExactReadKeysCardSaid : Prop := Claim7.holds Tryd.pinned (.plain (OpenSpec.ofChange fnExactReadKeysSpec)) fnExactReadKeysCard

/-- THE SECOND FORM's CARD OF 'laws.FnExactErase'. -/
def fnExactEraseUptoCard : Claim7 := { stood := { row := fnExactEraseUptoRow, standIns := [], harness := (true, "c5f77f3e2daffa01a68d69958fc99a08b5ca15bffaef421ce578d34be1c3b2d1"), looks := false }, kinds := [], alts := [], laidByText := true, laidKinds := [.data, .data, .data], laidTests := true, laidLooks := .later }
def FnExactEraseUptoCardSaid : Prop := Claim7.holds Tryd.pinned (.plain (OpenSpec.upto fnExactEraseSpec)) fnExactEraseUptoCard

/-- THE SECOND FORM's CARD OF 'laws.FnExactPaint'. -/
def fnExactPaintUptoCard : Claim7 := { stood := { row := fnExactPaintUptoRow, standIns := [], harness := (true, "c5f77f3e2daffa01a68d69958fc99a08b5ca15bffaef421ce578d34be1c3b2d1"), looks := false }, kinds := [], alts := [], laidByText := true, laidKinds := [.data, .data, .data], laidTests := true, laidLooks := .later }
def FnExactPaintUptoCardSaid : Prop := Claim7.holds Tryd.pinned (.plain (OpenSpec.upto fnExactPaintSpec)) fnExactPaintUptoCard

/-- THE SECOND FORM's CARD OF 'laws.FnExactRedraw'. -/
def fnExactRedrawUptoCard : Claim7 := { stood := { row := fnExactRedrawUptoRow, standIns := [], harness := (true, "c5f77f3e2daffa01a68d69958fc99a08b5ca15bffaef421ce578d34be1c3b2d1"), looks := false }, kinds := [], alts := [], laidByText := true, laidKinds := [.data, .data, .data], laidTests := true, laidLooks := .later }
def FnExactRedrawUptoCardSaid : Prop := Claim7.holds Tryd.pinned (.plain (OpenSpec.upto fnExactRedrawSpec)) fnExactRedrawUptoCard

/-- THE SECOND FORM's CARD OF 'laws.FnExactLines'. -/
def fnExactLinesUptoCard : Claim7 := { stood := { row := fnExactLinesUptoRow, standIns := [], harness := (true, "c5f77f3e2daffa01a68d69958fc99a08b5ca15bffaef421ce578d34be1c3b2d1"), looks := false }, kinds := [], alts := [], laidByText := true, laidKinds := [.data, .pinned], laidTests := true, laidLooks := .later }
def FnExactLinesUptoCardSaid : Prop := Claim7.holds Tryd.pinned (.plain (OpenSpec.upto fnExactLinesSpec)) fnExactLinesUptoCard

/-- THE SECOND FORM's CARD OF 'laws.FnExactResize'. -/
def fnExactResizeUptoCard : Claim7 := { stood := { row := fnExactResizeUptoRow, standIns := [], harness := (true, "c5f77f3e2daffa01a68d69958fc99a08b5ca15bffaef421ce578d34be1c3b2d1"), looks := false }, kinds := [], alts := [], laidByText := true, laidKinds := [.data, .pinned], laidTests := true, laidLooks := .later }
def FnExactResizeUptoCardSaid : Prop := Claim7.holds Tryd.pinned (.plain (OpenSpec.upto fnExactResizeSpec)) fnExactResizeUptoCard

/-- THE SECOND FORM's CARD OF 'laws.FnExactReadKeys'. -/
def fnExactReadKeysUptoCard : Claim7 := { stood := { row := fnExactReadKeysUptoRow, standIns := [], harness := (true, "c5f77f3e2daffa01a68d69958fc99a08b5ca15bffaef421ce578d34be1c3b2d1"), looks := false }, kinds := [], alts := [], laidByText := true, laidKinds := [.data, .pinned], laidTests := true, laidLooks := .later }
def FnExactReadKeysUptoCardSaid : Prop := Claim7.holds Tryd.pinned (.plain (OpenSpec.upto fnExactReadKeysSpec)) fnExactReadKeysUptoCard
end Rows
end Go.Proofs.YtjnjmbenbbcdjaaDoor
