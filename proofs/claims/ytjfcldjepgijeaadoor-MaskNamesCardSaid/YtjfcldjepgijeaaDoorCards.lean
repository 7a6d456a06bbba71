/-
  DERIVED. GIVEN WITH THE SEED: THE CARDS: each row of YtjfcldjepgijeaaDoorRows.lean that lists a variable, with what it lists TIED to the program's text (the seventh form; the later family's looks); each row that meets fmt, with fmt's text TOLD by the authors' own Lean function (tested against real Go, not proved from fmt's source: count such statements apart). THE CARD IS WHAT COUNTS. Prove the row's statement (the work); the ties are given (YtjfcldjepgijeaaDoorTie.lean); close each card by the builder's one call (the guide's Derived/Test/ToyasCard.lean, 'card_holds'). Laid BY PROGRAM, IN A SANDBOX (cutbox-door.mjs). By AI agents, Wed Nov 11 2026. No macro, syntax, notation, axiom, sorry.
-/
import Derived.Test.YtjfcldjepgijeaaDoorRows
import GoSem.ClaimSeven
namespace Go.Proofs.YtjfcldjepgijeaaDoor
namespace Rows

/-- THE TIED CARD OF 'postmarklaw08.MaskSums'. -/
def maskSumsCard : Claim7 := { stood := { row := maskSumsRow, standIns := [], harness := (true, "2567d9bd8d8694cff0d73e00d5989f40e088b1f7b8ea74a393e5d511bac5076a"), looks := false }, kinds := [], alts := [], laidByText := true, laidKinds := [.data, .data, .data, .data, .data, .data, .data, .data], laidTests := true, laidLooks := .later }
def MaskSumsCardSaid : Prop := Claim7.holds Tryd.pinned (.plain (OpenSpec.ofChange maskSumsSpec)) maskSumsCard

/-- THE TIED CARD OF 'postmarklaw08.MaskPieces'. -/
def maskPiecesCard : Claim7 := { stood := { row := maskPiecesRow, standIns := [], harness := (true, "2567d9bd8d8694cff0d73e00d5989f40e088b1f7b8ea74a393e5d511bac5076a"), looks := false }, kinds := [], alts := [], laidByText := true, laidKinds := [.data, .data, .data, .data, .data, .data, .data, .data], laidTests := true, laidLooks := .later }
def MaskPiecesCardSaid : Prop := Claim7.holds Tryd.pinned (.plain (OpenSpec.ofChange maskPiecesSpec)) maskPiecesCard

/-- THE TIED CARD OF 'postmarklaw08.MaskBegins'. -/
def maskBeginsCard : Claim7 := { stood := { row := maskBeginsRow, standIns := [], harness := (true, "2567d9bd8d8694cff0d73e00d5989f40e088b1f7b8ea74a393e5d511bac5076a"), looks := false }, kinds := [], alts := [], laidByText := true, laidKinds := [.data, .data, .data, .data, .data, .data, .data, .data], laidTests := true, laidLooks := .later }
def MaskBeginsCardSaid : Prop := Claim7.holds Tryd.pinned (.plain (OpenSpec.ofChange maskBeginsSpec)) maskBeginsCard

/-- THE TIED CARD OF 'postmarklaw08.MaskApart'. -/
def maskApartCard : Claim7 := { stood := { row := maskApartRow, standIns := [], harness := (true, "2567d9bd8d8694cff0d73e00d5989f40e088b1f7b8ea74a393e5d511bac5076a"), looks := false }, kinds := [], alts := [], laidByText := true, laidKinds := [.data, .data, .data, .data, .data, .data, .data, .data], laidTests := true, laidLooks := .later }
def MaskApartCardSaid : Prop := Claim7.holds Tryd.pinned (.plain (OpenSpec.ofChange maskApartSpec)) maskApartCard

/-- THE TIED CARD OF 'postmarklaw08.MaskNames'. -/
def maskNamesCard : Claim7 := { stood := { row := maskNamesRow, standIns := [], harness := (true, "2567d9bd8d8694cff0d73e00d5989f40e088b1f7b8ea74a393e5d511bac5076a"), looks := false }, kinds := [], alts := [], laidByText := true, laidKinds := [.data, .data, .data, .data, .data, .data, .data, .data], laidTests := true, laidLooks := .later }
def MaskNamesCardSaid : Prop := Claim7.holds Tryd.pinned (.plain (OpenSpec.ofChange maskNamesSpec)) maskNamesCard

/-- THE SECOND FORM's CARD OF 'postmarklaw08.MaskSums'. -/
def maskSumsUptoCard : Claim7 := { stood := { row := maskSumsUptoRow, standIns := [], harness := (true, "2567d9bd8d8694cff0d73e00d5989f40e088b1f7b8ea74a393e5d511bac5076a"), looks := false }, kinds := [], alts := [], laidByText := true, laidKinds := [.data, .data, .data, .data, .data, .data, .data, .data], laidTests := true, laidLooks := .later }
def MaskSumsUptoCardSaid : Prop := Claim7.holds Tryd.pinned (.plain (OpenSpec.upto maskSumsSpec)) maskSumsUptoCard

/-- THE SECOND FORM's CARD OF 'postmarklaw08.MaskPieces'. -/
def maskPiecesUptoCard : Claim7 := { stood := { row := maskPiecesUptoRow, standIns := [], harness := (true, "2567d9bd8d8694cff0d73e00d5989f40e088b1f7b8ea74a393e5d511bac5076a"), looks := false }, kinds := [], alts := [], laidByText := true, laidKinds := [.data, .data, .data, .data, .data, .data, .data, .data], laidTests := true, laidLooks := .later }
def MaskPiecesUptoCardSaid : Prop := Claim7.holds Tryd.pinned (.plain (OpenSpec.upto maskPiecesSpec)) maskPiecesUptoCard

/-- THE SECOND FORM's CARD OF 'postmarklaw08.MaskBegins'. -/
def maskBeginsUptoCard : Claim7 := { stood := { row := maskBeginsUptoRow, standIns := [], harness := (true, "2567d9bd8d8694cff0d73e00d5989f40e088b1f7b8ea74a393e5d511bac5076a"), looks := false }, kinds := [], alts := [], laidByText := true, laidKinds := [.data, .data, .data, .data, .data, .data, .data, .data], laidTests := true, laidLooks := .later }
def MaskBeginsUptoCardSaid : Prop := Claim7.holds Tryd.pinned (.plain (OpenSpec.upto maskBeginsSpec)) maskBeginsUptoCard

/-- THE SECOND FORM's CARD OF 'postmarklaw08.MaskApart'. -/
def maskApartUptoCard : Claim7 := { stood := { row := maskApartUptoRow, standIns := [], harness := (true, "2567d9bd8d8694cff0d73e00d5989f40e088b1f7b8ea74a393e5d511bac5076a"), looks := false }, kinds := [], alts := [], laidByText := true, laidKinds := [.data, .data, .data, .data, .data, .data, .data, .data], laidTests := true, laidLooks := .later }
def MaskApartUptoCardSaid : Prop := Claim7.holds Tryd.pinned (.plain (OpenSpec.upto maskApartSpec)) maskApartUptoCard

/-- THE SECOND FORM's CARD OF 'postmarklaw08.MaskNames'. -/
def maskNamesUptoCard : Claim7 := { stood := { row := maskNamesUptoRow, standIns := [], harness := (true, "2567d9bd8d8694cff0d73e00d5989f40e088b1f7b8ea74a393e5d511bac5076a"), looks := false }, kinds := [], alts := [], laidByText := true, laidKinds := [.data, .data, .data, .data, .data, .data, .data, .data], laidTests := true, laidLooks := .later }
def MaskNamesUptoCardSaid : Prop := Claim7.holds Tryd.pinned (.plain (OpenSpec.upto maskNamesSpec)) maskNamesUptoCard
end Rows
end Go.Proofs.YtjfcldjepgijeaaDoor
