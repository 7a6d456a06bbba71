/-
  DERIVED. GIVEN WITH THE SEED: THE CARDS: each row of YtcjcnpjedmpghaaDoorRows.lean that lists a variable, with what it lists TIED to the program's text (the seventh form; the later family's looks); each row that meets fmt, with fmt's text TOLD by the authors' own Lean function (tested against real Go, not proved from fmt's source: count such statements apart). THE CARD IS WHAT COUNTS. Prove the row's statement (the work); the ties are given (YtcjcnpjedmpghaaDoorTie.lean); close each card by the builder's one call (the guide's Derived/Test/ToyasCard.lean, 'card_holds'). Laid BY PROGRAM, IN A SANDBOX (cutbox-door.mjs). By AI agents, Wed Nov 11 2026. No macro, syntax, notation, axiom, sorry.
-/
import Derived.Test.YtcjcnpjedmpghaaDoorRows
import GoSem.ClaimSeven
namespace Go.Proofs.YtcjcnpjedmpghaaDoor
namespace Rows

/-- THE TIED CARD OF 'postmarklaw05.Sha512Sums'. -/
def sha512SumsCard : Claim7 := { stood := { row := sha512SumsRow, standIns := [], harness := (true, "b426a627295f4174cbb65139e61c57b919603db9a39ba4dfb23768827b6eb701"), looks := false }, kinds := [], alts := [], laidByText := true, laidKinds := [.data, .data], laidTests := true, laidLooks := .later }
def Sha512SumsCardSaid : Prop := Claim7.holds Tryd.pinned (.plain (OpenSpec.ofChange sha512SumsSpec)) sha512SumsCard

/-- THE TIED CARD OF 'postmarklaw05.Sha512Names'. -/
def sha512NamesCard : Claim7 := { stood := { row := sha512NamesRow, standIns := [], harness := (true, "b426a627295f4174cbb65139e61c57b919603db9a39ba4dfb23768827b6eb701"), looks := false }, kinds := [], alts := [], laidByText := true, laidKinds := [.data, .data], laidTests := true, laidLooks := .later }
def Sha512NamesCardSaid : Prop := Claim7.holds Tryd.pinned (.plain (OpenSpec.ofChange sha512NamesSpec)) sha512NamesCard

/-- THE TIED CARD OF 'postmarklaw05.Sha512Pieces'. -/
def sha512PiecesCard : Claim7 := { stood := { row := sha512PiecesRow, standIns := [], harness := (true, "b426a627295f4174cbb65139e61c57b919603db9a39ba4dfb23768827b6eb701"), looks := false }, kinds := [], alts := [], laidByText := true, laidKinds := [.data, .data], laidTests := true, laidLooks := .later }
def Sha512PiecesCardSaid : Prop := Claim7.holds Tryd.pinned (.plain (OpenSpec.ofChange sha512PiecesSpec)) sha512PiecesCard

/-- THE TIED CARD OF 'postmarklaw05.Sha512Copies'. -/
def sha512CopiesCard : Claim7 := { stood := { row := sha512CopiesRow, standIns := [], harness := (true, "b426a627295f4174cbb65139e61c57b919603db9a39ba4dfb23768827b6eb701"), looks := false }, kinds := [], alts := [], laidByText := true, laidKinds := [.data, .data], laidTests := true, laidLooks := .later }
def Sha512CopiesCardSaid : Prop := Claim7.holds Tryd.pinned (.plain (OpenSpec.ofChange sha512CopiesSpec)) sha512CopiesCard

/-- THE TIED CARD OF 'postmarklaw05.Sha512Empty'. -/
def sha512EmptyCard : Claim7 := { stood := { row := sha512EmptyRow, standIns := [], harness := (true, "b426a627295f4174cbb65139e61c57b919603db9a39ba4dfb23768827b6eb701"), looks := false }, kinds := [], alts := [], laidByText := true, laidKinds := [.data, .data], laidTests := true, laidLooks := .later }
def Sha512EmptyCardSaid : Prop := Claim7.holds Tryd.pinned (.plain (OpenSpec.ofChange sha512EmptySpec)) sha512EmptyCard

/-- THE SECOND FORM's CARD OF 'postmarklaw05.Sha512Sums'. -/
def sha512SumsUptoCard : Claim7 := { stood := { row := sha512SumsUptoRow, standIns := [], harness := (true, "b426a627295f4174cbb65139e61c57b919603db9a39ba4dfb23768827b6eb701"), looks := false }, kinds := [], alts := [], laidByText := true, laidKinds := [.data, .data], laidTests := true, laidLooks := .later }
def Sha512SumsUptoCardSaid : Prop := Claim7.holds Tryd.pinned (.plain (OpenSpec.upto sha512SumsSpec)) sha512SumsUptoCard

/-- THE SECOND FORM's CARD OF 'postmarklaw05.Sha512Names'. -/
def sha512NamesUptoCard : Claim7 := { stood := { row := sha512NamesUptoRow, standIns := [], harness := (true, "b426a627295f4174cbb65139e61c57b919603db9a39ba4dfb23768827b6eb701"), looks := false }, kinds := [], alts := [], laidByText := true, laidKinds := [.data, .data], laidTests := true, laidLooks := .later }
def Sha512NamesUptoCardSaid : Prop := Claim7.holds Tryd.pinned (.plain (OpenSpec.upto sha512NamesSpec)) sha512NamesUptoCard

/-- THE SECOND FORM's CARD OF 'postmarklaw05.Sha512Pieces'. -/
def sha512PiecesUptoCard : Claim7 := { stood := { row := sha512PiecesUptoRow, standIns := [], harness := (true, "b426a627295f4174cbb65139e61c57b919603db9a39ba4dfb23768827b6eb701"), looks := false }, kinds := [], alts := [], laidByText := true, laidKinds := [.data, .data], laidTests := true, laidLooks := .later }
def Sha512PiecesUptoCardSaid : Prop := Claim7.holds Tryd.pinned (.plain (OpenSpec.upto sha512PiecesSpec)) sha512PiecesUptoCard

/-- THE SECOND FORM's CARD OF 'postmarklaw05.Sha512Copies'. -/
def sha512CopiesUptoCard : Claim7 := { stood := { row := sha512CopiesUptoRow, standIns := [], harness := (true, "b426a627295f4174cbb65139e61c57b919603db9a39ba4dfb23768827b6eb701"), looks := false }, kinds := [], alts := [], laidByText := true, laidKinds := [.data, .data], laidTests := true, laidLooks := .later }
def Sha512CopiesUptoCardSaid : Prop := Claim7.holds Tryd.pinned (.plain (OpenSpec.upto sha512CopiesSpec)) sha512CopiesUptoCard

/-- THE SECOND FORM's CARD OF 'postmarklaw05.Sha512Empty'. -/
def sha512EmptyUptoCard : Claim7 := { stood := { row := sha512EmptyUptoRow, standIns := [], harness := (true, "b426a627295f4174cbb65139e61c57b919603db9a39ba4dfb23768827b6eb701"), looks := false }, kinds := [], alts := [], laidByText := true, laidKinds := [.data, .data], laidTests := true, laidLooks := .later }
def Sha512EmptyUptoCardSaid : Prop := Claim7.holds Tryd.pinned (.plain (OpenSpec.upto sha512EmptySpec)) sha512EmptyUptoCard
end Rows
end Go.Proofs.YtcjcnpjedmpghaaDoor
