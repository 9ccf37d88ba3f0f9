/-
  DERIVED. GIVEN WITH THE SEED: THE CARDS: each row of YthkiajbgdamjgaaDoorRows.lean that lists a variable, with what it lists TIED to the program's text (the seventh form; the later family's looks); each row that meets fmt, with fmt's text TOLD by the authors' own Lean function (tested against real Go, not proved from fmt's source: count such statements apart). THE CARD IS WHAT COUNTS. Prove the row's statement (the work); the ties are given (YthkiajbgdamjgaaDoorTie.lean); close each card by the builder's one call (the guide's Derived/Test/ToyasCard.lean, 'card_holds'). Laid BY PROGRAM, IN A SANDBOX (cutbox-door.mjs). By AI agents, Wed Nov 11 2026. No macro, syntax, notation, axiom, sorry.
-/
import Derived.Test.YthkiajbgdamjgaaDoorRows
import GoSem.ClaimSeven
namespace Go.Proofs.YthkiajbgdamjgaaDoor
namespace Rows

/-- THE TIED CARD OF 'ploverlaw21.CodeSelects'. -/
def codeSelectsCard : Claim7 := { stood := { row := codeSelectsRow, standIns := [], harness := (true, "3a3201fd410e55db63d1c846de215580c18f04baafc7085174340e3e6fd1bec8"), looks := false }, kinds := [], alts := [], laidByText := true, laidKinds := [.data, .data, .data, .listed, .data], laidTests := true, laidLooks := .later }
def CodeSelectsCardSaid : Prop := Claim7.holds Tryd.pinned (.plain (OpenSpec.ofChange codeSelectsSpec)) codeSelectsCard

/-- THE TIED CARD OF 'ploverlaw21.CodeDoes'. -/
def codeDoesCard : Claim7 := { stood := { row := codeDoesRow, standIns := [], harness := (true, "3a3201fd410e55db63d1c846de215580c18f04baafc7085174340e3e6fd1bec8"), looks := false }, kinds := [], alts := [], laidByText := true, laidKinds := [.data, .data, .data, .listed, .data], laidTests := true, laidLooks := .later }
def CodeDoesCardSaid : Prop := Claim7.holds Tryd.pinned (.plain (OpenSpec.ofChange codeDoesSpec)) codeDoesCard

/-- THE TIED CARD OF 'ploverlaw21.CodePacks'. -/
def codePacksCard : Claim7 := { stood := { row := codePacksRow, standIns := [], harness := (true, "3a3201fd410e55db63d1c846de215580c18f04baafc7085174340e3e6fd1bec8"), looks := false }, kinds := [], alts := [], laidByText := true, laidKinds := [.data, .data, .data, .listed, .data], laidTests := true, laidLooks := .later }
def CodePacksCardSaid : Prop := Claim7.holds Tryd.pinned (.plain (OpenSpec.ofChange codePacksSpec)) codePacksCard

/-- THE TIED CARD OF 'ploverlaw21.CodeKnown'. -/
def codeKnownCard : Claim7 := { stood := { row := codeKnownRow, standIns := [], harness := (true, "3a3201fd410e55db63d1c846de215580c18f04baafc7085174340e3e6fd1bec8"), looks := false }, kinds := [], alts := [], laidByText := true, laidKinds := [.data, .data, .data, .listed, .data], laidTests := true, laidLooks := .later }
def CodeKnownCardSaid : Prop := Claim7.holds Tryd.pinned (.plain (OpenSpec.ofChange codeKnownSpec)) codeKnownCard

/-- THE SECOND FORM's CARD OF 'ploverlaw21.CodeSelects'. -/
def codeSelectsUptoCard : Claim7 := { stood := { row := codeSelectsUptoRow, standIns := [], harness := (true, "3a3201fd410e55db63d1c846de215580c18f04baafc7085174340e3e6fd1bec8"), looks := false }, kinds := [], alts := [], laidByText := true, laidKinds := [.data, .data, .data, .listed, .data], laidTests := true, laidLooks := .later }
def CodeSelectsUptoCardSaid : Prop := Claim7.holds Tryd.pinned (.plain (OpenSpec.upto codeSelectsSpec)) codeSelectsUptoCard

/-- THE SECOND FORM's CARD OF 'ploverlaw21.CodeDoes'. -/
def codeDoesUptoCard : Claim7 := { stood := { row := codeDoesUptoRow, standIns := [], harness := (true, "3a3201fd410e55db63d1c846de215580c18f04baafc7085174340e3e6fd1bec8"), looks := false }, kinds := [], alts := [], laidByText := true, laidKinds := [.data, .data, .data, .listed, .data], laidTests := true, laidLooks := .later }
def CodeDoesUptoCardSaid : Prop := Claim7.holds Tryd.pinned (.plain (OpenSpec.upto codeDoesSpec)) codeDoesUptoCard

/-- THE SECOND FORM's CARD OF 'ploverlaw21.CodePacks'. -/
def codePacksUptoCard : Claim7 := { stood := { row := codePacksUptoRow, standIns := [], harness := (true, "3a3201fd410e55db63d1c846de215580c18f04baafc7085174340e3e6fd1bec8"), looks := false }, kinds := [], alts := [], laidByText := true, laidKinds := [.data, .data, .data, .listed, .data], laidTests := true, laidLooks := .later }
def CodePacksUptoCardSaid : Prop := Claim7.holds Tryd.pinned (.plain (OpenSpec.upto codePacksSpec)) codePacksUptoCard

/-- THE SECOND FORM's CARD OF 'ploverlaw21.CodeKnown'. -/
def codeKnownUptoCard : Claim7 := { stood := { row := codeKnownUptoRow, standIns := [], harness := (true, "3a3201fd410e55db63d1c846de215580c18f04baafc7085174340e3e6fd1bec8"), looks := false }, kinds := [], alts := [], laidByText := true, laidKinds := [.data, .data, .data, .listed, .data], laidTests := true, laidLooks := .later }
def CodeKnownUptoCardSaid : Prop := Claim7.holds Tryd.pinned (.plain (OpenSpec.upto codeKnownSpec)) codeKnownUptoCard
end Rows
end Go.Proofs.YthkiajbgdamjgaaDoor
