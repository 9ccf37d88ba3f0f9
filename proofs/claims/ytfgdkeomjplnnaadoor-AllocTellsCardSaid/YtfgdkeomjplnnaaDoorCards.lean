/-
  DERIVED. GIVEN WITH THE SEED: THE CARDS: each row of YtfgdkeomjplnnaaDoorRows.lean that lists a variable, with what it lists TIED to the program's text (the seventh form; the later family's looks); each row that meets fmt, with fmt's text TOLD by the authors' own Lean function (tested against real Go, not proved from fmt's source: count such statements apart). THE CARD IS WHAT COUNTS. Prove the row's statement (the work); the ties are given (YtfgdkeomjplnnaaDoorTie.lean); close each card by the builder's one call (the guide's Derived/Test/ToyasCard.lean, 'card_holds'). Laid BY PROGRAM, IN A SANDBOX (cutbox-door.mjs). By AI agents, Wed Nov 11 2026. No macro, syntax, notation, axiom, sorry.
-/
import Derived.Test.YtfgdkeomjplnnaaDoorRows
import GoSem.ClaimSeven
namespace Go.Proofs.YtfgdkeomjplnnaaDoor
namespace Rows

/-- THE TIED CARD OF 'ploverlaw20.AllocShort'. -/
def allocShortCard : Claim7 := { stood := { row := allocShortRow, standIns := [], harness := (true, "84946d95ca05bf0e84f816818528e4e2baf7ab2243055639de1438deab11ce4f"), looks := true }, kinds := [], alts := [], laidByText := true, laidKinds := [.data, .data], laidTests := true, laidLooks := .later }
def AllocShortCardSaid : Prop := Claim7.holds Tryd.pinned (.plain (OpenSpec.ofChange allocShortSpec)) allocShortCard

/-- THE TIED CARD OF 'ploverlaw20.AllocMoves'. -/
def allocMovesCard : Claim7 := { stood := { row := allocMovesRow, standIns := [], harness := (true, "84946d95ca05bf0e84f816818528e4e2baf7ab2243055639de1438deab11ce4f"), looks := true }, kinds := [], alts := [], laidByText := true, laidKinds := [.data, .data], laidTests := true, laidLooks := .later }
def AllocMovesCardSaid : Prop := Claim7.holds Tryd.pinned (.plain (OpenSpec.ofChange allocMovesSpec)) allocMovesCard

/-- THE TIED CARD OF 'ploverlaw20.AllocTells'. -/
def allocTellsCard : Claim7 := { stood := { row := allocTellsRow, standIns := [], harness := (true, "84946d95ca05bf0e84f816818528e4e2baf7ab2243055639de1438deab11ce4f"), looks := true }, kinds := [], alts := [], laidByText := true, laidKinds := [.data, .data], laidTests := true, laidLooks := .later }
def AllocTellsCardSaid : Prop := Claim7.holds Tryd.pinned (.plain (OpenSpec.ofChange allocTellsSpec)) allocTellsCard

/-- THE TIED CARD OF 'ploverlaw20.AllocApart'. -/
def allocApartCard : Claim7 := { stood := { row := allocApartRow, standIns := [], harness := (true, "84946d95ca05bf0e84f816818528e4e2baf7ab2243055639de1438deab11ce4f"), looks := true }, kinds := [], alts := [], laidByText := true, laidKinds := [.data, .data], laidTests := true, laidLooks := .later }
def AllocApartCardSaid : Prop := Claim7.holds Tryd.pinned (.plain (OpenSpec.ofChange allocApartSpec)) allocApartCard

/-- THE TIED CARD OF 'ploverlaw20.AllocKnown'. -/
def allocKnownCard : Claim7 := { stood := { row := allocKnownRow, standIns := [], harness := (true, "84946d95ca05bf0e84f816818528e4e2baf7ab2243055639de1438deab11ce4f"), looks := true }, kinds := [], alts := [], laidByText := true, laidKinds := [.data, .data], laidTests := true, laidLooks := .later }
def AllocKnownCardSaid : Prop := Claim7.holds Tryd.pinned (.plain (OpenSpec.ofChange allocKnownSpec)) allocKnownCard

/-- THE SECOND FORM's CARD OF 'ploverlaw20.AllocShort'. -/
def allocShortUptoCard : Claim7 := { stood := { row := allocShortUptoRow, standIns := [], harness := (true, "84946d95ca05bf0e84f816818528e4e2baf7ab2243055639de1438deab11ce4f"), looks := true }, kinds := [], alts := [], laidByText := true, laidKinds := [.data, .data], laidTests := true, laidLooks := .later }
def AllocShortUptoCardSaid : Prop := Claim7.holds Tryd.pinned (.plain (OpenSpec.upto allocShortSpec)) allocShortUptoCard

/-- THE SECOND FORM's CARD OF 'ploverlaw20.AllocMoves'. -/
def allocMovesUptoCard : Claim7 := { stood := { row := allocMovesUptoRow, standIns := [], harness := (true, "84946d95ca05bf0e84f816818528e4e2baf7ab2243055639de1438deab11ce4f"), looks := true }, kinds := [], alts := [], laidByText := true, laidKinds := [.data, .data], laidTests := true, laidLooks := .later }
def AllocMovesUptoCardSaid : Prop := Claim7.holds Tryd.pinned (.plain (OpenSpec.upto allocMovesSpec)) allocMovesUptoCard

/-- THE SECOND FORM's CARD OF 'ploverlaw20.AllocTells'. -/
def allocTellsUptoCard : Claim7 := { stood := { row := allocTellsUptoRow, standIns := [], harness := (true, "84946d95ca05bf0e84f816818528e4e2baf7ab2243055639de1438deab11ce4f"), looks := true }, kinds := [], alts := [], laidByText := true, laidKinds := [.data, .data], laidTests := true, laidLooks := .later }
def AllocTellsUptoCardSaid : Prop := Claim7.holds Tryd.pinned (.plain (OpenSpec.upto allocTellsSpec)) allocTellsUptoCard

/-- THE SECOND FORM's CARD OF 'ploverlaw20.AllocApart'. -/
def allocApartUptoCard : Claim7 := { stood := { row := allocApartUptoRow, standIns := [], harness := (true, "84946d95ca05bf0e84f816818528e4e2baf7ab2243055639de1438deab11ce4f"), looks := true }, kinds := [], alts := [], laidByText := true, laidKinds := [.data, .data], laidTests := true, laidLooks := .later }
def AllocApartUptoCardSaid : Prop := Claim7.holds Tryd.pinned (.plain (OpenSpec.upto allocApartSpec)) allocApartUptoCard

/-- THE SECOND FORM's CARD OF 'ploverlaw20.AllocKnown'. -/
def allocKnownUptoCard : Claim7 := { stood := { row := allocKnownUptoRow, standIns := [], harness := (true, "84946d95ca05bf0e84f816818528e4e2baf7ab2243055639de1438deab11ce4f"), looks := true }, kinds := [], alts := [], laidByText := true, laidKinds := [.data, .data], laidTests := true, laidLooks := .later }
def AllocKnownUptoCardSaid : Prop := Claim7.holds Tryd.pinned (.plain (OpenSpec.upto allocKnownSpec)) allocKnownUptoCard
end Rows
end Go.Proofs.YtfgdkeomjplnnaaDoor
