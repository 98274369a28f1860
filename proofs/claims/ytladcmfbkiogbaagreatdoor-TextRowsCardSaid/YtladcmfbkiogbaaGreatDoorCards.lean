/-
  DERIVED. GIVEN WITH THE SEED: THE CARDS: each row of YtladcmfbkiogbaaGreatDoorRows.lean that lists a variable, with what it lists TIED to the program's text (the seventh form; the later family's looks); each row that meets fmt, with fmt's text TOLD by the authors' own Lean function (tested against real Go, not proved from fmt's source: count such statements apart). THE CARD IS WHAT COUNTS. Prove the row's statement (the work); the ties are given (YtladcmfbkiogbaaGreatDoorTie.lean); close each card by the builder's one call (the guide's Derived/Test/ToyasCard.lean, 'card_holds'). Laid BY PROGRAM, IN A SANDBOX (cutbox-door.mjs). By AI agents, Wed Nov 11 2026. No macro, syntax, notation, axiom, sorry.
-/
import Derived.Test.YtladcmfbkiogbaaGreatDoorRows
import GoSem.ClaimSeven
namespace Go.Proofs.YtladcmfbkiogbaaGreatDoor
namespace Rows

/-- THE TIED CARD OF 'chirographlaw38.TextTells'. -/
def textTellsCard : Claim7 := { stood := { row := textTellsRow, standIns := [], harness := (true, "faa735eace442e5b1b327ebc338c3f301e038a1d9b7e86c47b1ca0aa8ecbf3b6"), looks := true }, kinds := [], alts := [], laidByText := true, laidKinds := [.data, .data, .data, .sentinel, .sentinel], laidTests := true, laidLooks := .later }
def TextTellsCardSaid : Prop := Claim7.holds Tryz.pinned (.plain (OpenSpec.ofChange textTellsSpec)) textTellsCard

/-- THE TIED CARD OF 'chirographlaw38.TextLooks'. -/
def textLooksCard : Claim7 := { stood := { row := textLooksRow, standIns := [], harness := (true, "faa735eace442e5b1b327ebc338c3f301e038a1d9b7e86c47b1ca0aa8ecbf3b6"), looks := true }, kinds := [], alts := [], laidByText := true, laidKinds := [.data, .data, .data, .sentinel, .sentinel], laidTests := true, laidLooks := .later }
def TextLooksCardSaid : Prop := Claim7.holds Tryz.pinned (.plain (OpenSpec.ofChange textLooksSpec)) textLooksCard

/-- THE TIED CARD OF 'chirographlaw38.TextUnlike'. -/
def textUnlikeCard : Claim7 := { stood := { row := textUnlikeRow, standIns := [], harness := (true, "faa735eace442e5b1b327ebc338c3f301e038a1d9b7e86c47b1ca0aa8ecbf3b6"), looks := true }, kinds := [], alts := [], laidByText := true, laidKinds := [.data, .data, .data, .sentinel, .sentinel], laidTests := true, laidLooks := .later }
def TextUnlikeCardSaid : Prop := Claim7.holds Tryz.pinned (.plain (OpenSpec.ofChange textUnlikeSpec)) textUnlikeCard

/-- THE TIED CARD OF 'chirographlaw38.TextHears'. -/
def textHearsCard : Claim7 := { stood := { row := textHearsRow, standIns := [], harness := (true, "faa735eace442e5b1b327ebc338c3f301e038a1d9b7e86c47b1ca0aa8ecbf3b6"), looks := true }, kinds := [], alts := [], laidByText := true, laidKinds := [.data, .data, .data, .sentinel, .sentinel], laidTests := true, laidLooks := .later }
def TextHearsCardSaid : Prop := Claim7.holds Tryz.pinned (.plain (OpenSpec.ofChange textHearsSpec)) textHearsCard

/-- THE TIED CARD OF 'chirographlaw38.TextRows'. -/
def textRowsCard : Claim7 := { stood := { row := textRowsRow, standIns := [], harness := (true, "faa735eace442e5b1b327ebc338c3f301e038a1d9b7e86c47b1ca0aa8ecbf3b6"), looks := true }, kinds := [], alts := [], laidByText := true, laidKinds := [.data, .data, .data, .sentinel, .sentinel], laidTests := true, laidLooks := .later }
def TextRowsCardSaid : Prop := Claim7.holds Tryz.pinned (.plain (OpenSpec.ofChange textRowsSpec)) textRowsCard

/-- THE SECOND FORM's CARD OF 'chirographlaw38.TextTells'. -/
def textTellsUptoCard : Claim7 := { stood := { row := textTellsUptoRow, standIns := [], harness := (true, "faa735eace442e5b1b327ebc338c3f301e038a1d9b7e86c47b1ca0aa8ecbf3b6"), looks := true }, kinds := [], alts := [], laidByText := true, laidKinds := [.data, .data, .data, .sentinel, .sentinel], laidTests := true, laidLooks := .later }
def TextTellsUptoCardSaid : Prop := Claim7.holds Tryz.pinned (.plain (OpenSpec.upto textTellsSpec)) textTellsUptoCard

/-- THE SECOND FORM's CARD OF 'chirographlaw38.TextLooks'. -/
def textLooksUptoCard : Claim7 := { stood := { row := textLooksUptoRow, standIns := [], harness := (true, "faa735eace442e5b1b327ebc338c3f301e038a1d9b7e86c47b1ca0aa8ecbf3b6"), looks := true }, kinds := [], alts := [], laidByText := true, laidKinds := [.data, .data, .data, .sentinel, .sentinel], laidTests := true, laidLooks := .later }
def TextLooksUptoCardSaid : Prop := Claim7.holds Tryz.pinned (.plain (OpenSpec.upto textLooksSpec)) textLooksUptoCard

/-- THE SECOND FORM's CARD OF 'chirographlaw38.TextUnlike'. -/
def textUnlikeUptoCard : Claim7 := { stood := { row := textUnlikeUptoRow, standIns := [], harness := (true, "faa735eace442e5b1b327ebc338c3f301e038a1d9b7e86c47b1ca0aa8ecbf3b6"), looks := true }, kinds := [], alts := [], laidByText := true, laidKinds := [.data, .data, .data, .sentinel, .sentinel], laidTests := true, laidLooks := .later }
def TextUnlikeUptoCardSaid : Prop := Claim7.holds Tryz.pinned (.plain (OpenSpec.upto textUnlikeSpec)) textUnlikeUptoCard

/-- THE SECOND FORM's CARD OF 'chirographlaw38.TextHears'. -/
def textHearsUptoCard : Claim7 := { stood := { row := textHearsUptoRow, standIns := [], harness := (true, "faa735eace442e5b1b327ebc338c3f301e038a1d9b7e86c47b1ca0aa8ecbf3b6"), looks := true }, kinds := [], alts := [], laidByText := true, laidKinds := [.data, .data, .data, .sentinel, .sentinel], laidTests := true, laidLooks := .later }
def TextHearsUptoCardSaid : Prop := Claim7.holds Tryz.pinned (.plain (OpenSpec.upto textHearsSpec)) textHearsUptoCard

/-- THE SECOND FORM's CARD OF 'chirographlaw38.TextRows'. -/
def textRowsUptoCard : Claim7 := { stood := { row := textRowsUptoRow, standIns := [], harness := (true, "faa735eace442e5b1b327ebc338c3f301e038a1d9b7e86c47b1ca0aa8ecbf3b6"), looks := true }, kinds := [], alts := [], laidByText := true, laidKinds := [.data, .data, .data, .sentinel, .sentinel], laidTests := true, laidLooks := .later }
def TextRowsUptoCardSaid : Prop := Claim7.holds Tryz.pinned (.plain (OpenSpec.upto textRowsSpec)) textRowsUptoCard
end Rows
end Go.Proofs.YtladcmfbkiogbaaGreatDoor
