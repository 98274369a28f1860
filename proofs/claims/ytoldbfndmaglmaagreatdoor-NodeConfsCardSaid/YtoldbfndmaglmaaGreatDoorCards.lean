/-
  DERIVED. GIVEN WITH THE SEED: THE CARDS: each row of YtoldbfndmaglmaaGreatDoorRows.lean that lists a variable, with what it lists TIED to the program's text (the seventh form; the later family's looks); each row that meets fmt, with fmt's text TOLD by the authors' own Lean function (tested against real Go, not proved from fmt's source: count such statements apart). THE CARD IS WHAT COUNTS. Prove the row's statement (the work); the ties are given (YtoldbfndmaglmaaGreatDoorTie.lean); close each card by the builder's one call (the guide's Derived/Test/ToyasCard.lean, 'card_holds'). Laid BY PROGRAM, IN A SANDBOX (cutbox-door.mjs). By AI agents, Wed Nov 11 2026. No macro, syntax, notation, axiom, sorry.
-/
import Derived.Test.YtoldbfndmaglmaaGreatDoorRows
import GoSem.ClaimSeven
namespace Go.Proofs.YtoldbfndmaglmaaGreatDoor
namespace Rows

/-- THE TIED CARD OF 'chirographlaw28.NodeConfs'. -/
def nodeConfsCard : Claim7 := { stood := { row := nodeConfsRow, standIns := [], harness := (true, "8e27c49db836f9e51e78df16a9dfe3aaa4962d2ebfec8e1f14aa89c304c013c1"), looks := true }, kinds := [], alts := [], laidByText := true, laidKinds := [.data, .data], laidTests := true, laidLooks := .later }
def NodeConfsCardSaid : Prop := Claim7.holds Tryz.pinned (.plain (OpenSpec.ofChange nodeConfsSpec)) nodeConfsCard

/-- THE SECOND FORM's CARD OF 'chirographlaw28.NodeConfs'. -/
def nodeConfsUptoCard : Claim7 := { stood := { row := nodeConfsUptoRow, standIns := [], harness := (true, "8e27c49db836f9e51e78df16a9dfe3aaa4962d2ebfec8e1f14aa89c304c013c1"), looks := true }, kinds := [], alts := [], laidByText := true, laidKinds := [.data, .data], laidTests := true, laidLooks := .later }
def NodeConfsUptoCardSaid : Prop := Claim7.holds Tryz.pinned (.plain (OpenSpec.upto nodeConfsSpec)) nodeConfsUptoCard
end Rows
end Go.Proofs.YtoldbfndmaglmaaGreatDoor
