/-
  DERIVED. GIVEN WITH THE SEED: THE CARDS: each row of YtonbigcdoejgcaaGreatDoorRows.lean that lists a variable, with what it lists TIED to the program's text (the seventh form; the later family's looks); each row that meets fmt, with fmt's text TOLD by the authors' own Lean function (tested against real Go, not proved from fmt's source: count such statements apart). THE CARD IS WHAT COUNTS. Prove the row's statement (the work); the ties are given (YtonbigcdoejgcaaGreatDoorTie.lean); close each card by the builder's one call (the guide's Derived/Test/ToyasCard.lean, 'card_holds'). Laid BY PROGRAM, IN A SANDBOX (cutbox-door.mjs). By AI agents, Wed Nov 11 2026. No macro, syntax, notation, axiom, sorry.
-/
import Derived.Test.YtonbigcdoejgcaaGreatDoorRows
import GoSem.ClaimSeven
namespace Go.Proofs.YtonbigcdoejgcaaGreatDoor
namespace Rows

/-- THE TIED CARD OF 'chirographlaw35.SecretTells'. -/
def secretTellsCard : Claim7 := { stood := { row := secretTellsRow, standIns := [], harness := (true, "632ce70f4eb7366844f26b8f396ef76ab71cf260cd261b447bb577e4a3577ca0"), looks := true }, kinds := [], alts := [], laidByText := true, laidKinds := [.data], laidTests := true, laidLooks := .later }
def SecretTellsCardSaid : Prop := Claim7.holds Tryz.pinned (.plain (OpenSpec.ofChange secretTellsSpec)) secretTellsCard

/-- THE SECOND FORM's CARD OF 'chirographlaw35.SecretTells'. -/
def secretTellsUptoCard : Claim7 := { stood := { row := secretTellsUptoRow, standIns := [], harness := (true, "632ce70f4eb7366844f26b8f396ef76ab71cf260cd261b447bb577e4a3577ca0"), looks := true }, kinds := [], alts := [], laidByText := true, laidKinds := [.data], laidTests := true, laidLooks := .later }
def SecretTellsUptoCardSaid : Prop := Claim7.holds Tryz.pinned (.plain (OpenSpec.upto secretTellsSpec)) secretTellsUptoCard
end Rows
end Go.Proofs.YtonbigcdoejgcaaGreatDoor
