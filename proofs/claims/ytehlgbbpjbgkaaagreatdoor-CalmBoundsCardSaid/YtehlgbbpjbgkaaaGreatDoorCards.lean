/-
  DERIVED. GIVEN WITH THE SEED: THE CARDS: each row of YtehlgbbpjbgkaaaGreatDoorRows.lean that lists a variable, with what it lists TIED to the program's text (the seventh form; the later family's looks); each row that meets fmt, with fmt's text TOLD by the authors' own Lean function (tested against real Go, not proved from fmt's source: count such statements apart). THE CARD IS WHAT COUNTS. Prove the row's statement (the work); the ties are given (YtehlgbbpjbgkaaaGreatDoorTie.lean); close each card by the builder's one call (the guide's Derived/Test/ToyasCard.lean, 'card_holds'). Laid BY PROGRAM, IN A SANDBOX (cutbox-door.mjs). By AI agents, Wed Nov 11 2026. No macro, syntax, notation, axiom, sorry.
-/
import Derived.Test.YtehlgbbpjbgkaaaGreatDoorRows
import GoSem.ClaimSeven
namespace Go.Proofs.YtehlgbbpjbgkaaaGreatDoor
namespace Rows

/-- THE TIED CARD OF 'chirographlaw36.CalmBounds'. -/
def calmBoundsCard : Claim7 := { stood := { row := calmBoundsRow, standIns := [], harness := (true, "c83de9b1421c502c209d1143ce974b8bedf09a6f99ab7dc52dfa3fb65dea174b"), looks := true }, kinds := [], alts := [], laidByText := true, laidKinds := [.data, .data], laidTests := true, laidLooks := .later }
def CalmBoundsCardSaid : Prop := Claim7.holds Tryz.pinned (.plain (OpenSpec.ofChange calmBoundsSpec)) calmBoundsCard

/-- THE SECOND FORM's CARD OF 'chirographlaw36.CalmBounds'. -/
def calmBoundsUptoCard : Claim7 := { stood := { row := calmBoundsUptoRow, standIns := [], harness := (true, "c83de9b1421c502c209d1143ce974b8bedf09a6f99ab7dc52dfa3fb65dea174b"), looks := true }, kinds := [], alts := [], laidByText := true, laidKinds := [.data, .data], laidTests := true, laidLooks := .later }
def CalmBoundsUptoCardSaid : Prop := Claim7.holds Tryz.pinned (.plain (OpenSpec.upto calmBoundsSpec)) calmBoundsUptoCard
end Rows
end Go.Proofs.YtehlgbbpjbgkaaaGreatDoor
