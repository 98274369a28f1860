/-
  No cell of these rows narrows 'for every input' (looked for: loops, veiled, ifaces, maps, wideKeys, modest, calm, conditions, laid).
  DERIVED. THE GIVEN ROWS OF THIS SEAT. 3 by the template 'for every input the law returns true; each argument reads behind the call as it read before'; 0 by the template 'total and deterministic' (their statements: YtpmepmdngdkafaaTotals.lean).
  GIVEN WITH THE SEED: the statements are not yours to turn. If you find one false, say at which input.
  Laid BY PROGRAM, IN A SANDBOX (cutbox-rows.mjs): the forced cells as the released guide's own fill.sh prints them over the translation 9337e44da2966e59… (all of the seat's roots in one cut). By AI agents, Wed Nov 11 2026. No macro, syntax, notation, axiom, sorry.
-/
import Derived.Test.YtpmepmdngdkafaaChecked
import GoSem.Claim
import GoSem.ClaimJoined
import GoSem.ClaimMapViews
import Derived.JoinedTies
import Derived.KernelRfl
namespace Go.Proofs.Ytpmepmdngdkafaa
/- THE CELL 'sum', in the pinned program and in every row, IS THE sha256 OF THE DUMP (.gsa) THAT YtpmepmdngdkafaaProg.lean LOADS. Nothing in Lean hashes anything: it is a label: what it is worth is what the hold of that sum in a sandbox is worth. -/
noncomputable def Try.pinned : Pinned := { name := "ytpmepmdngdkafaa", sum := "9337e44da2966e596f598415d1b957994ba7f10135e6d0d821c927f675f600ee", checked := Try.checked }
namespace Rows
def none {H : Type} : Left H := { results := [], args := [] }

/-- 'chirographlaw22.CoordSteps': WHATEVER THE INPUT: true; the input reads as it did. -/
def coordStepsSpec : ChangeSpec := { name := "coordSteps", fn := fun _ => fun
  | [d1, d2, d3, d4, d5] => { results := [.lit (.bool true)], args := [d1, d2, d3, d4, d5] }
  | _ => none }
def coordStepsRow : OpenClaim := { program := "ytpmepmdngdkafaa", sum := "9337e44da2966e596f598415d1b957994ba7f10135e6d0d821c927f675f600ee", func := "chirograph/chirographlaw22.CoordSteps", spec := "coordSteps", inPlace := ["internal/bytealg.IndexByteString", "internal/bytealg.IndexString"], unfollowed := true, recurses := true, named := ["internal/bytealg.MaxLen"], apart := false }
def CoordStepsSaid : Prop := coordStepsRow.holds Try.pinned (OpenSpec.ofChange coordStepsSpec)

/-- ITS FALSE NEIGHBOUR: 'it returns false'. Refute it at one input. -/
def coordStepsWrong : ChangeSpec := { name := "coordSteps", fn := fun _ => fun
  | [d1, d2, d3, d4, d5] => { results := [.lit (.bool false)], args := [d1, d2, d3, d4, d5] }
  | _ => none }
def CoordStepsWrongFalsely : Prop := coordStepsRow.holds Try.pinned (OpenSpec.ofChange coordStepsWrong)

/-- 'chirographlaw22.CoordKeeps': WHATEVER THE INPUT: true; the input reads as it did. -/
def coordKeepsSpec : ChangeSpec := { name := "coordKeeps", fn := fun _ => fun
  | [d1, d2, d3, d4, d5, d6, d7, d8] => { results := [.lit (.bool true)], args := [d1, d2, d3, d4, d5, d6, d7, d8] }
  | _ => none }
def coordKeepsRow : OpenClaim := { program := "ytpmepmdngdkafaa", sum := "9337e44da2966e596f598415d1b957994ba7f10135e6d0d821c927f675f600ee", func := "chirograph/chirographlaw22.CoordKeeps", spec := "coordKeeps", inPlace := ["internal/bytealg.IndexByteString", "internal/bytealg.IndexString"], unfollowed := true, recurses := true, named := ["internal/bytealg.MaxLen"], apart := false }
def CoordKeepsSaid : Prop := coordKeepsRow.holds Try.pinned (OpenSpec.ofChange coordKeepsSpec)

/-- ITS FALSE NEIGHBOUR: 'it returns false'. Refute it at one input. -/
def coordKeepsWrong : ChangeSpec := { name := "coordKeeps", fn := fun _ => fun
  | [d1, d2, d3, d4, d5, d6, d7, d8] => { results := [.lit (.bool false)], args := [d1, d2, d3, d4, d5, d6, d7, d8] }
  | _ => none }
def CoordKeepsWrongFalsely : Prop := coordKeepsRow.holds Try.pinned (OpenSpec.ofChange coordKeepsWrong)

/-- 'chirographlaw22.CoordBegins': WHATEVER THE INPUT: true; the input reads as it did. -/
def coordBeginsSpec : ChangeSpec := { name := "coordBegins", fn := fun _ => fun
  | [d1, d2] => { results := [.lit (.bool true)], args := [d1, d2] }
  | _ => none }
def coordBeginsRow : OpenClaim := { program := "ytpmepmdngdkafaa", sum := "9337e44da2966e596f598415d1b957994ba7f10135e6d0d821c927f675f600ee", func := "chirograph/chirographlaw22.CoordBegins", spec := "coordBegins", inPlace := ["internal/bytealg.IndexByteString", "internal/bytealg.IndexString"], unfollowed := true, recurses := true, named := ["internal/bytealg.MaxLen"], apart := false }
def CoordBeginsSaid : Prop := coordBeginsRow.holds Try.pinned (OpenSpec.ofChange coordBeginsSpec)

/-- ITS FALSE NEIGHBOUR: 'it returns false'. Refute it at one input. -/
def coordBeginsWrong : ChangeSpec := { name := "coordBegins", fn := fun _ => fun
  | [d1, d2] => { results := [.lit (.bool false)], args := [d1, d2] }
  | _ => none }
def CoordBeginsWrongFalsely : Prop := coordBeginsRow.holds Try.pinned (OpenSpec.ofChange coordBeginsWrong)

/- THE SECOND FORM. 'bulk': how many values and letters a reading holds, each counted each time it is reached (what is shared counts as often as it is met; a slice's spare places count too). A statement '..UptoSaid' is the law's where the arguments, and the package variables that the reading takes, are together of bulk at most 1048576: NARROWER than '..Said'. Prove '..Said' where nothing that the law and all that it calls make is longer than what came in: it says more and counts as full. Else prove '..UptoSaid'. A law counts once. -/
mutual
def uptoBulk {H : Type} : DataW H → Nat
  | .lit (.string bytes) => bytes.length + 1
  | .lit _ => 1
  | .nil => 1
  | .ptr d => uptoBulk d + 1
  | .slice elems spare => uptoBulkAll elems + uptoBulkAll spare + 1
  | .agg parts => uptoBulkAll parts + 1
  | .iface _ d => uptoBulk d + 1
  | .map entries => uptoBulkEntries entries + 1
  | .held _ => 1
def uptoBulkAll {H : Type} : List (DataW H) → Nat
  | [] => 0
  | d :: r => uptoBulk d + uptoBulkAll r
def uptoBulkEntries {H : Type} : List (Lit × DataW H) → Nat
  | [] => 0
  | x :: r => uptoBulkEntry x + uptoBulkEntries r
def uptoBulkEntry {H : Type} : Lit × DataW H → Nat
  | (.string bytes, d) => bytes.length + uptoBulk d + 1
  | (_, d) => uptoBulk d + 1
 end
def uptoSmall : (H : Type) → List (DataW H) → Bool := fun _ ds => decide (uptoBulkAll ds ≤ 1048576)
def OpenSpec.upto (s : _root_.Go.ChangeSpec) : _root_.Go.OpenSpec := { _root_.Go.OpenSpec.ofChange s with cond := some uptoSmall }

/-- 'chirographlaw22.CoordSteps', WHERE WHAT IT READS IS OF BULK AT MOST 1048576: true; the input reads as it did. -/
def coordStepsUptoRow : OpenClaim := { program := "ytpmepmdngdkafaa", sum := "9337e44da2966e596f598415d1b957994ba7f10135e6d0d821c927f675f600ee", func := "chirograph/chirographlaw22.CoordSteps", spec := "coordSteps", inPlace := ["internal/bytealg.IndexByteString", "internal/bytealg.IndexString"], unfollowed := true, recurses := true, named := ["internal/bytealg.MaxLen"], apart := false, narrowed := true }
def CoordStepsUptoSaid : Prop := coordStepsUptoRow.holds Try.pinned (OpenSpec.upto coordStepsSpec)

/-- 'chirographlaw22.CoordKeeps', WHERE WHAT IT READS IS OF BULK AT MOST 1048576: true; the input reads as it did. -/
def coordKeepsUptoRow : OpenClaim := { program := "ytpmepmdngdkafaa", sum := "9337e44da2966e596f598415d1b957994ba7f10135e6d0d821c927f675f600ee", func := "chirograph/chirographlaw22.CoordKeeps", spec := "coordKeeps", inPlace := ["internal/bytealg.IndexByteString", "internal/bytealg.IndexString"], unfollowed := true, recurses := true, named := ["internal/bytealg.MaxLen"], apart := false, narrowed := true }
def CoordKeepsUptoSaid : Prop := coordKeepsUptoRow.holds Try.pinned (OpenSpec.upto coordKeepsSpec)

/-- 'chirographlaw22.CoordBegins', WHERE WHAT IT READS IS OF BULK AT MOST 1048576: true; the input reads as it did. -/
def coordBeginsUptoRow : OpenClaim := { program := "ytpmepmdngdkafaa", sum := "9337e44da2966e596f598415d1b957994ba7f10135e6d0d821c927f675f600ee", func := "chirograph/chirographlaw22.CoordBegins", spec := "coordBegins", inPlace := ["internal/bytealg.IndexByteString", "internal/bytealg.IndexString"], unfollowed := true, recurses := true, named := ["internal/bytealg.MaxLen"], apart := false, narrowed := true }
def CoordBeginsUptoSaid : Prop := coordBeginsUptoRow.holds Try.pinned (OpenSpec.upto coordBeginsSpec)

end Rows
end Go.Proofs.Ytpmepmdngdkafaa
