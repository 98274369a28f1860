/-
  Which bound any pace and number of organisations have: CalmBounds returns true for any pace and any number. Condition: the program's tables sha.k and keys.letters hold what its text lays in them (tied by the card).
-/
import Derived.Test.YtehlgbbpjbgkaaaGreatDoorBCW
import Derived.Test.YtehlgbbpjbgkaaaGreatDoorBCY
set_option linter.all false
namespace Go.Proofs.YtehlgbbpjbgkaaaGreatDoor
open Go Go.Chi Go.ChangeShapes Go.WideShapes Go.ChangeAt Go.RowKit

theorem calmBoundsCard_holds : Rows.CalmBoundsCardSaid :=
  Claim7.holds_tied_plain_at .later [] [.data, .data] true (true, "c83de9b1421c502c209d1143ce974b8bedf09a6f99ab7dc52dfa3fb65dea174b") true
    calmBounds_holds (fun _ h => by cases h) jc_wf (fun _ h => by cases h) calmBounds_row_tie rfl ⟨rfl, rfl⟩ jc_main rfl
    (fun f fn hf hfn => by
      obtain rfl : f = 3 := Option.some.inj (jh_named.symm.trans hf) |>.symm
      obtain rfl : fn = Tryz.f3 := (Option.some.inj (Tryz.func3.symm.trans hfn)).symm
      exact ⟨jc_looks, fun j t ht => by
        rw [show Tryz.f3.params = #[23, 3] from jc_sp] at ht
        rcases j with _ | _ | j
        · obtain rfl : 23 = t := by simpa using ht
          exact jc_w0
        · obtain rfl : 3 = t := by simpa using ht
          exact jc_w1
        · simp at ht⟩)
    jc_goes
#print axioms calmBoundsCard_holds
end Go.Proofs.YtehlgbbpjbgkaaaGreatDoor
