import Derived.Test.YtehlgbbpjbgkaaaGreatDoorBCV
import Derived.Test.YtehlgbbpjbgkaaaGreatDoorBCZ
import Derived.Test.YtehlgbbpjbgkaaaGreatDoorTie
import Derived.Test.YtehlgbbpjbgkaaaGreatDoorCards
import Derived.ChangeVars
import Derived.LaidLaws
import Derived.LaidHandle
import Derived.Stop.Joined
import Derived.SevenTiedAt
set_option linter.all false
namespace Go.Proofs.YtehlgbbpjbgkaaaGreatDoor
open Go Go.Chi Go.ChangeShapes Go.WideShapes Go.ChangeAt Go.RowKit

theorem jh_named : Tryz.prog.funcNamed jC.func = some 3 := by kernel_rfl
theorem jh_inst : jN.isInstance Tryz.prog jC.origin jC.targs := of_decide_eq_true (by kernel_rfl)
theorem jh_wrap : jN.isWrapper Tryz.prog jC.wrapper jC.mainSum := by unfold Func.isWrapper; first | (rw [if_pos (by decide +kernel)]; kernel_rfl) | (rw [if_neg (by decide +kernel)]; exact ⟨rfl, rfl⟩)
theorem calmBounds_holds : Rows.CalmBoundsSaid :=
  OpenClaim.holds_of_wide 3 Tryz.f3 rfl rfl rfl rfl rfl rfl rfl ⟨rfl, rfl, rfl, rfl, rfl⟩ rfl rfl rfl rfl rfl jh_named Tryz.func3 jf_all jh_inst jh_wrap
    (fun os started H enc _ => calmBounds_lifted os started H enc)
theorem jc_wf : jC.wfByText (OpenSpec.ofChange jS) = true := by kernel_rfl
theorem jc_main : Tryz.prog.mainIs = some (true, "c83de9b1421c502c209d1143ce974b8bedf09a6f99ab7dc52dfa3fb65dea174b".toList) := by kernel_rfl
theorem jc_looks : true = Tryz.prog.looks [] := by kernel_rfl
theorem jc_sp : jN.params = #[23, 3] := by kernel_rfl
theorem jc_w0 : Tryz.prog.wantsStandIn 23 = false := by kernel_rfl
theorem jc_w1 : Tryz.prog.wantsStandIn 3 = false := by kernel_rfl
end Go.Proofs.YtehlgbbpjbgkaaaGreatDoor
