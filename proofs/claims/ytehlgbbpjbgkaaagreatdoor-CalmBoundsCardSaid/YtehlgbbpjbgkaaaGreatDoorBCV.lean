import Derived.Test.YtehlgbbpjbgkaaaGreatDoorRows
import Derived.Test.YtehlgbbpjbgkaaaGreatDoorChecked
import Derived.JoinedOf
import Derived.JoinedAt
import Derived.Carry
set_option linter.all false
namespace Go.Proofs.YtehlgbbpjbgkaaaGreatDoor
open Go

/-! ### the facts of the program that the row states, one by one -/
@[reducible] noncomputable def jC : OpenClaim := Rows.calmBoundsRow
@[reducible] noncomputable def jS : ChangeSpec := Rows.calmBoundsSpec
@[reducible] noncomputable def jN : Func := Tryz.f3
theorem jf0 : (jC.wf (OpenSpec.ofChange jS)) = true := by kernel_rfl
theorem jf1 : (laidOutB Tryz.prog) = true := by kernel_rfl
theorem jf2 : (mapsRowed Tryz.prog) = true := by kernel_rfl
theorem jf3 : (jN.params.all (Tryz.prog.readableRec ·)) = true := by kernel_rfl
theorem jf4 : (namedTie Tryz.prog jC.named jS.vars) = true := by kernel_rfl
theorem jf5 : ((jC.stops == [])) = true := by kernel_rfl
theorem jf6 : ((Tryz.prog.stops == [])) = true := by kernel_rfl
theorem jf7 : ((jC.knobs == [])) = true := by kernel_rfl
theorem jf8 : ((Tryz.prog.stopKnobs == [])) = true := by kernel_rfl
theorem jf9 : ((jC.inPlace == Tryz.prog.inPlace 3)) = true := by kernel_rfl
theorem jf10 : ((jC.unfollowed == Tryz.prog.unfollowed 3)) = true := by kernel_rfl
theorem jf11 : ((jC.recurses == Tryz.prog.recurses 3)) = true := by kernel_rfl
theorem jf12 : ((jC.named == Tryz.prog.varsNamed 3)) = true := by kernel_rfl
theorem jf13 : ((jC.maps == (jN.params.toList ++ jS.plain.varTypes Tryz.prog).any (Tryz.prog.mapsRec ·))) = true := by kernel_rfl
theorem jf14 : ((jC.ifaces == (jN.params.toList ++ jS.plain.varTypes Tryz.prog).any (Tryz.prog.ifacesRec ·))) = true := by kernel_rfl
theorem jf15 : ((jC.mapsOut == Tryz.prog.mapsAmong jN.resultTypes.toList)) = true := by kernel_rfl
theorem jf16 : ((jC.loops == (jN.params.toList ++ jS.plain.varTypes Tryz.prog).any (Tryz.prog.loopsFrom ·))) = true := by kernel_rfl
theorem jf17 : ((jC.wideKeys == (jN.params.toList ++ jS.plain.varTypes Tryz.prog ++ jN.resultTypes.toList).any (Tryz.prog.wideKeysFrom ·))) = true := by kernel_rfl
theorem jf18 : (jS.vars.all (Tryz.prog.varReadable ·)) = true := by kernel_rfl
theorem jf19 : (jN.resultTypes.all (fun t => Tryz.prog.readableRec t && decide (t < Tryz.prog.types.size))) = true := by kernel_rfl
theorem jf20 : ((jC.ifacesOut == jN.resultTypes.toList.any (Tryz.prog.ifacesRec ·))) = true := by kernel_rfl
theorem jf21 : ((jC.loopsOut == jN.resultTypes.toList.any (Tryz.prog.loopsFrom ·))) = true := by kernel_rfl
theorem jf22 : ((jC.plainKeys == Tryz.prog.plainKeys)) = true := by kernel_rfl
theorem jf23 : (jC.shortTexts.isNone) = true := by kernel_rfl
theorem jf24 : (Tryz.prog.stopsHeard) = true := by kernel_rfl
theorem jf25 : (Tryz.prog.mayEnter) = true := by kernel_rfl
theorem jf26 : ((jC.lifted == Tryz.prog.liftsFinal)) = true := by kernel_rfl
theorem jf27 : ((Tryz.prog.make == some jC.make)) = true := by kernel_rfl
theorem jf28 : ((jC.kinds == (if jC.domain.isEmpty then [] else jN.params.toList.map fun t => match Tryz.prog.underlying t with | some (.int k) => some k | _ => none))) = true := by kernel_rfl
theorem jf29 : ((jC.pinned == jC.pinnedBy)) = true := by kernel_rfl
theorem jf30 : ((jC.veiled == (jN.params.toList ++ jS.plain.varTypes Tryz.prog ++ jN.resultTypes.toList).any (Tryz.prog.veiledRec ·))) = true := by kernel_rfl
theorem jf31 : (jC.veiledFits Tryz.prog jN.params.toList (jN.params.toList ++ jS.plain.varTypes Tryz.prog ++ jN.resultTypes.toList)) = true := by kernel_rfl
set_option maxRecDepth 100000 in
theorem jf_all : joinedFacts Tryz.prog 3 jN jS jC = true := by
  unfold joinedFacts
  simp only [Bool.and_eq_true]
  exact ⟨⟨⟨⟨⟨⟨⟨⟨⟨⟨⟨⟨⟨⟨⟨⟨⟨⟨⟨⟨⟨⟨⟨⟨⟨⟨⟨⟨⟨⟨⟨jf0, jf1⟩, jf2⟩, jf3⟩, jf4⟩, jf5⟩, jf6⟩, jf7⟩, jf8⟩, jf9⟩, jf10⟩, jf11⟩, jf12⟩, jf13⟩, jf14⟩, jf15⟩, jf16⟩, jf17⟩, jf18⟩, jf19⟩, jf20⟩, jf21⟩, jf22⟩, jf23⟩, jf24⟩, jf25⟩, jf26⟩, jf27⟩, jf28⟩, jf29⟩, jf30⟩, jf31⟩
end Go.Proofs.YtehlgbbpjbgkaaaGreatDoor
