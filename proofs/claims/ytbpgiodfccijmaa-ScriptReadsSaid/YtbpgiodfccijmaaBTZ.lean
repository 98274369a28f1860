/-
  Which acts stand at the front of any bytes, and which script any bytes are, or that they are none: ScriptReads returns true for every text. No condition.
-/
import Derived.Test.YtbpgiodfccijmaaBTB
import Derived.Test.YtbpgiodfccijmaaBTG
import Derived.JoinedAt
import Derived.Carry
namespace Go.Proofs.Ytbpgiodfccijmaa
open Go.Chi Go.ChangeShapes Go.WideShapes Go.ChangeAt Go.RowKit

set_option maxRecDepth 100000 in
theorem scriptReads_lifted (os : Os) (started : os.Started) (H : Type) (enc : TypeId × Value → H) :
    ReturnsInHanded {} Try.checked os 4 .any (Rows.scriptReadsSpec.pre6 enc Try.prog Try.f4 Rows.scriptReadsRow.domain false) (Rows.scriptReadsSpec.post enc Try.prog Try.f4 false Rows.scriptReadsRow.fresh Rows.scriptReadsRow.handsOn Rows.scriptReadsRow.again) := by
  refine returnsInHanded_of_change (C := Try.checked) own started (by kernel_rfl) Try.func4
    (ChangeSpec.witness6 (enc := enc) (C := Try.checked) false ⟨#[], #[.string ⟨#[]⟩], []⟩ 8 (by kernel_rfl) (by kernel_rfl) (by kernel_rfl) (by kernel_rfl)) ?_
  intro W base args ds gs before hval hW _ _
  have hW' := hW
  obtain ⟨p, q, hA0, hV, rfl, hfz, hnd⟩ := hW
  have hA : DataW.TrodAll enc Try.prog W 0 (fun _ => true) true Try.f4.params.toList args.toList ds p := hA0
  have hp : Try.f4.params = #[9] := by kernel_rfl
  have hval : ∀ (j : Nat) t v, Try.f4.params[j]? = some t → args[j]? = some v → Value.okWide Try.prog W .any base t v := hval
  rw [hp] at hA hval
  obtain ⟨v0, vs0, d0, es0, p0, q0, hv0, hd0, hp0, h0, hr0⟩ := ChangeShapes.trodAll_cons hA
  obtain ⟨hv1, hd1, hp1⟩ := trodAll_nil hr0
  have hargs : args = #[v0] := by
    apply Array.ext'
    rw [hv0, hv1]
  subst hargs
  have hds : ds = [d0] := by rw [hd0, hd1]
  subst hds
  obtain ⟨a0, rfl, _, _, w0⟩ := ChangeMaps.open_string uStr (hval 0 _ v0 rfl rfl) h0
  refine law_calls (tb := 4) hW' rfl rfl (by kernel_rfl) uBool laid (fun t ht => ?_) ?_
  · have e : Try.f4.params.toList = [9] := by kernel_rfl
    rw [e] at ht
    simp only [List.mem_cons, List.not_mem_nil, or_false] at ht
    rcases ht with rfl
    · exact ⟨by kernel_rfl, of_decide_eq_true (by kernel_rfl)⟩
  · exact (scriptReads_ok (memOf W) [] a0).mono fun v M' L' ⟨h1, h2, _⟩ => ⟨h1, h2⟩
theorem scriptReads_holds : Rows.ScriptReadsSaid :=
  OpenClaim.holds_of_wide 4 Try.f4 rfl rfl rfl rfl rfl rfl rfl ⟨rfl, rfl, rfl, rfl, rfl⟩ rfl rfl rfl rfl rfl (by kernel_rfl) Try.func4 (by kernel_rfl)
    (of_decide_eq_true (by kernel_rfl)) (by unfold Func.isWrapper; first | (rw [if_pos (by decide +kernel)]; kernel_rfl) | (rw [if_neg (by decide +kernel)]; exact ⟨rfl, rfl⟩))
    (fun os started H enc _ => scriptReads_lifted os started H enc)
#print axioms scriptReads_holds
end Go.Proofs.Ytbpgiodfccijmaa
