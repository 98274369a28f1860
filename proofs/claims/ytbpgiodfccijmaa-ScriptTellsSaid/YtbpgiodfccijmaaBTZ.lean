/-
  Which acts may be written, and which script any acts have, or why they have none: ScriptTells returns true for all acts. No condition.
-/
import Derived.Test.YtbpgiodfccijmaaBTB
import Derived.Test.YtbpgiodfccijmaaBTG
import Derived.JoinedAt
import Derived.Carry
namespace Go.Proofs.Ytbpgiodfccijmaa
open Go.Chi Go.ChangeShapes Go.WideShapes Go.ChangeAt Go.RowKit

set_option maxRecDepth 100000 in
theorem scriptTells_lifted (os : Os) (started : os.Started) (H : Type) (enc : TypeId × Value → H) :
    ReturnsInHanded {} Try.checked os 3 .any (Rows.scriptTellsSpec.pre6 enc Try.prog Try.f3 Rows.scriptTellsRow.domain false) (Rows.scriptTellsSpec.post enc Try.prog Try.f3 false Rows.scriptTellsRow.fresh Rows.scriptTellsRow.handsOn Rows.scriptTellsRow.again) := by
  refine returnsInHanded_of_change (C := Try.checked) own started (by kernel_rfl) Try.func3
    (ChangeSpec.witness6 (enc := enc) (C := Try.checked) false ⟨#[], #[.slice none 0 0], []⟩ 8 (by kernel_rfl) (by kernel_rfl) (by kernel_rfl) (by kernel_rfl)) ?_
  intro W base args ds gs before hval hW _ _
  have hW' := hW
  obtain ⟨p, q, hA0, hV, rfl, hfz, hnd⟩ := hW
  have hA : DataW.TrodAll enc Try.prog W 0 (fun _ => true) true Try.f3.params.toList args.toList ds p := hA0
  have hp : Try.f3.params = #[22] := by kernel_rfl
  have hval : ∀ (j : Nat) t v, Try.f3.params[j]? = some t → args[j]? = some v → Value.okWide Try.prog W .any base t v := hval
  rw [hp] at hA hval
  obtain ⟨v0, vs0, d0, es0, p0, q0, hv0, hd0, hp0, h0, hr0⟩ := ChangeShapes.trodAll_cons hA
  obtain ⟨hv1, hd1, hp1⟩ := trodAll_nil hr0
  have hargs : args = #[v0] := by
    apply Array.ext'
    rw [hv0, hv1]
  subst hargs
  have hds : ds = [d0] := by rw [hd0, hd1]
  subst hds
  obtain ⟨sa0, sl0, sc0, rfl⟩ := okWide_slice (und_ok tok (t := 22) rfl) (hval 0 _ v0 rfl rfl)
  obtain ⟨fu0, hf0⟩ := h0
  obtain ⟨s0, c0, hi0⟩ := rd_sax ⟨fu0, _, hf0⟩
  have e0 : Value.slice sa0 sl0 sc0 = s0.v := by simpa [Value.cells] using c0
  refine law_calls (tb := 4) hW' rfl rfl (by kernel_rfl) uBool laid (fun t ht => ?_) ?_
  · have e : Try.f3.params.toList = [22] := by kernel_rfl
    rw [e] at ht
    simp only [List.mem_cons, List.not_mem_nil, or_false] at ht
    rcases ht with rfl
    · exact ⟨by kernel_rfl, of_decide_eq_true (by kernel_rfl)⟩
  · rw [e0]
    exact (scriptTells_ok (memOf W) [] s0 hi0).mono fun v M' L' ⟨h1, h2, _⟩ => ⟨h1, h2⟩
theorem scriptTells_holds : Rows.ScriptTellsSaid :=
  OpenClaim.holds_of_wide 3 Try.f3 rfl rfl rfl rfl rfl rfl rfl ⟨rfl, rfl, rfl, rfl, rfl⟩ rfl rfl rfl rfl rfl (by kernel_rfl) Try.func3 (by kernel_rfl)
    (of_decide_eq_true (by kernel_rfl)) (by unfold Func.isWrapper; first | (rw [if_pos (by decide +kernel)]; kernel_rfl) | (rw [if_neg (by decide +kernel)]; exact ⟨rfl, rfl⟩))
    (fun os started H enc _ => scriptTells_lifted os started H enc)
#print axioms scriptTells_holds
end Go.Proofs.Ytbpgiodfccijmaa
