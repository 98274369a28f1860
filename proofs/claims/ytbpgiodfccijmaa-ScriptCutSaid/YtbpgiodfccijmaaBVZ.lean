/-
  A script that is cut, anywhere, is that of the acts whose bytes are whole, and something behind it that is none: ScriptCut returns true for all acts and wherever it is cut. No condition.
-/
import Derived.Test.YtbpgiodfccijmaaBTB
import Derived.Test.YtbpgiodfccijmaaBVA
import Derived.JoinedAt
import Derived.Carry
namespace Go.Proofs.Ytbpgiodfccijmaa
open Go.Chi Go.ChangeShapes Go.WideShapes Go.ChangeAt Go.RowKit

set_option maxRecDepth 100000 in
theorem scriptCut_lifted (os : Os) (started : os.Started) (H : Type) (enc : TypeId × Value → H) :
    ReturnsInHanded {} Try.checked os 6 .any (Rows.scriptCutSpec.pre6 enc Try.prog Try.f6 Rows.scriptCutRow.domain false) (Rows.scriptCutSpec.post enc Try.prog Try.f6 false Rows.scriptCutRow.fresh Rows.scriptCutRow.handsOn Rows.scriptCutRow.again) := by
  refine returnsInHanded_of_change (C := Try.checked) own started (by kernel_rfl) Try.func6
    (ChangeSpec.witness6 (enc := enc) (C := Try.checked) false ⟨#[], #[.slice none 0 0, .int .u16 0], []⟩ 8 (by kernel_rfl) (by kernel_rfl) (by kernel_rfl) (by kernel_rfl)) ?_
  intro W base args ds gs before hval hW _ _
  have hW' := hW
  obtain ⟨p, q, hA0, hV, rfl, hfz, hnd⟩ := hW
  have hA : DataW.TrodAll enc Try.prog W 0 (fun _ => true) true Try.f6.params.toList args.toList ds p := hA0
  have hp : Try.f6.params = #[22, 45] := by kernel_rfl
  have hval : ∀ (j : Nat) t v, Try.f6.params[j]? = some t → args[j]? = some v → Value.okWide Try.prog W .any base t v := hval
  rw [hp] at hA hval
  obtain ⟨v0, vs0, d0, es0, p0, q0, hv0, hd0, hp0, h0, hr0⟩ := ChangeShapes.trodAll_cons hA
  obtain ⟨v1, vs1, d1, es1, p1, q1, hv1, hd1, hp1, h1, hr1⟩ := ChangeShapes.trodAll_cons hr0
  obtain ⟨hv2, hd2, hp2⟩ := trodAll_nil hr1
  have hargs : args = #[v0, v1] := by
    apply Array.ext'
    rw [hv0, hv1, hv2]
  subst hargs
  have hds : ds = [d0, d1] := by rw [hd0, hd1, hd2]
  subst hds
  obtain ⟨sa0, sl0, sc0, rfl⟩ := okWide_slice (und_ok tok (t := 22) rfl) (hval 0 _ v0 rfl rfl)
  obtain ⟨fu0, hf0⟩ := h0
  obtain ⟨s0, c0, hi0, hcap0⟩ := rd_saxc ⟨fu0, _, hf0⟩
  have e0 : Value.slice sa0 sl0 sc0 = s0.v := by simpa [Value.cells] using c0
  obtain ⟨a1, rfl, _, _, w1⟩ := open_int uU16 (hval 1 _ v1 rfl rfl) h1
  refine law_calls (tb := 4) hW' rfl rfl (by kernel_rfl) uBool laid (fun t ht => ?_) ?_
  · have e : Try.f6.params.toList = [22, 45] := by kernel_rfl
    rw [e] at ht
    simp only [List.mem_cons, List.not_mem_nil, or_false] at ht
    rcases ht with rfl | rfl
    · exact ⟨by kernel_rfl, of_decide_eq_true (by kernel_rfl)⟩
    · exact ⟨by kernel_rfl, of_decide_eq_true (by kernel_rfl)⟩
  · rw [e0]
    exact (scriptCut_ok (memOf W) [] s0 hi0 hcap0 a1 (u16_r w1)).mono fun v M' L' ⟨h1, h2, _⟩ => ⟨h1, h2⟩
theorem scriptCut_holds : Rows.ScriptCutSaid :=
  OpenClaim.holds_of_wide 6 Try.f6 rfl rfl rfl rfl rfl rfl rfl ⟨rfl, rfl, rfl, rfl, rfl⟩ rfl rfl rfl rfl rfl (by kernel_rfl) Try.func6 (by kernel_rfl)
    (of_decide_eq_true (by kernel_rfl)) (by unfold Func.isWrapper; first | (rw [if_pos (by decide +kernel)]; kernel_rfl) | (rw [if_neg (by decide +kernel)]; exact ⟨rfl, rfl⟩))
    (fun os started H enc _ => scriptCut_lifted os started H enc)
#print axioms scriptCut_holds
end Go.Proofs.Ytbpgiodfccijmaa
