/-
  Which action any event has, what the trace of any history is, whether it runs, or which event stops it, and to which rows it comes, is as the document's answer has it: TraceTells returns true for every set and every history. No condition.
-/
import Derived.Test.YtcolmljidbbbbaaL3
import Derived.Test.YtcolmljidbbbbaaB1
import Derived.Test.YtcolmljidbbbbaaC0
import Derived.JoinedAt
namespace Go.Proofs.Ytcolmljidbbbbaa
open Go.Chi Go.ChangeShapes Go.WideShapes Go.ChangeAt Go.RowKit

set_option maxRecDepth 100000 in
theorem traceTells_lifted (os : Os) (started : os.Started) (H : Type) (enc : TypeId × Value → H) :
    ReturnsInHanded {} Try.checked os 3 .any (Rows.traceTellsSpec.pre6 enc Try.prog Try.f3 Rows.traceTellsRow.domain false) (Rows.traceTellsSpec.post enc Try.prog Try.f3 false Rows.traceTellsRow.fresh Rows.traceTellsRow.handsOn Rows.traceTellsRow.again) := by
  refine returnsInHanded_of_change (C := Try.checked) own started (by kernel_rfl) Try.func3
    (ChangeSpec.witness6 (enc := enc) (C := Try.checked) false ⟨#[], #[.int .u8 0, .slice none 0 0], []⟩ 8 (by kernel_rfl) (by kernel_rfl) (by kernel_rfl) (by kernel_rfl)) ?_
  intro W base args ds gs before hval hW _ _
  have hW' := hW
  obtain ⟨p, q, hA0, hV, rfl, hfz, hnd⟩ := hW
  have hA : DataW.TrodAll enc Try.prog W 0 (fun _ => true) true Try.f3.params.toList args.toList ds p := hA0
  have hp : Try.f3.params = #[5, 22] := by kernel_rfl
  have hval : ∀ (j : Nat) t v, Try.f3.params[j]? = some t → args[j]? = some v → Value.okWide Try.prog W .any base t v := hval
  rw [hp] at hA hval
  obtain ⟨v0, v1, d0, d1, p0, p1, rfl, rfl, rfl, h0, h1⟩ := trodAll_two hA
  obtain ⟨a0, rfl, rfl, rfl, w0⟩ := open_int u5 (hval 0 5 v0 rfl rfl) h0
  obtain ⟨sa, sl, sc, rfl⟩ := okWide_slice (und_ok tok (t := 22) rfl) (hval 1 22 v1 rfl rfl)
  obtain ⟨fuel, hf⟩ := h1
  obtain ⟨s, hs, hok, hcap⟩ := rd_evs ⟨fuel, _, hf⟩
  have hs' := cells_slice hs ⟨_, _, _, rfl⟩
  refine law_calls (tb := 4) hW' rfl rfl (by kernel_rfl) u4 laid (fun t ht => ?_) ?_
  · have : ∀ t ∈ Try.f3.params.toList, t = 5 ∨ t = 22 := by
      have e : Try.f3.params.toList = [5, 22] := by kernel_rfl
      rw [e]; intro t ht; simpa using ht
    rcases this t ht with rfl | rfl
    · exact ⟨by kernel_rfl, of_decide_eq_true (by kernel_rfl)⟩
    · exact ⟨by kernel_rfl, of_decide_eq_true (by kernel_rfl)⟩
  · rw [hs']
    exact (traceTells_ok (memOf W) [] a0 s (evs_in hok) (by simp [Lit.wf, IntKind.min, IntKind.max, IntKind.signed, IntKind.bits] at w0; omega)).mono fun v M' L' ⟨h1, h2, _⟩ => ⟨h1, by rw [h2]; exact Mem.le_refl _⟩
theorem traceTells_holds : Rows.TraceTellsSaid :=
  OpenClaim.holds_of_wide 3 Try.f3 rfl rfl rfl rfl rfl rfl rfl ⟨rfl, rfl, rfl, rfl, rfl⟩ rfl rfl rfl rfl rfl (by kernel_rfl) Try.func3 (by kernel_rfl)
    (of_decide_eq_true (by kernel_rfl)) (by unfold Func.isWrapper; first | (rw [if_pos (by decide +kernel)]; kernel_rfl) | (rw [if_neg (by decide +kernel)]; exact ⟨rfl, rfl⟩))
    (fun os started H enc _ => traceTells_lifted os started H enc)
#print axioms traceTells_holds
end Go.Proofs.Ytcolmljidbbbbaa
