/-
  The trace of two histories, one behind the other, is theirs, each action is that of the event whose place is told, and a beginning of a history whose trace runs has one that runs: TraceParts returns true for every set, every history and every place to cut. No condition.
-/
import Derived.Test.YtcolmljidbbbbaaL2
import Derived.Test.YtcolmljidbbbbaaB1
import Derived.Test.YtcolmljidbbbbaaC0
import Derived.Test.YtcolmljidbbbbaaLgS
import Derived.JoinedAt
namespace Go.Proofs.Ytcolmljidbbbbaa
open Go.Chi Go.ChangeShapes Go.WideShapes Go.ChangeAt Go.RowKit

set_option maxRecDepth 100000 in
theorem traceParts_lifted (os : Os) (started : os.Started) (H : Type) (enc : TypeId × Value → H) :
    ReturnsInHanded {} Try.checked os 4 .any (Rows.tracePartsSpec.pre6 enc Try.prog Try.f4 Rows.tracePartsRow.domain false) (Rows.tracePartsSpec.post enc Try.prog Try.f4 false Rows.tracePartsRow.fresh Rows.tracePartsRow.handsOn Rows.tracePartsRow.again) := by
  refine returnsInHanded_of_change (C := Try.checked) own started (by kernel_rfl) Try.func4
    (ChangeSpec.witness6 (enc := enc) (C := Try.checked) false ⟨#[], #[.int .u8 0, .slice none 0 0, .int .u8 0], []⟩ 8 (by kernel_rfl) (by kernel_rfl) (by kernel_rfl) (by kernel_rfl)) ?_
  intro W base args ds gs before hval hW _ _
  have hW' := hW
  obtain ⟨p, q, hA0, hV, rfl, hfz, hnd⟩ := hW
  have hA : DataW.TrodAll enc Try.prog W 0 (fun _ => true) true Try.f4.params.toList args.toList ds p := hA0
  have hp : Try.f4.params = #[5, 22, 5] := by kernel_rfl
  have hval : ∀ (j : Nat) t v, Try.f4.params[j]? = some t → args[j]? = some v → Value.okWide Try.prog W .any base t v := hval
  rw [hp] at hA hval
  obtain ⟨v0, v1, v2, d0, d1, d2, p0, p1, p2, rfl, rfl, h0, h1, h2⟩ := trod3 hA
  obtain ⟨a0, rfl, rfl, rfl, w0⟩ := open_int u5 (hval 0 5 v0 rfl rfl) h0
  obtain ⟨a2, rfl, rfl, rfl, w2⟩ := open_int u5 (hval 2 5 v2 rfl rfl) h2
  obtain ⟨sa, sl, sc, rfl⟩ := okWide_slice (und_ok tok (t := 22) rfl) (hval 1 22 v1 rfl rfl)
  obtain ⟨fuel, hf⟩ := h1
  obtain ⟨s, hs, hok, hcap⟩ := rd_evs ⟨fuel, _, hf⟩
  have hs' := cells_slice hs ⟨_, _, _, rfl⟩
  refine law_calls (tb := 4) hW' rfl rfl (by kernel_rfl) u4 laid (fun t ht => ?_) ?_
  · have : ∀ t ∈ Try.f4.params.toList, t = 5 ∨ t = 22 := by
      have e : Try.f4.params.toList = [5, 22, 5] := by kernel_rfl
      rw [e]; intro t ht; simp at ht; rcases ht with h | h | h <;> simp [h]
    rcases this t ht with rfl | rfl
    · exact ⟨by kernel_rfl, of_decide_eq_true (by kernel_rfl)⟩
    · exact ⟨by kernel_rfl, of_decide_eq_true (by kernel_rfl)⟩
  · rw [hs']
    exact (traceParts_ok (memOf W) [] a0 a2 s (evs_in hok) hcap (by simp [Lit.wf, IntKind.min, IntKind.max, IntKind.signed, IntKind.bits] at w2; omega)).mono fun v M' L' ⟨h1, h2, _⟩ => ⟨h1, by rw [h2]; exact Mem.le_refl _⟩
theorem traceParts_holds : Rows.TracePartsSaid :=
  OpenClaim.holds_of_wide 4 Try.f4 rfl rfl rfl rfl rfl rfl rfl ⟨rfl, rfl, rfl, rfl, rfl⟩ rfl rfl rfl rfl rfl (by kernel_rfl) Try.func4 (by kernel_rfl)
    (of_decide_eq_true (by kernel_rfl)) (by unfold Func.isWrapper; first | (rw [if_pos (by decide +kernel)]; kernel_rfl) | (rw [if_neg (by decide +kernel)]; exact ⟨rfl, rfl⟩))
    (fun os started H enc _ => traceParts_lifted os started H enc)
#print axioms traceParts_holds
end Go.Proofs.Ytcolmljidbbbbaa
