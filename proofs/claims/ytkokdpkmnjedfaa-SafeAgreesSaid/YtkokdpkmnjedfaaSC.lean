/-
  In a safe history all outcomes of a transaction with an honest coordinator are the same, a commit stands behind yes votes of all honest members, and each beginning of it is safe: SafeAgrees returns true for every set, every history, every transaction and every place to cut. No condition.
-/
import Derived.Test.YtkokdpkmnjedfaaS9
import Derived.Test.YtkokdpkmnjedfaaSB
import Derived.JoinedAt
import Derived.Carry
namespace Go.Proofs.Ytkokdpkmnjedfaa
open Go.Chi Go.ChangeShapes Go.WideShapes Go.ChangeAt Go.RowKit

set_option maxRecDepth 100000 in
theorem safeAgrees_lifted (os : Os) (started : os.Started) (H : Type) (enc : TypeId × Value → H) :
    ReturnsInHanded {} Try.checked os 3 .any (Rows.safeAgreesSpec.pre6 enc Try.prog Try.f3 Rows.safeAgreesRow.domain false) (Rows.safeAgreesSpec.post enc Try.prog Try.f3 false Rows.safeAgreesRow.fresh Rows.safeAgreesRow.handsOn Rows.safeAgreesRow.again) := by
  refine returnsInHanded_of_change (C := Try.checked) own started (by kernel_rfl) Try.func3
    (ChangeSpec.witness6 (enc := enc) (C := Try.checked) false ⟨#[], #[.int .u8 0, .slice none 0 0, .agg #[.int .i64 0, .int .i64 0, .int .i64 0], .int .u8 0], []⟩ 8 (by kernel_rfl) (by kernel_rfl) (by kernel_rfl) (by kernel_rfl)) ?_
  intro W base args ds gs before hval hW _ _
  have hW' := hW
  obtain ⟨p, q, hA0, hV, rfl, hfz, hnd⟩ := hW
  have hA : DataW.TrodAll enc Try.prog W 0 (fun _ => true) true Try.f3.params.toList args.toList ds p := hA0
  have hp : Try.f3.params = #[5, 22, 24, 5] := by kernel_rfl
  have hval : ∀ (j : Nat) t v, Try.f3.params[j]? = some t → args[j]? = some v → Value.okWide Try.prog W .any base t v := hval
  rw [hp] at hA hval
  obtain ⟨v0, v1, v2, v3, d0, d1, d2, d3, p0, p1, p2, p3, rfl, rfl, rfl, h0, h1, h2, h3⟩ := trodAll_four hA
  obtain ⟨a0, rfl, rfl, rfl, w0⟩ := open_int uU8 (hval 0 _ v0 rfl rfl) h0
  obtain ⟨a3, rfl, rfl, rfl, w3⟩ := open_int uU8 (hval 3 _ v3 rfl rfl) h3
  obtain ⟨sa, sl, sc, rfl⟩ := okWide_slice (und_ok tok (t := 22) rfl) (hval 1 _ v1 rfl rfl)
  obtain ⟨tc, rfl, _⟩ := okWide_struct (und_ok tok (t := 24) rfl) (hval 2 _ v2 rfl rfl)
  obtain ⟨fuel, hf⟩ := h1
  obtain ⟨s, hs, hok, hcap⟩ := rd_evs ⟨fuel, _, hf⟩
  obtain ⟨fuel2, hf2⟩ := h2
  obtain ⟨t, ht⟩ := rd_tx ⟨fuel2, _, hf2⟩
  have hs' := cells_slice hs ⟨_, _, _, rfl⟩
  have ht' : tc = ⟨txC t⟩ := by
    have : tc.toList = txC t := by simpa [Value.cells] using ht
    rw [← this]
  refine law_calls (tb := 4) hW' rfl rfl (by kernel_rfl) uBool laid (fun t ht => ?_) ?_
  · have : ∀ t ∈ Try.f3.params.toList, t = 5 ∨ t = 22 ∨ t = 24 := by
      have e : Try.f3.params.toList = [5, 22, 24, 5] := by kernel_rfl
      rw [e]; intro t ht; simp at ht; rcases ht with h | h | h | h <;> simp [h]
    rcases this t ht with rfl | rfl | rfl
    · exact ⟨by kernel_rfl, of_decide_eq_true (by kernel_rfl)⟩
    · exact ⟨by kernel_rfl, of_decide_eq_true (by kernel_rfl)⟩
    · exact ⟨by kernel_rfl, of_decide_eq_true (by kernel_rfl)⟩
  · rw [hs', ht']
    exact (safeAgrees_ok (memOf W) [] a0 a3 s t ⟨hok.1, hok.2⟩ hcap (by simp [Lit.wf, IntKind.min, IntKind.max, IntKind.signed, IntKind.bits] at w0; omega) (by simp [Lit.wf, IntKind.min, IntKind.max, IntKind.signed, IntKind.bits] at w3; omega)).mono fun v M' L' ⟨h1, h2, _⟩ => ⟨h1, by rw [h2]; exact Mem.le_refl _⟩
theorem safeAgrees_holds : Rows.SafeAgreesSaid :=
  OpenClaim.holds_of_wide 3 Try.f3 rfl rfl rfl rfl rfl rfl rfl ⟨rfl, rfl, rfl, rfl, rfl⟩ rfl rfl rfl rfl rfl (by kernel_rfl) Try.func3 (by kernel_rfl)
    (of_decide_eq_true (by kernel_rfl)) (by unfold Func.isWrapper; first | (rw [if_pos (by decide +kernel)]; kernel_rfl) | (rw [if_neg (by decide +kernel)]; exact ⟨rfl, rfl⟩))
    (fun os started H enc _ => safeAgrees_lifted os started H enc)
#print axioms safeAgrees_holds
end Go.Proofs.Ytkokdpkmnjedfaa
