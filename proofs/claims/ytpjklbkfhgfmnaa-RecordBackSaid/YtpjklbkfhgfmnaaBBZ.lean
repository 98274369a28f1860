/-
  What was encoded is decoded, and what was decoded may be, and is encoded as it was: RecordBack returns true for every record and text. No condition.
-/
import Derived.Test.YtpjklbkfhgfmnaaBBA
import Derived.Test.YtpjklbkfhgfmnaaBBF
import Derived.JoinedAt
import Derived.Carry
namespace Go.Proofs.Ytpjklbkfhgfmnaa
open Go.Chi Go.ChangeShapes Go.WideShapes Go.ChangeAt Go.RowKit

set_option maxRecDepth 100000 in
theorem recordBack_lifted (os : Os) (started : os.Started) (H : Type) (enc : TypeId × Value → H) :
    ReturnsInHanded {} Try.checked os 5 .any (Rows.recordBackSpec.pre6 enc Try.prog Try.f5 Rows.recordBackRow.domain false) (Rows.recordBackSpec.post enc Try.prog Try.f5 false Rows.recordBackRow.fresh Rows.recordBackRow.handsOn Rows.recordBackRow.again) := by
  refine returnsInHanded_of_change (C := Try.checked) own started (by kernel_rfl) Try.func5
    (ChangeSpec.witness6 (enc := enc) (C := Try.checked) false ⟨#[], #[.agg #[.int .u8 0, .int .i64 0, .int .i64 0, .int .i64 0, .int .i64 0, .bool false, .int .i64 0, .slice none 0 0, .slice none 0 0, .string ⟨#[]⟩], .string ⟨#[]⟩], []⟩ 8 (by kernel_rfl) (by kernel_rfl) (by kernel_rfl) (by kernel_rfl)) ?_
  intro W base args ds gs before hval hW _ _
  have hW' := hW
  obtain ⟨p, q, hA0, hV, rfl, hfz, hnd⟩ := hW
  have hA : DataW.TrodAll enc Try.prog W 0 (fun _ => true) true Try.f5.params.toList args.toList ds p := hA0
  have hp : Try.f5.params = #[27, 9] := by kernel_rfl
  have hval : ∀ (j : Nat) t v, Try.f5.params[j]? = some t → args[j]? = some v → Value.okWide Try.prog W .any base t v := hval
  rw [hp] at hA hval
  obtain ⟨v0, vs0, d0, es0, p0, q0, hv0, hd0, hp0, h0, hr0⟩ := ChangeShapes.trodAll_cons hA
  obtain ⟨v1, vs1, d1, es1, p1, q1, hv1, hd1, hp1, h1, hr1⟩ := ChangeShapes.trodAll_cons hr0
  obtain ⟨hv2, hd2, hp2⟩ := trodAll_nil hr1
  have hargs : args = #[v0, v1] := by
    apply Array.ext'
    rw [hv0, hv1, hv2]
  subst hargs
  have hds : ds = [d0, d1] := by rw [hd0, hd1, hd2]
  subst hds
  obtain ⟨t0, rfl, _⟩ := okWide_struct (und_ok tok (t := 27) rfl) (hval 0 _ v0 rfl rfl)
  obtain ⟨fu0, hf0⟩ := h0
  obtain ⟨r0, c0, hi0⟩ := rd_rc ⟨fu0, _, hf0⟩
  have e0 : t0 = ⟨rcC r0⟩ := by
    have : t0.toList = rcC r0 := by simpa [Value.cells] using c0
    rw [← this]
  subst e0
  obtain ⟨a1, rfl, _, _, w1⟩ := ChangeMaps.open_string uStr (hval 1 _ v1 rfl rfl) h1
  refine law_calls (tb := 4) hW' rfl rfl (by kernel_rfl) uBool laid (fun t ht => ?_) ?_
  · have e : Try.f5.params.toList = [27, 9] := by kernel_rfl
    rw [e] at ht
    simp only [List.mem_cons, List.not_mem_nil, or_false] at ht
    rcases ht with rfl | rfl
    · exact ⟨by kernel_rfl, of_decide_eq_true (by kernel_rfl)⟩
    · exact ⟨by kernel_rfl, of_decide_eq_true (by kernel_rfl)⟩
  · exact (recordBack_ok (memOf W) [] r0 hi0 a1).mono fun v M' L' ⟨h1, h2, _⟩ => ⟨h1, h2⟩
theorem recordBack_holds : Rows.RecordBackSaid :=
  OpenClaim.holds_of_wide 5 Try.f5 rfl rfl rfl rfl rfl rfl rfl ⟨rfl, rfl, rfl, rfl, rfl⟩ rfl rfl rfl rfl rfl (by kernel_rfl) Try.func5 (by kernel_rfl)
    (of_decide_eq_true (by kernel_rfl)) (by unfold Func.isWrapper; first | (rw [if_pos (by decide +kernel)]; kernel_rfl) | (rw [if_neg (by decide +kernel)]; exact ⟨rfl, rfl⟩))
    (fun os started H enc _ => recordBack_lifted os started H enc)
#print axioms recordBack_holds
end Go.Proofs.Ytpjklbkfhgfmnaa
