/-
  What any transaction becomes by a vote, a decision, an acknowledgement, a mark, or why it does not: CoordSteps returns true for every transaction, organisation, vote, tag and time. No condition.
-/
import Derived.Test.YtpmepmdngdkafaaBSA
import Derived.Test.YtpmepmdngdkafaaBSG
import Derived.JoinedAt
import Derived.Carry
namespace Go.Proofs.Ytpmepmdngdkafaa
open Go.Chi Go.ChangeShapes Go.WideShapes Go.ChangeAt Go.RowKit

set_option maxRecDepth 100000 in
theorem coordSteps_lifted (os : Os) (started : os.Started) (H : Type) (enc : TypeId × Value → H) :
    ReturnsInHanded {} Try.checked os 3 .any (Rows.coordStepsSpec.pre6 enc Try.prog Try.f3 Rows.coordStepsRow.domain false) (Rows.coordStepsSpec.post enc Try.prog Try.f3 false Rows.coordStepsRow.fresh Rows.coordStepsRow.handsOn Rows.coordStepsRow.again) := by
  refine returnsInHanded_of_change (C := Try.checked) own started (by kernel_rfl) Try.func3
    (ChangeSpec.witness6 (enc := enc) (C := Try.checked) false ⟨#[], #[.agg #[.int .i64 0, .int .i64 0, .int .i64 0, .int .i64 0, .slice none 0 0, .slice none 0 0, .slice none 0 0, .slice none 0 0, .slice none 0 0, .int .u8 0, .int .i64 0, .int .i64 0], .int .i64 0, .bool false, .string ⟨#[]⟩, .int .i64 0], []⟩ 8 (by kernel_rfl) (by kernel_rfl) (by kernel_rfl) (by kernel_rfl)) ?_
  intro W base args ds gs before hval hW _ _
  have hW' := hW
  obtain ⟨p, q, hA0, hV, rfl, hfz, hnd⟩ := hW
  have hA : DataW.TrodAll enc Try.prog W 0 (fun _ => true) true Try.f3.params.toList args.toList ds p := hA0
  have hp : Try.f3.params = #[29, 3, 4, 9, 2] := by kernel_rfl
  have hval : ∀ (j : Nat) t v, Try.f3.params[j]? = some t → args[j]? = some v → Value.okWide Try.prog W .any base t v := hval
  rw [hp] at hA hval
  obtain ⟨v0, vs0, d0, es0, p0, q0, hv0, hd0, hp0, h0, hr0⟩ := ChangeShapes.trodAll_cons hA
  obtain ⟨v1, vs1, d1, es1, p1, q1, hv1, hd1, hp1, h1, hr1⟩ := ChangeShapes.trodAll_cons hr0
  obtain ⟨v2, vs2, d2, es2, p2, q2, hv2, hd2, hp2, h2, hr2⟩ := ChangeShapes.trodAll_cons hr1
  obtain ⟨v3, vs3, d3, es3, p3, q3, hv3, hd3, hp3, h3, hr3⟩ := ChangeShapes.trodAll_cons hr2
  obtain ⟨v4, vs4, d4, es4, p4, q4, hv4, hd4, hp4, h4, hr4⟩ := ChangeShapes.trodAll_cons hr3
  obtain ⟨hv5, hd5, hp5⟩ := trodAll_nil hr4
  have hargs : args = #[v0, v1, v2, v3, v4] := by
    apply Array.ext'
    rw [hv0, hv1, hv2, hv3, hv4, hv5]
  subst hargs
  have hds : ds = [d0, d1, d2, d3, d4] := by rw [hd0, hd1, hd2, hd3, hd4, hd5]
  subst hds
  obtain ⟨t0, rfl, _⟩ := okWide_struct (und_ok tok (t := 29) rfl) (hval 0 _ v0 rfl rfl)
  obtain ⟨fu0, hf0⟩ := h0
  obtain ⟨c, c0, hi, hv0'⟩ := rd_co ⟨fu0, _, hf0⟩
  have e0 : t0 = ⟨coC c⟩ := by
    have : t0.toList = coC c := by simpa [Value.cells] using c0
    rw [← this]
  subst e0
  obtain ⟨a1, rfl, _, _, w1⟩ := open_int uInt (hval 1 _ v1 rfl rfl) h1
  obtain ⟨a2, rfl, _, _⟩ := open_bool uBool (hval 2 _ v2 rfl rfl) h2
  obtain ⟨a3, rfl, _, _, w3⟩ := ChangeMaps.open_string uStr (hval 3 _ v3 rfl rfl) h3
  obtain ⟨a4, rfl, _, _, w4⟩ := open_int uI64 (hval 4 _ v4 rfl rfl) h4
  refine law_calls (tb := 4) hW' rfl rfl (by kernel_rfl) uBool laid (fun t ht => ?_) ?_
  · have e : Try.f3.params.toList = [29, 3, 4, 9, 2] := by kernel_rfl
    rw [e] at ht
    simp only [List.mem_cons, List.not_mem_nil, or_false] at ht
    rcases ht with rfl | rfl | rfl | rfl | rfl
    · exact ⟨by kernel_rfl, of_decide_eq_true (by kernel_rfl)⟩
    · exact ⟨by kernel_rfl, of_decide_eq_true (by kernel_rfl)⟩
    · exact ⟨by kernel_rfl, of_decide_eq_true (by kernel_rfl)⟩
    · exact ⟨by kernel_rfl, of_decide_eq_true (by kernel_rfl)⟩
    · exact ⟨by kernel_rfl, of_decide_eq_true (by kernel_rfl)⟩
  · exact (coordSteps_ok (memOf W) [] c hi hv0' a1 a2 a3 a4).mono fun v M' L' ⟨h1, h2, _⟩ => ⟨h1, h2⟩
theorem coordSteps_holds : Rows.CoordStepsSaid :=
  OpenClaim.holds_of_wide 3 Try.f3 rfl rfl rfl rfl rfl rfl rfl ⟨rfl, rfl, rfl, rfl, rfl⟩ rfl rfl rfl rfl rfl (by kernel_rfl) Try.func3 (by kernel_rfl)
    (of_decide_eq_true (by kernel_rfl)) (by unfold Func.isWrapper; first | (rw [if_pos (by decide +kernel)]; kernel_rfl) | (rw [if_neg (by decide +kernel)]; exact ⟨rfl, rfl⟩))
    (fun os started H enc _ => coordSteps_lifted os started H enc)
#print axioms coordSteps_holds
end Go.Proofs.Ytpmepmdngdkafaa
