/-
  There is room in a net for just 4096 posts, whatever they are: NetFull returns true for every post. No condition.
-/
import Derived.Test.YtnpnchmogpfjbaaN21
import Derived.Test.YtnpnchmogpfjbaaNB
import Derived.JoinedAt
import Derived.Carry
namespace Go.Proofs.Ytnpnchmogpfjbaa
open Go.Chi Go.ChangeShapes Go.WideShapes Go.ChangeAt Go.RowKit

set_option maxRecDepth 100000 in
theorem netFull_lifted (os : Os) (started : os.Started) (H : Type) (enc : TypeId × Value → H) :
    ReturnsInHanded {} Try.checked os 3 .any (Rows.netFullSpec.pre6 enc Try.prog Try.f3 Rows.netFullRow.domain false) (Rows.netFullSpec.post enc Try.prog Try.f3 false Rows.netFullRow.fresh Rows.netFullRow.handsOn Rows.netFullRow.again) := by
  refine returnsInHanded_of_change (C := Try.checked) own started (by kernel_rfl) Try.func3
    (ChangeSpec.witness6 (enc := enc) (C := Try.checked) false ⟨#[], #[.agg #[.int .i64 0, .int .i64 0, .string ⟨#[]⟩]], []⟩ 8 (by kernel_rfl) (by kernel_rfl) (by kernel_rfl) (by kernel_rfl)) ?_
  intro W base args ds gs before hval hW _ _
  have hW' := hW
  obtain ⟨p, q, hA0, hV, rfl, hfz, hnd⟩ := hW
  have hA : DataW.TrodAll enc Try.prog W 0 (fun _ => true) true Try.f3.params.toList args.toList ds p := hA0
  have hp : Try.f3.params = #[23] := by kernel_rfl
  have hval : ∀ (j : Nat) t v, Try.f3.params[j]? = some t → args[j]? = some v → Value.okWide Try.prog W .any base t v := hval
  rw [hp] at hA hval
  obtain ⟨v0, d0, rfl, rfl, h0⟩ := trodAll_one hA
  obtain ⟨tc, rfl, _⟩ := okWide_struct (und_ok tok (t := 23) rfl) (hval 0 _ v0 rfl rfl)
  obtain ⟨fuel, hf⟩ := h0
  obtain ⟨p, ht, _⟩ := rd_po ⟨fuel, _, hf⟩
  have ht' : tc = ⟨poC p⟩ := by
    have : tc.toList = poC p := by simpa [Value.cells] using ht
    rw [← this]
  refine law_calls (tb := 4) hW' rfl rfl (by kernel_rfl) uBool laid (fun t ht => ?_) ?_
  · have : t = 23 := by
      have e : Try.f3.params.toList = [23] := by kernel_rfl
      rw [e] at ht; simpa using ht
    subst this
    exact ⟨by kernel_rfl, of_decide_eq_true (by kernel_rfl)⟩
  · rw [ht']
    exact (netFull_ok (memOf W) [] p).mono fun v M' L' ⟨h1, h2, _⟩ => ⟨h1, h2⟩
theorem netFull_holds : Rows.NetFullSaid :=
  OpenClaim.holds_of_wide 3 Try.f3 rfl rfl rfl rfl rfl rfl rfl ⟨rfl, rfl, rfl, rfl, rfl⟩ rfl rfl rfl rfl rfl (by kernel_rfl) Try.func3 (by kernel_rfl)
    (of_decide_eq_true (by kernel_rfl)) (by unfold Func.isWrapper; first | (rw [if_pos (by decide +kernel)]; kernel_rfl) | (rw [if_neg (by decide +kernel)]; exact ⟨rfl, rfl⟩))
    (fun os started H enc _ => netFull_lifted os started H enc)
#print axioms netFull_holds
end Go.Proofs.Ytnpnchmogpfjbaa
