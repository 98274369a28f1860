/-
  What was put into a net is there for ever, under its number; each post is for one organisation; no two that are the same are the same time: NetStays returns true for every row of posts. No condition.
-/
import Derived.Test.YtnpnchmogpfjbaaN16
import Derived.Test.YtnpnchmogpfjbaaNB
import Derived.JoinedAt
import Derived.Carry
namespace Go.Proofs.Ytnpnchmogpfjbaa
open Go.Chi Go.ChangeShapes Go.WideShapes Go.ChangeAt Go.RowKit

set_option maxRecDepth 100000 in
theorem netStays_lifted (os : Os) (started : os.Started) (H : Type) (enc : TypeId × Value → H) :
    ReturnsInHanded {} Try.checked os 4 .any (Rows.netStaysSpec.pre6 enc Try.prog Try.f4 Rows.netStaysRow.domain false) (Rows.netStaysSpec.post enc Try.prog Try.f4 false Rows.netStaysRow.fresh Rows.netStaysRow.handsOn Rows.netStaysRow.again) := by
  refine returnsInHanded_of_change (C := Try.checked) own started (by kernel_rfl) Try.func4
    (ChangeSpec.witness6 (enc := enc) (C := Try.checked) false ⟨#[], #[.slice none 0 0], []⟩ 8 (by kernel_rfl) (by kernel_rfl) (by kernel_rfl) (by kernel_rfl)) ?_
  intro W base args ds gs before hval hW _ _
  have hW' := hW
  obtain ⟨p, q, hA0, hV, rfl, hfz, hnd⟩ := hW
  have hA : DataW.TrodAll enc Try.prog W 0 (fun _ => true) true Try.f4.params.toList args.toList ds p := hA0
  have hp : Try.f4.params = #[35] := by kernel_rfl
  have hval : ∀ (j : Nat) t v, Try.f4.params[j]? = some t → args[j]? = some v → Value.okWide Try.prog W .any base t v := hval
  rw [hp] at hA hval
  obtain ⟨v0, d0, rfl, rfl, h0⟩ := trodAll_one hA
  obtain ⟨sa, sl, sc, rfl⟩ := okWide_slice (und_ok tok (t := 35) rfl) (hval 0 _ v0 rfl rfl)
  obtain ⟨fuel, hf⟩ := h0
  obtain ⟨a, cap, xs, hs, hok⟩ := rd_pos ⟨fuel, _, hf⟩
  have hs' : Value.slice sa sl sc = .slice a xs.length cap := by simpa [Value.cells] using hs
  refine law_calls (tb := 4) hW' rfl rfl (by kernel_rfl) uBool laid (fun t ht => ?_) ?_
  · have : t = 35 := by
      have e : Try.f4.params.toList = [35] := by kernel_rfl
      rw [e] at ht; simpa using ht
    subst this
    exact ⟨by kernel_rfl, of_decide_eq_true (by kernel_rfl)⟩
  · rw [hs']
    exact (netStays_ok (memOf W) [] a cap xs hok).mono fun v M' L' ⟨h1, h2, _⟩ => ⟨h1, h2⟩
theorem netStays_holds : Rows.NetStaysSaid :=
  OpenClaim.holds_of_wide 4 Try.f4 rfl rfl rfl rfl rfl rfl rfl ⟨rfl, rfl, rfl, rfl, rfl⟩ rfl rfl rfl rfl rfl (by kernel_rfl) Try.func4 (by kernel_rfl)
    (of_decide_eq_true (by kernel_rfl)) (by unfold Func.isWrapper; first | (rw [if_pos (by decide +kernel)]; kernel_rfl) | (rw [if_neg (by decide +kernel)]; exact ⟨rfl, rfl⟩))
    (fun os started H enc _ => netStays_lifted os started H enc)
#print axioms netStays_holds
end Go.Proofs.Ytnpnchmogpfjbaa
