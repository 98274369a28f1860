/-
  In a right log each transaction has one outcome at most, which never becomes another one; a commit that was learnt was voted for; a beginning of a right log is right, and its rows are those of the whole, in order: BookOne returns true for every row of records and every cut. No condition.
-/
import Derived.Test.YtemiflllckincaaKG
import Derived.Test.YtemiflllckincaaKR
import Derived.JoinedAt
import Derived.Carry
namespace Go.Proofs.Ytemiflllckincaa
open Go.Chi Go.ChangeShapes Go.WideShapes Go.ChangeAt Go.RowKit

set_option maxRecDepth 100000 in
theorem bookOne_lifted (os : Os) (started : os.Started) (H : Type) (enc : TypeId × Value → H) :
    ReturnsInHanded {} Try.checked os 4 .any (Rows.bookOneSpec.pre6 enc Try.prog Try.f4 Rows.bookOneRow.domain false) (Rows.bookOneSpec.post enc Try.prog Try.f4 false Rows.bookOneRow.fresh Rows.bookOneRow.handsOn Rows.bookOneRow.again) := by
  refine returnsInHanded_of_change (C := Try.checked) own started (by kernel_rfl) Try.func4
    (ChangeSpec.witness6 (enc := enc) (C := Try.checked) false ⟨#[], #[.slice none 0 0, .int .u8 0], []⟩ 8 (by kernel_rfl) (by kernel_rfl) (by kernel_rfl) (by kernel_rfl)) ?_
  intro W base args ds gs before hval hW _ _
  have hW' := hW
  obtain ⟨p, q, hA0, hV, rfl, hfz, hnd⟩ := hW
  have hA : DataW.TrodAll enc Try.prog W 0 (fun _ => true) true Try.f4.params.toList args.toList ds p := hA0
  have hp : Try.f4.params = #[22, 5] := by kernel_rfl
  have hval : ∀ (j : Nat) t v, Try.f4.params[j]? = some t → args[j]? = some v → Value.okWide Try.prog W .any base t v := hval
  rw [hp] at hA hval
  obtain ⟨v0, v1, d0, d1, p0, p1, rfl, rfl, rfl, h0, h1⟩ := trodAll_two hA
  obtain ⟨sa, sl, sc, rfl⟩ := okWide_slice (und_ok tok (t := 22) rfl) (hval 0 _ v0 rfl rfl)
  obtain ⟨a1, rfl, rfl, rfl, w1⟩ := open_int uU8 (hval 1 _ v1 rfl rfl) h1
  obtain ⟨fuel, hf⟩ := h0
  obtain ⟨a, cap, xs, hs, hok, hin, hcap⟩ := rd_rcs ⟨fuel, _, hf⟩
  have hs' : Value.slice sa sl sc = .slice a xs.length cap := by simpa [Value.cells] using hs
  obtain ⟨cut, hc1, hc2⟩ : ∃ n : Nat, a1 = (n : Int) ∧ n < 256 := by
    simp [Lit.wf, IntKind.min, IntKind.max, IntKind.signed, IntKind.bits] at w1
    exact ⟨a1.toNat, by omega, by omega⟩
  refine law_calls (tb := 4) hW' rfl rfl (by kernel_rfl) uBool laid (fun t ht => ?_) ?_
  · have : ∀ t ∈ Try.f4.params.toList, t = 22 ∨ t = 5 := by
      have e : Try.f4.params.toList = [22, 5] := by kernel_rfl
      rw [e]; intro t ht; simpa using ht
    rcases this t ht with rfl | rfl
    · exact ⟨by kernel_rfl, of_decide_eq_true (by kernel_rfl)⟩
    · exact ⟨by kernel_rfl, of_decide_eq_true (by kernel_rfl)⟩
  · rw [hs', hc1]
    exact (bookOne_ok (memOf W) [] a cap xs cut hc2 hcap hok hin).mono fun v M' L' ⟨h1, h2, _⟩ => ⟨h1, h2⟩
theorem bookOne_holds : Rows.BookOneSaid :=
  OpenClaim.holds_of_wide 4 Try.f4 rfl rfl rfl rfl rfl rfl rfl ⟨rfl, rfl, rfl, rfl, rfl⟩ rfl rfl rfl rfl rfl (by kernel_rfl) Try.func4 (by kernel_rfl)
    (of_decide_eq_true (by kernel_rfl)) (by unfold Func.isWrapper; first | (rw [if_pos (by decide +kernel)]; kernel_rfl) | (rw [if_neg (by decide +kernel)]; exact ⟨rfl, rfl⟩))
    (fun os started H enc _ => bookOne_lifted os started H enc)
#print axioms bookOne_holds
end Go.Proofs.Ytemiflllckincaa
