/-
  Of any right log the row of a transaction is that of the records that name it alone: BookApart returns true for every row of records and every transaction. No condition.
-/
import Derived.Test.YtemiflllckincaaKC
import Derived.Test.YtemiflllckincaaKR
import Derived.JoinedAt
import Derived.Carry
namespace Go.Proofs.Ytemiflllckincaa
open Go.Chi Go.ChangeShapes Go.WideShapes Go.ChangeAt Go.RowKit

set_option maxRecDepth 100000 in
theorem bookApart_lifted (os : Os) (started : os.Started) (H : Type) (enc : TypeId × Value → H) :
    ReturnsInHanded {} Try.checked os 3 .any (Rows.bookApartSpec.pre6 enc Try.prog Try.f3 Rows.bookApartRow.domain false) (Rows.bookApartSpec.post enc Try.prog Try.f3 false Rows.bookApartRow.fresh Rows.bookApartRow.handsOn Rows.bookApartRow.again) := by
  refine returnsInHanded_of_change (C := Try.checked) own started (by kernel_rfl) Try.func3
    (ChangeSpec.witness6 (enc := enc) (C := Try.checked) false ⟨#[], #[.slice none 0 0, .agg #[.int .i64 0, .int .i64 0, .int .i64 0]], []⟩ 8 (by kernel_rfl) (by kernel_rfl) (by kernel_rfl) (by kernel_rfl)) ?_
  intro W base args ds gs before hval hW _ _
  have hW' := hW
  obtain ⟨p, q, hA0, hV, rfl, hfz, hnd⟩ := hW
  have hA : DataW.TrodAll enc Try.prog W 0 (fun _ => true) true Try.f3.params.toList args.toList ds p := hA0
  have hp : Try.f3.params = #[22, 24] := by kernel_rfl
  have hval : ∀ (j : Nat) t v, Try.f3.params[j]? = some t → args[j]? = some v → Value.okWide Try.prog W .any base t v := hval
  rw [hp] at hA hval
  obtain ⟨v0, v1, d0, d1, p0, p1, rfl, rfl, rfl, h0, h1⟩ := trodAll_two hA
  obtain ⟨sa, sl, sc, rfl⟩ := okWide_slice (und_ok tok (t := 22) rfl) (hval 0 _ v0 rfl rfl)
  obtain ⟨tc, rfl, _⟩ := okWide_struct (und_ok tok (t := 24) rfl) (hval 1 _ v1 rfl rfl)
  obtain ⟨fuel, hf⟩ := h0
  obtain ⟨a, cap, xs, hs, hok, hin, _⟩ := rd_rcs ⟨fuel, _, hf⟩
  have hs' : Value.slice sa sl sc = .slice a xs.length cap := by simpa [Value.cells] using hs
  obtain ⟨fuel2, hf2⟩ := h1
  obtain ⟨t, ht⟩ := rd_tx ⟨fuel2, _, hf2⟩
  have ht' : tc = ⟨txC t⟩ := by
    have : tc.toList = txC t := by simpa [Value.cells] using ht
    rw [← this]
  refine law_calls (tb := 4) hW' rfl rfl (by kernel_rfl) uBool laid (fun t ht => ?_) ?_
  · have : ∀ t ∈ Try.f3.params.toList, t = 22 ∨ t = 24 := by
      have e : Try.f3.params.toList = [22, 24] := by kernel_rfl
      rw [e]; intro t ht; simpa using ht
    rcases this t ht with rfl | rfl
    · exact ⟨by kernel_rfl, of_decide_eq_true (by kernel_rfl)⟩
    · exact ⟨by kernel_rfl, of_decide_eq_true (by kernel_rfl)⟩
  · rw [hs', ht']
    exact (bookApart_ok (memOf W) [] a cap xs t hok hin).mono fun v M' L' ⟨h1, h2, _⟩ => ⟨h1, h2⟩
theorem bookApart_holds : Rows.BookApartSaid :=
  OpenClaim.holds_of_wide 3 Try.f3 rfl rfl rfl rfl rfl rfl rfl ⟨rfl, rfl, rfl, rfl, rfl⟩ rfl rfl rfl rfl rfl (by kernel_rfl) Try.func3 (by kernel_rfl)
    (of_decide_eq_true (by kernel_rfl)) (by unfold Func.isWrapper; first | (rw [if_pos (by decide +kernel)]; kernel_rfl) | (rw [if_neg (by decide +kernel)]; exact ⟨rfl, rfl⟩))
    (fun os started H enc _ => bookApart_lifted os started H enc)
#print axioms bookApart_holds
end Go.Proofs.Ytemiflllckincaa
