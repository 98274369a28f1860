/-
  Whatever comes, a vote stays, and a decision; whoever commits has all members' votes, with their tags; nobody is asked again who has answered: CoordKeeps returns true for every transaction as it is begun, every steps, time and wait. No condition.
-/
import Derived.Test.YtpmepmdngdkafaaBKA
import Derived.Test.YtpmepmdngdkafaaBKG
import Derived.JoinedAt
import Derived.Carry
namespace Go.Proofs.Ytpmepmdngdkafaa
open Go.Chi Go.ChangeShapes Go.WideShapes Go.ChangeAt Go.RowKit

set_option maxRecDepth 100000 in
theorem coordKeeps_lifted (os : Os) (started : os.Started) (H : Type) (enc : TypeId × Value → H) :
    ReturnsInHanded {} Try.checked os 4 .any (Rows.coordKeepsSpec.pre6 enc Try.prog Try.f4 Rows.coordKeepsRow.domain false) (Rows.coordKeepsSpec.post enc Try.prog Try.f4 false Rows.coordKeepsRow.fresh Rows.coordKeepsRow.handsOn Rows.coordKeepsRow.again) := by
  refine returnsInHanded_of_change (C := Try.checked) own started (by kernel_rfl) Try.func4
    (ChangeSpec.witness6 (enc := enc) (C := Try.checked) false ⟨#[], #[.agg #[.int .i64 0, .int .i64 0, .int .i64 0], .int .i64 0, .slice none 0 0, .slice none 0 0, .int .i64 0, .slice none 0 0, .int .i64 0, .int .i64 0], []⟩ 8 (by kernel_rfl) (by kernel_rfl) (by kernel_rfl) (by kernel_rfl)) ?_
  intro W base args ds gs before hval hW _ _
  have hW' := hW
  obtain ⟨p, q, hA0, hV, rfl, hfz, hnd⟩ := hW
  have hA : DataW.TrodAll enc Try.prog W 0 (fun _ => true) true Try.f4.params.toList args.toList ds p := hA0
  have hp : Try.f4.params = #[23, 3, 24, 25, 2, 41, 2, 3] := by kernel_rfl
  have hval : ∀ (j : Nat) t v, Try.f4.params[j]? = some t → args[j]? = some v → Value.okWide Try.prog W .any base t v := hval
  rw [hp] at hA hval
  obtain ⟨v0, vs0, d0, es0, p0, q0, hv0, hd0, hp0, h0, hr0⟩ := ChangeShapes.trodAll_cons hA
  obtain ⟨v1, vs1, d1, es1, p1, q1, hv1, hd1, hp1, h1, hr1⟩ := ChangeShapes.trodAll_cons hr0
  obtain ⟨v2, vs2, d2, es2, p2, q2, hv2, hd2, hp2, h2, hr2⟩ := ChangeShapes.trodAll_cons hr1
  obtain ⟨v3, vs3, d3, es3, p3, q3, hv3, hd3, hp3, h3, hr3⟩ := ChangeShapes.trodAll_cons hr2
  obtain ⟨v4, vs4, d4, es4, p4, q4, hv4, hd4, hp4, h4, hr4⟩ := ChangeShapes.trodAll_cons hr3
  obtain ⟨v5, vs5, d5, es5, p5, q5, hv5, hd5, hp5, h5, hr5⟩ := ChangeShapes.trodAll_cons hr4
  obtain ⟨v6, vs6, d6, es6, p6, q6, hv6, hd6, hp6, h6, hr6⟩ := ChangeShapes.trodAll_cons hr5
  obtain ⟨v7, vs7, d7, es7, p7, q7, hv7, hd7, hp7, h7, hr7⟩ := ChangeShapes.trodAll_cons hr6
  obtain ⟨hv8, hd8, hp8⟩ := trodAll_nil hr7
  have hargs : args = #[v0, v1, v2, v3, v4, v5, v6, v7] := by
    apply Array.ext'
    rw [hv0, hv1, hv2, hv3, hv4, hv5, hv6, hv7, hv8]
  subst hargs
  have hds : ds = [d0, d1, d2, d3, d4, d5, d6, d7] := by rw [hd0, hd1, hd2, hd3, hd4, hd5, hd6, hd7, hd8]
  subst hds
  obtain ⟨t0, rfl, _⟩ := okWide_struct (und_ok tok (t := 23) rfl) (hval 0 _ v0 rfl rfl)
  obtain ⟨fu0, hf0⟩ := h0
  obtain ⟨t, c0⟩ := rd_tx ⟨fu0, _, hf0⟩
  have e0 : t0 = ⟨txC t⟩ := by
    have : t0.toList = txC t := by simpa [Value.cells] using c0
    rw [← this]
  subst e0
  obtain ⟨a1, rfl, _, _, w1⟩ := open_int uInt (hval 1 _ v1 rfl rfl) h1
  obtain ⟨sa2, sl2, sc2, rfl⟩ := okWide_slice (und_ok tok (t := 24) rfl) (hval 2 _ v2 rfl rfl)
  obtain ⟨fu2, hf2⟩ := h2
  obtain ⟨s, c2, hs⟩ := rd_smb ⟨fu2, _, hf2⟩
  have e2 : Value.slice sa2 sl2 sc2 = s.v := by simpa [Value.cells] using c2
  obtain ⟨sa3, sl3, sc3, rfl⟩ := okWide_slice (und_ok tok (t := 25) rfl) (hval 3 _ v3 rfl rfl)
  obtain ⟨fu3, hf3⟩ := h3
  obtain ⟨bs, c3, hbs⟩ := rd_sstr ⟨fu3, _, hf3⟩
  have e3 : Value.slice sa3 sl3 sc3 = bs.v := by simpa [Value.cells] using c3
  obtain ⟨a4, rfl, _, _, w4⟩ := open_int uI64 (hval 4 _ v4 rfl rfl) h4
  obtain ⟨sa5, sl5, sc5, rfl⟩ := okWide_slice (und_ok tok (t := 41) rfl) (hval 5 _ v5 rfl rfl)
  obtain ⟨fu5, hf5⟩ := h5
  obtain ⟨xa, xl, xp, xs, c5, hxs⟩ := rd_stps ⟨fu5, _, hf5⟩
  have e5 : Value.slice sa5 sl5 sc5 = .slice xa xl xp := by simpa [Value.cells] using c5
  obtain ⟨a6, rfl, _, _, w6⟩ := open_int uI64 (hval 6 _ v6 rfl rfl) h6
  obtain ⟨a7, rfl, _, _, w7⟩ := open_int uInt (hval 7 _ v7 rfl rfl) h7
  refine law_calls (tb := 4) hW' rfl rfl (by kernel_rfl) uBool laid (fun t ht => ?_) ?_
  · have e : Try.f4.params.toList = [23, 3, 24, 25, 2, 41, 2, 3] := by kernel_rfl
    rw [e] at ht
    simp only [List.mem_cons, List.not_mem_nil, or_false] at ht
    rcases ht with rfl | rfl | rfl | rfl | rfl | rfl | rfl | rfl
    · exact ⟨by kernel_rfl, of_decide_eq_true (by kernel_rfl)⟩
    · exact ⟨by kernel_rfl, of_decide_eq_true (by kernel_rfl)⟩
    · exact ⟨by kernel_rfl, of_decide_eq_true (by kernel_rfl)⟩
    · exact ⟨by kernel_rfl, of_decide_eq_true (by kernel_rfl)⟩
    · exact ⟨by kernel_rfl, of_decide_eq_true (by kernel_rfl)⟩
    · exact ⟨by kernel_rfl, of_decide_eq_true (by kernel_rfl)⟩
    · exact ⟨by kernel_rfl, of_decide_eq_true (by kernel_rfl)⟩
    · exact ⟨by kernel_rfl, of_decide_eq_true (by kernel_rfl)⟩
  · rw [e2, e3, e5]
    exact (coordKeeps_ok (memOf W) [] t a1 s bs a4 xa xl xp xs a6 a7 hs hbs hxs).mono fun v M' L' ⟨h1, h2, _⟩ => ⟨h1, h2⟩
theorem coordKeeps_holds : Rows.CoordKeepsSaid :=
  OpenClaim.holds_of_wide 4 Try.f4 rfl rfl rfl rfl rfl rfl rfl ⟨rfl, rfl, rfl, rfl, rfl⟩ rfl rfl rfl rfl rfl (by kernel_rfl) Try.func4 (by kernel_rfl)
    (of_decide_eq_true (by kernel_rfl)) (by unfold Func.isWrapper; first | (rw [if_pos (by decide +kernel)]; kernel_rfl) | (rw [if_neg (by decide +kernel)]; exact ⟨rfl, rfl⟩))
    (fun os started H enc _ => coordKeeps_lifted os started H enc)
#print axioms coordKeeps_holds
end Go.Proofs.Ytpmepmdngdkafaa
