/-
  What was encoded is decoded, what was decoded is encoded as it was, and the script of acts, and more acts, is the one, and the other one behind it: ScriptBack returns true for all acts, more acts and every text. No condition.
-/
import Derived.Test.YtbpgiodfccijmaaBTB
import Derived.Test.YtbpgiodfccijmaaBVA
import Derived.JoinedAt
import Derived.Carry
namespace Go.Proofs.Ytbpgiodfccijmaa
open Go.Chi Go.ChangeShapes Go.WideShapes Go.ChangeAt Go.RowKit

set_option maxRecDepth 100000 in
theorem scriptBack_lifted (os : Os) (started : os.Started) (H : Type) (enc : TypeId × Value → H) :
    ReturnsInHanded {} Try.checked os 5 .any (Rows.scriptBackSpec.pre6 enc Try.prog Try.f5 Rows.scriptBackRow.domain false) (Rows.scriptBackSpec.post enc Try.prog Try.f5 false Rows.scriptBackRow.fresh Rows.scriptBackRow.handsOn Rows.scriptBackRow.again) := by
  refine returnsInHanded_of_change (C := Try.checked) own started (by kernel_rfl) Try.func5
    (ChangeSpec.witness6 (enc := enc) (C := Try.checked) false ⟨#[], #[.slice none 0 0, .slice none 0 0, .string ⟨#[]⟩], []⟩ 8 (by kernel_rfl) (by kernel_rfl) (by kernel_rfl) (by kernel_rfl)) ?_
  intro W base args ds gs before hval hW _ _
  have hW' := hW
  obtain ⟨p, q, hA0, hV, rfl, hfz, hnd⟩ := hW
  have hA : DataW.TrodAll enc Try.prog W 0 (fun _ => true) true Try.f5.params.toList args.toList ds p := hA0
  have hp : Try.f5.params = #[22, 22, 9] := by kernel_rfl
  have hval : ∀ (j : Nat) t v, Try.f5.params[j]? = some t → args[j]? = some v → Value.okWide Try.prog W .any base t v := hval
  rw [hp] at hA hval
  obtain ⟨v0, vs0, d0, es0, p0, q0, hv0, hd0, hp0, h0, hr0⟩ := ChangeShapes.trodAll_cons hA
  obtain ⟨v1, vs1, d1, es1, p1, q1, hv1, hd1, hp1, h1, hr1⟩ := ChangeShapes.trodAll_cons hr0
  obtain ⟨v2, vs2, d2, es2, p2, q2, hv2, hd2, hp2, h2, hr2⟩ := ChangeShapes.trodAll_cons hr1
  obtain ⟨hv3, hd3, hp3⟩ := trodAll_nil hr2
  have hargs : args = #[v0, v1, v2] := by
    apply Array.ext'
    rw [hv0, hv1, hv2, hv3]
  subst hargs
  have hds : ds = [d0, d1, d2] := by rw [hd0, hd1, hd2, hd3]
  subst hds
  obtain ⟨sa0, sl0, sc0, rfl⟩ := okWide_slice (und_ok tok (t := 22) rfl) (hval 0 _ v0 rfl rfl)
  obtain ⟨fu0, hf0⟩ := h0
  obtain ⟨s0, c0, hi0⟩ := rd_sax ⟨fu0, _, hf0⟩
  have e0 : Value.slice sa0 sl0 sc0 = s0.v := by simpa [Value.cells] using c0
  obtain ⟨sa1, sl1, sc1, rfl⟩ := okWide_slice (und_ok tok (t := 22) rfl) (hval 1 _ v1 rfl rfl)
  obtain ⟨fu1, hf1⟩ := h1
  obtain ⟨s1, c1, hi1⟩ := rd_sax ⟨fu1, _, hf1⟩
  have e1 : Value.slice sa1 sl1 sc1 = s1.v := by simpa [Value.cells] using c1
  obtain ⟨a2, rfl, _, _, w2⟩ := ChangeMaps.open_string uStr (hval 2 _ v2 rfl rfl) h2
  refine law_calls (tb := 4) hW' rfl rfl (by kernel_rfl) uBool laid (fun t ht => ?_) ?_
  · have e : Try.f5.params.toList = [22, 22, 9] := by kernel_rfl
    rw [e] at ht
    simp only [List.mem_cons, List.not_mem_nil, or_false] at ht
    rcases ht with rfl | rfl | rfl
    · exact ⟨by kernel_rfl, of_decide_eq_true (by kernel_rfl)⟩
    · exact ⟨by kernel_rfl, of_decide_eq_true (by kernel_rfl)⟩
    · exact ⟨by kernel_rfl, of_decide_eq_true (by kernel_rfl)⟩
  · rw [e0, e1]
    exact (scriptBack_ok (memOf W) [] s0 s1 hi0 hi1 a2).mono fun v M' L' ⟨h1, h2, _⟩ => ⟨h1, h2⟩
theorem scriptBack_holds : Rows.ScriptBackSaid :=
  OpenClaim.holds_of_wide 5 Try.f5 rfl rfl rfl rfl rfl rfl rfl ⟨rfl, rfl, rfl, rfl, rfl⟩ rfl rfl rfl rfl rfl (by kernel_rfl) Try.func5 (by kernel_rfl)
    (of_decide_eq_true (by kernel_rfl)) (by unfold Func.isWrapper; first | (rw [if_pos (by decide +kernel)]; kernel_rfl) | (rw [if_neg (by decide +kernel)]; exact ⟨rfl, rfl⟩))
    (fun os started H enc _ => scriptBack_lifted os started H enc)
#print axioms scriptBack_holds
end Go.Proofs.Ytbpgiodfccijmaa
