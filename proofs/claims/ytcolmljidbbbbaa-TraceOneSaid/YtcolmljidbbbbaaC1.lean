/-
  In a history whose trace runs all honest ones' decisions on a transaction are one, nobody votes or learns twice, and whoever learnt a commit voted yes: TraceOne returns true for every set and every history. No condition.
-/
import Derived.Test.YtcolmljidbbbbaaL1
import Derived.Test.YtcolmljidbbbbaaB1
import Derived.JoinedAt
namespace Go.Proofs.Ytcolmljidbbbbaa
open Go.Chi Go.ChangeShapes Go.WideShapes Go.ChangeAt Go.RowKit

theorem evs_in {M : Mem} {s : SEv} (h : s.Ok M) : EvsIn M s := ⟨h.1, fun x hx => (h.2 x hx).2⟩
theorem cells_slice {v : Value} {s : SEv} (h : v.cells.toList = [s.v]) (hv : ∃ a l c, v = .slice a l c) : v = s.v := by
  obtain ⟨a, l, c, rfl⟩ := hv
  simpa [Value.cells] using h
set_option maxRecDepth 100000 in
theorem traceOne_lifted (os : Os) (started : os.Started) (H : Type) (enc : TypeId × Value → H) :
    ReturnsInHanded {} Try.checked os 5 .any (Rows.traceOneSpec.pre6 enc Try.prog Try.f5 Rows.traceOneRow.domain false) (Rows.traceOneSpec.post enc Try.prog Try.f5 false Rows.traceOneRow.fresh Rows.traceOneRow.handsOn Rows.traceOneRow.again) := by
  refine returnsInHanded_of_change (C := Try.checked) own started (by kernel_rfl) Try.func5
    (ChangeSpec.witness6 (enc := enc) (C := Try.checked) false ⟨#[], #[.int .u8 0, .slice none 0 0], []⟩ 8 (by kernel_rfl) (by kernel_rfl) (by kernel_rfl) (by kernel_rfl)) ?_
  intro W base args ds gs before hval hW _ _
  have hW' := hW
  obtain ⟨p, q, hA0, hV, rfl, hfz, hnd⟩ := hW
  have hA : DataW.TrodAll enc Try.prog W 0 (fun _ => true) true Try.f5.params.toList args.toList ds p := hA0
  have hp : Try.f5.params = #[5, 22] := by kernel_rfl
  have hval : ∀ (j : Nat) t v, Try.f5.params[j]? = some t → args[j]? = some v → Value.okWide Try.prog W .any base t v := hval
  rw [hp] at hA hval
  obtain ⟨v0, v1, d0, d1, p0, p1, rfl, rfl, rfl, h0, h1⟩ := trodAll_two hA
  obtain ⟨a0, rfl, rfl, rfl, w0⟩ := open_int u5 (hval 0 5 v0 rfl rfl) h0
  obtain ⟨sa, sl, sc, rfl⟩ := okWide_slice (und_ok tok (t := 22) rfl) (hval 1 22 v1 rfl rfl)
  obtain ⟨fuel, hf⟩ := h1
  obtain ⟨s, hs, hok, hcap⟩ := rd_evs ⟨fuel, _, hf⟩
  have hs' := cells_slice hs ⟨_, _, _, rfl⟩
  refine law_calls (tb := 4) hW' rfl rfl (by kernel_rfl) u4 laid (fun t ht => ?_) ?_
  · have : ∀ t ∈ Try.f5.params.toList, t = 5 ∨ t = 22 := by
      have e : Try.f5.params.toList = [5, 22] := by kernel_rfl
      rw [e]; intro t ht; simpa using ht
    rcases this t ht with rfl | rfl
    · exact ⟨by kernel_rfl, of_decide_eq_true (by kernel_rfl)⟩
    · exact ⟨by kernel_rfl, of_decide_eq_true (by kernel_rfl)⟩
  · rw [hs']
    exact (traceOne_ok (memOf W) [] a0 s (evs_in hok) hcap).mono fun v M' L' ⟨h1, h2, _⟩ => ⟨h1, by rw [h2]; exact Mem.le_refl _⟩
theorem traceOne_holds : Rows.TraceOneSaid :=
  OpenClaim.holds_of_wide 5 Try.f5 rfl rfl rfl rfl rfl rfl rfl ⟨rfl, rfl, rfl, rfl, rfl⟩ rfl rfl rfl rfl rfl (by kernel_rfl) Try.func5 (by kernel_rfl)
    (of_decide_eq_true (by kernel_rfl)) (by unfold Func.isWrapper; first | (rw [if_pos (by decide +kernel)]; kernel_rfl) | (rw [if_neg (by decide +kernel)]; exact ⟨rfl, rfl⟩))
    (fun os started H enc _ => traceOne_lifted os started H enc)
#print axioms traceOne_holds
end Go.Proofs.Ytcolmljidbbbbaa
