import Derived.Test.YtehlgbbpjbgkaaaGreatDoorBCA
import Derived.Test.YtehlgbbpjbgkaaaGreatDoorBCF
import Derived.Test.YtehlgbbpjbgkaaaGreatDoorTie
import Derived.Test.YtehlgbbpjbgkaaaGreatDoorCards
import Derived.JoinedAt
import Derived.Carry
import Derived.ChangeVars
import Derived.LaidLaws
import Derived.LaidHandle
import Derived.Stop.Joined
import Derived.SevenTiedAt
set_option linter.all false
namespace Go.Proofs.YtehlgbbpjbgkaaaGreatDoor
open Go.Chi Go.ChangeShapes Go.WideShapes Go.ChangeAt Go.RowKit

set_option maxRecDepth 100000 in
theorem calmBounds_lifted (os : Os) (started : os.Started) (H : Type) (enc : TypeId × Value → H) :
    ReturnsInHanded {} Tryz.checked os 3 .any (fun w args => (Rows.calmBoundsSpec.pre enc Tryz.prog Tryz.f3 [] false w args ∧ laidMetH Tryz.prog Rows.calmBoundsRow.laid w) ∧ sizedMet enc Tryz.prog Tryz.f3 (OpenSpec.ofChange Rows.calmBoundsSpec) false w args) (Rows.calmBoundsSpec.post enc Tryz.prog Tryz.f3 false Rows.calmBoundsRow.fresh Rows.calmBoundsRow.handsOn Rows.calmBoundsRow.again) := by
  refine returnsInHanded_of_change_and (C := Tryz.checked) (X := fun w _ => laidMetH Tryz.prog Rows.calmBoundsRow.laid w) (fun _ _ _ hh h => h.of_heap hh) own started (by kernel_rfl) Tryz.func3
    (ChangeSpec.witness_at (enc := enc) (C := Tryz.checked) (os := os) (X := fun w _ => laidMetH Tryz.prog Rows.calmBoundsRow.laid w) false (laidW os) #[.agg ⟨[.int .i64 0, .int .i64 0]⟩, .int .i64 0] 8 rfl (by kernel_rfl) (by kernel_rfl) (by kernel_rfl) (by kernel_rfl) (by kernel_rfl) (laidW_met os _)) ?_
  intro W base args ds gs before hval hW _ _ hL _
  have hG := g36_of hL
  have hW' := hW
  obtain ⟨p, q, hA0, hV, rfl, hfz, hnd⟩ := hW
  have hA : DataW.TrodAll enc Tryz.prog W 0 (fun _ => true) true Tryz.f3.params.toList args.toList ds p := hA0
  have hp : Tryz.f3.params = #[23, 3] := by kernel_rfl
  have hval : ∀ (j : Nat) t v, Tryz.f3.params[j]? = some t → args[j]? = some v → Value.okWide Tryz.prog W .any base t v := hval
  rw [hp] at hA hval
  obtain ⟨v0, vs0, d0, es0, p0, q0, hv0, hd0, hp0, h0, hr0⟩ := ChangeShapes.trodAll_cons hA
  obtain ⟨v1, vs1, d1, es1, p1, q1, hv1, hd1, hp1, h1, hr1⟩ := ChangeShapes.trodAll_cons hr0
  obtain ⟨hv2, hd2, hp2⟩ := trodAll_nil hr1
  have hargs : args = #[v0, v1] := by
    apply Array.ext'
    rw [hv0, hv1, hv2]
  subst hargs
  have hds : ds = [d0, d1] := by rw [hd0, hd1, hd2]
  subst hds
  obtain ⟨t0, rfl, _⟩ := okWide_struct (und_ok tok (t := 23) rfl) (hval 0 _ v0 rfl rfl)
  obtain ⟨fu0, hf0⟩ := h0
  obtain ⟨x0, y0, c0⟩ := rd_pace ⟨fu0, _, hf0⟩
  have e0 : t0 = ⟨[.int .i64 x0, .int .i64 y0]⟩ := by
    have : t0.toList = [.int .i64 x0, .int .i64 y0] := by simpa [Value.cells] using c0
    rw [← this]
  subst e0
  obtain ⟨a1, rfl, _, _, w1⟩ := open_int uInt (hval 1 _ v1 rfl rfl) h1
  refine law_calls (tb := 4) hW' rfl rfl (by kernel_rfl) uBool laid (fun t ht => ?_) ?_
  · have e : Tryz.f3.params.toList = [23, 3] := by kernel_rfl
    rw [e] at ht
    simp only [List.mem_cons, List.not_mem_nil, or_false] at ht
    rcases ht with rfl | rfl
    · exact ⟨by kernel_rfl, of_decide_eq_true (by kernel_rfl)⟩
    · exact ⟨by kernel_rfl, of_decide_eq_true (by kernel_rfl)⟩
  · exact ((calmBounds_ok (heapL_mem (W := W)) heapL_nodup hG [] x0 y0 a1).mono fun v M' L' ⟨h1, h2, h3⟩ => (⟨h1, by rw [h2]; exact Mem.le_refl _, trivial⟩ : v = _ ∧ (memOf W).le M' ∧ True)).mono fun v M' L' ⟨h1, h2, _⟩ => ⟨h1, h2⟩
end Go.Proofs.YtehlgbbpjbgkaaaGreatDoor
