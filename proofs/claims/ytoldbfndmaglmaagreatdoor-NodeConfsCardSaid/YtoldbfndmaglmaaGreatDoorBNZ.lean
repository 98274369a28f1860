/-
  Which confs may be, and that there is no node without a suite, or a disk: NodeConfs returns true for any conf. Condition: the program's tables sha.k and keys.letters hold what its text lays in them (tied by the card).
-/
import Derived.Test.YtoldbfndmaglmaaGreatDoorBNA
import Derived.Test.YtoldbfndmaglmaaGreatDoorBNL
import Derived.Test.YtoldbfndmaglmaaGreatDoorTie
import Derived.Test.YtoldbfndmaglmaaGreatDoorCards
import Derived.JoinedAt
import Derived.Carry
import Derived.ChangeVars
import Derived.LaidLaws
import Derived.LaidHandle
import Derived.Stop.Joined
import Derived.SevenTiedAt
namespace Go.Proofs.YtoldbfndmaglmaaGreatDoor
open Go.Chi Go.ChangeShapes Go.WideShapes Go.ChangeAt Go.RowKit

set_option maxRecDepth 100000 in
theorem nodeConfs_lifted (os : Os) (started : os.Started) (H : Type) (enc : TypeId × Value → H) :
    ReturnsInHanded {} Tryz.checked os 3 .any (fun w args => (Rows.nodeConfsSpec.pre enc Tryz.prog Tryz.f3 [] false w args ∧ laidMetH Tryz.prog Rows.nodeConfsRow.laid w) ∧ sizedMet enc Tryz.prog Tryz.f3 (OpenSpec.ofChange Rows.nodeConfsSpec) false w args) (Rows.nodeConfsSpec.post enc Tryz.prog Tryz.f3 false Rows.nodeConfsRow.fresh Rows.nodeConfsRow.handsOn Rows.nodeConfsRow.again) := by
  refine returnsInHanded_of_change_and (C := Tryz.checked) (X := fun w _ => laidMetH Tryz.prog Rows.nodeConfsRow.laid w) (fun _ _ _ hh h => h.of_heap hh) own started (by kernel_rfl) Tryz.func3
    (ChangeSpec.witness_at (enc := enc) (C := Tryz.checked) (os := os) (X := fun w _ => laidMetH Tryz.prog Rows.nodeConfsRow.laid w) false (laidW os) #[.agg ⟨[.int .i64 0, .int .i64 0, .int .i64 0, .int .i64 0]⟩] 8 rfl (by kernel_rfl) (by kernel_rfl) (by kernel_rfl) (by kernel_rfl) (by kernel_rfl) (laidW_met os _)) ?_
  intro W base args ds gs before hval hW _ _ hL _
  have hG := g28_of hL
  have hW' := hW
  obtain ⟨p, q, hA0, hV, rfl, hfz, hnd⟩ := hW
  have hA : DataW.TrodAll enc Tryz.prog W 0 (fun _ => true) true Tryz.f3.params.toList args.toList ds p := hA0
  have hp : Tryz.f3.params = #[25] := by kernel_rfl
  have hval : ∀ (j : Nat) t v, Tryz.f3.params[j]? = some t → args[j]? = some v → Value.okWide Tryz.prog W .any base t v := hval
  rw [hp] at hA hval
  obtain ⟨v0, vs0, d0, es0, p0, q0, hv0, hd0, hp0, h0, hr0⟩ := ChangeShapes.trodAll_cons hA
  obtain ⟨hv1, hd1, hp1⟩ := trodAll_nil hr0
  have hargs : args = #[v0] := by
    apply Array.ext'
    rw [hv0, hv1]
  subst hargs
  have hds : ds = [d0] := by rw [hd0, hd1]
  subst hds
  obtain ⟨t0, rfl, _⟩ := okWide_struct (und_ok tok (t := 25) rfl) (hval 0 _ v0 rfl rfl)
  obtain ⟨fu0, hf0⟩ := h0
  obtain ⟨x0, y0, z0, u0, c0⟩ := rd_conf ⟨fu0, _, hf0⟩
  have e0 : t0 = ⟨confC x0 y0 z0 u0⟩ := by
    have : t0.toList = confC x0 y0 z0 u0 := by simpa [Value.cells] using c0
    rw [← this]
  subst e0
  refine law_calls (tb := 4) hW' rfl rfl (by kernel_rfl) uBool laid (fun t ht => ?_) ?_
  · have e : Tryz.f3.params.toList = [25] := by kernel_rfl
    rw [e] at ht
    simp only [List.mem_cons, List.not_mem_nil, or_false] at ht
    rcases ht with rfl
    · exact ⟨by kernel_rfl, of_decide_eq_true (by kernel_rfl)⟩
  · exact ((nodeConfs_ok (heapL_mem (W := W)) heapL_nodup hG [] x0 y0 z0 u0).mono fun v M' L' ⟨h1, h2, h3⟩ => (⟨h1, by rw [h2]; exact Mem.le_refl _, trivial⟩ : v = _ ∧ (memOf W).le M' ∧ True)).mono fun v M' L' ⟨h1, h2, _⟩ => ⟨h1, h2⟩
theorem nodeConfs_holds : Rows.NodeConfsSaid :=
  OpenClaim.holds_of_wide 3 Tryz.f3 rfl rfl rfl rfl rfl rfl rfl ⟨rfl, rfl, rfl, rfl, rfl⟩ rfl rfl rfl rfl rfl (by kernel_rfl) Tryz.func3 (by kernel_rfl)
    (of_decide_eq_true (by kernel_rfl)) (by unfold Func.isWrapper; first | (rw [if_pos (by decide +kernel)]; kernel_rfl) | (rw [if_neg (by decide +kernel)]; exact ⟨rfl, rfl⟩))
    (fun os started H enc _ => nodeConfs_lifted os started H enc)
theorem nodeConfsCard_holds : Rows.NodeConfsCardSaid :=
  Claim7.holds_tied_plain_at .later [] [.data, .data] true (true, "8e27c49db836f9e51e78df16a9dfe3aaa4962d2ebfec8e1f14aa89c304c013c1") true
    nodeConfs_holds (fun _ h => by cases h) (by kernel_rfl) (fun _ h => by cases h) nodeConfs_row_tie rfl ⟨rfl, rfl⟩ (by kernel_rfl) rfl
    (fun f fn hf hfn => by
      obtain rfl : f = 3 := Option.some.inj ((show Tryz.prog.funcNamed "chirograph/chirographlaw28.NodeConfs" = some 3 by kernel_rfl).symm.trans hf) |>.symm
      obtain rfl : fn = Tryz.f3 := (Option.some.inj (Tryz.func3.symm.trans hfn)).symm
      exact ⟨by kernel_rfl, fun j t ht => by
        rw [show Tryz.f3.params = #[25] by kernel_rfl] at ht
        rcases j with _ | j
        · obtain rfl : 25 = t := by simpa using ht
          exact (show Tryz.prog.wantsStandIn 25 = false by kernel_rfl)
        · simp at ht⟩)
    (by kernel_rfl)
#print axioms nodeConfsCard_holds
end Go.Proofs.YtoldbfndmaglmaaGreatDoor
