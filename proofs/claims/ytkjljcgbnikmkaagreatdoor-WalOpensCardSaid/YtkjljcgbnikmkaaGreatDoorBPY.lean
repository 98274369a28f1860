/-
  Whatever bytes are on a disk, the log that is opened of them is the document's, or none is, and the disk is as the document says: WalOpens returns true for every text and every two numbers.
-/
import Derived.Test.YtkjljcgbnikmkaaGreatDoorBPA
import Derived.Test.YtkjljcgbnikmkaaGreatDoorBPD
import Derived.Test.YtkjljcgbnikmkaaGreatDoorBPE
import Derived.Test.YtkjljcgbnikmkaaGreatDoorTie
import Derived.Test.YtkjljcgbnikmkaaGreatDoorCards
import Derived.JoinedAt
import Derived.Carry
import Derived.ChangeVars
import Derived.LaidLaws
import Derived.LaidHandle
import Derived.Stop.Joined
import Derived.SevenTiedAt
namespace Go.Proofs.YtkjljcgbnikmkaaGreatDoor
open Go.Chi Go.ChangeShapes Go.WideShapes Go.ChangeAt Go.RowKit

theorem uU16 : Tryz.prog.underlying 55 = some (.int .u16) := und_ok tok (t := 55) rfl
theorem u16_r {n : Int} (h : (Lit.int .u16 n).wf = true) : 0 ≤ n ∧ n < 65536 := by
  have h' : (decide (IntKind.min .u16 ≤ n) && decide (n ≤ IntKind.max .u16)) = true := h
  simp only [Bool.and_eq_true, decide_eq_true_eq] at h'
  have e1 : IntKind.min .u16 = 0 := by kernel_rfl
  have e2 : IntKind.max .u16 = 65535 := by kernel_rfl
  omega
/-- a world in which the table stands as its initialiser lays it -/
noncomputable def laidW (os : Os) : World :=
  let w0 := World.holding Tryz.prog os ⟨#[], #[], []⟩
  { w0 with heap := w0.heap.modify 0 fun
      | .cells _ t frozen => .cells (kZ.map fun z => Value.int .u32 z).toArray t frozen
      | o => o }
theorem laidW_met (os : Os) (args : Array Value) : laidMet Tryz.prog Rows.walOpensRow.laid ((laidW os).forCall (fun _ _ => 0) ⟨#[], args, []⟩).memory :=
  laidMet_of_run' 8 (by kernel_rfl) (by kernel_rfl)
theorem km_laid {W : World} (h : laidMet Tryz.prog Rows.walOpensRow.laid W) : KM (memOf W) :=
  km_of (Lib.tabIs_of_head (e := 153) (n := 64) (t := 166) gK (by kernel_rfl) (by kernel_rfl) (by kernel_rfl) (by kernel_rfl) (by kernel_rfl) (rest := []) h)
set_option maxRecDepth 100000 in
theorem walOpens_lifted (os : Os) (started : os.Started) (H : Type) (enc : TypeId × Value → H) :
    ReturnsInHanded {} Tryz.checked os 5 .any (fun w args => (Rows.walOpensSpec.pre enc Tryz.prog Tryz.f5 [] false w args ∧ laidMetH Tryz.prog Rows.walOpensRow.laid w) ∧ sizedMet enc Tryz.prog Tryz.f5 (OpenSpec.ofChange Rows.walOpensSpec) false w args) (Rows.walOpensSpec.post enc Tryz.prog Tryz.f5 false Rows.walOpensRow.fresh Rows.walOpensRow.handsOn Rows.walOpensRow.again) := by
  refine returnsInHanded_of_change_and (C := Tryz.checked) (X := fun w _ => laidMetH Tryz.prog Rows.walOpensRow.laid w) (fun _ _ _ hh h => h.of_heap hh) own started (by kernel_rfl) Tryz.func5
    (ChangeSpec.witness_at (enc := enc) (C := Tryz.checked) (os := os) (X := fun w _ => laidMetH Tryz.prog Rows.walOpensRow.laid w) false (laidW os) #[.string ⟨#[]⟩, .int .u16 0, .int .u16 0] 8 rfl (by kernel_rfl) (by kernel_rfl) (by kernel_rfl) (by kernel_rfl) (by kernel_rfl) (laidW_met os _)) ?_
  intro W base args ds gs before hval hW _ _ hL _
  have hkm := km_laid hL
  have hW' := hW
  obtain ⟨p, q, hA0, hV, rfl, hfz, hnd⟩ := hW
  have hA : DataW.TrodAll enc Tryz.prog W 0 (fun _ => true) true Tryz.f5.params.toList args.toList ds p := hA0
  have hp : Tryz.f5.params = #[9, 55, 55] := by kernel_rfl
  have hval : ∀ (j : Nat) t v, Tryz.f5.params[j]? = some t → args[j]? = some v → Value.okWide Tryz.prog W .any base t v := hval
  rw [hp] at hA hval
  obtain ⟨v0, vs0, d0, es0, p0, q0, hv0, hd0, hp0, h0, hr0⟩ := ChangeShapes.trodAll_cons hA
  obtain ⟨v1, vs1, d1, es1, p1, q1, hv1, hd1, hp1, h1, hr1⟩ := ChangeShapes.trodAll_cons hr0
  obtain ⟨v2, vs2, d2, es2, p2, q2, hv2, hd2, hp2, h2, hr2⟩ := ChangeShapes.trodAll_cons hr1
  obtain ⟨hv3, hd3, hp3⟩ := trodAll_nil hr2
  have hargs : args = #[v0, v1, v2] := by
    apply Array.ext'
    rw [hv0, hv1, hv2, hv3]
  subst hargs
  have hds : ds = [d0, d1, d2] := by rw [hd0, hd1, hd2, hd3]
  subst hds
  obtain ⟨a0, rfl, _, _, w0⟩ := ChangeMaps.open_string uStr (hval 0 _ v0 rfl rfl) h0
  obtain ⟨a1, rfl, _, _, w1⟩ := open_int uU16 (hval 1 _ v1 rfl rfl) h1
  obtain ⟨a2, rfl, _, _, w2⟩ := open_int uU16 (hval 2 _ v2 rfl rfl) h2
  refine law_calls (tb := 4) hW' rfl rfl (by kernel_rfl) uBool laid (fun t ht => ?_) ?_
  · have e : Tryz.f5.params.toList = [9, 55, 55] := by kernel_rfl
    rw [e] at ht
    simp only [List.mem_cons, List.not_mem_nil, or_false] at ht
    rcases ht with rfl | rfl | rfl
    · exact ⟨by kernel_rfl, of_decide_eq_true (by kernel_rfl)⟩
    · exact ⟨by kernel_rfl, of_decide_eq_true (by kernel_rfl)⟩
    · exact ⟨by kernel_rfl, of_decide_eq_true (by kernel_rfl)⟩
  · exact (walOpens_ok (memOf W) [] a0 a1 a2 (u16_r w1) (u16_r w2) hkm).mono fun v M' L' ⟨h1, _, h2⟩ => ⟨h2, h1⟩
theorem walOpens_holds : Rows.WalOpensSaid :=
  OpenClaim.holds_of_wide 5 Tryz.f5 rfl rfl rfl rfl rfl rfl rfl ⟨rfl, rfl, rfl, rfl, rfl⟩ rfl rfl rfl rfl rfl (by kernel_rfl) Tryz.func5 (by kernel_rfl)
    (of_decide_eq_true (by kernel_rfl)) (by unfold Func.isWrapper; first | (rw [if_pos (by decide +kernel)]; kernel_rfl) | (rw [if_neg (by decide +kernel)]; exact ⟨rfl, rfl⟩))
    (fun os started H enc _ => walOpens_lifted os started H enc)
theorem walOpensCard_holds : Rows.WalOpensCardSaid :=
  Claim7.holds_tied_plain_at .later [] [.data] true (true, "1ff2e471c8f2d591c0a93dd20ad706a193c0ab85eeade1c8d8cd9bd6ee96cf75") true
    walOpens_holds (fun _ h => by cases h) (by kernel_rfl) (fun _ h => by cases h) walOpens_row_tie rfl ⟨rfl, rfl⟩ (by kernel_rfl) rfl
    (fun f fn hf hfn => by
      obtain rfl : f = 5 := Option.some.inj ((show Tryz.prog.funcNamed "chirograph/chirographlaw17.WalOpens" = some 5 by kernel_rfl).symm.trans hf) |>.symm
      obtain rfl : fn = Tryz.f5 := (Option.some.inj (Tryz.func5.symm.trans hfn)).symm
      exact ⟨by kernel_rfl, fun j t ht => by
        rw [show Tryz.f5.params = #[9, 55, 55] by kernel_rfl] at ht
        rcases j with _ | _ | _ | j
        · obtain rfl : 9 = t := by simpa using ht
          exact (show Tryz.prog.wantsStandIn 9 = false by kernel_rfl)
        · obtain rfl : 55 = t := by simpa using ht
          exact (show Tryz.prog.wantsStandIn 55 = false by kernel_rfl)
        · obtain rfl : 55 = t := by simpa using ht
          exact (show Tryz.prog.wantsStandIn 55 = false by kernel_rfl)
        · simp at ht⟩)
    (by kernel_rfl)
#print axioms walOpensCard_holds
end Go.Proofs.YtkjljcgbnikmkaaGreatDoor
