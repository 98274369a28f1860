/-
  The log is the document's log, whatever is written, wherever its disk stops, and crashes: WalPlays returns true for every room and every script.
-/
import Derived.Test.YtkjljcgbnikmkaaGreatDoorBPA
import Derived.Test.YtkjljcgbnikmkaaGreatDoorBPD
import Derived.Test.YtkjljcgbnikmkaaGreatDoorBPE
import Derived.Test.YtkjljcgbnikmkaaGreatDoorTie
import Derived.Test.YtkjljcgbnikmkaaGreatDoorCards
import Derived.JoinedAt
import Derived.Carry
import Derived.ChangeVars
import Derived.LaidLaws
import Derived.LaidHandle
import Derived.Stop.Joined
import Derived.SevenTiedAt
namespace Go.Proofs.YtkjljcgbnikmkaaGreatDoor
open Go.Chi Go.ChangeShapes Go.WideShapes Go.ChangeAt Go.RowKit

/-- a world in which the table stands as its initialiser lays it -/
noncomputable def laidW (os : Os) : World :=
  let w0 := World.holding Tryz.prog os ⟨#[], #[], []⟩
  { w0 with heap := w0.heap.modify 0 fun
      | .cells _ t frozen => .cells (kZ.map fun z => Value.int .u32 z).toArray t frozen
      | o => o }
theorem laidW_met (os : Os) (args : Array Value) : laidMet Tryz.prog Rows.walPlaysRow.laid ((laidW os).forCall (fun _ _ => 0) ⟨#[], args, []⟩).memory :=
  laidMet_of_run' 8 (by kernel_rfl) (by kernel_rfl)
theorem km_laid {W : World} (h : laidMet Tryz.prog Rows.walPlaysRow.laid W) : KM (memOf W) :=
  km_of (Lib.tabIs_of_head (e := 153) (n := 64) (t := 166) gK (by kernel_rfl) (by kernel_rfl) (by kernel_rfl) (by kernel_rfl) (by kernel_rfl) (rest := []) h)
set_option maxRecDepth 100000 in
theorem walPlays_lifted (os : Os) (started : os.Started) (H : Type) (enc : TypeId × Value → H) :
    ReturnsInHanded {} Tryz.checked os 4 .any (fun w args => (Rows.walPlaysSpec.pre enc Tryz.prog Tryz.f4 [] false w args ∧ laidMetH Tryz.prog Rows.walPlaysRow.laid w) ∧ sizedMet enc Tryz.prog Tryz.f4 (OpenSpec.ofChange Rows.walPlaysSpec) false w args) (Rows.walPlaysSpec.post enc Tryz.prog Tryz.f4 false Rows.walPlaysRow.fresh Rows.walPlaysRow.handsOn Rows.walPlaysRow.again) := by
  refine returnsInHanded_of_change_and (C := Tryz.checked) (X := fun w _ => laidMetH Tryz.prog Rows.walPlaysRow.laid w) (fun _ _ _ hh h => h.of_heap hh) own started (by kernel_rfl) Tryz.func4
    (ChangeSpec.witness_at (enc := enc) (C := Tryz.checked) (os := os) (X := fun w _ => laidMetH Tryz.prog Rows.walPlaysRow.laid w) false (laidW os) #[.int .i64 0, .slice none 0 0] 8 rfl (by kernel_rfl) (by kernel_rfl) (by kernel_rfl) (by kernel_rfl) (by kernel_rfl) (laidW_met os _)) ?_
  intro W base args ds gs before hval hW _ _ hL _
  have hkm := km_laid hL
  have hW' := hW
  obtain ⟨p, q, hA0, hV, rfl, hfz, hnd⟩ := hW
  have hA : DataW.TrodAll enc Tryz.prog W 0 (fun _ => true) true Tryz.f4.params.toList args.toList ds p := hA0
  have hp : Tryz.f4.params = #[3, 22] := by kernel_rfl
  have hval : ∀ (j : Nat) t v, Tryz.f4.params[j]? = some t → args[j]? = some v → Value.okWide Tryz.prog W .any base t v := hval
  rw [hp] at hA hval
  obtain ⟨v0, vs0, d0, es0, p0, q0, hv0, hd0, hp0, h0, hr0⟩ := ChangeShapes.trodAll_cons hA
  obtain ⟨v1, vs1, d1, es1, p1, q1, hv1, hd1, hp1, h1, hr1⟩ := ChangeShapes.trodAll_cons hr0
  obtain ⟨hv2, hd2, hp2⟩ := trodAll_nil hr1
  have hargs : args = #[v0, v1] := by
    apply Array.ext'
    rw [hv0, hv1, hv2]
  subst hargs
  have hds : ds = [d0, d1] := by rw [hd0, hd1, hd2]
  subst hds
  obtain ⟨a0, rfl, _, _, w0⟩ := open_int uInt (hval 0 _ v0 rfl rfl) h0
  obtain ⟨sa1, sl1, sc1, rfl⟩ := okWide_slice (und_ok tok (t := 22) rfl) (hval 1 _ v1 rfl rfl)
  obtain ⟨fu1, hf1⟩ := h1
  obtain ⟨s, c1, hs1⟩ := rd_stps ⟨fu1, _, hf1⟩
  have e1 : Value.slice sa1 sl1 sc1 = s.v := by simpa [Value.cells] using c1
  refine law_calls (tb := 4) hW' rfl rfl (by kernel_rfl) uBool laid (fun t ht => ?_) ?_
  · have e : Tryz.f4.params.toList = [3, 22] := by kernel_rfl
    rw [e] at ht
    simp only [List.mem_cons, List.not_mem_nil, or_false] at ht
    rcases ht with rfl | rfl
    · exact ⟨by kernel_rfl, of_decide_eq_true (by kernel_rfl)⟩
    · exact ⟨by kernel_rfl, of_decide_eq_true (by kernel_rfl)⟩
  · rw [e1]
    exact (walPlays_ok (memOf W) [] a0 s hkm hs1).mono fun v M' L' ⟨h1, _, h2⟩ => ⟨h2, h1⟩
theorem walPlays_holds : Rows.WalPlaysSaid :=
  OpenClaim.holds_of_wide 4 Tryz.f4 rfl rfl rfl rfl rfl rfl rfl ⟨rfl, rfl, rfl, rfl, rfl⟩ rfl rfl rfl rfl rfl (by kernel_rfl) Tryz.func4 (by kernel_rfl)
    (of_decide_eq_true (by kernel_rfl)) (by unfold Func.isWrapper; first | (rw [if_pos (by decide +kernel)]; kernel_rfl) | (rw [if_neg (by decide +kernel)]; exact ⟨rfl, rfl⟩))
    (fun os started H enc _ => walPlays_lifted os started H enc)
theorem walPlaysCard_holds : Rows.WalPlaysCardSaid :=
  Claim7.holds_tied_plain_at .later [] [.data] true (true, "1ff2e471c8f2d591c0a93dd20ad706a193c0ab85eeade1c8d8cd9bd6ee96cf75") true
    walPlays_holds (fun _ h => by cases h) (by kernel_rfl) (fun _ h => by cases h) walPlays_row_tie rfl ⟨rfl, rfl⟩ (by kernel_rfl) rfl
    (fun f fn hf hfn => by
      obtain rfl : f = 4 := Option.some.inj ((show Tryz.prog.funcNamed "chirograph/chirographlaw17.WalPlays" = some 4 by kernel_rfl).symm.trans hf) |>.symm
      obtain rfl : fn = Tryz.f4 := (Option.some.inj (Tryz.func4.symm.trans hfn)).symm
      exact ⟨by kernel_rfl, fun j t ht => by
        rw [show Tryz.f4.params = #[3, 22] by kernel_rfl] at ht
        rcases j with _ | _ | j
        · obtain rfl : 3 = t := by simpa using ht
          exact (show Tryz.prog.wantsStandIn 3 = false by kernel_rfl)
        · obtain rfl : 22 = t := by simpa using ht
          exact (show Tryz.prog.wantsStandIn 22 = false by kernel_rfl)
        · simp at ht⟩)
    (by kernel_rfl)
#print axioms walPlaysCard_holds
end Go.Proofs.YtkjljcgbnikmkaaGreatDoor
