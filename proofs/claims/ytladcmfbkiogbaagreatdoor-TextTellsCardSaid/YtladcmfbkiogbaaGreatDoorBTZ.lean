/-
  The program's Line, Note, Roll are the document's, and a sentence that was told is read as its act: TextTells returns true for any roll, any act and any note. Condition: the five listed variables of Go's library hold what its text lays in them (tied by the card).
-/
import Derived.Test.YtladcmfbkiogbaaGreatDoorBTA
import Derived.Test.YtladcmfbkiogbaaGreatDoorTie
import Derived.Test.YtladcmfbkiogbaaGreatDoorCards
import Derived.JoinedAt
import Derived.Carry
import Derived.ChangeVars
import Derived.LaidLaws
import Derived.LaidHandle
import Derived.Stop.Joined
import Derived.SevenTiedAt
set_option linter.all false
namespace Go.Proofs.YtladcmfbkiogbaaGreatDoor
open Go.Chi Go.ChangeShapes Go.WideShapes Go.ChangeAt Go.RowKit

set_option maxRecDepth 100000 in
theorem textTells_lifted (os : Os) (started : os.Started) (H : Type) (enc : TypeId × Value → H) :
    ReturnsInHanded {} Tryz.checked os 3 .any (fun w args => (Rows.textTellsSpec.pre enc Tryz.prog Tryz.f3 [] false w args ∧ laidMetH Tryz.prog Rows.textTellsRow.laid w) ∧ sizedMet enc Tryz.prog Tryz.f3 (OpenSpec.ofChange Rows.textTellsSpec) false w args) (Rows.textTellsSpec.post enc Tryz.prog Tryz.f3 false Rows.textTellsRow.fresh Rows.textTellsRow.handsOn Rows.textTellsRow.again) := by
  refine returnsInHanded_of_change_and (C := Tryz.checked) (X := fun w _ => laidMetH Tryz.prog Rows.textTellsRow.laid w) (fun _ _ _ hh h => h.of_heap hh) own started (by kernel_rfl) Tryz.func3
    (ChangeSpec.witness_at (enc := enc) (C := Tryz.checked) (os := os) (X := fun w _ => laidMetH Tryz.prog Rows.textTellsRow.laid w) false (laidW os) #[.slice none 0 0, .agg ⟨[.int .u8 0, .int .i64 0, .int .i64 0, .int .i64 0, .slice none 0 0, .int .i64 0, .int .i64 0, .int .i64 0, .bool false, .slice none 0 0]⟩, .agg ⟨[.int .i64 0, .int .i64 0, .int .i64 0, .int .i64 0, .int .i64 0]⟩] 8 rfl (by kernel_rfl) (by kernel_rfl) (by kernel_rfl) (by kernel_rfl) (by kernel_rfl) (laidW_met os _)) ?_
  intro W base args ds gs before hval hW _ _ hL _
  have hG := g38_of hL
  have hW' := hW
  obtain ⟨p, q, hA0, hV, rfl, hfz, hnd⟩ := hW
  have hA : DataW.TrodAll enc Tryz.prog W 0 (fun _ => true) true Tryz.f3.params.toList args.toList ds p := hA0
  have hp : Tryz.f3.params = #[22, 28, 31] := by kernel_rfl
  have hval : ∀ (j : Nat) t v, Tryz.f3.params[j]? = some t → args[j]? = some v → Value.okWide Tryz.prog W .any base t v := hval
  rw [hp] at hA hval
  obtain ⟨v0, vs0, d0, es0, p0, q0, hv0, hd0, hp0, h0, hr0⟩ := ChangeShapes.trodAll_cons hA
  obtain ⟨v1, vs1, d1, es1, p1, q1, hv1, hd1, hp1, h1, hr1⟩ := ChangeShapes.trodAll_cons hr0
  obtain ⟨v2, vs2, d2, es2, p2, q2, hv2, hd2, hp2, h2, hr2⟩ := ChangeShapes.trodAll_cons hr1
  obtain ⟨hv3, hd3, hp3⟩ := trodAll_nil hr2
  have hargs : args = #[v0, v1, v2] := by
    apply Array.ext'
    rw [hv0, hv1, hv2, hv3]
  subst hargs
  have hds : ds = [d0, d1, d2] := by rw [hd0, hd1, hd2, hd3]
  subst hds
  obtain ⟨sa0, sl0, sc0, rfl⟩ := okWide_slice (und_ok tok (t := 22) rfl) (hval 0 _ v0 rfl rfl)
  obtain ⟨fu0, hf0⟩ := h0
  obtain ⟨s0, c0, g0, k0⟩ := rd_sstr ⟨fu0, _, hf0⟩
  have e0 : Value.slice sa0 sl0 sc0 = s0.v := by simpa [Value.cells] using c0
  obtain ⟨t1, rfl, _⟩ := okWide_struct (und_ok tok (t := 28) rfl) (hval 1 _ v1 rfl rfl)
  obtain ⟨fu1, hf1⟩ := h1
  obtain ⟨s1, c1, g1⟩ := rd_ax ⟨fu1, _, hf1⟩
  have e1 : t1 = ⟨axC s1⟩ := by
    have : t1.toList = axC s1 := by simpa [Value.cells] using c1
    rw [← this]
  subst e1
  obtain ⟨t2, rfl, _⟩ := okWide_struct (und_ok tok (t := 31) rfl) (hval 2 _ v2 rfl rfl)
  obtain ⟨fu2, hf2⟩ := h2
  obtain ⟨s2, c2, g2⟩ := rd_nt ⟨fu2, _, hf2⟩
  have e2 : t2 = ⟨ntC s2.1 s2.2.1 s2.2.2⟩ := by
    have : t2.toList = ntC s2.1 s2.2.1 s2.2.2 := by simpa [Value.cells] using c2
    rw [← this]
  subst e2
  refine law_calls (tb := 4) hW' rfl rfl (by kernel_rfl) uBool laid (fun t ht => ?_) ?_
  · have e : Tryz.f3.params.toList = [22, 28, 31] := by kernel_rfl
    rw [e] at ht
    simp only [List.mem_cons, List.not_mem_nil, or_false] at ht
    rcases ht with rfl | rfl | rfl
    · exact ⟨by kernel_rfl, of_decide_eq_true (by kernel_rfl)⟩
    · exact ⟨by kernel_rfl, of_decide_eq_true (by kernel_rfl)⟩
    · exact ⟨by kernel_rfl, of_decide_eq_true (by kernel_rfl)⟩
  · rw [e0]
    exact ((textTells_ok (memOf W) [] hG s0 g0 k0 s1 g1 s2.1 s2.2.1 s2.2.2).mono fun v M' L' ⟨h1, h2, h3⟩ => (⟨h3, h1, h2⟩ : v = _ ∧ (memOf W).le M' ∧ _)).mono fun v M' L' ⟨h1, h2, _⟩ => ⟨h1, h2⟩
theorem textTells_holds : Rows.TextTellsSaid :=
  OpenClaim.holds_of_wide 3 Tryz.f3 rfl rfl rfl rfl rfl rfl rfl ⟨rfl, rfl, rfl, rfl, rfl⟩ rfl rfl rfl rfl rfl (by kernel_rfl) Tryz.func3 (by kernel_rfl)
    (of_decide_eq_true (by kernel_rfl)) (by unfold Func.isWrapper; first | (rw [if_pos (by decide +kernel)]; kernel_rfl) | (rw [if_neg (by decide +kernel)]; exact ⟨rfl, rfl⟩))
    (fun os started H enc _ => textTells_lifted os started H enc)
theorem textTellsCard_holds : Rows.TextTellsCardSaid :=
  Claim7.holds_tied_plain_at .later [] [.data, .data, .data, .sentinel, .sentinel] true (true, "faa735eace442e5b1b327ebc338c3f301e038a1d9b7e86c47b1ca0aa8ecbf3b6") true
    textTells_holds (fun _ h => by cases h) (by kernel_rfl) (fun _ h => by cases h) textTells_row_tie rfl ⟨rfl, rfl⟩ (by kernel_rfl) rfl
    (fun f fn hf hfn => by
      obtain rfl : f = 3 := Option.some.inj ((show Tryz.prog.funcNamed "chirograph/chirographlaw38.TextTells" = some 3 by kernel_rfl).symm.trans hf) |>.symm
      obtain rfl : fn = Tryz.f3 := (Option.some.inj (Tryz.func3.symm.trans hfn)).symm
      exact ⟨by kernel_rfl, fun j t ht => by
        rw [show Tryz.f3.params = #[22, 28, 31] by kernel_rfl] at ht
        rcases j with _ | _ | _ | j
        · obtain rfl : 22 = t := by simpa using ht
          exact (show Tryz.prog.wantsStandIn 22 = false by kernel_rfl)
        · obtain rfl : 28 = t := by simpa using ht
          exact (show Tryz.prog.wantsStandIn 28 = false by kernel_rfl)
        · obtain rfl : 31 = t := by simpa using ht
          exact (show Tryz.prog.wantsStandIn 31 = false by kernel_rfl)
        · simp at ht⟩)
    (by kernel_rfl)
#print axioms textTellsCard_holds
end Go.Proofs.YtladcmfbkiogbaaGreatDoor
