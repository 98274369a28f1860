/-
  What any texts, acts, events and posts are, turned from any text to any other one; what acts hide, and what is a secret: SecretTells returns true for all of these. Condition: the program's table keys.letters holds what its text lays in it (tied by the card).
-/
import Derived.Test.YtonbigcdoejgcaaGreatDoorBTA
import Derived.Test.YtonbigcdoejgcaaGreatDoorBTC
import Derived.Test.YtonbigcdoejgcaaGreatDoorTie
import Derived.Test.YtonbigcdoejgcaaGreatDoorCards
import Derived.JoinedAt
import Derived.Carry
import Derived.ChangeVars
import Derived.LaidLaws
import Derived.LaidHandle
import Derived.Stop.Joined
import Derived.SevenTiedAt
namespace Go.Proofs.YtonbigcdoejgcaaGreatDoor
open Go.Chi Go.ChangeShapes Go.WideShapes Go.ChangeAt Go.RowKit

/-- a world in which the table stands as its initialiser lays it -/
noncomputable def laidW (os : Os) : World :=
  let w0 := World.holding Tryz.prog os ⟨#[], #[], []⟩
  { w0 with heap := w0.heap.modify 0 fun
      | .cells _ t frozen => .cells (kyL.map fun z => Value.string ⟨z.toArray⟩).toArray t frozen
      | o => o }
theorem laidW_met (os : Os) (args : Array Value) : laidMet Tryz.prog Rows.secretTellsRow.laid ((laidW os).forCall (fun _ _ => 0) ⟨#[], args, []⟩).memory :=
  laidMet_of_run' 8 (by kernel_rfl) (by kernel_rfl)
set_option maxRecDepth 100000 in
theorem secretTells_lifted (os : Os) (started : os.Started) (H : Type) (enc : TypeId × Value → H) :
    ReturnsInHanded {} Tryz.checked os 3 .any (fun w args => (Rows.secretTellsSpec.pre enc Tryz.prog Tryz.f3 [] false w args ∧ laidMetH Tryz.prog Rows.secretTellsRow.laid w) ∧ sizedMet enc Tryz.prog Tryz.f3 (OpenSpec.ofChange Rows.secretTellsSpec) false w args) (Rows.secretTellsSpec.post enc Tryz.prog Tryz.f3 false Rows.secretTellsRow.fresh Rows.secretTellsRow.handsOn Rows.secretTellsRow.again) := by
  refine returnsInHanded_of_change_and (C := Tryz.checked) (X := fun w _ => laidMetH Tryz.prog Rows.secretTellsRow.laid w) (fun _ _ _ hh h => h.of_heap hh) own started (by kernel_rfl) Tryz.func3
    (ChangeSpec.witness_at (enc := enc) (C := Tryz.checked) (os := os) (X := fun w _ => laidMetH Tryz.prog Rows.secretTellsRow.laid w) false (laidW os) #[.slice none 0 0, .slice none 0 0, .slice none 0 0, .slice none 0 0, .string ⟨#[]⟩, .string ⟨#[]⟩, .int .u8 0] 8 rfl (by kernel_rfl) (by kernel_rfl) (by kernel_rfl) (by kernel_rfl) (by kernel_rfl) (laidW_met os _)) ?_
  intro W base args ds gs before hval hW _ _ hL _
  have hky := ky_of hL
  have hW' := hW
  obtain ⟨p, q, hA0, hV, rfl, hfz, hnd⟩ := hW
  have hA : DataW.TrodAll enc Tryz.prog W 0 (fun _ => true) true Tryz.f3.params.toList args.toList ds p := hA0
  have hp : Tryz.f3.params = #[22, 23, 24, 25, 9, 9, 5] := by kernel_rfl
  have hval : ∀ (j : Nat) t v, Tryz.f3.params[j]? = some t → args[j]? = some v → Value.okWide Tryz.prog W .any base t v := hval
  rw [hp] at hA hval
  obtain ⟨v0, vs0, d0, es0, p0, q0, hv0, hd0, hp0, h0, hr0⟩ := ChangeShapes.trodAll_cons hA
  obtain ⟨v1, vs1, d1, es1, p1, q1, hv1, hd1, hp1, h1, hr1⟩ := ChangeShapes.trodAll_cons hr0
  obtain ⟨v2, vs2, d2, es2, p2, q2, hv2, hd2, hp2, h2, hr2⟩ := ChangeShapes.trodAll_cons hr1
  obtain ⟨v3, vs3, d3, es3, p3, q3, hv3, hd3, hp3, h3, hr3⟩ := ChangeShapes.trodAll_cons hr2
  obtain ⟨v4, vs4, d4, es4, p4, q4, hv4, hd4, hp4, h4, hr4⟩ := ChangeShapes.trodAll_cons hr3
  obtain ⟨v5, vs5, d5, es5, p5, q5, hv5, hd5, hp5, h5, hr5⟩ := ChangeShapes.trodAll_cons hr4
  obtain ⟨v6, vs6, d6, es6, p6, q6, hv6, hd6, hp6, h6, hr6⟩ := ChangeShapes.trodAll_cons hr5
  obtain ⟨hv7, hd7, hp7⟩ := trodAll_nil hr6
  have hargs : args = #[v0, v1, v2, v3, v4, v5, v6] := by
    apply Array.ext'
    rw [hv0, hv1, hv2, hv3, hv4, hv5, hv6, hv7]
  subst hargs
  have hds : ds = [d0, d1, d2, d3, d4, d5, d6] := by rw [hd0, hd1, hd2, hd3, hd4, hd5, hd6, hd7]
  subst hds
  obtain ⟨sa0, sl0, sc0, rfl⟩ := okWide_slice (und_ok tok (t := 22) rfl) (hval 0 _ v0 rfl rfl)
  obtain ⟨fu0, hf0⟩ := h0
  obtain ⟨s0, c0, g0⟩ := rd_sstr ⟨fu0, _, hf0⟩
  have e0 : Value.slice sa0 sl0 sc0 = s0.v := by simpa [Value.cells] using c0
  obtain ⟨sa1, sl1, sc1, rfl⟩ := okWide_slice (und_ok tok (t := 23) rfl) (hval 1 _ v1 rfl rfl)
  obtain ⟨fu1, hf1⟩ := h1
  obtain ⟨s1, c1, g1, k1⟩ := rd_aqs ⟨fu1, _, hf1⟩
  have e1 : Value.slice sa1 sl1 sc1 = s1.v := by simpa [Value.cells] using c1
  obtain ⟨sa2, sl2, sc2, rfl⟩ := okWide_slice (und_ok tok (t := 24) rfl) (hval 2 _ v2 rfl rfl)
  obtain ⟨fu2, hf2⟩ := h2
  obtain ⟨s2, c2, g2, k2⟩ := rd_evs ⟨fu2, _, hf2⟩
  have e2 : Value.slice sa2 sl2 sc2 = s2.v := by simpa [Value.cells] using c2
  obtain ⟨sa3, sl3, sc3, rfl⟩ := okWide_slice (und_ok tok (t := 25) rfl) (hval 3 _ v3 rfl rfl)
  obtain ⟨fu3, hf3⟩ := h3
  obtain ⟨s3, c3, g3⟩ := rd_pqs ⟨fu3, _, hf3⟩
  have e3 : Value.slice sa3 sl3 sc3 = s3.v := by simpa [Value.cells] using c3
  obtain ⟨a4, rfl, _, _, w4⟩ := ChangeMaps.open_string uStr (hval 4 _ v4 rfl rfl) h4
  obtain ⟨a5, rfl, _, _, w5⟩ := ChangeMaps.open_string uStr (hval 5 _ v5 rfl rfl) h5
  obtain ⟨a6, rfl, _, _, w6⟩ := open_int uU8 (hval 6 _ v6 rfl rfl) h6
  obtain ⟨n6, rfl, l6⟩ := u8_natW w6
  refine law_calls (tb := 4) hW' rfl rfl (by kernel_rfl) uBool laid (fun t ht => ?_) ?_
  · have e : Tryz.f3.params.toList = [22, 23, 24, 25, 9, 9, 5] := by kernel_rfl
    rw [e] at ht
    simp only [List.mem_cons, List.not_mem_nil, or_false] at ht
    rcases ht with rfl | rfl | rfl | rfl | rfl | rfl | rfl
    · exact ⟨by kernel_rfl, of_decide_eq_true (by kernel_rfl)⟩
    · exact ⟨by kernel_rfl, of_decide_eq_true (by kernel_rfl)⟩
    · exact ⟨by kernel_rfl, of_decide_eq_true (by kernel_rfl)⟩
    · exact ⟨by kernel_rfl, of_decide_eq_true (by kernel_rfl)⟩
    · exact ⟨by kernel_rfl, of_decide_eq_true (by kernel_rfl)⟩
    · exact ⟨by kernel_rfl, of_decide_eq_true (by kernel_rfl)⟩
    · exact ⟨by kernel_rfl, of_decide_eq_true (by kernel_rfl)⟩
  · rw [e0, e1, e2, e3]
    exact ((secretTells_ok (memOf W) [] s0 s1 s2 s3 a4 a5 n6 l6 g0 g1 k1 g2 k2 g3 hky).mono fun v M' L' ⟨h1, h2, h3⟩ => (⟨h3, h1, h2⟩ : v = _ ∧ (memOf W).le M' ∧ _)).mono fun v M' L' ⟨h1, h2, _⟩ => ⟨h1, h2⟩
theorem secretTells_holds : Rows.SecretTellsSaid :=
  OpenClaim.holds_of_wide 3 Tryz.f3 rfl rfl rfl rfl rfl rfl rfl ⟨rfl, rfl, rfl, rfl, rfl⟩ rfl rfl rfl rfl rfl (by kernel_rfl) Tryz.func3 (by kernel_rfl)
    (of_decide_eq_true (by kernel_rfl)) (by unfold Func.isWrapper; first | (rw [if_pos (by decide +kernel)]; kernel_rfl) | (rw [if_neg (by decide +kernel)]; exact ⟨rfl, rfl⟩))
    (fun os started H enc _ => secretTells_lifted os started H enc)
theorem secretTellsCard_holds : Rows.SecretTellsCardSaid :=
  Claim7.holds_tied_plain_at .later [] [.data] true (true, "632ce70f4eb7366844f26b8f396ef76ab71cf260cd261b447bb577e4a3577ca0") true
    secretTells_holds (fun _ h => by cases h) (by kernel_rfl) (fun _ h => by cases h) secretTells_row_tie rfl ⟨rfl, rfl⟩ (by kernel_rfl) rfl
    (fun f fn hf hfn => by
      obtain rfl : f = 3 := Option.some.inj ((show Tryz.prog.funcNamed "chirograph/chirographlaw35.SecretTells" = some 3 by kernel_rfl).symm.trans hf) |>.symm
      obtain rfl : fn = Tryz.f3 := (Option.some.inj (Tryz.func3.symm.trans hfn)).symm
      exact ⟨by kernel_rfl, fun j t ht => by
        rw [show Tryz.f3.params = #[22, 23, 24, 25, 9, 9, 5] by kernel_rfl] at ht
        rcases j with _ | _ | _ | _ | _ | _ | _ | j
        · obtain rfl : 22 = t := by simpa using ht
          exact (show Tryz.prog.wantsStandIn 22 = false by kernel_rfl)
        · obtain rfl : 23 = t := by simpa using ht
          exact (show Tryz.prog.wantsStandIn 23 = false by kernel_rfl)
        · obtain rfl : 24 = t := by simpa using ht
          exact (show Tryz.prog.wantsStandIn 24 = false by kernel_rfl)
        · obtain rfl : 25 = t := by simpa using ht
          exact (show Tryz.prog.wantsStandIn 25 = false by kernel_rfl)
        · obtain rfl : 9 = t := by simpa using ht
          exact (show Tryz.prog.wantsStandIn 9 = false by kernel_rfl)
        · obtain rfl : 9 = t := by simpa using ht
          exact (show Tryz.prog.wantsStandIn 9 = false by kernel_rfl)
        · obtain rfl : 5 = t := by simpa using ht
          exact (show Tryz.prog.wantsStandIn 5 = false by kernel_rfl)
        · simp at ht⟩)
    (by kernel_rfl)
#print axioms secretTellsCard_holds
end Go.Proofs.YtonbigcdoejgcaaGreatDoor
