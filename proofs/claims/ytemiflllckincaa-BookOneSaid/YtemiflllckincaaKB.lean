import Derived.Test.YtemiflllckincaaKA
namespace Go.Proofs.Ytemiflllckincaa
open Go.Chi

/-! ### the chapter's examples -/
def t0 : Tx := ⟨0, 1, 1⟩
def dz : Mb := ⟨1, ⟨#[100, 0]⟩⟩
def oneR : Rc := ⟨1, 1, ⟨0, 0, 0⟩, false, 0, nilM, nilS, ⟨#[]⟩⟩
def voteR (s : SMb) : Rc := ⟨2, 0, t0, true, 0, s, nilS, ⟨#[100, 0]⟩⟩
def learnC : Rc := ⟨4, 0, t0, true, 0, nilM, nilS, ⟨#[]⟩⟩
def mb0 : SMb := ⟨none, 1, 1, [dz]⟩
theorem al1 : (ofA [oneR, voteR mb0, learnC]).2.1 = 3 ∧ (ofA [oneR, voteR mb0, learnC]).2.2 = 0 ∧ (ofA [oneR, voteR mb0, learnC]).1.1 = 1 ∧ (ofA [oneR, voteR mb0, learnC]).1.2.length = 1 := by decide +kernel
theorem al2 : (ofA [oneR, learnC]).2.1 = 1 ∧ (ofA [oneR, learnC]).2.2 = 240 := by decide +kernel
theorem al3 : (ofA [oneR, oneR]).2.1 = 1 ∧ (ofA [oneR, oneR]).2.2 = 240 := by decide +kernel
theorem nilMOk (M : Mem) : MbOk M nilM := MbOk.nil M
theorem nilSOk (M : Mem) : StOk M nilS := StOk.nil M
theorem oneOk (M : Mem) : RcOk M oneR := ⟨nilMOk M, nilSOk M, (fun _ h => by cases h), (fun _ h => by cases h), by decide⟩
theorem learnOk (M : Mem) : RcOk M learnC := ⟨nilMOk M, nilSOk M, (fun _ h => by cases h), (fun _ h => by cases h), by decide⟩
theorem voteOk {M : Mem} {s : SMb} (h : MbOk M s) (hx : s.xs = [dz]) : RcOk M (voteR s) := ⟨h, nilSOk M, (fun m hm => by rw [show (voteR s).mem.xs = [dz] from hx] at hm; simp at hm; subst hm; decide), (fun _ h => by cases h), show (2 : Nat) < 4611686018427387904 by decide⟩
set_option maxHeartbeats 16000000 in
theorem alive_ok (M : Mem) (L : HL) : Tr Try.prog 6 [] M L (fun v M' L' => v = .bool true ∧ M.le M' ∧ L = L') := by
  refine Tr.intro 80 Try.func6 rfl rfl Try.call6 rfl ?_
  intro C hC hro
  repeat (first | with_reducible refine run_seq ?_ | with_reducible refine run_region ?_ | with_reducible refine runL_nil ?_ | with_reducible refine run_skip ?_ | with_reducible refine run_block ?_ | with_reducible refine run_inBlock ?_ | refine run_exit rfl ?_ | refine runL_q (qt_pev tok rfl) rfl rfl rfl ?_ | refine runL_g rfl rfl (qt_pev tok rfl) rfl rfl rfl rfl rfl ?_ | refine runL_q (qt_ld tok rfl (by (repeat (first | with_reducible apply List.mem_cons_self | with_reducible assumption | with_reducible apply List.mem_cons_of_mem | with_reducible apply List.mem_append_right))) (by rfl)) rfl rfl rfl ?_ | refine runL_g rfl rfl (qt_ld tok rfl (by (repeat (first | with_reducible apply List.mem_cons_self | with_reducible assumption | with_reducible apply List.mem_cons_of_mem | with_reducible apply List.mem_append_right))) (by rfl)) rfl rfl rfl rfl rfl ?_ | (refine runL_op0 (st_store tok rfl rfl rfl rfl rfl (by (repeat (first | with_reducible apply Upd.here | with_reducible apply Upd.there | with_reducible apply Upd.append_left))) (by rfl)) ?_; rintro _ _ _ ⟨rfl, rfl, rfl⟩) | (refine runL_op (st_box rfl) rfl rfl rfl ?_; rintro _ _ _ ⟨_, rfl, rfl, rfl⟩) | (refine runL_op (st_alloc tok rfl) rfl rfl rfl ?_; rintro _ _ _ ⟨_, rfl, rfl, rfl⟩) | (refine runL_op (st_buildSlice tok rfl rfl rfl rfl rfl rfl rfl) rfl rfl rfl ?_; rintro _ _ _ ⟨_, rfl, rfl, rfl⟩))
  rename_i b1 b2 bs b3 b4 bt
  refine runL_frz 3 rfl ?_
  intro M1 hM1 hbs
  refine runL_frz 0 rfl ?_
  intro M2 hM2 hbt
  have hms : MbOk M2 ⟨some ⟨bs, 0, none⟩, 1, 1, [dz]⟩ := ⟨SlM.ofBlk (ls := [dz].map mbC) (hM2.blk _ _ hbs) rfl (mbC_all _), show (1 : Nat) < 1000000 by decide⟩
  have hvo := voteOk hms rfl
  have hr1 : RsM M2 (some ⟨bt, 0, none⟩) [oneR, voteR ⟨some ⟨bs, 0, none⟩, 1, 1, [dz]⟩, learnC] := ⟨SlM.ofBlk (ls := [oneR, voteR ⟨some ⟨bs, 0, none⟩, 1, 1, [dz]⟩, learnC].map rcC) hbt rfl (rcC_all _), (fun r hr => by
    simp only [List.mem_cons, List.not_mem_nil, or_false] at hr
    rcases hr with rfl | rfl | rfl
    · exact oneOk _
    · exact hvo
    · exact learnOk _), show (3 : Nat) < 800000 by decide⟩
  have hre1 : ofA [oneR, voteR ⟨some ⟨bs, 0, none⟩, 1, 1, [dz]⟩, learnC] = ofA [oneR, voteR mb0, learnC] := ofGo_re _ _ rfl (by intro r hr; exact (hr1.ok r hr).lens) (by
    intro r hr
    simp only [List.mem_cons, List.not_mem_nil, or_false] at hr
    rcases hr with rfl | rfl | rfl <;> exact ⟨rfl, rfl⟩)
  refine runL_mem (L' := (b4, .cells ⟨rcC learnC⟩ 37 (0, 0)) :: (b3, .cells ⟨rcC (voteR ⟨some ⟨bs, 0, none⟩, 1, 1, [dz]⟩)⟩ 37 (0, 0)) :: (b2, .cells ⟨txC t0⟩ 24 (0, 0)) :: (b1, .cells ⟨rcC oneR⟩ 37 (0, 0)) :: L) (fun _ h => h) ?_
  have hO1 := of_ok M2 ((b4, .cells ⟨rcC learnC⟩ 37 (0, 0)) :: (b3, .cells ⟨rcC (voteR ⟨some ⟨bs, 0, none⟩, 1, 1, [dz]⟩)⟩ 37 (0, 0)) :: (b2, .cells ⟨txC t0⟩ 24 (0, 0)) :: (b1, .cells ⟨rcC oneR⟩ 37 (0, 0)) :: L) _ 3 _ hr1
  refine runL_op (st_callF rfl (fun _ => hO1)) rfl rfl rfl ?_
  rintro v M3 _ ⟨hM3, rfl, ep, a', c', rows, hv, hbk, he, _⟩
  rw [hre1, al1.1, al1.2.1] at hv
  rw [hre1] at he
  have hep : ep = 1 := by have := congrArg Prod.fst he; rw [al1.2.2.1] at this; exact this
  have hrl : rows.length = 1 := by have := congrArg (fun z : BkA => z.2.length) he; simp only [List.length_map] at this; rw [this]; exact al1.2.2.2
  rw [hep, hrl] at hv
  subst hv
  repeat (first | with_reducible refine run_seq ?_ | with_reducible refine run_region ?_ | with_reducible refine runL_nil ?_ | with_reducible refine run_skip ?_ | with_reducible refine run_block ?_ | with_reducible refine run_inBlock ?_ | refine run_exit rfl ?_ | refine runL_q (qt_pev tok rfl) rfl rfl rfl ?_ | refine runL_g rfl rfl (qt_pev tok rfl) rfl rfl rfl rfl rfl ?_ | refine runL_q (qt_ld tok rfl (by (repeat (first | with_reducible apply List.mem_cons_self | with_reducible assumption | with_reducible apply List.mem_cons_of_mem | with_reducible apply List.mem_append_right))) (by rfl)) rfl rfl rfl ?_ | refine runL_g rfl rfl (qt_ld tok rfl (by (repeat (first | with_reducible apply List.mem_cons_self | with_reducible assumption | with_reducible apply List.mem_cons_of_mem | with_reducible apply List.mem_append_right))) (by rfl)) rfl rfl rfl rfl rfl ?_ | (refine runL_op0 (st_store tok rfl rfl rfl rfl rfl (by (repeat (first | with_reducible apply Upd.here | with_reducible apply Upd.there | with_reducible apply Upd.append_left))) (by rfl)) ?_; rintro _ _ _ ⟨rfl, rfl, rfl⟩) | (refine runL_op (st_box rfl) rfl rfl rfl ?_; rintro _ _ _ ⟨_, rfl, rfl, rfl⟩) | (refine runL_op (st_alloc tok rfl) rfl rfl rfl ?_; rintro _ _ _ ⟨_, rfl, rfl, rfl⟩) | (refine runL_op (st_buildSlice tok rfl rfl rfl rfl rfl rfl rfl) rfl rfl rfl ?_; rintro _ _ _ ⟨_, rfl, rfl, rfl⟩))
  rename_i b5 bu
  refine runL_frz 0 rfl ?_
  intro M4 hM4 hbu
  have hr2 : RsM M4 (some ⟨bu, 0, none⟩) [oneR, learnC] := ⟨SlM.ofBlk (ls := [oneR, learnC].map rcC) hbu rfl (rcC_all _), (fun r hr => by
    simp only [List.mem_cons, List.not_mem_nil, or_false] at hr
    rcases hr with rfl | rfl
    · exact oneOk _
    · exact learnOk _), show (2 : Nat) < 800000 by decide⟩
  refine runL_mem (L' := (b5, .cells ⟨[.int .i64 1, .slice a' 1 c']⟩ 29 (0, 0)) :: (b4, .cells ⟨rcC learnC⟩ 37 (0, 0)) :: (b3, .cells ⟨rcC (voteR ⟨some ⟨bs, 0, none⟩, 1, 1, [dz]⟩)⟩ 37 (0, 0)) :: (b2, .cells ⟨txC t0⟩ 24 (0, 0)) :: (b1, .cells ⟨rcC oneR⟩ 37 (0, 0)) :: L) (fun _ h => h) ?_
  refine runL_op (st_callF rfl (fun _ => of_ok _ _ (some ⟨bu, 0, none⟩) 2 [oneR, learnC] hr2)) rfl rfl rfl ?_
  rintro v M5 _ ⟨hM5, rfl, ep2, a2, c2, rows2, hv, _, _, _⟩
  rw [al2.1, al2.2] at hv
  subst hv
  repeat (first | with_reducible refine run_seq ?_ | with_reducible refine run_region ?_ | with_reducible refine runL_nil ?_ | with_reducible refine run_skip ?_ | with_reducible refine run_block ?_ | with_reducible refine run_inBlock ?_ | refine run_exit rfl ?_ | refine runL_q (qt_pev tok rfl) rfl rfl rfl ?_ | refine runL_g rfl rfl (qt_pev tok rfl) rfl rfl rfl rfl rfl ?_ | refine runL_q (qt_ld tok rfl (by (repeat (first | with_reducible apply List.mem_cons_self | with_reducible assumption | with_reducible apply List.mem_cons_of_mem | with_reducible apply List.mem_append_right))) (by rfl)) rfl rfl rfl ?_ | refine runL_g rfl rfl (qt_ld tok rfl (by (repeat (first | with_reducible apply List.mem_cons_self | with_reducible assumption | with_reducible apply List.mem_cons_of_mem | with_reducible apply List.mem_append_right))) (by rfl)) rfl rfl rfl rfl rfl ?_ | (refine runL_op0 (st_store tok rfl rfl rfl rfl rfl (by (repeat (first | with_reducible apply Upd.here | with_reducible apply Upd.there | with_reducible apply Upd.append_left))) (by rfl)) ?_; rintro _ _ _ ⟨rfl, rfl, rfl⟩) | (refine runL_op (st_box rfl) rfl rfl rfl ?_; rintro _ _ _ ⟨_, rfl, rfl, rfl⟩) | (refine runL_op (st_alloc tok rfl) rfl rfl rfl ?_; rintro _ _ _ ⟨_, rfl, rfl, rfl⟩) | (refine runL_op (st_buildSlice tok rfl rfl rfl rfl rfl rfl rfl) rfl rfl rfl ?_; rintro _ _ _ ⟨_, rfl, rfl, rfl⟩))
  rename_i b8 bw
  refine runL_frz 0 rfl ?_
  intro M6 hM6 hbw
  have hr3 : RsM M6 (some ⟨bw, 0, none⟩) [oneR, oneR] := ⟨SlM.ofBlk (ls := [oneR, oneR].map rcC) hbw rfl (rcC_all _), (fun r hr => by
    simp only [List.mem_cons, List.not_mem_nil, or_false] at hr
    rcases hr with rfl | rfl
    · exact oneOk _
    · exact oneOk _), show (2 : Nat) < 800000 by decide⟩
  refine runL_mem (L' := (b8, .cells ⟨[.int .i64 ep2, .slice a2 rows2.length c2]⟩ 29 (0, 0)) :: (b5, .cells ⟨[.int .i64 1, .slice a' 1 c']⟩ 29 (0, 0)) :: (b4, .cells ⟨rcC learnC⟩ 37 (0, 0)) :: (b3, .cells ⟨rcC (voteR ⟨some ⟨bs, 0, none⟩, 1, 1, [dz]⟩)⟩ 37 (0, 0)) :: (b2, .cells ⟨txC t0⟩ 24 (0, 0)) :: (b1, .cells ⟨rcC oneR⟩ 37 (0, 0)) :: L) (fun _ h => h) ?_
  refine runL_op (st_callF rfl (fun _ => of_ok _ _ (some ⟨bw, 0, none⟩) 2 [oneR, oneR] hr3)) rfl rfl rfl ?_
  rintro v M7 _ ⟨hM7, rfl, ep3, a3, c3, rows3, hv, _, _, _⟩
  rw [al3.1, al3.2] at hv
  subst hv
  repeat (first | with_reducible refine run_seq ?_ | with_reducible refine run_region ?_ | with_reducible refine runL_nil ?_ | with_reducible refine run_skip ?_ | with_reducible refine run_block ?_ | with_reducible refine run_inBlock ?_ | refine run_exit rfl ?_ | refine runL_q (qt_pev tok rfl) rfl rfl rfl ?_ | refine runL_gK rfl rfl (qt_pev tok rfl) rfl rfl rfl ?_ | refine runL_gF rfl rfl rfl rfl rfl ?_ | refine runL_g rfl rfl (qt_pev tok rfl) rfl rfl rfl rfl rfl ?_ | refine runL_q (qt_ld tok rfl (by (repeat (first | with_reducible apply List.mem_cons_self | with_reducible assumption | with_reducible apply List.mem_cons_of_mem | with_reducible apply List.mem_append_right))) (by rfl)) rfl rfl rfl ?_ | refine runL_gK rfl rfl (qt_ld tok rfl (by (repeat (first | with_reducible apply List.mem_cons_self | with_reducible assumption | with_reducible apply List.mem_cons_of_mem | with_reducible apply List.mem_append_right))) (by rfl)) rfl rfl rfl ?_ | refine runL_gF rfl rfl rfl rfl rfl ?_ | refine runL_g rfl rfl (qt_ld tok rfl (by (repeat (first | with_reducible apply List.mem_cons_self | with_reducible assumption | with_reducible apply List.mem_cons_of_mem | with_reducible apply List.mem_append_right))) (by rfl)) rfl rfl rfl rfl rfl ?_ | (refine runL_op0 (st_store tok rfl rfl rfl rfl rfl (by (repeat (first | with_reducible apply Upd.here | with_reducible apply Upd.there | with_reducible apply Upd.append_left))) (by rfl)) ?_; rintro _ _ _ ⟨rfl, rfl, rfl⟩) | (refine runL_op (st_box rfl) rfl rfl rfl ?_; rintro _ _ _ ⟨_, rfl, rfl, rfl⟩) | (refine runL_op (st_alloc tok rfl) rfl rfl rfl ?_; rintro _ _ _ ⟨_, rfl, rfl, rfl⟩) | (refine runL_op (st_buildSlice tok rfl rfl rfl rfl rfl rfl rfl) rfl rfl rfl ?_; rintro _ _ _ ⟨_, rfl, rfl, rfl⟩))
  exact run_ret hC (rs := [.tmp 0]) rfl (resT rfl resN) (fun _ h => h.drop.drop.drop.drop.drop.drop.drop) ⟨rfl, Mem.le_trans hM1 (Mem.le_trans hM2 (Mem.le_trans hM3 (Mem.le_trans hM4 (Mem.le_trans hM5 (Mem.le_trans hM6 hM7))))), rfl⟩
end Go.Proofs.Ytemiflllckincaa
