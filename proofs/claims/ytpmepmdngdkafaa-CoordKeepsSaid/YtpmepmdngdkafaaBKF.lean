import Derived.Test.YtpmepmdngdkafaaBKA
import Derived.Test.YtpmepmdngdkafaaBKE
import Derived.Test.YtpmepmdngdkafaaBKB
namespace Go.Proofs.Ytpmepmdngdkafaa
open Go.Chi

/-! ### the document's new transaction -/
theorem newA_big {t : Tx} {au : Int} {mem : List Mb} {bodies : List ByteArray} {now : Int} (h : 6 < mem.length ∨ 6 < bodies.length) : newA t au mem bodies now = (caZ, 2) := by
  unfold newA
  split
  · rfl
  · rename_i h1
    have h2 : 6 < bodies.length := h.resolve_left h1
    have h3 : ¬ mayA (newC t au mem bodies now) = true := by
      intro e
      simp only [mayA, coOk, Bool.and_eq_true] at e
      have hr := e.1.1.2
      simp only [rowsR, bodiesR, Bool.and_eq_true, Bool.or_eq_true, beq_iff_eq] at hr
      have h4 := hr.1.1.1.1
      simp only [newC, Ca.co] at h4
      rcases h4 with h4 | ⟨_, h4⟩
      · omega
      · simp at h4
    rw [madeA, if_neg h3]
set_option maxRecDepth 10000 in
set_option maxHeartbeats 32000000 in
theorem refNew_ok (M : Mem) (L : HL) (t : Tx) (au : Int) (s : SMb) (bs : SStr) (now : Int) (hs : MbOk M s) (hb : StOk M bs) (hd : ∀ m ∈ s.xs, m.digest.size < 4611686018427387904) (hbd : ∀ t ∈ bs.xs, t.size < 4611686018427387904) : Tr Try.prog 25 [.agg ⟨txC t⟩, .int .i64 au, s.v, bs.v, .int .i64 now] M L (CoK M L (newA t au s.xs bs.xs now)) := by
  have hl := hs.len
  have hbl := hb.len
  have h6 := hs.2
  refine Tr.intro 42 Try.func25 rfl rfl Try.call25 rfl ?_
  intro C hC hro
  repeat (first | with_reducible (first | refine run_seq ?_ | refine run_region ?_ | refine runL_nil ?_ | refine run_skip ?_ | refine run_block ?_ | refine run_inBlock ?_) | refine run_exit rfl ?_ | refine runL_q (qt_pev tok rfl) rfl rfl rfl ?_ | refine runL_g rfl rfl (qt_pev tok rfl) rfl rfl rfl rfl rfl ?_ | refine runL_q (ql tok rfl) rfl rfl rfl ?_ | refine runL_g rfl rfl (ql tok rfl) rfl rfl rfl rfl rfl ?_ | (refine runL_op0 (sst tok rfl rfl rfl rfl rfl) ?_; rintro _ _ _ ⟨rfl, rfl, rfl⟩) | (refine runL_op (st_box rfl) rfl rfl rfl ?_; rintro _ _ _ ⟨_, rfl, rfl, rfl⟩) | (refine runL_op (st_alloc tok rfl) rfl rfl rfl ?_; rintro _ _ _ ⟨_, rfl, rfl, rfl⟩) | (refine runL_op (st_buildSlice tok rfl rfl rfl rfl rfl rfl rfl) rfl rfl rfl ?_; rintro _ _ _ ⟨_, rfl, rfl, rfl⟩))
  rename_i b5 b10
  refine run_cond rfl (fun h => ?_) (fun h => ?_)
  · have h1 : 6 < s.xs.length ∨ 6 < bs.xs.length := by
      have : (decide ((s.len : Int) > 6) || decide ((bs.len : Int) > 6)) = true := h
      simp at this
      omega
    rw [newA_big h1] at hC
    repeat (first | with_reducible (first | refine run_seq ?_ | refine run_region ?_ | refine runL_nil ?_ | refine run_skip ?_ | refine run_block ?_ | refine run_inBlock ?_) | refine run_exit rfl ?_ | refine runL_q (qt_pev tok rfl) rfl rfl rfl ?_ | refine runL_g rfl rfl (qt_pev tok rfl) rfl rfl rfl rfl rfl ?_ | refine runL_q (ql tok rfl) rfl rfl rfl ?_ | refine runL_g rfl rfl (ql tok rfl) rfl rfl rfl rfl rfl ?_ | (refine runL_op0 (sst tok rfl rfl rfl rfl rfl) ?_; rintro _ _ _ ⟨rfl, rfl, rfl⟩) | (refine runL_op (st_box rfl) rfl rfl rfl ?_; rintro _ _ _ ⟨_, rfl, rfl, rfl⟩) | (refine runL_op (st_alloc tok rfl) rfl rfl rfl ?_; rintro _ _ _ ⟨_, rfl, rfl, rfl⟩) | (refine runL_op (st_buildSlice tok rfl rfl rfl rfl rfl rfl rfl) rfl rfl rfl ?_; rintro _ _ _ ⟨_, rfl, rfl, rfl⟩))
    exact run_ret hC (rs := [.cell 10 29, .tmp 11]) rfl (rl tok rfl (resT rfl resN)) (fun _ h => h.drop.drop) (CoK.none _ _ _ (Mem.le_refl _))
  have hle : ¬ 6 < s.xs.length := by
    have : (decide ((s.len : Int) > 6) || decide ((bs.len : Int) > 6)) = false := h
    simp at this
    omega
  rw [newA, if_neg hle] at hC
  refine run_skip ?_
  refine run_seq ?_
  refine run_cut (fun σ' M' L' => ∃ b13 c', M.le M' ∧ CoOk M' c' ∧ c'.ab = newC t au s.xs bs.xs now ∧ L' = (b13, .cells ⟨coC c'⟩ 29 (0, 0)) :: (b10, .cells ⟨coC coZ⟩ 29 (0, 0)) :: (b5, .cells ⟨txC t⟩ 23 (0, 0)) :: L ∧ σ' = [(13, .pointer (some ⟨b13, 0, none⟩)), (10, .pointer (some ⟨b10, 0, none⟩)), (11, .int .i64 0)]) ?_ ?_
  · rintro _ M1 _ ⟨b13, c', hM1, hok, hab, rfl, rfl⟩
    rw [← hab] at hC
    repeat (first | with_reducible (first | refine run_seq ?_ | refine run_region ?_ | refine runL_nil ?_ | refine run_skip ?_ | refine run_block ?_ | refine run_inBlock ?_) | refine run_exit rfl ?_ | refine runL_q (qt_pev tok rfl) rfl rfl rfl ?_ | refine runL_g rfl rfl (qt_pev tok rfl) rfl rfl rfl rfl rfl ?_ | refine runL_q (ql tok rfl) rfl rfl rfl ?_ | refine runL_g rfl rfl (ql tok rfl) rfl rfl rfl rfl rfl ?_ | (refine runL_op0 (sst tok rfl rfl rfl rfl rfl) ?_; rintro _ _ _ ⟨rfl, rfl, rfl⟩) | (refine runL_op (st_box rfl) rfl rfl rfl ?_; rintro _ _ _ ⟨_, rfl, rfl, rfl⟩) | (refine runL_op (st_alloc tok rfl) rfl rfl rfl ?_; rintro _ _ _ ⟨_, rfl, rfl, rfl⟩) | (refine runL_op (st_buildSlice tok rfl rfl rfl rfl rfl rfl rfl) rfl rfl rfl ?_; rintro _ _ _ ⟨_, rfl, rfl, rfl⟩) | refine runL_q (qt_callF rfl (fun _ => refMay_ok _ _ c' hok)) rfl rfl rfl ?_)
    refine run_cond rfl (fun h7 => ?_) (fun h7 => ?_)
    · have h8 : ¬ mayA c'.ab = true := by
        have : (!mayA c'.ab) = true := h7
        simpa using this
      rw [madeA, if_neg h8] at hC
      repeat (first | with_reducible (first | refine run_seq ?_ | refine run_region ?_ | refine runL_nil ?_ | refine run_skip ?_ | refine run_block ?_ | refine run_inBlock ?_) | refine run_exit rfl ?_ | refine runL_q (qt_pev tok rfl) rfl rfl rfl ?_ | refine runL_g rfl rfl (qt_pev tok rfl) rfl rfl rfl rfl rfl ?_ | refine runL_q (ql tok rfl) rfl rfl rfl ?_ | refine runL_g rfl rfl (ql tok rfl) rfl rfl rfl rfl rfl ?_ | (refine runL_op0 (sst tok rfl rfl rfl rfl rfl) ?_; rintro _ _ _ ⟨rfl, rfl, rfl⟩) | (refine runL_op (st_box rfl) rfl rfl rfl ?_; rintro _ _ _ ⟨_, rfl, rfl, rfl⟩) | (refine runL_op (st_alloc tok rfl) rfl rfl rfl ?_; rintro _ _ _ ⟨_, rfl, rfl, rfl⟩) | (refine runL_op (st_buildSlice tok rfl rfl rfl rfl rfl rfl rfl) rfl rfl rfl ?_; rintro _ _ _ ⟨_, rfl, rfl, rfl⟩))
      exact run_ret hC (rs := [.cell 10 29, .tmp 11]) rfl (rl tok rfl (resT rfl resN)) (fun _ h => h.drop.drop.drop) (CoK.none _ _ _ hM1)
    · have h8 : mayA c'.ab = true := by
        have : (!mayA c'.ab) = false := h7
        simpa using this
      rw [madeA, if_pos h8] at hC
      repeat (first | with_reducible (first | refine run_seq ?_ | refine run_region ?_ | refine runL_nil ?_ | refine run_skip ?_ | refine run_block ?_ | refine run_inBlock ?_) | refine run_exit rfl ?_ | refine runL_q (qt_pev tok rfl) rfl rfl rfl ?_ | refine runL_g rfl rfl (qt_pev tok rfl) rfl rfl rfl rfl rfl ?_ | refine runL_q (ql tok rfl) rfl rfl rfl ?_ | refine runL_g rfl rfl (ql tok rfl) rfl rfl rfl rfl rfl ?_ | (refine runL_op0 (sst tok rfl rfl rfl rfl rfl) ?_; rintro _ _ _ ⟨rfl, rfl, rfl⟩) | (refine runL_op (st_box rfl) rfl rfl rfl ?_; rintro _ _ _ ⟨_, rfl, rfl, rfl⟩) | (refine runL_op (st_alloc tok rfl) rfl rfl rfl ?_; rintro _ _ _ ⟨_, rfl, rfl, rfl⟩) | (refine runL_op (st_buildSlice tok rfl rfl rfl rfl rfl rfl rfl) rfl rfl rfl ?_; rintro _ _ _ ⟨_, rfl, rfl, rfl⟩))
      exact run_ret hC (rs := [.cell 10 29, .tmp 11]) rfl (rl tok rfl (resT rfl resN)) (fun _ h => h.drop.drop.drop) ⟨hM1, rfl, c', rfl, rfl, hok⟩
  intro hnext
  have hMM := Mem.le_refl M
  refine prn_start mixed ?_
  refine pr_q 0 (by decide +kernel) rfl (ql tok rfl) rfl rfl rfl ?_
  refine pr_q 1 (by decide +kernel) rfl (qt_pev tok rfl) rfl rfl rfl ?_
  refine pr_q 2 (by decide +kernel) rfl (qt_pev tok rfl) rfl rfl rfl ?_
  refine pr_q 3 (by decide +kernel) rfl (qt_pev tok rfl) rfl rfl rfl ?_
  refine pr_q 4 (by decide +kernel) rfl (qt_pev tok rfl) rfl rfl rfl ?_
  refine pr_q 6 (by decide +kernel) rfl (qt_pev tok rfl) rfl rfl rfl ?_
  refine pr_q 8 (by decide +kernel) rfl (qt_pev tok rfl) rfl rfl rfl ?_
  refine pr_q 10 (by decide +kernel) rfl (qt_pev tok rfl) rfl rfl rfl ?_
  refine pr_four 5 7 9 13 (by decide +kernel) ?_ ?_ ?_ ?_
  · refine eff1 5 rfl (St.frz1 (st_makeSlice (n := s.len) tok rfl rfl rfl rfl rfl rfl rfl (by omega) (by omega))) (by decide +kernel) (qs := _) rfl rfl rfl rfl ?_
    rintro _ M5 _ ⟨hM5, rfl, b5, rfl, hb5⟩
    refine ⟨by (repeat (first | exact trivial | refine And.intro (pend_q rfl rfl rfl (qt_pev tok rfl)) ?_ | refine And.intro (pend_q rfl rfl rfl (ql tok rfl)) ?_ | refine And.intro (pend_q rfl rfl rfl (Qt.as (qt_pev tok rfl) hc1v.symm)) ?_)), ?_⟩
    have hMM := Mem.le_trans hMM hM5
    have hs := MbOk.le hM5 hs
    have hb := StOk.le hM5 hb
    refine pr_three 7 9 13 (by decide +kernel) ?_ ?_ ?_
    · refine eff1 7 rfl (St.frz1 (st_makeSlice (n := s.len) tok rfl rfl rfl rfl rfl rfl rfl (by omega) (by omega))) (by decide +kernel) (qs := _) rfl rfl rfl rfl ?_
      rintro _ M7 _ ⟨hM7, rfl, b7, rfl, hb7⟩
      refine ⟨by (repeat (first | exact trivial | refine And.intro (pend_q rfl rfl rfl (qt_pev tok rfl)) ?_ | refine And.intro (pend_q rfl rfl rfl (ql tok rfl)) ?_ | refine And.intro (pend_q rfl rfl rfl (Qt.as (qt_pev tok rfl) hc1v.symm)) ?_)), ?_⟩
      have hMM := Mem.le_trans hMM hM7
      have hs := MbOk.le hM7 hs
      have hb := StOk.le hM7 hb
      have hb5 := hM7.blk _ _ hb5
      refine pr_two 9 13 (by decide +kernel) ?_ ?_
      · refine eff1 9 rfl (St.frz1 (st_makeSlice (n := s.len) tok rfl rfl rfl rfl rfl rfl rfl (by omega) (by omega))) (by decide +kernel) (qs := _) rfl rfl rfl rfl ?_
        rintro _ M9 _ ⟨hM9, rfl, b9, rfl, hb9⟩
        refine ⟨by (repeat (first | exact trivial | refine And.intro (pend_q rfl rfl rfl (qt_pev tok rfl)) ?_ | refine And.intro (pend_q rfl rfl rfl (ql tok rfl)) ?_ | refine And.intro (pend_q rfl rfl rfl (Qt.as (qt_pev tok rfl) hc1v.symm)) ?_)), ?_⟩
        have hMM := Mem.le_trans hMM hM9
        have hs := MbOk.le hM9 hs
        have hb := StOk.le hM9 hb
        have hb5 := hM9.blk _ _ hb5
        have hb7 := hM9.blk _ _ hb7
        obtain ⟨c1, hc1e⟩ : ∃ c1 : Co, c1 = ⟨t, au, s, bs, ⟨some ⟨b5, 0, none⟩, s.len, s.len, List.replicate s.len 0⟩, ⟨some ⟨b7, 0, none⟩, s.len, s.len, List.replicate s.len ⟨#[]⟩⟩, ⟨some ⟨b9, 0, none⟩, s.len, s.len, List.replicate s.len false⟩, 1, now, -1⟩ := ⟨_, rfl⟩
        have hc1 : CoOk _ c1 := hc1e ▸ newCo hs hb hb5 hb7 hb9 hd hbd t au now
        have hc1v : (Value.agg ⟨coC c1⟩) = .agg ⟨coC ⟨t, au, s, bs, ⟨some ⟨b5, 0, none⟩, s.len, s.len, List.replicate s.len 0⟩, ⟨some ⟨b7, 0, none⟩, s.len, s.len, List.replicate s.len ⟨#[]⟩⟩, ⟨some ⟨b9, 0, none⟩, s.len, s.len, List.replicate s.len false⟩, 1, now, -1⟩⟩ := by rw [hc1e]
        refine pr_q 11 (by decide +kernel) rfl (Qt.as (qt_pev tok rfl) hc1v.symm) rfl rfl rfl ?_
        refine pr_two 12 13 (by decide +kernel) ?_ ?_
        · refine eff1 12 rfl (st_callF rfl (fun _ => refOwn_frz _ _ c1 hc1)) (by decide +kernel) (qs := _) rfl rfl rfl rfl ?_
          rintro _ M12 _ ⟨hM12, rfl, c', rfl, hab, hok⟩
          refine ⟨by (repeat (first | exact trivial | refine And.intro (pend_q rfl rfl rfl (qt_pev tok rfl)) ?_ | refine And.intro (pend_q rfl rfl rfl (ql tok rfl)) ?_ | refine And.intro (pend_q rfl rfl rfl (Qt.as (qt_pev tok rfl) hc1v.symm)) ?_)), ?_⟩
          refine pr_one 13 (by decide +kernel) (eff1 13 rfl (st_alloc tok rfl) (by decide +kernel) (qs := _) rfl rfl rfl rfl ?_)
          rintro _ _ _ ⟨b13, rfl, rfl, rfl⟩
          refine ⟨by (repeat (first | exact trivial | refine And.intro (pend_q rfl rfl rfl (qt_pev tok rfl)) ?_ | refine And.intro (pend_q rfl rfl rfl (ql tok rfl)) ?_ | refine And.intro (pend_q rfl rfl rfl (Qt.as (qt_pev tok rfl) hc1v.symm)) ?_)), ?_⟩
          refine pr_one 14 (by decide +kernel) (eff0 14 rfl (sst tok rfl rfl rfl rfl rfl) (by decide +kernel) (qs := _) rfl ?_)
          rintro _ _ _ ⟨rfl, rfl, rfl⟩
          refine ⟨by (repeat (first | exact trivial | refine And.intro (pend_q rfl rfl rfl (qt_pev tok rfl)) ?_ | refine And.intro (pend_q rfl rfl rfl (ql tok rfl)) ?_ | refine And.intro (pend_q rfl rfl rfl (Qt.as (qt_pev tok rfl) hc1v.symm)) ?_)), ?_⟩
          refine pr_end (by decide +kernel) (by decide +kernel) ?_
          exact run_sub' (hnext _ _ _ ⟨b13, c', Mem.le_trans hMM hM12, hok, hab.trans (newAb hl hc1e), rfl, rfl⟩) ⟨rfl, rfl, rfl, trivial⟩
        · refine eff1 13 rfl (st_alloc tok rfl) (by decide +kernel) (qs := _) rfl rfl rfl rfl ?_
          rintro _ _ _ ⟨b13, rfl, rfl, rfl⟩
          refine ⟨by (repeat (first | exact trivial | refine And.intro (pend_q rfl rfl rfl (qt_pev tok rfl)) ?_ | refine And.intro (pend_q rfl rfl rfl (ql tok rfl)) ?_ | refine And.intro (pend_q rfl rfl rfl (Qt.as (qt_pev tok rfl) hc1v.symm)) ?_)), ?_⟩
          refine pr_one 12 (by decide +kernel) (eff1 12 rfl (st_callF rfl (fun _ => refOwn_frz _ _ c1 hc1)) (by decide +kernel) (qs := _) rfl rfl rfl rfl ?_)
          rintro _ M12 _ ⟨hM12, rfl, c', rfl, hab, hok⟩
          refine ⟨by (repeat (first | exact trivial | refine And.intro (pend_q rfl rfl rfl (qt_pev tok rfl)) ?_ | refine And.intro (pend_q rfl rfl rfl (ql tok rfl)) ?_ | refine And.intro (pend_q rfl rfl rfl (Qt.as (qt_pev tok rfl) hc1v.symm)) ?_)), ?_⟩
          refine pr_one 14 (by decide +kernel) (eff0 14 rfl (sst tok rfl rfl rfl rfl rfl) (by decide +kernel) (qs := _) rfl ?_)
          rintro _ _ _ ⟨rfl, rfl, rfl⟩
          refine ⟨by (repeat (first | exact trivial | refine And.intro (pend_q rfl rfl rfl (qt_pev tok rfl)) ?_ | refine And.intro (pend_q rfl rfl rfl (ql tok rfl)) ?_ | refine And.intro (pend_q rfl rfl rfl (Qt.as (qt_pev tok rfl) hc1v.symm)) ?_)), ?_⟩
          refine pr_end (by decide +kernel) (by decide +kernel) ?_
          exact run_sub' (hnext _ _ _ ⟨b13, c', Mem.le_trans hMM hM12, hok, hab.trans (newAb hl hc1e), rfl, rfl⟩) ⟨rfl, rfl, rfl, trivial⟩
      · refine eff1 13 rfl (st_alloc tok rfl) (by decide +kernel) (qs := _) rfl rfl rfl rfl ?_
        rintro _ _ _ ⟨b13, rfl, rfl, rfl⟩
        refine ⟨by (repeat (first | exact trivial | refine And.intro (pend_q rfl rfl rfl (qt_pev tok rfl)) ?_ | refine And.intro (pend_q rfl rfl rfl (ql tok rfl)) ?_ | refine And.intro (pend_q rfl rfl rfl (Qt.as (qt_pev tok rfl) hc1v.symm)) ?_)), ?_⟩
        refine pr_one 9 (by decide +kernel) (eff1 9 rfl (St.frz1 (st_makeSlice (n := s.len) tok rfl rfl rfl rfl rfl rfl rfl (by omega) (by omega))) (by decide +kernel) (qs := _) rfl rfl rfl rfl ?_)
        rintro _ M9 _ ⟨hM9, rfl, b9, rfl, hb9⟩
        refine ⟨by (repeat (first | exact trivial | refine And.intro (pend_q rfl rfl rfl (qt_pev tok rfl)) ?_ | refine And.intro (pend_q rfl rfl rfl (ql tok rfl)) ?_ | refine And.intro (pend_q rfl rfl rfl (Qt.as (qt_pev tok rfl) hc1v.symm)) ?_)), ?_⟩
        have hMM := Mem.le_trans hMM hM9
        have hs := MbOk.le hM9 hs
        have hb := StOk.le hM9 hb
        have hb5 := hM9.blk _ _ hb5
        have hb7 := hM9.blk _ _ hb7
        obtain ⟨c1, hc1e⟩ : ∃ c1 : Co, c1 = ⟨t, au, s, bs, ⟨some ⟨b5, 0, none⟩, s.len, s.len, List.replicate s.len 0⟩, ⟨some ⟨b7, 0, none⟩, s.len, s.len, List.replicate s.len ⟨#[]⟩⟩, ⟨some ⟨b9, 0, none⟩, s.len, s.len, List.replicate s.len false⟩, 1, now, -1⟩ := ⟨_, rfl⟩
        have hc1 : CoOk _ c1 := hc1e ▸ newCo hs hb hb5 hb7 hb9 hd hbd t au now
        have hc1v : (Value.agg ⟨coC c1⟩) = .agg ⟨coC ⟨t, au, s, bs, ⟨some ⟨b5, 0, none⟩, s.len, s.len, List.replicate s.len 0⟩, ⟨some ⟨b7, 0, none⟩, s.len, s.len, List.replicate s.len ⟨#[]⟩⟩, ⟨some ⟨b9, 0, none⟩, s.len, s.len, List.replicate s.len false⟩, 1, now, -1⟩⟩ := by rw [hc1e]
        refine pr_q 11 (by decide +kernel) rfl (Qt.as (qt_pev tok rfl) hc1v.symm) rfl rfl rfl ?_
        refine pr_one 12 (by decide +kernel) (eff1 12 rfl (st_callF rfl (fun _ => refOwn_frz _ _ c1 hc1)) (by decide +kernel) (qs := _) rfl rfl rfl rfl ?_)
        rintro _ M12 _ ⟨hM12, rfl, c', rfl, hab, hok⟩
        refine ⟨by (repeat (first | exact trivial | refine And.intro (pend_q rfl rfl rfl (qt_pev tok rfl)) ?_ | refine And.intro (pend_q rfl rfl rfl (ql tok rfl)) ?_ | refine And.intro (pend_q rfl rfl rfl (Qt.as (qt_pev tok rfl) hc1v.symm)) ?_)), ?_⟩
        refine pr_one 14 (by decide +kernel) (eff0 14 rfl (sst tok rfl rfl rfl rfl rfl) (by decide +kernel) (qs := _) rfl ?_)
        rintro _ _ _ ⟨rfl, rfl, rfl⟩
        refine ⟨by (repeat (first | exact trivial | refine And.intro (pend_q rfl rfl rfl (qt_pev tok rfl)) ?_ | refine And.intro (pend_q rfl rfl rfl (ql tok rfl)) ?_ | refine And.intro (pend_q rfl rfl rfl (Qt.as (qt_pev tok rfl) hc1v.symm)) ?_)), ?_⟩
        refine pr_end (by decide +kernel) (by decide +kernel) ?_
        exact run_sub' (hnext _ _ _ ⟨b13, c', Mem.le_trans hMM hM12, hok, hab.trans (newAb hl hc1e), rfl, rfl⟩) ⟨rfl, rfl, rfl, trivial⟩
    · refine eff1 9 rfl (St.frz1 (st_makeSlice (n := s.len) tok rfl rfl rfl rfl rfl rfl rfl (by omega) (by omega))) (by decide +kernel) (qs := _) rfl rfl rfl rfl ?_
      rintro _ M9 _ ⟨hM9, rfl, b9, rfl, hb9⟩
      refine ⟨by (repeat (first | exact trivial | refine And.intro (pend_q rfl rfl rfl (qt_pev tok rfl)) ?_ | refine And.intro (pend_q rfl rfl rfl (ql tok rfl)) ?_ | refine And.intro (pend_q rfl rfl rfl (Qt.as (qt_pev tok rfl) hc1v.symm)) ?_)), ?_⟩
      have hMM := Mem.le_trans hMM hM9
      have hs := MbOk.le hM9 hs
      have hb := StOk.le hM9 hb
      have hb5 := hM9.blk _ _ hb5
      refine pr_two 7 13 (by decide +kernel) ?_ ?_
      · refine eff1 7 rfl (St.frz1 (st_makeSlice (n := s.len) tok rfl rfl rfl rfl rfl rfl rfl (by omega) (by omega))) (by decide +kernel) (qs := _) rfl rfl rfl rfl ?_
        rintro _ M7 _ ⟨hM7, rfl, b7, rfl, hb7⟩
        refine ⟨by (repeat (first | exact trivial | refine And.intro (pend_q rfl rfl rfl (qt_pev tok rfl)) ?_ | refine And.intro (pend_q rfl rfl rfl (ql tok rfl)) ?_ | refine And.intro (pend_q rfl rfl rfl (Qt.as (qt_pev tok rfl) hc1v.symm)) ?_)), ?_⟩
        have hMM := Mem.le_trans hMM hM7
        have hs := MbOk.le hM7 hs
        have hb := StOk.le hM7 hb
        have hb5 := hM7.blk _ _ hb5
        have hb9 := hM7.blk _ _ hb9
        obtain ⟨c1, hc1e⟩ : ∃ c1 : Co, c1 = ⟨t, au, s, bs, ⟨some ⟨b5, 0, none⟩, s.len, s.len, List.replicate s.len 0⟩, ⟨some ⟨b7, 0, none⟩, s.len, s.len, List.replicate s.len ⟨#[]⟩⟩, ⟨some ⟨b9, 0, none⟩, s.len, s.len, List.replicate s.len false⟩, 1, now, -1⟩ := ⟨_, rfl⟩
        have hc1 : CoOk _ c1 := hc1e ▸ newCo hs hb hb5 hb7 hb9 hd hbd t au now
        have hc1v : (Value.agg ⟨coC c1⟩) = .agg ⟨coC ⟨t, au, s, bs, ⟨some ⟨b5, 0, none⟩, s.len, s.len, List.replicate s.len 0⟩, ⟨some ⟨b7, 0, none⟩, s.len, s.len, List.replicate s.len ⟨#[]⟩⟩, ⟨some ⟨b9, 0, none⟩, s.len, s.len, List.replicate s.len false⟩, 1, now, -1⟩⟩ := by rw [hc1e]
        refine pr_q 11 (by decide +kernel) rfl (Qt.as (qt_pev tok rfl) hc1v.symm) rfl rfl rfl ?_
        refine pr_two 12 13 (by decide +kernel) ?_ ?_
        · refine eff1 12 rfl (st_callF rfl (fun _ => refOwn_frz _ _ c1 hc1)) (by decide +kernel) (qs := _) rfl rfl rfl rfl ?_
          rintro _ M12 _ ⟨hM12, rfl, c', rfl, hab, hok⟩
          refine ⟨by (repeat (first | exact trivial | refine And.intro (pend_q rfl rfl rfl (qt_pev tok rfl)) ?_ | refine And.intro (pend_q rfl rfl rfl (ql tok rfl)) ?_ | refine And.intro (pend_q rfl rfl rfl (Qt.as (qt_pev tok rfl) hc1v.symm)) ?_)), ?_⟩
          refine pr_one 13 (by decide +kernel) (eff1 13 rfl (st_alloc tok rfl) (by decide +kernel) (qs := _) rfl rfl rfl rfl ?_)
          rintro _ _ _ ⟨b13, rfl, rfl, rfl⟩
          refine ⟨by (repeat (first | exact trivial | refine And.intro (pend_q rfl rfl rfl (qt_pev tok rfl)) ?_ | refine And.intro (pend_q rfl rfl rfl (ql tok rfl)) ?_ | refine And.intro (pend_q rfl rfl rfl (Qt.as (qt_pev tok rfl) hc1v.symm)) ?_)), ?_⟩
          refine pr_one 14 (by decide +kernel) (eff0 14 rfl (sst tok rfl rfl rfl rfl rfl) (by decide +kernel) (qs := _) rfl ?_)
          rintro _ _ _ ⟨rfl, rfl, rfl⟩
          refine ⟨by (repeat (first | exact trivial | refine And.intro (pend_q rfl rfl rfl (qt_pev tok rfl)) ?_ | refine And.intro (pend_q rfl rfl rfl (ql tok rfl)) ?_ | refine And.intro (pend_q rfl rfl rfl (Qt.as (qt_pev tok rfl) hc1v.symm)) ?_)), ?_⟩
          refine pr_end (by decide +kernel) (by decide +kernel) ?_
          exact run_sub' (hnext _ _ _ ⟨b13, c', Mem.le_trans hMM hM12, hok, hab.trans (newAb hl hc1e), rfl, rfl⟩) ⟨rfl, rfl, rfl, trivial⟩
        · refine eff1 13 rfl (st_alloc tok rfl) (by decide +kernel) (qs := _) rfl rfl rfl rfl ?_
          rintro _ _ _ ⟨b13, rfl, rfl, rfl⟩
          refine ⟨by (repeat (first | exact trivial | refine And.intro (pend_q rfl rfl rfl (qt_pev tok rfl)) ?_ | refine And.intro (pend_q rfl rfl rfl (ql tok rfl)) ?_ | refine And.intro (pend_q rfl rfl rfl (Qt.as (qt_pev tok rfl) hc1v.symm)) ?_)), ?_⟩
          refine pr_one 12 (by decide +kernel) (eff1 12 rfl (st_callF rfl (fun _ => refOwn_frz _ _ c1 hc1)) (by decide +kernel) (qs := _) rfl rfl rfl rfl ?_)
          rintro _ M12 _ ⟨hM12, rfl, c', rfl, hab, hok⟩
          refine ⟨by (repeat (first | exact trivial | refine And.intro (pend_q rfl rfl rfl (qt_pev tok rfl)) ?_ | refine And.intro (pend_q rfl rfl rfl (ql tok rfl)) ?_ | refine And.intro (pend_q rfl rfl rfl (Qt.as (qt_pev tok rfl) hc1v.symm)) ?_)), ?_⟩
          refine pr_one 14 (by decide +kernel) (eff0 14 rfl (sst tok rfl rfl rfl rfl rfl) (by decide +kernel) (qs := _) rfl ?_)
          rintro _ _ _ ⟨rfl, rfl, rfl⟩
          refine ⟨by (repeat (first | exact trivial | refine And.intro (pend_q rfl rfl rfl (qt_pev tok rfl)) ?_ | refine And.intro (pend_q rfl rfl rfl (ql tok rfl)) ?_ | refine And.intro (pend_q rfl rfl rfl (Qt.as (qt_pev tok rfl) hc1v.symm)) ?_)), ?_⟩
          refine pr_end (by decide +kernel) (by decide +kernel) ?_
          exact run_sub' (hnext _ _ _ ⟨b13, c', Mem.le_trans hMM hM12, hok, hab.trans (newAb hl hc1e), rfl, rfl⟩) ⟨rfl, rfl, rfl, trivial⟩
      · refine eff1 13 rfl (st_alloc tok rfl) (by decide +kernel) (qs := _) rfl rfl rfl rfl ?_
        rintro _ _ _ ⟨b13, rfl, rfl, rfl⟩
        refine ⟨by (repeat (first | exact trivial | refine And.intro (pend_q rfl rfl rfl (qt_pev tok rfl)) ?_ | refine And.intro (pend_q rfl rfl rfl (ql tok rfl)) ?_ | refine And.intro (pend_q rfl rfl rfl (Qt.as (qt_pev tok rfl) hc1v.symm)) ?_)), ?_⟩
        refine pr_one 7 (by decide +kernel) (eff1 7 rfl (St.frz1 (st_makeSlice (n := s.len) tok rfl rfl rfl rfl rfl rfl rfl (by omega) (by omega))) (by decide +kernel) (qs := _) rfl rfl rfl rfl ?_)
        rintro _ M7 _ ⟨hM7, rfl, b7, rfl, hb7⟩
        refine ⟨by (repeat (first | exact trivial | refine And.intro (pend_q rfl rfl rfl (qt_pev tok rfl)) ?_ | refine And.intro (pend_q rfl rfl rfl (ql tok rfl)) ?_ | refine And.intro (pend_q rfl rfl rfl (Qt.as (qt_pev tok rfl) hc1v.symm)) ?_)), ?_⟩
        have hMM := Mem.le_trans hMM hM7
        have hs := MbOk.le hM7 hs
        have hb := StOk.le hM7 hb
        have hb5 := hM7.blk _ _ hb5
        have hb9 := hM7.blk _ _ hb9
        obtain ⟨c1, hc1e⟩ : ∃ c1 : Co, c1 = ⟨t, au, s, bs, ⟨some ⟨b5, 0, none⟩, s.len, s.len, List.replicate s.len 0⟩, ⟨some ⟨b7, 0, none⟩, s.len, s.len, List.replicate s.len ⟨#[]⟩⟩, ⟨some ⟨b9, 0, none⟩, s.len, s.len, List.replicate s.len false⟩, 1, now, -1⟩ := ⟨_, rfl⟩
        have hc1 : CoOk _ c1 := hc1e ▸ newCo hs hb hb5 hb7 hb9 hd hbd t au now
        have hc1v : (Value.agg ⟨coC c1⟩) = .agg ⟨coC ⟨t, au, s, bs, ⟨some ⟨b5, 0, none⟩, s.len, s.len, List.replicate s.len 0⟩, ⟨some ⟨b7, 0, none⟩, s.len, s.len, List.replicate s.len ⟨#[]⟩⟩, ⟨some ⟨b9, 0, none⟩, s.len, s.len, List.replicate s.len false⟩, 1, now, -1⟩⟩ := by rw [hc1e]
        refine pr_q 11 (by decide +kernel) rfl (Qt.as (qt_pev tok rfl) hc1v.symm) rfl rfl rfl ?_
        refine pr_one 12 (by decide +kernel) (eff1 12 rfl (st_callF rfl (fun _ => refOwn_frz _ _ c1 hc1)) (by decide +kernel) (qs := _) rfl rfl rfl rfl ?_)
        rintro _ M12 _ ⟨hM12, rfl, c', rfl, hab, hok⟩
        refine ⟨by (repeat (first | exact trivial | refine And.intro (pend_q rfl rfl rfl (qt_pev tok rfl)) ?_ | refine And.intro (pend_q rfl rfl rfl (ql tok rfl)) ?_ | refine And.intro (pend_q rfl rfl rfl (Qt.as (qt_pev tok rfl) hc1v.symm)) ?_)), ?_⟩
        refine pr_one 14 (by decide +kernel) (eff0 14 rfl (sst tok rfl rfl rfl rfl rfl) (by decide +kernel) (qs := _) rfl ?_)
        rintro _ _ _ ⟨rfl, rfl, rfl⟩
        refine ⟨by (repeat (first | exact trivial | refine And.intro (pend_q rfl rfl rfl (qt_pev tok rfl)) ?_ | refine And.intro (pend_q rfl rfl rfl (ql tok rfl)) ?_ | refine And.intro (pend_q rfl rfl rfl (Qt.as (qt_pev tok rfl) hc1v.symm)) ?_)), ?_⟩
        refine pr_end (by decide +kernel) (by decide +kernel) ?_
        exact run_sub' (hnext _ _ _ ⟨b13, c', Mem.le_trans hMM hM12, hok, hab.trans (newAb hl hc1e), rfl, rfl⟩) ⟨rfl, rfl, rfl, trivial⟩
    · refine eff1 13 rfl (st_alloc tok rfl) (by decide +kernel) (qs := _) rfl rfl rfl rfl ?_
      rintro _ _ _ ⟨b13, rfl, rfl, rfl⟩
      refine ⟨by (repeat (first | exact trivial | refine And.intro (pend_q rfl rfl rfl (qt_pev tok rfl)) ?_ | refine And.intro (pend_q rfl rfl rfl (ql tok rfl)) ?_ | refine And.intro (pend_q rfl rfl rfl (Qt.as (qt_pev tok rfl) hc1v.symm)) ?_)), ?_⟩
      refine pr_two 7 9 (by decide +kernel) ?_ ?_
      · refine eff1 7 rfl (St.frz1 (st_makeSlice (n := s.len) tok rfl rfl rfl rfl rfl rfl rfl (by omega) (by omega))) (by decide +kernel) (qs := _) rfl rfl rfl rfl ?_
        rintro _ M7 _ ⟨hM7, rfl, b7, rfl, hb7⟩
        refine ⟨by (repeat (first | exact trivial | refine And.intro (pend_q rfl rfl rfl (qt_pev tok rfl)) ?_ | refine And.intro (pend_q rfl rfl rfl (ql tok rfl)) ?_ | refine And.intro (pend_q rfl rfl rfl (Qt.as (qt_pev tok rfl) hc1v.symm)) ?_)), ?_⟩
        have hMM := Mem.le_trans hMM hM7
        have hs := MbOk.le hM7 hs
        have hb := StOk.le hM7 hb
        have hb5 := hM7.blk _ _ hb5
        refine pr_one 9 (by decide +kernel) (eff1 9 rfl (St.frz1 (st_makeSlice (n := s.len) tok rfl rfl rfl rfl rfl rfl rfl (by omega) (by omega))) (by decide +kernel) (qs := _) rfl rfl rfl rfl ?_)
        rintro _ M9 _ ⟨hM9, rfl, b9, rfl, hb9⟩
        refine ⟨by (repeat (first | exact trivial | refine And.intro (pend_q rfl rfl rfl (qt_pev tok rfl)) ?_ | refine And.intro (pend_q rfl rfl rfl (ql tok rfl)) ?_ | refine And.intro (pend_q rfl rfl rfl (Qt.as (qt_pev tok rfl) hc1v.symm)) ?_)), ?_⟩
        have hMM := Mem.le_trans hMM hM9
        have hs := MbOk.le hM9 hs
        have hb := StOk.le hM9 hb
        have hb5 := hM9.blk _ _ hb5
        have hb7 := hM9.blk _ _ hb7
        obtain ⟨c1, hc1e⟩ : ∃ c1 : Co, c1 = ⟨t, au, s, bs, ⟨some ⟨b5, 0, none⟩, s.len, s.len, List.replicate s.len 0⟩, ⟨some ⟨b7, 0, none⟩, s.len, s.len, List.replicate s.len ⟨#[]⟩⟩, ⟨some ⟨b9, 0, none⟩, s.len, s.len, List.replicate s.len false⟩, 1, now, -1⟩ := ⟨_, rfl⟩
        have hc1 : CoOk _ c1 := hc1e ▸ newCo hs hb hb5 hb7 hb9 hd hbd t au now
        have hc1v : (Value.agg ⟨coC c1⟩) = .agg ⟨coC ⟨t, au, s, bs, ⟨some ⟨b5, 0, none⟩, s.len, s.len, List.replicate s.len 0⟩, ⟨some ⟨b7, 0, none⟩, s.len, s.len, List.replicate s.len ⟨#[]⟩⟩, ⟨some ⟨b9, 0, none⟩, s.len, s.len, List.replicate s.len false⟩, 1, now, -1⟩⟩ := by rw [hc1e]
        refine pr_q 11 (by decide +kernel) rfl (Qt.as (qt_pev tok rfl) hc1v.symm) rfl rfl rfl ?_
        refine pr_one 12 (by decide +kernel) (eff1 12 rfl (st_callF rfl (fun _ => refOwn_frz _ _ c1 hc1)) (by decide +kernel) (qs := _) rfl rfl rfl rfl ?_)
        rintro _ M12 _ ⟨hM12, rfl, c', rfl, hab, hok⟩
        refine ⟨by (repeat (first | exact trivial | refine And.intro (pend_q rfl rfl rfl (qt_pev tok rfl)) ?_ | refine And.intro (pend_q rfl rfl rfl (ql tok rfl)) ?_ | refine And.intro (pend_q rfl rfl rfl (Qt.as (qt_pev tok rfl) hc1v.symm)) ?_)), ?_⟩
        refine pr_one 14 (by decide +kernel) (eff0 14 rfl (sst tok rfl rfl rfl rfl rfl) (by decide +kernel) (qs := _) rfl ?_)
        rintro _ _ _ ⟨rfl, rfl, rfl⟩
        refine ⟨by (repeat (first | exact trivial | refine And.intro (pend_q rfl rfl rfl (qt_pev tok rfl)) ?_ | refine And.intro (pend_q rfl rfl rfl (ql tok rfl)) ?_ | refine And.intro (pend_q rfl rfl rfl (Qt.as (qt_pev tok rfl) hc1v.symm)) ?_)), ?_⟩
        refine pr_end (by decide +kernel) (by decide +kernel) ?_
        exact run_sub' (hnext _ _ _ ⟨b13, c', Mem.le_trans hMM hM12, hok, hab.trans (newAb hl hc1e), rfl, rfl⟩) ⟨rfl, rfl, rfl, trivial⟩
      · refine eff1 9 rfl (St.frz1 (st_makeSlice (n := s.len) tok rfl rfl rfl rfl rfl rfl rfl (by omega) (by omega))) (by decide +kernel) (qs := _) rfl rfl rfl rfl ?_
        rintro _ M9 _ ⟨hM9, rfl, b9, rfl, hb9⟩
        refine ⟨by (repeat (first | exact trivial | refine And.intro (pend_q rfl rfl rfl (qt_pev tok rfl)) ?_ | refine And.intro (pend_q rfl rfl rfl (ql tok rfl)) ?_ | refine And.intro (pend_q rfl rfl rfl (Qt.as (qt_pev tok rfl) hc1v.symm)) ?_)), ?_⟩
        have hMM := Mem.le_trans hMM hM9
        have hs := MbOk.le hM9 hs
        have hb := StOk.le hM9 hb
        have hb5 := hM9.blk _ _ hb5
        refine pr_one 7 (by decide +kernel) (eff1 7 rfl (St.frz1 (st_makeSlice (n := s.len) tok rfl rfl rfl rfl rfl rfl rfl (by omega) (by omega))) (by decide +kernel) (qs := _) rfl rfl rfl rfl ?_)
        rintro _ M7 _ ⟨hM7, rfl, b7, rfl, hb7⟩
        refine ⟨by (repeat (first | exact trivial | refine And.intro (pend_q rfl rfl rfl (qt_pev tok rfl)) ?_ | refine And.intro (pend_q rfl rfl rfl (ql tok rfl)) ?_ | refine And.intro (pend_q rfl rfl rfl (Qt.as (qt_pev tok rfl) hc1v.symm)) ?_)), ?_⟩
        have hMM := Mem.le_trans hMM hM7
        have hs := MbOk.le hM7 hs
        have hb := StOk.le hM7 hb
        have hb5 := hM7.blk _ _ hb5
        have hb9 := hM7.blk _ _ hb9
        obtain ⟨c1, hc1e⟩ : ∃ c1 : Co, c1 = ⟨t, au, s, bs, ⟨some ⟨b5, 0, none⟩, s.len, s.len, List.replicate s.len 0⟩, ⟨some ⟨b7, 0, none⟩, s.len, s.len, List.replicate s.len ⟨#[]⟩⟩, ⟨some ⟨b9, 0, none⟩, s.len, s.len, List.replicate s.len false⟩, 1, now, -1⟩ := ⟨_, rfl⟩
        have hc1 : CoOk _ c1 := hc1e ▸ newCo hs hb hb5 hb7 hb9 hd hbd t au now
        have hc1v : (Value.agg ⟨coC c1⟩) = .agg ⟨coC ⟨t, au, s, bs, ⟨some ⟨b5, 0, none⟩, s.len, s.len, List.replicate s.len 0⟩, ⟨some ⟨b7, 0, none⟩, s.len, s.len, List.replicate s.len ⟨#[]⟩⟩, ⟨some ⟨b9, 0, none⟩, s.len, s.len, List.replicate s.len false⟩, 1, now, -1⟩⟩ := by rw [hc1e]
        refine pr_q 11 (by decide +kernel) rfl (Qt.as (qt_pev tok rfl) hc1v.symm) rfl rfl rfl ?_
        refine pr_one 12 (by decide +kernel) (eff1 12 rfl (st_callF rfl (fun _ => refOwn_frz _ _ c1 hc1)) (by decide +kernel) (qs := _) rfl rfl rfl rfl ?_)
        rintro _ M12 _ ⟨hM12, rfl, c', rfl, hab, hok⟩
        refine ⟨by (repeat (first | exact trivial | refine And.intro (pend_q rfl rfl rfl (qt_pev tok rfl)) ?_ | refine And.intro (pend_q rfl rfl rfl (ql tok rfl)) ?_ | refine And.intro (pend_q rfl rfl rfl (Qt.as (qt_pev tok rfl) hc1v.symm)) ?_)), ?_⟩
        refine pr_one 14 (by decide +kernel) (eff0 14 rfl (sst tok rfl rfl rfl rfl rfl) (by decide +kernel) (qs := _) rfl ?_)
        rintro _ _ _ ⟨rfl, rfl, rfl⟩
        refine ⟨by (repeat (first | exact trivial | refine And.intro (pend_q rfl rfl rfl (qt_pev tok rfl)) ?_ | refine And.intro (pend_q rfl rfl rfl (ql tok rfl)) ?_ | refine And.intro (pend_q rfl rfl rfl (Qt.as (qt_pev tok rfl) hc1v.symm)) ?_)), ?_⟩
        refine pr_end (by decide +kernel) (by decide +kernel) ?_
        exact run_sub' (hnext _ _ _ ⟨b13, c', Mem.le_trans hMM hM12, hok, hab.trans (newAb hl hc1e), rfl, rfl⟩) ⟨rfl, rfl, rfl, trivial⟩
  · refine eff1 7 rfl (St.frz1 (st_makeSlice (n := s.len) tok rfl rfl rfl rfl rfl rfl rfl (by omega) (by omega))) (by decide +kernel) (qs := _) rfl rfl rfl rfl ?_
    rintro _ M7 _ ⟨hM7, rfl, b7, rfl, hb7⟩
    refine ⟨by (repeat (first | exact trivial | refine And.intro (pend_q rfl rfl rfl (qt_pev tok rfl)) ?_ | refine And.intro (pend_q rfl rfl rfl (ql tok rfl)) ?_ | refine And.intro (pend_q rfl rfl rfl (Qt.as (qt_pev tok rfl) hc1v.symm)) ?_)), ?_⟩
    have hMM := Mem.le_trans hMM hM7
    have hs := MbOk.le hM7 hs
    have hb := StOk.le hM7 hb
    refine pr_three 5 9 13 (by decide +kernel) ?_ ?_ ?_
    · refine eff1 5 rfl (St.frz1 (st_makeSlice (n := s.len) tok rfl rfl rfl rfl rfl rfl rfl (by omega) (by omega))) (by decide +kernel) (qs := _) rfl rfl rfl rfl ?_
      rintro _ M5 _ ⟨hM5, rfl, b5, rfl, hb5⟩
      refine ⟨by (repeat (first | exact trivial | refine And.intro (pend_q rfl rfl rfl (qt_pev tok rfl)) ?_ | refine And.intro (pend_q rfl rfl rfl (ql tok rfl)) ?_ | refine And.intro (pend_q rfl rfl rfl (Qt.as (qt_pev tok rfl) hc1v.symm)) ?_)), ?_⟩
      have hMM := Mem.le_trans hMM hM5
      have hs := MbOk.le hM5 hs
      have hb := StOk.le hM5 hb
      have hb7 := hM5.blk _ _ hb7
      refine pr_two 9 13 (by decide +kernel) ?_ ?_
      · refine eff1 9 rfl (St.frz1 (st_makeSlice (n := s.len) tok rfl rfl rfl rfl rfl rfl rfl (by omega) (by omega))) (by decide +kernel) (qs := _) rfl rfl rfl rfl ?_
        rintro _ M9 _ ⟨hM9, rfl, b9, rfl, hb9⟩
        refine ⟨by (repeat (first | exact trivial | refine And.intro (pend_q rfl rfl rfl (qt_pev tok rfl)) ?_ | refine And.intro (pend_q rfl rfl rfl (ql tok rfl)) ?_ | refine And.intro (pend_q rfl rfl rfl (Qt.as (qt_pev tok rfl) hc1v.symm)) ?_)), ?_⟩
        have hMM := Mem.le_trans hMM hM9
        have hs := MbOk.le hM9 hs
        have hb := StOk.le hM9 hb
        have hb7 := hM9.blk _ _ hb7
        have hb5 := hM9.blk _ _ hb5
        obtain ⟨c1, hc1e⟩ : ∃ c1 : Co, c1 = ⟨t, au, s, bs, ⟨some ⟨b5, 0, none⟩, s.len, s.len, List.replicate s.len 0⟩, ⟨some ⟨b7, 0, none⟩, s.len, s.len, List.replicate s.len ⟨#[]⟩⟩, ⟨some ⟨b9, 0, none⟩, s.len, s.len, List.replicate s.len false⟩, 1, now, -1⟩ := ⟨_, rfl⟩
        have hc1 : CoOk _ c1 := hc1e ▸ newCo hs hb hb5 hb7 hb9 hd hbd t au now
        have hc1v : (Value.agg ⟨coC c1⟩) = .agg ⟨coC ⟨t, au, s, bs, ⟨some ⟨b5, 0, none⟩, s.len, s.len, List.replicate s.len 0⟩, ⟨some ⟨b7, 0, none⟩, s.len, s.len, List.replicate s.len ⟨#[]⟩⟩, ⟨some ⟨b9, 0, none⟩, s.len, s.len, List.replicate s.len false⟩, 1, now, -1⟩⟩ := by rw [hc1e]
        refine pr_q 11 (by decide +kernel) rfl (Qt.as (qt_pev tok rfl) hc1v.symm) rfl rfl rfl ?_
        refine pr_two 12 13 (by decide +kernel) ?_ ?_
        · refine eff1 12 rfl (st_callF rfl (fun _ => refOwn_frz _ _ c1 hc1)) (by decide +kernel) (qs := _) rfl rfl rfl rfl ?_
          rintro _ M12 _ ⟨hM12, rfl, c', rfl, hab, hok⟩
          refine ⟨by (repeat (first | exact trivial | refine And.intro (pend_q rfl rfl rfl (qt_pev tok rfl)) ?_ | refine And.intro (pend_q rfl rfl rfl (ql tok rfl)) ?_ | refine And.intro (pend_q rfl rfl rfl (Qt.as (qt_pev tok rfl) hc1v.symm)) ?_)), ?_⟩
          refine pr_one 13 (by decide +kernel) (eff1 13 rfl (st_alloc tok rfl) (by decide +kernel) (qs := _) rfl rfl rfl rfl ?_)
          rintro _ _ _ ⟨b13, rfl, rfl, rfl⟩
          refine ⟨by (repeat (first | exact trivial | refine And.intro (pend_q rfl rfl rfl (qt_pev tok rfl)) ?_ | refine And.intro (pend_q rfl rfl rfl (ql tok rfl)) ?_ | refine And.intro (pend_q rfl rfl rfl (Qt.as (qt_pev tok rfl) hc1v.symm)) ?_)), ?_⟩
          refine pr_one 14 (by decide +kernel) (eff0 14 rfl (sst tok rfl rfl rfl rfl rfl) (by decide +kernel) (qs := _) rfl ?_)
          rintro _ _ _ ⟨rfl, rfl, rfl⟩
          refine ⟨by (repeat (first | exact trivial | refine And.intro (pend_q rfl rfl rfl (qt_pev tok rfl)) ?_ | refine And.intro (pend_q rfl rfl rfl (ql tok rfl)) ?_ | refine And.intro (pend_q rfl rfl rfl (Qt.as (qt_pev tok rfl) hc1v.symm)) ?_)), ?_⟩
          refine pr_end (by decide +kernel) (by decide +kernel) ?_
          exact run_sub' (hnext _ _ _ ⟨b13, c', Mem.le_trans hMM hM12, hok, hab.trans (newAb hl hc1e), rfl, rfl⟩) ⟨rfl, rfl, rfl, trivial⟩
        · refine eff1 13 rfl (st_alloc tok rfl) (by decide +kernel) (qs := _) rfl rfl rfl rfl ?_
          rintro _ _ _ ⟨b13, rfl, rfl, rfl⟩
          refine ⟨by (repeat (first | exact trivial | refine And.intro (pend_q rfl rfl rfl (qt_pev tok rfl)) ?_ | refine And.intro (pend_q rfl rfl rfl (ql tok rfl)) ?_ | refine And.intro (pend_q rfl rfl rfl (Qt.as (qt_pev tok rfl) hc1v.symm)) ?_)), ?_⟩
          refine pr_one 12 (by decide +kernel) (eff1 12 rfl (st_callF rfl (fun _ => refOwn_frz _ _ c1 hc1)) (by decide +kernel) (qs := _) rfl rfl rfl rfl ?_)
          rintro _ M12 _ ⟨hM12, rfl, c', rfl, hab, hok⟩
          refine ⟨by (repeat (first | exact trivial | refine And.intro (pend_q rfl rfl rfl (qt_pev tok rfl)) ?_ | refine And.intro (pend_q rfl rfl rfl (ql tok rfl)) ?_ | refine And.intro (pend_q rfl rfl rfl (Qt.as (qt_pev tok rfl) hc1v.symm)) ?_)), ?_⟩
          refine pr_one 14 (by decide +kernel) (eff0 14 rfl (sst tok rfl rfl rfl rfl rfl) (by decide +kernel) (qs := _) rfl ?_)
          rintro _ _ _ ⟨rfl, rfl, rfl⟩
          refine ⟨by (repeat (first | exact trivial | refine And.intro (pend_q rfl rfl rfl (qt_pev tok rfl)) ?_ | refine And.intro (pend_q rfl rfl rfl (ql tok rfl)) ?_ | refine And.intro (pend_q rfl rfl rfl (Qt.as (qt_pev tok rfl) hc1v.symm)) ?_)), ?_⟩
          refine pr_end (by decide +kernel) (by decide +kernel) ?_
          exact run_sub' (hnext _ _ _ ⟨b13, c', Mem.le_trans hMM hM12, hok, hab.trans (newAb hl hc1e), rfl, rfl⟩) ⟨rfl, rfl, rfl, trivial⟩
      · refine eff1 13 rfl (st_alloc tok rfl) (by decide +kernel) (qs := _) rfl rfl rfl rfl ?_
        rintro _ _ _ ⟨b13, rfl, rfl, rfl⟩
        refine ⟨by (repeat (first | exact trivial | refine And.intro (pend_q rfl rfl rfl (qt_pev tok rfl)) ?_ | refine And.intro (pend_q rfl rfl rfl (ql tok rfl)) ?_ | refine And.intro (pend_q rfl rfl rfl (Qt.as (qt_pev tok rfl) hc1v.symm)) ?_)), ?_⟩
        refine pr_one 9 (by decide +kernel) (eff1 9 rfl (St.frz1 (st_makeSlice (n := s.len) tok rfl rfl rfl rfl rfl rfl rfl (by omega) (by omega))) (by decide +kernel) (qs := _) rfl rfl rfl rfl ?_)
        rintro _ M9 _ ⟨hM9, rfl, b9, rfl, hb9⟩
        refine ⟨by (repeat (first | exact trivial | refine And.intro (pend_q rfl rfl rfl (qt_pev tok rfl)) ?_ | refine And.intro (pend_q rfl rfl rfl (ql tok rfl)) ?_ | refine And.intro (pend_q rfl rfl rfl (Qt.as (qt_pev tok rfl) hc1v.symm)) ?_)), ?_⟩
        have hMM := Mem.le_trans hMM hM9
        have hs := MbOk.le hM9 hs
        have hb := StOk.le hM9 hb
        have hb7 := hM9.blk _ _ hb7
        have hb5 := hM9.blk _ _ hb5
        obtain ⟨c1, hc1e⟩ : ∃ c1 : Co, c1 = ⟨t, au, s, bs, ⟨some ⟨b5, 0, none⟩, s.len, s.len, List.replicate s.len 0⟩, ⟨some ⟨b7, 0, none⟩, s.len, s.len, List.replicate s.len ⟨#[]⟩⟩, ⟨some ⟨b9, 0, none⟩, s.len, s.len, List.replicate s.len false⟩, 1, now, -1⟩ := ⟨_, rfl⟩
        have hc1 : CoOk _ c1 := hc1e ▸ newCo hs hb hb5 hb7 hb9 hd hbd t au now
        have hc1v : (Value.agg ⟨coC c1⟩) = .agg ⟨coC ⟨t, au, s, bs, ⟨some ⟨b5, 0, none⟩, s.len, s.len, List.replicate s.len 0⟩, ⟨some ⟨b7, 0, none⟩, s.len, s.len, List.replicate s.len ⟨#[]⟩⟩, ⟨some ⟨b9, 0, none⟩, s.len, s.len, List.replicate s.len false⟩, 1, now, -1⟩⟩ := by rw [hc1e]
        refine pr_q 11 (by decide +kernel) rfl (Qt.as (qt_pev tok rfl) hc1v.symm) rfl rfl rfl ?_
        refine pr_one 12 (by decide +kernel) (eff1 12 rfl (st_callF rfl (fun _ => refOwn_frz _ _ c1 hc1)) (by decide +kernel) (qs := _) rfl rfl rfl rfl ?_)
        rintro _ M12 _ ⟨hM12, rfl, c', rfl, hab, hok⟩
        refine ⟨by (repeat (first | exact trivial | refine And.intro (pend_q rfl rfl rfl (qt_pev tok rfl)) ?_ | refine And.intro (pend_q rfl rfl rfl (ql tok rfl)) ?_ | refine And.intro (pend_q rfl rfl rfl (Qt.as (qt_pev tok rfl) hc1v.symm)) ?_)), ?_⟩
        refine pr_one 14 (by decide +kernel) (eff0 14 rfl (sst tok rfl rfl rfl rfl rfl) (by decide +kernel) (qs := _) rfl ?_)
        rintro _ _ _ ⟨rfl, rfl, rfl⟩
        refine ⟨by (repeat (first | exact trivial | refine And.intro (pend_q rfl rfl rfl (qt_pev tok rfl)) ?_ | refine And.intro (pend_q rfl rfl rfl (ql tok rfl)) ?_ | refine And.intro (pend_q rfl rfl rfl (Qt.as (qt_pev tok rfl) hc1v.symm)) ?_)), ?_⟩
        refine pr_end (by decide +kernel) (by decide +kernel) ?_
        exact run_sub' (hnext _ _ _ ⟨b13, c', Mem.le_trans hMM hM12, hok, hab.trans (newAb hl hc1e), rfl, rfl⟩) ⟨rfl, rfl, rfl, trivial⟩
    · refine eff1 9 rfl (St.frz1 (st_makeSlice (n := s.len) tok rfl rfl rfl rfl rfl rfl rfl (by omega) (by omega))) (by decide +kernel) (qs := _) rfl rfl rfl rfl ?_
      rintro _ M9 _ ⟨hM9, rfl, b9, rfl, hb9⟩
      refine ⟨by (repeat (first | exact trivial | refine And.intro (pend_q rfl rfl rfl (qt_pev tok rfl)) ?_ | refine And.intro (pend_q rfl rfl rfl (ql tok rfl)) ?_ | refine And.intro (pend_q rfl rfl rfl (Qt.as (qt_pev tok rfl) hc1v.symm)) ?_)), ?_⟩
      have hMM := Mem.le_trans hMM hM9
      have hs := MbOk.le hM9 hs
      have hb := StOk.le hM9 hb
      have hb7 := hM9.blk _ _ hb7
      refine pr_two 5 13 (by decide +kernel) ?_ ?_
      · refine eff1 5 rfl (St.frz1 (st_makeSlice (n := s.len) tok rfl rfl rfl rfl rfl rfl rfl (by omega) (by omega))) (by decide +kernel) (qs := _) rfl rfl rfl rfl ?_
        rintro _ M5 _ ⟨hM5, rfl, b5, rfl, hb5⟩
        refine ⟨by (repeat (first | exact trivial | refine And.intro (pend_q rfl rfl rfl (qt_pev tok rfl)) ?_ | refine And.intro (pend_q rfl rfl rfl (ql tok rfl)) ?_ | refine And.intro (pend_q rfl rfl rfl (Qt.as (qt_pev tok rfl) hc1v.symm)) ?_)), ?_⟩
        have hMM := Mem.le_trans hMM hM5
        have hs := MbOk.le hM5 hs
        have hb := StOk.le hM5 hb
        have hb7 := hM5.blk _ _ hb7
        have hb9 := hM5.blk _ _ hb9
        obtain ⟨c1, hc1e⟩ : ∃ c1 : Co, c1 = ⟨t, au, s, bs, ⟨some ⟨b5, 0, none⟩, s.len, s.len, List.replicate s.len 0⟩, ⟨some ⟨b7, 0, none⟩, s.len, s.len, List.replicate s.len ⟨#[]⟩⟩, ⟨some ⟨b9, 0, none⟩, s.len, s.len, List.replicate s.len false⟩, 1, now, -1⟩ := ⟨_, rfl⟩
        have hc1 : CoOk _ c1 := hc1e ▸ newCo hs hb hb5 hb7 hb9 hd hbd t au now
        have hc1v : (Value.agg ⟨coC c1⟩) = .agg ⟨coC ⟨t, au, s, bs, ⟨some ⟨b5, 0, none⟩, s.len, s.len, List.replicate s.len 0⟩, ⟨some ⟨b7, 0, none⟩, s.len, s.len, List.replicate s.len ⟨#[]⟩⟩, ⟨some ⟨b9, 0, none⟩, s.len, s.len, List.replicate s.len false⟩, 1, now, -1⟩⟩ := by rw [hc1e]
        refine pr_q 11 (by decide +kernel) rfl (Qt.as (qt_pev tok rfl) hc1v.symm) rfl rfl rfl ?_
        refine pr_two 12 13 (by decide +kernel) ?_ ?_
        · refine eff1 12 rfl (st_callF rfl (fun _ => refOwn_frz _ _ c1 hc1)) (by decide +kernel) (qs := _) rfl rfl rfl rfl ?_
          rintro _ M12 _ ⟨hM12, rfl, c', rfl, hab, hok⟩
          refine ⟨by (repeat (first | exact trivial | refine And.intro (pend_q rfl rfl rfl (qt_pev tok rfl)) ?_ | refine And.intro (pend_q rfl rfl rfl (ql tok rfl)) ?_ | refine And.intro (pend_q rfl rfl rfl (Qt.as (qt_pev tok rfl) hc1v.symm)) ?_)), ?_⟩
          refine pr_one 13 (by decide +kernel) (eff1 13 rfl (st_alloc tok rfl) (by decide +kernel) (qs := _) rfl rfl rfl rfl ?_)
          rintro _ _ _ ⟨b13, rfl, rfl, rfl⟩
          refine ⟨by (repeat (first | exact trivial | refine And.intro (pend_q rfl rfl rfl (qt_pev tok rfl)) ?_ | refine And.intro (pend_q rfl rfl rfl (ql tok rfl)) ?_ | refine And.intro (pend_q rfl rfl rfl (Qt.as (qt_pev tok rfl) hc1v.symm)) ?_)), ?_⟩
          refine pr_one 14 (by decide +kernel) (eff0 14 rfl (sst tok rfl rfl rfl rfl rfl) (by decide +kernel) (qs := _) rfl ?_)
          rintro _ _ _ ⟨rfl, rfl, rfl⟩
          refine ⟨by (repeat (first | exact trivial | refine And.intro (pend_q rfl rfl rfl (qt_pev tok rfl)) ?_ | refine And.intro (pend_q rfl rfl rfl (ql tok rfl)) ?_ | refine And.intro (pend_q rfl rfl rfl (Qt.as (qt_pev tok rfl) hc1v.symm)) ?_)), ?_⟩
          refine pr_end (by decide +kernel) (by decide +kernel) ?_
          exact run_sub' (hnext _ _ _ ⟨b13, c', Mem.le_trans hMM hM12, hok, hab.trans (newAb hl hc1e), rfl, rfl⟩) ⟨rfl, rfl, rfl, trivial⟩
        · refine eff1 13 rfl (st_alloc tok rfl) (by decide +kernel) (qs := _) rfl rfl rfl rfl ?_
          rintro _ _ _ ⟨b13, rfl, rfl, rfl⟩
          refine ⟨by (repeat (first | exact trivial | refine And.intro (pend_q rfl rfl rfl (qt_pev tok rfl)) ?_ | refine And.intro (pend_q rfl rfl rfl (ql tok rfl)) ?_ | refine And.intro (pend_q rfl rfl rfl (Qt.as (qt_pev tok rfl) hc1v.symm)) ?_)), ?_⟩
          refine pr_one 12 (by decide +kernel) (eff1 12 rfl (st_callF rfl (fun _ => refOwn_frz _ _ c1 hc1)) (by decide +kernel) (qs := _) rfl rfl rfl rfl ?_)
          rintro _ M12 _ ⟨hM12, rfl, c', rfl, hab, hok⟩
          refine ⟨by (repeat (first | exact trivial | refine And.intro (pend_q rfl rfl rfl (qt_pev tok rfl)) ?_ | refine And.intro (pend_q rfl rfl rfl (ql tok rfl)) ?_ | refine And.intro (pend_q rfl rfl rfl (Qt.as (qt_pev tok rfl) hc1v.symm)) ?_)), ?_⟩
          refine pr_one 14 (by decide +kernel) (eff0 14 rfl (sst tok rfl rfl rfl rfl rfl) (by decide +kernel) (qs := _) rfl ?_)
          rintro _ _ _ ⟨rfl, rfl, rfl⟩
          refine ⟨by (repeat (first | exact trivial | refine And.intro (pend_q rfl rfl rfl (qt_pev tok rfl)) ?_ | refine And.intro (pend_q rfl rfl rfl (ql tok rfl)) ?_ | refine And.intro (pend_q rfl rfl rfl (Qt.as (qt_pev tok rfl) hc1v.symm)) ?_)), ?_⟩
          refine pr_end (by decide +kernel) (by decide +kernel) ?_
          exact run_sub' (hnext _ _ _ ⟨b13, c', Mem.le_trans hMM hM12, hok, hab.trans (newAb hl hc1e), rfl, rfl⟩) ⟨rfl, rfl, rfl, trivial⟩
      · refine eff1 13 rfl (st_alloc tok rfl) (by decide +kernel) (qs := _) rfl rfl rfl rfl ?_
        rintro _ _ _ ⟨b13, rfl, rfl, rfl⟩
        refine ⟨by (repeat (first | exact trivial | refine And.intro (pend_q rfl rfl rfl (qt_pev tok rfl)) ?_ | refine And.intro (pend_q rfl rfl rfl (ql tok rfl)) ?_ | refine And.intro (pend_q rfl rfl rfl (Qt.as (qt_pev tok rfl) hc1v.symm)) ?_)), ?_⟩
        refine pr_one 5 (by decide +kernel) (eff1 5 rfl (St.frz1 (st_makeSlice (n := s.len) tok rfl rfl rfl rfl rfl rfl rfl (by omega) (by omega))) (by decide +kernel) (qs := _) rfl rfl rfl rfl ?_)
        rintro _ M5 _ ⟨hM5, rfl, b5, rfl, hb5⟩
        refine ⟨by (repeat (first | exact trivial | refine And.intro (pend_q rfl rfl rfl (qt_pev tok rfl)) ?_ | refine And.intro (pend_q rfl rfl rfl (ql tok rfl)) ?_ | refine And.intro (pend_q rfl rfl rfl (Qt.as (qt_pev tok rfl) hc1v.symm)) ?_)), ?_⟩
        have hMM := Mem.le_trans hMM hM5
        have hs := MbOk.le hM5 hs
        have hb := StOk.le hM5 hb
        have hb7 := hM5.blk _ _ hb7
        have hb9 := hM5.blk _ _ hb9
        obtain ⟨c1, hc1e⟩ : ∃ c1 : Co, c1 = ⟨t, au, s, bs, ⟨some ⟨b5, 0, none⟩, s.len, s.len, List.replicate s.len 0⟩, ⟨some ⟨b7, 0, none⟩, s.len, s.len, List.replicate s.len ⟨#[]⟩⟩, ⟨some ⟨b9, 0, none⟩, s.len, s.len, List.replicate s.len false⟩, 1, now, -1⟩ := ⟨_, rfl⟩
        have hc1 : CoOk _ c1 := hc1e ▸ newCo hs hb hb5 hb7 hb9 hd hbd t au now
        have hc1v : (Value.agg ⟨coC c1⟩) = .agg ⟨coC ⟨t, au, s, bs, ⟨some ⟨b5, 0, none⟩, s.len, s.len, List.replicate s.len 0⟩, ⟨some ⟨b7, 0, none⟩, s.len, s.len, List.replicate s.len ⟨#[]⟩⟩, ⟨some ⟨b9, 0, none⟩, s.len, s.len, List.replicate s.len false⟩, 1, now, -1⟩⟩ := by rw [hc1e]
        refine pr_q 11 (by decide +kernel) rfl (Qt.as (qt_pev tok rfl) hc1v.symm) rfl rfl rfl ?_
        refine pr_one 12 (by decide +kernel) (eff1 12 rfl (st_callF rfl (fun _ => refOwn_frz _ _ c1 hc1)) (by decide +kernel) (qs := _) rfl rfl rfl rfl ?_)
        rintro _ M12 _ ⟨hM12, rfl, c', rfl, hab, hok⟩
        refine ⟨by (repeat (first | exact trivial | refine And.intro (pend_q rfl rfl rfl (qt_pev tok rfl)) ?_ | refine And.intro (pend_q rfl rfl rfl (ql tok rfl)) ?_ | refine And.intro (pend_q rfl rfl rfl (Qt.as (qt_pev tok rfl) hc1v.symm)) ?_)), ?_⟩
        refine pr_one 14 (by decide +kernel) (eff0 14 rfl (sst tok rfl rfl rfl rfl rfl) (by decide +kernel) (qs := _) rfl ?_)
        rintro _ _ _ ⟨rfl, rfl, rfl⟩
        refine ⟨by (repeat (first | exact trivial | refine And.intro (pend_q rfl rfl rfl (qt_pev tok rfl)) ?_ | refine And.intro (pend_q rfl rfl rfl (ql tok rfl)) ?_ | refine And.intro (pend_q rfl rfl rfl (Qt.as (qt_pev tok rfl) hc1v.symm)) ?_)), ?_⟩
        refine pr_end (by decide +kernel) (by decide +kernel) ?_
        exact run_sub' (hnext _ _ _ ⟨b13, c', Mem.le_trans hMM hM12, hok, hab.trans (newAb hl hc1e), rfl, rfl⟩) ⟨rfl, rfl, rfl, trivial⟩
    · refine eff1 13 rfl (st_alloc tok rfl) (by decide +kernel) (qs := _) rfl rfl rfl rfl ?_
      rintro _ _ _ ⟨b13, rfl, rfl, rfl⟩
      refine ⟨by (repeat (first | exact trivial | refine And.intro (pend_q rfl rfl rfl (qt_pev tok rfl)) ?_ | refine And.intro (pend_q rfl rfl rfl (ql tok rfl)) ?_ | refine And.intro (pend_q rfl rfl rfl (Qt.as (qt_pev tok rfl) hc1v.symm)) ?_)), ?_⟩
      refine pr_two 5 9 (by decide +kernel) ?_ ?_
      · refine eff1 5 rfl (St.frz1 (st_makeSlice (n := s.len) tok rfl rfl rfl rfl rfl rfl rfl (by omega) (by omega))) (by decide +kernel) (qs := _) rfl rfl rfl rfl ?_
        rintro _ M5 _ ⟨hM5, rfl, b5, rfl, hb5⟩
        refine ⟨by (repeat (first | exact trivial | refine And.intro (pend_q rfl rfl rfl (qt_pev tok rfl)) ?_ | refine And.intro (pend_q rfl rfl rfl (ql tok rfl)) ?_ | refine And.intro (pend_q rfl rfl rfl (Qt.as (qt_pev tok rfl) hc1v.symm)) ?_)), ?_⟩
        have hMM := Mem.le_trans hMM hM5
        have hs := MbOk.le hM5 hs
        have hb := StOk.le hM5 hb
        have hb7 := hM5.blk _ _ hb7
        refine pr_one 9 (by decide +kernel) (eff1 9 rfl (St.frz1 (st_makeSlice (n := s.len) tok rfl rfl rfl rfl rfl rfl rfl (by omega) (by omega))) (by decide +kernel) (qs := _) rfl rfl rfl rfl ?_)
        rintro _ M9 _ ⟨hM9, rfl, b9, rfl, hb9⟩
        refine ⟨by (repeat (first | exact trivial | refine And.intro (pend_q rfl rfl rfl (qt_pev tok rfl)) ?_ | refine And.intro (pend_q rfl rfl rfl (ql tok rfl)) ?_ | refine And.intro (pend_q rfl rfl rfl (Qt.as (qt_pev tok rfl) hc1v.symm)) ?_)), ?_⟩
        have hMM := Mem.le_trans hMM hM9
        have hs := MbOk.le hM9 hs
        have hb := StOk.le hM9 hb
        have hb7 := hM9.blk _ _ hb7
        have hb5 := hM9.blk _ _ hb5
        obtain ⟨c1, hc1e⟩ : ∃ c1 : Co, c1 = ⟨t, au, s, bs, ⟨some ⟨b5, 0, none⟩, s.len, s.len, List.replicate s.len 0⟩, ⟨some ⟨b7, 0, none⟩, s.len, s.len, List.replicate s.len ⟨#[]⟩⟩, ⟨some ⟨b9, 0, none⟩, s.len, s.len, List.replicate s.len false⟩, 1, now, -1⟩ := ⟨_, rfl⟩
        have hc1 : CoOk _ c1 := hc1e ▸ newCo hs hb hb5 hb7 hb9 hd hbd t au now
        have hc1v : (Value.agg ⟨coC c1⟩) = .agg ⟨coC ⟨t, au, s, bs, ⟨some ⟨b5, 0, none⟩, s.len, s.len, List.replicate s.len 0⟩, ⟨some ⟨b7, 0, none⟩, s.len, s.len, List.replicate s.len ⟨#[]⟩⟩, ⟨some ⟨b9, 0, none⟩, s.len, s.len, List.replicate s.len false⟩, 1, now, -1⟩⟩ := by rw [hc1e]
        refine pr_q 11 (by decide +kernel) rfl (Qt.as (qt_pev tok rfl) hc1v.symm) rfl rfl rfl ?_
        refine pr_one 12 (by decide +kernel) (eff1 12 rfl (st_callF rfl (fun _ => refOwn_frz _ _ c1 hc1)) (by decide +kernel) (qs := _) rfl rfl rfl rfl ?_)
        rintro _ M12 _ ⟨hM12, rfl, c', rfl, hab, hok⟩
        refine ⟨by (repeat (first | exact trivial | refine And.intro (pend_q rfl rfl rfl (qt_pev tok rfl)) ?_ | refine And.intro (pend_q rfl rfl rfl (ql tok rfl)) ?_ | refine And.intro (pend_q rfl rfl rfl (Qt.as (qt_pev tok rfl) hc1v.symm)) ?_)), ?_⟩
        refine pr_one 14 (by decide +kernel) (eff0 14 rfl (sst tok rfl rfl rfl rfl rfl) (by decide +kernel) (qs := _) rfl ?_)
        rintro _ _ _ ⟨rfl, rfl, rfl⟩
        refine ⟨by (repeat (first | exact trivial | refine And.intro (pend_q rfl rfl rfl (qt_pev tok rfl)) ?_ | refine And.intro (pend_q rfl rfl rfl (ql tok rfl)) ?_ | refine And.intro (pend_q rfl rfl rfl (Qt.as (qt_pev tok rfl) hc1v.symm)) ?_)), ?_⟩
        refine pr_end (by decide +kernel) (by decide +kernel) ?_
        exact run_sub' (hnext _ _ _ ⟨b13, c', Mem.le_trans hMM hM12, hok, hab.trans (newAb hl hc1e), rfl, rfl⟩) ⟨rfl, rfl, rfl, trivial⟩
      · refine eff1 9 rfl (St.frz1 (st_makeSlice (n := s.len) tok rfl rfl rfl rfl rfl rfl rfl (by omega) (by omega))) (by decide +kernel) (qs := _) rfl rfl rfl rfl ?_
        rintro _ M9 _ ⟨hM9, rfl, b9, rfl, hb9⟩
        refine ⟨by (repeat (first | exact trivial | refine And.intro (pend_q rfl rfl rfl (qt_pev tok rfl)) ?_ | refine And.intro (pend_q rfl rfl rfl (ql tok rfl)) ?_ | refine And.intro (pend_q rfl rfl rfl (Qt.as (qt_pev tok rfl) hc1v.symm)) ?_)), ?_⟩
        have hMM := Mem.le_trans hMM hM9
        have hs := MbOk.le hM9 hs
        have hb := StOk.le hM9 hb
        have hb7 := hM9.blk _ _ hb7
        refine pr_one 5 (by decide +kernel) (eff1 5 rfl (St.frz1 (st_makeSlice (n := s.len) tok rfl rfl rfl rfl rfl rfl rfl (by omega) (by omega))) (by decide +kernel) (qs := _) rfl rfl rfl rfl ?_)
        rintro _ M5 _ ⟨hM5, rfl, b5, rfl, hb5⟩
        refine ⟨by (repeat (first | exact trivial | refine And.intro (pend_q rfl rfl rfl (qt_pev tok rfl)) ?_ | refine And.intro (pend_q rfl rfl rfl (ql tok rfl)) ?_ | refine And.intro (pend_q rfl rfl rfl (Qt.as (qt_pev tok rfl) hc1v.symm)) ?_)), ?_⟩
        have hMM := Mem.le_trans hMM hM5
        have hs := MbOk.le hM5 hs
        have hb := StOk.le hM5 hb
        have hb7 := hM5.blk _ _ hb7
        have hb9 := hM5.blk _ _ hb9
        obtain ⟨c1, hc1e⟩ : ∃ c1 : Co, c1 = ⟨t, au, s, bs, ⟨some ⟨b5, 0, none⟩, s.len, s.len, List.replicate s.len 0⟩, ⟨some ⟨b7, 0, none⟩, s.len, s.len, List.replicate s.len ⟨#[]⟩⟩, ⟨some ⟨b9, 0, none⟩, s.len, s.len, List.replicate s.len false⟩, 1, now, -1⟩ := ⟨_, rfl⟩
        have hc1 : CoOk _ c1 := hc1e ▸ newCo hs hb hb5 hb7 hb9 hd hbd t au now
        have hc1v : (Value.agg ⟨coC c1⟩) = .agg ⟨coC ⟨t, au, s, bs, ⟨some ⟨b5, 0, none⟩, s.len, s.len, List.replicate s.len 0⟩, ⟨some ⟨b7, 0, none⟩, s.len, s.len, List.replicate s.len ⟨#[]⟩⟩, ⟨some ⟨b9, 0, none⟩, s.len, s.len, List.replicate s.len false⟩, 1, now, -1⟩⟩ := by rw [hc1e]
        refine pr_q 11 (by decide +kernel) rfl (Qt.as (qt_pev tok rfl) hc1v.symm) rfl rfl rfl ?_
        refine pr_one 12 (by decide +kernel) (eff1 12 rfl (st_callF rfl (fun _ => refOwn_frz _ _ c1 hc1)) (by decide +kernel) (qs := _) rfl rfl rfl rfl ?_)
        rintro _ M12 _ ⟨hM12, rfl, c', rfl, hab, hok⟩
        refine ⟨by (repeat (first | exact trivial | refine And.intro (pend_q rfl rfl rfl (qt_pev tok rfl)) ?_ | refine And.intro (pend_q rfl rfl rfl (ql tok rfl)) ?_ | refine And.intro (pend_q rfl rfl rfl (Qt.as (qt_pev tok rfl) hc1v.symm)) ?_)), ?_⟩
        refine pr_one 14 (by decide +kernel) (eff0 14 rfl (sst tok rfl rfl rfl rfl rfl) (by decide +kernel) (qs := _) rfl ?_)
        rintro _ _ _ ⟨rfl, rfl, rfl⟩
        refine ⟨by (repeat (first | exact trivial | refine And.intro (pend_q rfl rfl rfl (qt_pev tok rfl)) ?_ | refine And.intro (pend_q rfl rfl rfl (ql tok rfl)) ?_ | refine And.intro (pend_q rfl rfl rfl (Qt.as (qt_pev tok rfl) hc1v.symm)) ?_)), ?_⟩
        refine pr_end (by decide +kernel) (by decide +kernel) ?_
        exact run_sub' (hnext _ _ _ ⟨b13, c', Mem.le_trans hMM hM12, hok, hab.trans (newAb hl hc1e), rfl, rfl⟩) ⟨rfl, rfl, rfl, trivial⟩
  · refine eff1 9 rfl (St.frz1 (st_makeSlice (n := s.len) tok rfl rfl rfl rfl rfl rfl rfl (by omega) (by omega))) (by decide +kernel) (qs := _) rfl rfl rfl rfl ?_
    rintro _ M9 _ ⟨hM9, rfl, b9, rfl, hb9⟩
    refine ⟨by (repeat (first | exact trivial | refine And.intro (pend_q rfl rfl rfl (qt_pev tok rfl)) ?_ | refine And.intro (pend_q rfl rfl rfl (ql tok rfl)) ?_ | refine And.intro (pend_q rfl rfl rfl (Qt.as (qt_pev tok rfl) hc1v.symm)) ?_)), ?_⟩
    have hMM := Mem.le_trans hMM hM9
    have hs := MbOk.le hM9 hs
    have hb := StOk.le hM9 hb
    refine pr_three 5 7 13 (by decide +kernel) ?_ ?_ ?_
    · refine eff1 5 rfl (St.frz1 (st_makeSlice (n := s.len) tok rfl rfl rfl rfl rfl rfl rfl (by omega) (by omega))) (by decide +kernel) (qs := _) rfl rfl rfl rfl ?_
      rintro _ M5 _ ⟨hM5, rfl, b5, rfl, hb5⟩
      refine ⟨by (repeat (first | exact trivial | refine And.intro (pend_q rfl rfl rfl (qt_pev tok rfl)) ?_ | refine And.intro (pend_q rfl rfl rfl (ql tok rfl)) ?_ | refine And.intro (pend_q rfl rfl rfl (Qt.as (qt_pev tok rfl) hc1v.symm)) ?_)), ?_⟩
      have hMM := Mem.le_trans hMM hM5
      have hs := MbOk.le hM5 hs
      have hb := StOk.le hM5 hb
      have hb9 := hM5.blk _ _ hb9
      refine pr_two 7 13 (by decide +kernel) ?_ ?_
      · refine eff1 7 rfl (St.frz1 (st_makeSlice (n := s.len) tok rfl rfl rfl rfl rfl rfl rfl (by omega) (by omega))) (by decide +kernel) (qs := _) rfl rfl rfl rfl ?_
        rintro _ M7 _ ⟨hM7, rfl, b7, rfl, hb7⟩
        refine ⟨by (repeat (first | exact trivial | refine And.intro (pend_q rfl rfl rfl (qt_pev tok rfl)) ?_ | refine And.intro (pend_q rfl rfl rfl (ql tok rfl)) ?_ | refine And.intro (pend_q rfl rfl rfl (Qt.as (qt_pev tok rfl) hc1v.symm)) ?_)), ?_⟩
        have hMM := Mem.le_trans hMM hM7
        have hs := MbOk.le hM7 hs
        have hb := StOk.le hM7 hb
        have hb9 := hM7.blk _ _ hb9
        have hb5 := hM7.blk _ _ hb5
        obtain ⟨c1, hc1e⟩ : ∃ c1 : Co, c1 = ⟨t, au, s, bs, ⟨some ⟨b5, 0, none⟩, s.len, s.len, List.replicate s.len 0⟩, ⟨some ⟨b7, 0, none⟩, s.len, s.len, List.replicate s.len ⟨#[]⟩⟩, ⟨some ⟨b9, 0, none⟩, s.len, s.len, List.replicate s.len false⟩, 1, now, -1⟩ := ⟨_, rfl⟩
        have hc1 : CoOk _ c1 := hc1e ▸ newCo hs hb hb5 hb7 hb9 hd hbd t au now
        have hc1v : (Value.agg ⟨coC c1⟩) = .agg ⟨coC ⟨t, au, s, bs, ⟨some ⟨b5, 0, none⟩, s.len, s.len, List.replicate s.len 0⟩, ⟨some ⟨b7, 0, none⟩, s.len, s.len, List.replicate s.len ⟨#[]⟩⟩, ⟨some ⟨b9, 0, none⟩, s.len, s.len, List.replicate s.len false⟩, 1, now, -1⟩⟩ := by rw [hc1e]
        refine pr_q 11 (by decide +kernel) rfl (Qt.as (qt_pev tok rfl) hc1v.symm) rfl rfl rfl ?_
        refine pr_two 12 13 (by decide +kernel) ?_ ?_
        · refine eff1 12 rfl (st_callF rfl (fun _ => refOwn_frz _ _ c1 hc1)) (by decide +kernel) (qs := _) rfl rfl rfl rfl ?_
          rintro _ M12 _ ⟨hM12, rfl, c', rfl, hab, hok⟩
          refine ⟨by (repeat (first | exact trivial | refine And.intro (pend_q rfl rfl rfl (qt_pev tok rfl)) ?_ | refine And.intro (pend_q rfl rfl rfl (ql tok rfl)) ?_ | refine And.intro (pend_q rfl rfl rfl (Qt.as (qt_pev tok rfl) hc1v.symm)) ?_)), ?_⟩
          refine pr_one 13 (by decide +kernel) (eff1 13 rfl (st_alloc tok rfl) (by decide +kernel) (qs := _) rfl rfl rfl rfl ?_)
          rintro _ _ _ ⟨b13, rfl, rfl, rfl⟩
          refine ⟨by (repeat (first | exact trivial | refine And.intro (pend_q rfl rfl rfl (qt_pev tok rfl)) ?_ | refine And.intro (pend_q rfl rfl rfl (ql tok rfl)) ?_ | refine And.intro (pend_q rfl rfl rfl (Qt.as (qt_pev tok rfl) hc1v.symm)) ?_)), ?_⟩
          refine pr_one 14 (by decide +kernel) (eff0 14 rfl (sst tok rfl rfl rfl rfl rfl) (by decide +kernel) (qs := _) rfl ?_)
          rintro _ _ _ ⟨rfl, rfl, rfl⟩
          refine ⟨by (repeat (first | exact trivial | refine And.intro (pend_q rfl rfl rfl (qt_pev tok rfl)) ?_ | refine And.intro (pend_q rfl rfl rfl (ql tok rfl)) ?_ | refine And.intro (pend_q rfl rfl rfl (Qt.as (qt_pev tok rfl) hc1v.symm)) ?_)), ?_⟩
          refine pr_end (by decide +kernel) (by decide +kernel) ?_
          exact run_sub' (hnext _ _ _ ⟨b13, c', Mem.le_trans hMM hM12, hok, hab.trans (newAb hl hc1e), rfl, rfl⟩) ⟨rfl, rfl, rfl, trivial⟩
        · refine eff1 13 rfl (st_alloc tok rfl) (by decide +kernel) (qs := _) rfl rfl rfl rfl ?_
          rintro _ _ _ ⟨b13, rfl, rfl, rfl⟩
          refine ⟨by (repeat (first | exact trivial | refine And.intro (pend_q rfl rfl rfl (qt_pev tok rfl)) ?_ | refine And.intro (pend_q rfl rfl rfl (ql tok rfl)) ?_ | refine And.intro (pend_q rfl rfl rfl (Qt.as (qt_pev tok rfl) hc1v.symm)) ?_)), ?_⟩
          refine pr_one 12 (by decide +kernel) (eff1 12 rfl (st_callF rfl (fun _ => refOwn_frz _ _ c1 hc1)) (by decide +kernel) (qs := _) rfl rfl rfl rfl ?_)
          rintro _ M12 _ ⟨hM12, rfl, c', rfl, hab, hok⟩
          refine ⟨by (repeat (first | exact trivial | refine And.intro (pend_q rfl rfl rfl (qt_pev tok rfl)) ?_ | refine And.intro (pend_q rfl rfl rfl (ql tok rfl)) ?_ | refine And.intro (pend_q rfl rfl rfl (Qt.as (qt_pev tok rfl) hc1v.symm)) ?_)), ?_⟩
          refine pr_one 14 (by decide +kernel) (eff0 14 rfl (sst tok rfl rfl rfl rfl rfl) (by decide +kernel) (qs := _) rfl ?_)
          rintro _ _ _ ⟨rfl, rfl, rfl⟩
          refine ⟨by (repeat (first | exact trivial | refine And.intro (pend_q rfl rfl rfl (qt_pev tok rfl)) ?_ | refine And.intro (pend_q rfl rfl rfl (ql tok rfl)) ?_ | refine And.intro (pend_q rfl rfl rfl (Qt.as (qt_pev tok rfl) hc1v.symm)) ?_)), ?_⟩
          refine pr_end (by decide +kernel) (by decide +kernel) ?_
          exact run_sub' (hnext _ _ _ ⟨b13, c', Mem.le_trans hMM hM12, hok, hab.trans (newAb hl hc1e), rfl, rfl⟩) ⟨rfl, rfl, rfl, trivial⟩
      · refine eff1 13 rfl (st_alloc tok rfl) (by decide +kernel) (qs := _) rfl rfl rfl rfl ?_
        rintro _ _ _ ⟨b13, rfl, rfl, rfl⟩
        refine ⟨by (repeat (first | exact trivial | refine And.intro (pend_q rfl rfl rfl (qt_pev tok rfl)) ?_ | refine And.intro (pend_q rfl rfl rfl (ql tok rfl)) ?_ | refine And.intro (pend_q rfl rfl rfl (Qt.as (qt_pev tok rfl) hc1v.symm)) ?_)), ?_⟩
        refine pr_one 7 (by decide +kernel) (eff1 7 rfl (St.frz1 (st_makeSlice (n := s.len) tok rfl rfl rfl rfl rfl rfl rfl (by omega) (by omega))) (by decide +kernel) (qs := _) rfl rfl rfl rfl ?_)
        rintro _ M7 _ ⟨hM7, rfl, b7, rfl, hb7⟩
        refine ⟨by (repeat (first | exact trivial | refine And.intro (pend_q rfl rfl rfl (qt_pev tok rfl)) ?_ | refine And.intro (pend_q rfl rfl rfl (ql tok rfl)) ?_ | refine And.intro (pend_q rfl rfl rfl (Qt.as (qt_pev tok rfl) hc1v.symm)) ?_)), ?_⟩
        have hMM := Mem.le_trans hMM hM7
        have hs := MbOk.le hM7 hs
        have hb := StOk.le hM7 hb
        have hb9 := hM7.blk _ _ hb9
        have hb5 := hM7.blk _ _ hb5
        obtain ⟨c1, hc1e⟩ : ∃ c1 : Co, c1 = ⟨t, au, s, bs, ⟨some ⟨b5, 0, none⟩, s.len, s.len, List.replicate s.len 0⟩, ⟨some ⟨b7, 0, none⟩, s.len, s.len, List.replicate s.len ⟨#[]⟩⟩, ⟨some ⟨b9, 0, none⟩, s.len, s.len, List.replicate s.len false⟩, 1, now, -1⟩ := ⟨_, rfl⟩
        have hc1 : CoOk _ c1 := hc1e ▸ newCo hs hb hb5 hb7 hb9 hd hbd t au now
        have hc1v : (Value.agg ⟨coC c1⟩) = .agg ⟨coC ⟨t, au, s, bs, ⟨some ⟨b5, 0, none⟩, s.len, s.len, List.replicate s.len 0⟩, ⟨some ⟨b7, 0, none⟩, s.len, s.len, List.replicate s.len ⟨#[]⟩⟩, ⟨some ⟨b9, 0, none⟩, s.len, s.len, List.replicate s.len false⟩, 1, now, -1⟩⟩ := by rw [hc1e]
        refine pr_q 11 (by decide +kernel) rfl (Qt.as (qt_pev tok rfl) hc1v.symm) rfl rfl rfl ?_
        refine pr_one 12 (by decide +kernel) (eff1 12 rfl (st_callF rfl (fun _ => refOwn_frz _ _ c1 hc1)) (by decide +kernel) (qs := _) rfl rfl rfl rfl ?_)
        rintro _ M12 _ ⟨hM12, rfl, c', rfl, hab, hok⟩
        refine ⟨by (repeat (first | exact trivial | refine And.intro (pend_q rfl rfl rfl (qt_pev tok rfl)) ?_ | refine And.intro (pend_q rfl rfl rfl (ql tok rfl)) ?_ | refine And.intro (pend_q rfl rfl rfl (Qt.as (qt_pev tok rfl) hc1v.symm)) ?_)), ?_⟩
        refine pr_one 14 (by decide +kernel) (eff0 14 rfl (sst tok rfl rfl rfl rfl rfl) (by decide +kernel) (qs := _) rfl ?_)
        rintro _ _ _ ⟨rfl, rfl, rfl⟩
        refine ⟨by (repeat (first | exact trivial | refine And.intro (pend_q rfl rfl rfl (qt_pev tok rfl)) ?_ | refine And.intro (pend_q rfl rfl rfl (ql tok rfl)) ?_ | refine And.intro (pend_q rfl rfl rfl (Qt.as (qt_pev tok rfl) hc1v.symm)) ?_)), ?_⟩
        refine pr_end (by decide +kernel) (by decide +kernel) ?_
        exact run_sub' (hnext _ _ _ ⟨b13, c', Mem.le_trans hMM hM12, hok, hab.trans (newAb hl hc1e), rfl, rfl⟩) ⟨rfl, rfl, rfl, trivial⟩
    · refine eff1 7 rfl (St.frz1 (st_makeSlice (n := s.len) tok rfl rfl rfl rfl rfl rfl rfl (by omega) (by omega))) (by decide +kernel) (qs := _) rfl rfl rfl rfl ?_
      rintro _ M7 _ ⟨hM7, rfl, b7, rfl, hb7⟩
      refine ⟨by (repeat (first | exact trivial | refine And.intro (pend_q rfl rfl rfl (qt_pev tok rfl)) ?_ | refine And.intro (pend_q rfl rfl rfl (ql tok rfl)) ?_ | refine And.intro (pend_q rfl rfl rfl (Qt.as (qt_pev tok rfl) hc1v.symm)) ?_)), ?_⟩
      have hMM := Mem.le_trans hMM hM7
      have hs := MbOk.le hM7 hs
      have hb := StOk.le hM7 hb
      have hb9 := hM7.blk _ _ hb9
      refine pr_two 5 13 (by decide +kernel) ?_ ?_
      · refine eff1 5 rfl (St.frz1 (st_makeSlice (n := s.len) tok rfl rfl rfl rfl rfl rfl rfl (by omega) (by omega))) (by decide +kernel) (qs := _) rfl rfl rfl rfl ?_
        rintro _ M5 _ ⟨hM5, rfl, b5, rfl, hb5⟩
        refine ⟨by (repeat (first | exact trivial | refine And.intro (pend_q rfl rfl rfl (qt_pev tok rfl)) ?_ | refine And.intro (pend_q rfl rfl rfl (ql tok rfl)) ?_ | refine And.intro (pend_q rfl rfl rfl (Qt.as (qt_pev tok rfl) hc1v.symm)) ?_)), ?_⟩
        have hMM := Mem.le_trans hMM hM5
        have hs := MbOk.le hM5 hs
        have hb := StOk.le hM5 hb
        have hb9 := hM5.blk _ _ hb9
        have hb7 := hM5.blk _ _ hb7
        obtain ⟨c1, hc1e⟩ : ∃ c1 : Co, c1 = ⟨t, au, s, bs, ⟨some ⟨b5, 0, none⟩, s.len, s.len, List.replicate s.len 0⟩, ⟨some ⟨b7, 0, none⟩, s.len, s.len, List.replicate s.len ⟨#[]⟩⟩, ⟨some ⟨b9, 0, none⟩, s.len, s.len, List.replicate s.len false⟩, 1, now, -1⟩ := ⟨_, rfl⟩
        have hc1 : CoOk _ c1 := hc1e ▸ newCo hs hb hb5 hb7 hb9 hd hbd t au now
        have hc1v : (Value.agg ⟨coC c1⟩) = .agg ⟨coC ⟨t, au, s, bs, ⟨some ⟨b5, 0, none⟩, s.len, s.len, List.replicate s.len 0⟩, ⟨some ⟨b7, 0, none⟩, s.len, s.len, List.replicate s.len ⟨#[]⟩⟩, ⟨some ⟨b9, 0, none⟩, s.len, s.len, List.replicate s.len false⟩, 1, now, -1⟩⟩ := by rw [hc1e]
        refine pr_q 11 (by decide +kernel) rfl (Qt.as (qt_pev tok rfl) hc1v.symm) rfl rfl rfl ?_
        refine pr_two 12 13 (by decide +kernel) ?_ ?_
        · refine eff1 12 rfl (st_callF rfl (fun _ => refOwn_frz _ _ c1 hc1)) (by decide +kernel) (qs := _) rfl rfl rfl rfl ?_
          rintro _ M12 _ ⟨hM12, rfl, c', rfl, hab, hok⟩
          refine ⟨by (repeat (first | exact trivial | refine And.intro (pend_q rfl rfl rfl (qt_pev tok rfl)) ?_ | refine And.intro (pend_q rfl rfl rfl (ql tok rfl)) ?_ | refine And.intro (pend_q rfl rfl rfl (Qt.as (qt_pev tok rfl) hc1v.symm)) ?_)), ?_⟩
          refine pr_one 13 (by decide +kernel) (eff1 13 rfl (st_alloc tok rfl) (by decide +kernel) (qs := _) rfl rfl rfl rfl ?_)
          rintro _ _ _ ⟨b13, rfl, rfl, rfl⟩
          refine ⟨by (repeat (first | exact trivial | refine And.intro (pend_q rfl rfl rfl (qt_pev tok rfl)) ?_ | refine And.intro (pend_q rfl rfl rfl (ql tok rfl)) ?_ | refine And.intro (pend_q rfl rfl rfl (Qt.as (qt_pev tok rfl) hc1v.symm)) ?_)), ?_⟩
          refine pr_one 14 (by decide +kernel) (eff0 14 rfl (sst tok rfl rfl rfl rfl rfl) (by decide +kernel) (qs := _) rfl ?_)
          rintro _ _ _ ⟨rfl, rfl, rfl⟩
          refine ⟨by (repeat (first | exact trivial | refine And.intro (pend_q rfl rfl rfl (qt_pev tok rfl)) ?_ | refine And.intro (pend_q rfl rfl rfl (ql tok rfl)) ?_ | refine And.intro (pend_q rfl rfl rfl (Qt.as (qt_pev tok rfl) hc1v.symm)) ?_)), ?_⟩
          refine pr_end (by decide +kernel) (by decide +kernel) ?_
          exact run_sub' (hnext _ _ _ ⟨b13, c', Mem.le_trans hMM hM12, hok, hab.trans (newAb hl hc1e), rfl, rfl⟩) ⟨rfl, rfl, rfl, trivial⟩
        · refine eff1 13 rfl (st_alloc tok rfl) (by decide +kernel) (qs := _) rfl rfl rfl rfl ?_
          rintro _ _ _ ⟨b13, rfl, rfl, rfl⟩
          refine ⟨by (repeat (first | exact trivial | refine And.intro (pend_q rfl rfl rfl (qt_pev tok rfl)) ?_ | refine And.intro (pend_q rfl rfl rfl (ql tok rfl)) ?_ | refine And.intro (pend_q rfl rfl rfl (Qt.as (qt_pev tok rfl) hc1v.symm)) ?_)), ?_⟩
          refine pr_one 12 (by decide +kernel) (eff1 12 rfl (st_callF rfl (fun _ => refOwn_frz _ _ c1 hc1)) (by decide +kernel) (qs := _) rfl rfl rfl rfl ?_)
          rintro _ M12 _ ⟨hM12, rfl, c', rfl, hab, hok⟩
          refine ⟨by (repeat (first | exact trivial | refine And.intro (pend_q rfl rfl rfl (qt_pev tok rfl)) ?_ | refine And.intro (pend_q rfl rfl rfl (ql tok rfl)) ?_ | refine And.intro (pend_q rfl rfl rfl (Qt.as (qt_pev tok rfl) hc1v.symm)) ?_)), ?_⟩
          refine pr_one 14 (by decide +kernel) (eff0 14 rfl (sst tok rfl rfl rfl rfl rfl) (by decide +kernel) (qs := _) rfl ?_)
          rintro _ _ _ ⟨rfl, rfl, rfl⟩
          refine ⟨by (repeat (first | exact trivial | refine And.intro (pend_q rfl rfl rfl (qt_pev tok rfl)) ?_ | refine And.intro (pend_q rfl rfl rfl (ql tok rfl)) ?_ | refine And.intro (pend_q rfl rfl rfl (Qt.as (qt_pev tok rfl) hc1v.symm)) ?_)), ?_⟩
          refine pr_end (by decide +kernel) (by decide +kernel) ?_
          exact run_sub' (hnext _ _ _ ⟨b13, c', Mem.le_trans hMM hM12, hok, hab.trans (newAb hl hc1e), rfl, rfl⟩) ⟨rfl, rfl, rfl, trivial⟩
      · refine eff1 13 rfl (st_alloc tok rfl) (by decide +kernel) (qs := _) rfl rfl rfl rfl ?_
        rintro _ _ _ ⟨b13, rfl, rfl, rfl⟩
        refine ⟨by (repeat (first | exact trivial | refine And.intro (pend_q rfl rfl rfl (qt_pev tok rfl)) ?_ | refine And.intro (pend_q rfl rfl rfl (ql tok rfl)) ?_ | refine And.intro (pend_q rfl rfl rfl (Qt.as (qt_pev tok rfl) hc1v.symm)) ?_)), ?_⟩
        refine pr_one 5 (by decide +kernel) (eff1 5 rfl (St.frz1 (st_makeSlice (n := s.len) tok rfl rfl rfl rfl rfl rfl rfl (by omega) (by omega))) (by decide +kernel) (qs := _) rfl rfl rfl rfl ?_)
        rintro _ M5 _ ⟨hM5, rfl, b5, rfl, hb5⟩
        refine ⟨by (repeat (first | exact trivial | refine And.intro (pend_q rfl rfl rfl (qt_pev tok rfl)) ?_ | refine And.intro (pend_q rfl rfl rfl (ql tok rfl)) ?_ | refine And.intro (pend_q rfl rfl rfl (Qt.as (qt_pev tok rfl) hc1v.symm)) ?_)), ?_⟩
        have hMM := Mem.le_trans hMM hM5
        have hs := MbOk.le hM5 hs
        have hb := StOk.le hM5 hb
        have hb9 := hM5.blk _ _ hb9
        have hb7 := hM5.blk _ _ hb7
        obtain ⟨c1, hc1e⟩ : ∃ c1 : Co, c1 = ⟨t, au, s, bs, ⟨some ⟨b5, 0, none⟩, s.len, s.len, List.replicate s.len 0⟩, ⟨some ⟨b7, 0, none⟩, s.len, s.len, List.replicate s.len ⟨#[]⟩⟩, ⟨some ⟨b9, 0, none⟩, s.len, s.len, List.replicate s.len false⟩, 1, now, -1⟩ := ⟨_, rfl⟩
        have hc1 : CoOk _ c1 := hc1e ▸ newCo hs hb hb5 hb7 hb9 hd hbd t au now
        have hc1v : (Value.agg ⟨coC c1⟩) = .agg ⟨coC ⟨t, au, s, bs, ⟨some ⟨b5, 0, none⟩, s.len, s.len, List.replicate s.len 0⟩, ⟨some ⟨b7, 0, none⟩, s.len, s.len, List.replicate s.len ⟨#[]⟩⟩, ⟨some ⟨b9, 0, none⟩, s.len, s.len, List.replicate s.len false⟩, 1, now, -1⟩⟩ := by rw [hc1e]
        refine pr_q 11 (by decide +kernel) rfl (Qt.as (qt_pev tok rfl) hc1v.symm) rfl rfl rfl ?_
        refine pr_one 12 (by decide +kernel) (eff1 12 rfl (st_callF rfl (fun _ => refOwn_frz _ _ c1 hc1)) (by decide +kernel) (qs := _) rfl rfl rfl rfl ?_)
        rintro _ M12 _ ⟨hM12, rfl, c', rfl, hab, hok⟩
        refine ⟨by (repeat (first | exact trivial | refine And.intro (pend_q rfl rfl rfl (qt_pev tok rfl)) ?_ | refine And.intro (pend_q rfl rfl rfl (ql tok rfl)) ?_ | refine And.intro (pend_q rfl rfl rfl (Qt.as (qt_pev tok rfl) hc1v.symm)) ?_)), ?_⟩
        refine pr_one 14 (by decide +kernel) (eff0 14 rfl (sst tok rfl rfl rfl rfl rfl) (by decide +kernel) (qs := _) rfl ?_)
        rintro _ _ _ ⟨rfl, rfl, rfl⟩
        refine ⟨by (repeat (first | exact trivial | refine And.intro (pend_q rfl rfl rfl (qt_pev tok rfl)) ?_ | refine And.intro (pend_q rfl rfl rfl (ql tok rfl)) ?_ | refine And.intro (pend_q rfl rfl rfl (Qt.as (qt_pev tok rfl) hc1v.symm)) ?_)), ?_⟩
        refine pr_end (by decide +kernel) (by decide +kernel) ?_
        exact run_sub' (hnext _ _ _ ⟨b13, c', Mem.le_trans hMM hM12, hok, hab.trans (newAb hl hc1e), rfl, rfl⟩) ⟨rfl, rfl, rfl, trivial⟩
    · refine eff1 13 rfl (st_alloc tok rfl) (by decide +kernel) (qs := _) rfl rfl rfl rfl ?_
      rintro _ _ _ ⟨b13, rfl, rfl, rfl⟩
      refine ⟨by (repeat (first | exact trivial | refine And.intro (pend_q rfl rfl rfl (qt_pev tok rfl)) ?_ | refine And.intro (pend_q rfl rfl rfl (ql tok rfl)) ?_ | refine And.intro (pend_q rfl rfl rfl (Qt.as (qt_pev tok rfl) hc1v.symm)) ?_)), ?_⟩
      refine pr_two 5 7 (by decide +kernel) ?_ ?_
      · refine eff1 5 rfl (St.frz1 (st_makeSlice (n := s.len) tok rfl rfl rfl rfl rfl rfl rfl (by omega) (by omega))) (by decide +kernel) (qs := _) rfl rfl rfl rfl ?_
        rintro _ M5 _ ⟨hM5, rfl, b5, rfl, hb5⟩
        refine ⟨by (repeat (first | exact trivial | refine And.intro (pend_q rfl rfl rfl (qt_pev tok rfl)) ?_ | refine And.intro (pend_q rfl rfl rfl (ql tok rfl)) ?_ | refine And.intro (pend_q rfl rfl rfl (Qt.as (qt_pev tok rfl) hc1v.symm)) ?_)), ?_⟩
        have hMM := Mem.le_trans hMM hM5
        have hs := MbOk.le hM5 hs
        have hb := StOk.le hM5 hb
        have hb9 := hM5.blk _ _ hb9
        refine pr_one 7 (by decide +kernel) (eff1 7 rfl (St.frz1 (st_makeSlice (n := s.len) tok rfl rfl rfl rfl rfl rfl rfl (by omega) (by omega))) (by decide +kernel) (qs := _) rfl rfl rfl rfl ?_)
        rintro _ M7 _ ⟨hM7, rfl, b7, rfl, hb7⟩
        refine ⟨by (repeat (first | exact trivial | refine And.intro (pend_q rfl rfl rfl (qt_pev tok rfl)) ?_ | refine And.intro (pend_q rfl rfl rfl (ql tok rfl)) ?_ | refine And.intro (pend_q rfl rfl rfl (Qt.as (qt_pev tok rfl) hc1v.symm)) ?_)), ?_⟩
        have hMM := Mem.le_trans hMM hM7
        have hs := MbOk.le hM7 hs
        have hb := StOk.le hM7 hb
        have hb9 := hM7.blk _ _ hb9
        have hb5 := hM7.blk _ _ hb5
        obtain ⟨c1, hc1e⟩ : ∃ c1 : Co, c1 = ⟨t, au, s, bs, ⟨some ⟨b5, 0, none⟩, s.len, s.len, List.replicate s.len 0⟩, ⟨some ⟨b7, 0, none⟩, s.len, s.len, List.replicate s.len ⟨#[]⟩⟩, ⟨some ⟨b9, 0, none⟩, s.len, s.len, List.replicate s.len false⟩, 1, now, -1⟩ := ⟨_, rfl⟩
        have hc1 : CoOk _ c1 := hc1e ▸ newCo hs hb hb5 hb7 hb9 hd hbd t au now
        have hc1v : (Value.agg ⟨coC c1⟩) = .agg ⟨coC ⟨t, au, s, bs, ⟨some ⟨b5, 0, none⟩, s.len, s.len, List.replicate s.len 0⟩, ⟨some ⟨b7, 0, none⟩, s.len, s.len, List.replicate s.len ⟨#[]⟩⟩, ⟨some ⟨b9, 0, none⟩, s.len, s.len, List.replicate s.len false⟩, 1, now, -1⟩⟩ := by rw [hc1e]
        refine pr_q 11 (by decide +kernel) rfl (Qt.as (qt_pev tok rfl) hc1v.symm) rfl rfl rfl ?_
        refine pr_one 12 (by decide +kernel) (eff1 12 rfl (st_callF rfl (fun _ => refOwn_frz _ _ c1 hc1)) (by decide +kernel) (qs := _) rfl rfl rfl rfl ?_)
        rintro _ M12 _ ⟨hM12, rfl, c', rfl, hab, hok⟩
        refine ⟨by (repeat (first | exact trivial | refine And.intro (pend_q rfl rfl rfl (qt_pev tok rfl)) ?_ | refine And.intro (pend_q rfl rfl rfl (ql tok rfl)) ?_ | refine And.intro (pend_q rfl rfl rfl (Qt.as (qt_pev tok rfl) hc1v.symm)) ?_)), ?_⟩
        refine pr_one 14 (by decide +kernel) (eff0 14 rfl (sst tok rfl rfl rfl rfl rfl) (by decide +kernel) (qs := _) rfl ?_)
        rintro _ _ _ ⟨rfl, rfl, rfl⟩
        refine ⟨by (repeat (first | exact trivial | refine And.intro (pend_q rfl rfl rfl (qt_pev tok rfl)) ?_ | refine And.intro (pend_q rfl rfl rfl (ql tok rfl)) ?_ | refine And.intro (pend_q rfl rfl rfl (Qt.as (qt_pev tok rfl) hc1v.symm)) ?_)), ?_⟩
        refine pr_end (by decide +kernel) (by decide +kernel) ?_
        exact run_sub' (hnext _ _ _ ⟨b13, c', Mem.le_trans hMM hM12, hok, hab.trans (newAb hl hc1e), rfl, rfl⟩) ⟨rfl, rfl, rfl, trivial⟩
      · refine eff1 7 rfl (St.frz1 (st_makeSlice (n := s.len) tok rfl rfl rfl rfl rfl rfl rfl (by omega) (by omega))) (by decide +kernel) (qs := _) rfl rfl rfl rfl ?_
        rintro _ M7 _ ⟨hM7, rfl, b7, rfl, hb7⟩
        refine ⟨by (repeat (first | exact trivial | refine And.intro (pend_q rfl rfl rfl (qt_pev tok rfl)) ?_ | refine And.intro (pend_q rfl rfl rfl (ql tok rfl)) ?_ | refine And.intro (pend_q rfl rfl rfl (Qt.as (qt_pev tok rfl) hc1v.symm)) ?_)), ?_⟩
        have hMM := Mem.le_trans hMM hM7
        have hs := MbOk.le hM7 hs
        have hb := StOk.le hM7 hb
        have hb9 := hM7.blk _ _ hb9
        refine pr_one 5 (by decide +kernel) (eff1 5 rfl (St.frz1 (st_makeSlice (n := s.len) tok rfl rfl rfl rfl rfl rfl rfl (by omega) (by omega))) (by decide +kernel) (qs := _) rfl rfl rfl rfl ?_)
        rintro _ M5 _ ⟨hM5, rfl, b5, rfl, hb5⟩
        refine ⟨by (repeat (first | exact trivial | refine And.intro (pend_q rfl rfl rfl (qt_pev tok rfl)) ?_ | refine And.intro (pend_q rfl rfl rfl (ql tok rfl)) ?_ | refine And.intro (pend_q rfl rfl rfl (Qt.as (qt_pev tok rfl) hc1v.symm)) ?_)), ?_⟩
        have hMM := Mem.le_trans hMM hM5
        have hs := MbOk.le hM5 hs
        have hb := StOk.le hM5 hb
        have hb9 := hM5.blk _ _ hb9
        have hb7 := hM5.blk _ _ hb7
        obtain ⟨c1, hc1e⟩ : ∃ c1 : Co, c1 = ⟨t, au, s, bs, ⟨some ⟨b5, 0, none⟩, s.len, s.len, List.replicate s.len 0⟩, ⟨some ⟨b7, 0, none⟩, s.len, s.len, List.replicate s.len ⟨#[]⟩⟩, ⟨some ⟨b9, 0, none⟩, s.len, s.len, List.replicate s.len false⟩, 1, now, -1⟩ := ⟨_, rfl⟩
        have hc1 : CoOk _ c1 := hc1e ▸ newCo hs hb hb5 hb7 hb9 hd hbd t au now
        have hc1v : (Value.agg ⟨coC c1⟩) = .agg ⟨coC ⟨t, au, s, bs, ⟨some ⟨b5, 0, none⟩, s.len, s.len, List.replicate s.len 0⟩, ⟨some ⟨b7, 0, none⟩, s.len, s.len, List.replicate s.len ⟨#[]⟩⟩, ⟨some ⟨b9, 0, none⟩, s.len, s.len, List.replicate s.len false⟩, 1, now, -1⟩⟩ := by rw [hc1e]
        refine pr_q 11 (by decide +kernel) rfl (Qt.as (qt_pev tok rfl) hc1v.symm) rfl rfl rfl ?_
        refine pr_one 12 (by decide +kernel) (eff1 12 rfl (st_callF rfl (fun _ => refOwn_frz _ _ c1 hc1)) (by decide +kernel) (qs := _) rfl rfl rfl rfl ?_)
        rintro _ M12 _ ⟨hM12, rfl, c', rfl, hab, hok⟩
        refine ⟨by (repeat (first | exact trivial | refine And.intro (pend_q rfl rfl rfl (qt_pev tok rfl)) ?_ | refine And.intro (pend_q rfl rfl rfl (ql tok rfl)) ?_ | refine And.intro (pend_q rfl rfl rfl (Qt.as (qt_pev tok rfl) hc1v.symm)) ?_)), ?_⟩
        refine pr_one 14 (by decide +kernel) (eff0 14 rfl (sst tok rfl rfl rfl rfl rfl) (by decide +kernel) (qs := _) rfl ?_)
        rintro _ _ _ ⟨rfl, rfl, rfl⟩
        refine ⟨by (repeat (first | exact trivial | refine And.intro (pend_q rfl rfl rfl (qt_pev tok rfl)) ?_ | refine And.intro (pend_q rfl rfl rfl (ql tok rfl)) ?_ | refine And.intro (pend_q rfl rfl rfl (Qt.as (qt_pev tok rfl) hc1v.symm)) ?_)), ?_⟩
        refine pr_end (by decide +kernel) (by decide +kernel) ?_
        exact run_sub' (hnext _ _ _ ⟨b13, c', Mem.le_trans hMM hM12, hok, hab.trans (newAb hl hc1e), rfl, rfl⟩) ⟨rfl, rfl, rfl, trivial⟩
  · refine eff1 13 rfl (st_alloc tok rfl) (by decide +kernel) (qs := _) rfl rfl rfl rfl ?_
    rintro _ _ _ ⟨b13, rfl, rfl, rfl⟩
    refine ⟨by (repeat (first | exact trivial | refine And.intro (pend_q rfl rfl rfl (qt_pev tok rfl)) ?_ | refine And.intro (pend_q rfl rfl rfl (ql tok rfl)) ?_ | refine And.intro (pend_q rfl rfl rfl (Qt.as (qt_pev tok rfl) hc1v.symm)) ?_)), ?_⟩
    refine pr_three 5 7 9 (by decide +kernel) ?_ ?_ ?_
    · refine eff1 5 rfl (St.frz1 (st_makeSlice (n := s.len) tok rfl rfl rfl rfl rfl rfl rfl (by omega) (by omega))) (by decide +kernel) (qs := _) rfl rfl rfl rfl ?_
      rintro _ M5 _ ⟨hM5, rfl, b5, rfl, hb5⟩
      refine ⟨by (repeat (first | exact trivial | refine And.intro (pend_q rfl rfl rfl (qt_pev tok rfl)) ?_ | refine And.intro (pend_q rfl rfl rfl (ql tok rfl)) ?_ | refine And.intro (pend_q rfl rfl rfl (Qt.as (qt_pev tok rfl) hc1v.symm)) ?_)), ?_⟩
      have hMM := Mem.le_trans hMM hM5
      have hs := MbOk.le hM5 hs
      have hb := StOk.le hM5 hb
      refine pr_two 7 9 (by decide +kernel) ?_ ?_
      · refine eff1 7 rfl (St.frz1 (st_makeSlice (n := s.len) tok rfl rfl rfl rfl rfl rfl rfl (by omega) (by omega))) (by decide +kernel) (qs := _) rfl rfl rfl rfl ?_
        rintro _ M7 _ ⟨hM7, rfl, b7, rfl, hb7⟩
        refine ⟨by (repeat (first | exact trivial | refine And.intro (pend_q rfl rfl rfl (qt_pev tok rfl)) ?_ | refine And.intro (pend_q rfl rfl rfl (ql tok rfl)) ?_ | refine And.intro (pend_q rfl rfl rfl (Qt.as (qt_pev tok rfl) hc1v.symm)) ?_)), ?_⟩
        have hMM := Mem.le_trans hMM hM7
        have hs := MbOk.le hM7 hs
        have hb := StOk.le hM7 hb
        have hb5 := hM7.blk _ _ hb5
        refine pr_one 9 (by decide +kernel) (eff1 9 rfl (St.frz1 (st_makeSlice (n := s.len) tok rfl rfl rfl rfl rfl rfl rfl (by omega) (by omega))) (by decide +kernel) (qs := _) rfl rfl rfl rfl ?_)
        rintro _ M9 _ ⟨hM9, rfl, b9, rfl, hb9⟩
        refine ⟨by (repeat (first | exact trivial | refine And.intro (pend_q rfl rfl rfl (qt_pev tok rfl)) ?_ | refine And.intro (pend_q rfl rfl rfl (ql tok rfl)) ?_ | refine And.intro (pend_q rfl rfl rfl (Qt.as (qt_pev tok rfl) hc1v.symm)) ?_)), ?_⟩
        have hMM := Mem.le_trans hMM hM9
        have hs := MbOk.le hM9 hs
        have hb := StOk.le hM9 hb
        have hb5 := hM9.blk _ _ hb5
        have hb7 := hM9.blk _ _ hb7
        obtain ⟨c1, hc1e⟩ : ∃ c1 : Co, c1 = ⟨t, au, s, bs, ⟨some ⟨b5, 0, none⟩, s.len, s.len, List.replicate s.len 0⟩, ⟨some ⟨b7, 0, none⟩, s.len, s.len, List.replicate s.len ⟨#[]⟩⟩, ⟨some ⟨b9, 0, none⟩, s.len, s.len, List.replicate s.len false⟩, 1, now, -1⟩ := ⟨_, rfl⟩
        have hc1 : CoOk _ c1 := hc1e ▸ newCo hs hb hb5 hb7 hb9 hd hbd t au now
        have hc1v : (Value.agg ⟨coC c1⟩) = .agg ⟨coC ⟨t, au, s, bs, ⟨some ⟨b5, 0, none⟩, s.len, s.len, List.replicate s.len 0⟩, ⟨some ⟨b7, 0, none⟩, s.len, s.len, List.replicate s.len ⟨#[]⟩⟩, ⟨some ⟨b9, 0, none⟩, s.len, s.len, List.replicate s.len false⟩, 1, now, -1⟩⟩ := by rw [hc1e]
        refine pr_q 11 (by decide +kernel) rfl (Qt.as (qt_pev tok rfl) hc1v.symm) rfl rfl rfl ?_
        refine pr_one 12 (by decide +kernel) (eff1 12 rfl (st_callF rfl (fun _ => refOwn_frz _ _ c1 hc1)) (by decide +kernel) (qs := _) rfl rfl rfl rfl ?_)
        rintro _ M12 _ ⟨hM12, rfl, c', rfl, hab, hok⟩
        refine ⟨by (repeat (first | exact trivial | refine And.intro (pend_q rfl rfl rfl (qt_pev tok rfl)) ?_ | refine And.intro (pend_q rfl rfl rfl (ql tok rfl)) ?_ | refine And.intro (pend_q rfl rfl rfl (Qt.as (qt_pev tok rfl) hc1v.symm)) ?_)), ?_⟩
        refine pr_one 14 (by decide +kernel) (eff0 14 rfl (sst tok rfl rfl rfl rfl rfl) (by decide +kernel) (qs := _) rfl ?_)
        rintro _ _ _ ⟨rfl, rfl, rfl⟩
        refine ⟨by (repeat (first | exact trivial | refine And.intro (pend_q rfl rfl rfl (qt_pev tok rfl)) ?_ | refine And.intro (pend_q rfl rfl rfl (ql tok rfl)) ?_ | refine And.intro (pend_q rfl rfl rfl (Qt.as (qt_pev tok rfl) hc1v.symm)) ?_)), ?_⟩
        refine pr_end (by decide +kernel) (by decide +kernel) ?_
        exact run_sub' (hnext _ _ _ ⟨b13, c', Mem.le_trans hMM hM12, hok, hab.trans (newAb hl hc1e), rfl, rfl⟩) ⟨rfl, rfl, rfl, trivial⟩
      · refine eff1 9 rfl (St.frz1 (st_makeSlice (n := s.len) tok rfl rfl rfl rfl rfl rfl rfl (by omega) (by omega))) (by decide +kernel) (qs := _) rfl rfl rfl rfl ?_
        rintro _ M9 _ ⟨hM9, rfl, b9, rfl, hb9⟩
        refine ⟨by (repeat (first | exact trivial | refine And.intro (pend_q rfl rfl rfl (qt_pev tok rfl)) ?_ | refine And.intro (pend_q rfl rfl rfl (ql tok rfl)) ?_ | refine And.intro (pend_q rfl rfl rfl (Qt.as (qt_pev tok rfl) hc1v.symm)) ?_)), ?_⟩
        have hMM := Mem.le_trans hMM hM9
        have hs := MbOk.le hM9 hs
        have hb := StOk.le hM9 hb
        have hb5 := hM9.blk _ _ hb5
        refine pr_one 7 (by decide +kernel) (eff1 7 rfl (St.frz1 (st_makeSlice (n := s.len) tok rfl rfl rfl rfl rfl rfl rfl (by omega) (by omega))) (by decide +kernel) (qs := _) rfl rfl rfl rfl ?_)
        rintro _ M7 _ ⟨hM7, rfl, b7, rfl, hb7⟩
        refine ⟨by (repeat (first | exact trivial | refine And.intro (pend_q rfl rfl rfl (qt_pev tok rfl)) ?_ | refine And.intro (pend_q rfl rfl rfl (ql tok rfl)) ?_ | refine And.intro (pend_q rfl rfl rfl (Qt.as (qt_pev tok rfl) hc1v.symm)) ?_)), ?_⟩
        have hMM := Mem.le_trans hMM hM7
        have hs := MbOk.le hM7 hs
        have hb := StOk.le hM7 hb
        have hb5 := hM7.blk _ _ hb5
        have hb9 := hM7.blk _ _ hb9
        obtain ⟨c1, hc1e⟩ : ∃ c1 : Co, c1 = ⟨t, au, s, bs, ⟨some ⟨b5, 0, none⟩, s.len, s.len, List.replicate s.len 0⟩, ⟨some ⟨b7, 0, none⟩, s.len, s.len, List.replicate s.len ⟨#[]⟩⟩, ⟨some ⟨b9, 0, none⟩, s.len, s.len, List.replicate s.len false⟩, 1, now, -1⟩ := ⟨_, rfl⟩
        have hc1 : CoOk _ c1 := hc1e ▸ newCo hs hb hb5 hb7 hb9 hd hbd t au now
        have hc1v : (Value.agg ⟨coC c1⟩) = .agg ⟨coC ⟨t, au, s, bs, ⟨some ⟨b5, 0, none⟩, s.len, s.len, List.replicate s.len 0⟩, ⟨some ⟨b7, 0, none⟩, s.len, s.len, List.replicate s.len ⟨#[]⟩⟩, ⟨some ⟨b9, 0, none⟩, s.len, s.len, List.replicate s.len false⟩, 1, now, -1⟩⟩ := by rw [hc1e]
        refine pr_q 11 (by decide +kernel) rfl (Qt.as (qt_pev tok rfl) hc1v.symm) rfl rfl rfl ?_
        refine pr_one 12 (by decide +kernel) (eff1 12 rfl (st_callF rfl (fun _ => refOwn_frz _ _ c1 hc1)) (by decide +kernel) (qs := _) rfl rfl rfl rfl ?_)
        rintro _ M12 _ ⟨hM12, rfl, c', rfl, hab, hok⟩
        refine ⟨by (repeat (first | exact trivial | refine And.intro (pend_q rfl rfl rfl (qt_pev tok rfl)) ?_ | refine And.intro (pend_q rfl rfl rfl (ql tok rfl)) ?_ | refine And.intro (pend_q rfl rfl rfl (Qt.as (qt_pev tok rfl) hc1v.symm)) ?_)), ?_⟩
        refine pr_one 14 (by decide +kernel) (eff0 14 rfl (sst tok rfl rfl rfl rfl rfl) (by decide +kernel) (qs := _) rfl ?_)
        rintro _ _ _ ⟨rfl, rfl, rfl⟩
        refine ⟨by (repeat (first | exact trivial | refine And.intro (pend_q rfl rfl rfl (qt_pev tok rfl)) ?_ | refine And.intro (pend_q rfl rfl rfl (ql tok rfl)) ?_ | refine And.intro (pend_q rfl rfl rfl (Qt.as (qt_pev tok rfl) hc1v.symm)) ?_)), ?_⟩
        refine pr_end (by decide +kernel) (by decide +kernel) ?_
        exact run_sub' (hnext _ _ _ ⟨b13, c', Mem.le_trans hMM hM12, hok, hab.trans (newAb hl hc1e), rfl, rfl⟩) ⟨rfl, rfl, rfl, trivial⟩
    · refine eff1 7 rfl (St.frz1 (st_makeSlice (n := s.len) tok rfl rfl rfl rfl rfl rfl rfl (by omega) (by omega))) (by decide +kernel) (qs := _) rfl rfl rfl rfl ?_
      rintro _ M7 _ ⟨hM7, rfl, b7, rfl, hb7⟩
      refine ⟨by (repeat (first | exact trivial | refine And.intro (pend_q rfl rfl rfl (qt_pev tok rfl)) ?_ | refine And.intro (pend_q rfl rfl rfl (ql tok rfl)) ?_ | refine And.intro (pend_q rfl rfl rfl (Qt.as (qt_pev tok rfl) hc1v.symm)) ?_)), ?_⟩
      have hMM := Mem.le_trans hMM hM7
      have hs := MbOk.le hM7 hs
      have hb := StOk.le hM7 hb
      refine pr_two 5 9 (by decide +kernel) ?_ ?_
      · refine eff1 5 rfl (St.frz1 (st_makeSlice (n := s.len) tok rfl rfl rfl rfl rfl rfl rfl (by omega) (by omega))) (by decide +kernel) (qs := _) rfl rfl rfl rfl ?_
        rintro _ M5 _ ⟨hM5, rfl, b5, rfl, hb5⟩
        refine ⟨by (repeat (first | exact trivial | refine And.intro (pend_q rfl rfl rfl (qt_pev tok rfl)) ?_ | refine And.intro (pend_q rfl rfl rfl (ql tok rfl)) ?_ | refine And.intro (pend_q rfl rfl rfl (Qt.as (qt_pev tok rfl) hc1v.symm)) ?_)), ?_⟩
        have hMM := Mem.le_trans hMM hM5
        have hs := MbOk.le hM5 hs
        have hb := StOk.le hM5 hb
        have hb7 := hM5.blk _ _ hb7
        refine pr_one 9 (by decide +kernel) (eff1 9 rfl (St.frz1 (st_makeSlice (n := s.len) tok rfl rfl rfl rfl rfl rfl rfl (by omega) (by omega))) (by decide +kernel) (qs := _) rfl rfl rfl rfl ?_)
        rintro _ M9 _ ⟨hM9, rfl, b9, rfl, hb9⟩
        refine ⟨by (repeat (first | exact trivial | refine And.intro (pend_q rfl rfl rfl (qt_pev tok rfl)) ?_ | refine And.intro (pend_q rfl rfl rfl (ql tok rfl)) ?_ | refine And.intro (pend_q rfl rfl rfl (Qt.as (qt_pev tok rfl) hc1v.symm)) ?_)), ?_⟩
        have hMM := Mem.le_trans hMM hM9
        have hs := MbOk.le hM9 hs
        have hb := StOk.le hM9 hb
        have hb7 := hM9.blk _ _ hb7
        have hb5 := hM9.blk _ _ hb5
        obtain ⟨c1, hc1e⟩ : ∃ c1 : Co, c1 = ⟨t, au, s, bs, ⟨some ⟨b5, 0, none⟩, s.len, s.len, List.replicate s.len 0⟩, ⟨some ⟨b7, 0, none⟩, s.len, s.len, List.replicate s.len ⟨#[]⟩⟩, ⟨some ⟨b9, 0, none⟩, s.len, s.len, List.replicate s.len false⟩, 1, now, -1⟩ := ⟨_, rfl⟩
        have hc1 : CoOk _ c1 := hc1e ▸ newCo hs hb hb5 hb7 hb9 hd hbd t au now
        have hc1v : (Value.agg ⟨coC c1⟩) = .agg ⟨coC ⟨t, au, s, bs, ⟨some ⟨b5, 0, none⟩, s.len, s.len, List.replicate s.len 0⟩, ⟨some ⟨b7, 0, none⟩, s.len, s.len, List.replicate s.len ⟨#[]⟩⟩, ⟨some ⟨b9, 0, none⟩, s.len, s.len, List.replicate s.len false⟩, 1, now, -1⟩⟩ := by rw [hc1e]
        refine pr_q 11 (by decide +kernel) rfl (Qt.as (qt_pev tok rfl) hc1v.symm) rfl rfl rfl ?_
        refine pr_one 12 (by decide +kernel) (eff1 12 rfl (st_callF rfl (fun _ => refOwn_frz _ _ c1 hc1)) (by decide +kernel) (qs := _) rfl rfl rfl rfl ?_)
        rintro _ M12 _ ⟨hM12, rfl, c', rfl, hab, hok⟩
        refine ⟨by (repeat (first | exact trivial | refine And.intro (pend_q rfl rfl rfl (qt_pev tok rfl)) ?_ | refine And.intro (pend_q rfl rfl rfl (ql tok rfl)) ?_ | refine And.intro (pend_q rfl rfl rfl (Qt.as (qt_pev tok rfl) hc1v.symm)) ?_)), ?_⟩
        refine pr_one 14 (by decide +kernel) (eff0 14 rfl (sst tok rfl rfl rfl rfl rfl) (by decide +kernel) (qs := _) rfl ?_)
        rintro _ _ _ ⟨rfl, rfl, rfl⟩
        refine ⟨by (repeat (first | exact trivial | refine And.intro (pend_q rfl rfl rfl (qt_pev tok rfl)) ?_ | refine And.intro (pend_q rfl rfl rfl (ql tok rfl)) ?_ | refine And.intro (pend_q rfl rfl rfl (Qt.as (qt_pev tok rfl) hc1v.symm)) ?_)), ?_⟩
        refine pr_end (by decide +kernel) (by decide +kernel) ?_
        exact run_sub' (hnext _ _ _ ⟨b13, c', Mem.le_trans hMM hM12, hok, hab.trans (newAb hl hc1e), rfl, rfl⟩) ⟨rfl, rfl, rfl, trivial⟩
      · refine eff1 9 rfl (St.frz1 (st_makeSlice (n := s.len) tok rfl rfl rfl rfl rfl rfl rfl (by omega) (by omega))) (by decide +kernel) (qs := _) rfl rfl rfl rfl ?_
        rintro _ M9 _ ⟨hM9, rfl, b9, rfl, hb9⟩
        refine ⟨by (repeat (first | exact trivial | refine And.intro (pend_q rfl rfl rfl (qt_pev tok rfl)) ?_ | refine And.intro (pend_q rfl rfl rfl (ql tok rfl)) ?_ | refine And.intro (pend_q rfl rfl rfl (Qt.as (qt_pev tok rfl) hc1v.symm)) ?_)), ?_⟩
        have hMM := Mem.le_trans hMM hM9
        have hs := MbOk.le hM9 hs
        have hb := StOk.le hM9 hb
        have hb7 := hM9.blk _ _ hb7
        refine pr_one 5 (by decide +kernel) (eff1 5 rfl (St.frz1 (st_makeSlice (n := s.len) tok rfl rfl rfl rfl rfl rfl rfl (by omega) (by omega))) (by decide +kernel) (qs := _) rfl rfl rfl rfl ?_)
        rintro _ M5 _ ⟨hM5, rfl, b5, rfl, hb5⟩
        refine ⟨by (repeat (first | exact trivial | refine And.intro (pend_q rfl rfl rfl (qt_pev tok rfl)) ?_ | refine And.intro (pend_q rfl rfl rfl (ql tok rfl)) ?_ | refine And.intro (pend_q rfl rfl rfl (Qt.as (qt_pev tok rfl) hc1v.symm)) ?_)), ?_⟩
        have hMM := Mem.le_trans hMM hM5
        have hs := MbOk.le hM5 hs
        have hb := StOk.le hM5 hb
        have hb7 := hM5.blk _ _ hb7
        have hb9 := hM5.blk _ _ hb9
        obtain ⟨c1, hc1e⟩ : ∃ c1 : Co, c1 = ⟨t, au, s, bs, ⟨some ⟨b5, 0, none⟩, s.len, s.len, List.replicate s.len 0⟩, ⟨some ⟨b7, 0, none⟩, s.len, s.len, List.replicate s.len ⟨#[]⟩⟩, ⟨some ⟨b9, 0, none⟩, s.len, s.len, List.replicate s.len false⟩, 1, now, -1⟩ := ⟨_, rfl⟩
        have hc1 : CoOk _ c1 := hc1e ▸ newCo hs hb hb5 hb7 hb9 hd hbd t au now
        have hc1v : (Value.agg ⟨coC c1⟩) = .agg ⟨coC ⟨t, au, s, bs, ⟨some ⟨b5, 0, none⟩, s.len, s.len, List.replicate s.len 0⟩, ⟨some ⟨b7, 0, none⟩, s.len, s.len, List.replicate s.len ⟨#[]⟩⟩, ⟨some ⟨b9, 0, none⟩, s.len, s.len, List.replicate s.len false⟩, 1, now, -1⟩⟩ := by rw [hc1e]
        refine pr_q 11 (by decide +kernel) rfl (Qt.as (qt_pev tok rfl) hc1v.symm) rfl rfl rfl ?_
        refine pr_one 12 (by decide +kernel) (eff1 12 rfl (st_callF rfl (fun _ => refOwn_frz _ _ c1 hc1)) (by decide +kernel) (qs := _) rfl rfl rfl rfl ?_)
        rintro _ M12 _ ⟨hM12, rfl, c', rfl, hab, hok⟩
        refine ⟨by (repeat (first | exact trivial | refine And.intro (pend_q rfl rfl rfl (qt_pev tok rfl)) ?_ | refine And.intro (pend_q rfl rfl rfl (ql tok rfl)) ?_ | refine And.intro (pend_q rfl rfl rfl (Qt.as (qt_pev tok rfl) hc1v.symm)) ?_)), ?_⟩
        refine pr_one 14 (by decide +kernel) (eff0 14 rfl (sst tok rfl rfl rfl rfl rfl) (by decide +kernel) (qs := _) rfl ?_)
        rintro _ _ _ ⟨rfl, rfl, rfl⟩
        refine ⟨by (repeat (first | exact trivial | refine And.intro (pend_q rfl rfl rfl (qt_pev tok rfl)) ?_ | refine And.intro (pend_q rfl rfl rfl (ql tok rfl)) ?_ | refine And.intro (pend_q rfl rfl rfl (Qt.as (qt_pev tok rfl) hc1v.symm)) ?_)), ?_⟩
        refine pr_end (by decide +kernel) (by decide +kernel) ?_
        exact run_sub' (hnext _ _ _ ⟨b13, c', Mem.le_trans hMM hM12, hok, hab.trans (newAb hl hc1e), rfl, rfl⟩) ⟨rfl, rfl, rfl, trivial⟩
    · refine eff1 9 rfl (St.frz1 (st_makeSlice (n := s.len) tok rfl rfl rfl rfl rfl rfl rfl (by omega) (by omega))) (by decide +kernel) (qs := _) rfl rfl rfl rfl ?_
      rintro _ M9 _ ⟨hM9, rfl, b9, rfl, hb9⟩
      refine ⟨by (repeat (first | exact trivial | refine And.intro (pend_q rfl rfl rfl (qt_pev tok rfl)) ?_ | refine And.intro (pend_q rfl rfl rfl (ql tok rfl)) ?_ | refine And.intro (pend_q rfl rfl rfl (Qt.as (qt_pev tok rfl) hc1v.symm)) ?_)), ?_⟩
      have hMM := Mem.le_trans hMM hM9
      have hs := MbOk.le hM9 hs
      have hb := StOk.le hM9 hb
      refine pr_two 5 7 (by decide +kernel) ?_ ?_
      · refine eff1 5 rfl (St.frz1 (st_makeSlice (n := s.len) tok rfl rfl rfl rfl rfl rfl rfl (by omega) (by omega))) (by decide +kernel) (qs := _) rfl rfl rfl rfl ?_
        rintro _ M5 _ ⟨hM5, rfl, b5, rfl, hb5⟩
        refine ⟨by (repeat (first | exact trivial | refine And.intro (pend_q rfl rfl rfl (qt_pev tok rfl)) ?_ | refine And.intro (pend_q rfl rfl rfl (ql tok rfl)) ?_ | refine And.intro (pend_q rfl rfl rfl (Qt.as (qt_pev tok rfl) hc1v.symm)) ?_)), ?_⟩
        have hMM := Mem.le_trans hMM hM5
        have hs := MbOk.le hM5 hs
        have hb := StOk.le hM5 hb
        have hb9 := hM5.blk _ _ hb9
        refine pr_one 7 (by decide +kernel) (eff1 7 rfl (St.frz1 (st_makeSlice (n := s.len) tok rfl rfl rfl rfl rfl rfl rfl (by omega) (by omega))) (by decide +kernel) (qs := _) rfl rfl rfl rfl ?_)
        rintro _ M7 _ ⟨hM7, rfl, b7, rfl, hb7⟩
        refine ⟨by (repeat (first | exact trivial | refine And.intro (pend_q rfl rfl rfl (qt_pev tok rfl)) ?_ | refine And.intro (pend_q rfl rfl rfl (ql tok rfl)) ?_ | refine And.intro (pend_q rfl rfl rfl (Qt.as (qt_pev tok rfl) hc1v.symm)) ?_)), ?_⟩
        have hMM := Mem.le_trans hMM hM7
        have hs := MbOk.le hM7 hs
        have hb := StOk.le hM7 hb
        have hb9 := hM7.blk _ _ hb9
        have hb5 := hM7.blk _ _ hb5
        obtain ⟨c1, hc1e⟩ : ∃ c1 : Co, c1 = ⟨t, au, s, bs, ⟨some ⟨b5, 0, none⟩, s.len, s.len, List.replicate s.len 0⟩, ⟨some ⟨b7, 0, none⟩, s.len, s.len, List.replicate s.len ⟨#[]⟩⟩, ⟨some ⟨b9, 0, none⟩, s.len, s.len, List.replicate s.len false⟩, 1, now, -1⟩ := ⟨_, rfl⟩
        have hc1 : CoOk _ c1 := hc1e ▸ newCo hs hb hb5 hb7 hb9 hd hbd t au now
        have hc1v : (Value.agg ⟨coC c1⟩) = .agg ⟨coC ⟨t, au, s, bs, ⟨some ⟨b5, 0, none⟩, s.len, s.len, List.replicate s.len 0⟩, ⟨some ⟨b7, 0, none⟩, s.len, s.len, List.replicate s.len ⟨#[]⟩⟩, ⟨some ⟨b9, 0, none⟩, s.len, s.len, List.replicate s.len false⟩, 1, now, -1⟩⟩ := by rw [hc1e]
        refine pr_q 11 (by decide +kernel) rfl (Qt.as (qt_pev tok rfl) hc1v.symm) rfl rfl rfl ?_
        refine pr_one 12 (by decide +kernel) (eff1 12 rfl (st_callF rfl (fun _ => refOwn_frz _ _ c1 hc1)) (by decide +kernel) (qs := _) rfl rfl rfl rfl ?_)
        rintro _ M12 _ ⟨hM12, rfl, c', rfl, hab, hok⟩
        refine ⟨by (repeat (first | exact trivial | refine And.intro (pend_q rfl rfl rfl (qt_pev tok rfl)) ?_ | refine And.intro (pend_q rfl rfl rfl (ql tok rfl)) ?_ | refine And.intro (pend_q rfl rfl rfl (Qt.as (qt_pev tok rfl) hc1v.symm)) ?_)), ?_⟩
        refine pr_one 14 (by decide +kernel) (eff0 14 rfl (sst tok rfl rfl rfl rfl rfl) (by decide +kernel) (qs := _) rfl ?_)
        rintro _ _ _ ⟨rfl, rfl, rfl⟩
        refine ⟨by (repeat (first | exact trivial | refine And.intro (pend_q rfl rfl rfl (qt_pev tok rfl)) ?_ | refine And.intro (pend_q rfl rfl rfl (ql tok rfl)) ?_ | refine And.intro (pend_q rfl rfl rfl (Qt.as (qt_pev tok rfl) hc1v.symm)) ?_)), ?_⟩
        refine pr_end (by decide +kernel) (by decide +kernel) ?_
        exact run_sub' (hnext _ _ _ ⟨b13, c', Mem.le_trans hMM hM12, hok, hab.trans (newAb hl hc1e), rfl, rfl⟩) ⟨rfl, rfl, rfl, trivial⟩
      · refine eff1 7 rfl (St.frz1 (st_makeSlice (n := s.len) tok rfl rfl rfl rfl rfl rfl rfl (by omega) (by omega))) (by decide +kernel) (qs := _) rfl rfl rfl rfl ?_
        rintro _ M7 _ ⟨hM7, rfl, b7, rfl, hb7⟩
        refine ⟨by (repeat (first | exact trivial | refine And.intro (pend_q rfl rfl rfl (qt_pev tok rfl)) ?_ | refine And.intro (pend_q rfl rfl rfl (ql tok rfl)) ?_ | refine And.intro (pend_q rfl rfl rfl (Qt.as (qt_pev tok rfl) hc1v.symm)) ?_)), ?_⟩
        have hMM := Mem.le_trans hMM hM7
        have hs := MbOk.le hM7 hs
        have hb := StOk.le hM7 hb
        have hb9 := hM7.blk _ _ hb9
        refine pr_one 5 (by decide +kernel) (eff1 5 rfl (St.frz1 (st_makeSlice (n := s.len) tok rfl rfl rfl rfl rfl rfl rfl (by omega) (by omega))) (by decide +kernel) (qs := _) rfl rfl rfl rfl ?_)
        rintro _ M5 _ ⟨hM5, rfl, b5, rfl, hb5⟩
        refine ⟨by (repeat (first | exact trivial | refine And.intro (pend_q rfl rfl rfl (qt_pev tok rfl)) ?_ | refine And.intro (pend_q rfl rfl rfl (ql tok rfl)) ?_ | refine And.intro (pend_q rfl rfl rfl (Qt.as (qt_pev tok rfl) hc1v.symm)) ?_)), ?_⟩
        have hMM := Mem.le_trans hMM hM5
        have hs := MbOk.le hM5 hs
        have hb := StOk.le hM5 hb
        have hb9 := hM5.blk _ _ hb9
        have hb7 := hM5.blk _ _ hb7
        obtain ⟨c1, hc1e⟩ : ∃ c1 : Co, c1 = ⟨t, au, s, bs, ⟨some ⟨b5, 0, none⟩, s.len, s.len, List.replicate s.len 0⟩, ⟨some ⟨b7, 0, none⟩, s.len, s.len, List.replicate s.len ⟨#[]⟩⟩, ⟨some ⟨b9, 0, none⟩, s.len, s.len, List.replicate s.len false⟩, 1, now, -1⟩ := ⟨_, rfl⟩
        have hc1 : CoOk _ c1 := hc1e ▸ newCo hs hb hb5 hb7 hb9 hd hbd t au now
        have hc1v : (Value.agg ⟨coC c1⟩) = .agg ⟨coC ⟨t, au, s, bs, ⟨some ⟨b5, 0, none⟩, s.len, s.len, List.replicate s.len 0⟩, ⟨some ⟨b7, 0, none⟩, s.len, s.len, List.replicate s.len ⟨#[]⟩⟩, ⟨some ⟨b9, 0, none⟩, s.len, s.len, List.replicate s.len false⟩, 1, now, -1⟩⟩ := by rw [hc1e]
        refine pr_q 11 (by decide +kernel) rfl (Qt.as (qt_pev tok rfl) hc1v.symm) rfl rfl rfl ?_
        refine pr_one 12 (by decide +kernel) (eff1 12 rfl (st_callF rfl (fun _ => refOwn_frz _ _ c1 hc1)) (by decide +kernel) (qs := _) rfl rfl rfl rfl ?_)
        rintro _ M12 _ ⟨hM12, rfl, c', rfl, hab, hok⟩
        refine ⟨by (repeat (first | exact trivial | refine And.intro (pend_q rfl rfl rfl (qt_pev tok rfl)) ?_ | refine And.intro (pend_q rfl rfl rfl (ql tok rfl)) ?_ | refine And.intro (pend_q rfl rfl rfl (Qt.as (qt_pev tok rfl) hc1v.symm)) ?_)), ?_⟩
        refine pr_one 14 (by decide +kernel) (eff0 14 rfl (sst tok rfl rfl rfl rfl rfl) (by decide +kernel) (qs := _) rfl ?_)
        rintro _ _ _ ⟨rfl, rfl, rfl⟩
        refine ⟨by (repeat (first | exact trivial | refine And.intro (pend_q rfl rfl rfl (qt_pev tok rfl)) ?_ | refine And.intro (pend_q rfl rfl rfl (ql tok rfl)) ?_ | refine And.intro (pend_q rfl rfl rfl (Qt.as (qt_pev tok rfl) hc1v.symm)) ?_)), ?_⟩
        refine pr_end (by decide +kernel) (by decide +kernel) ?_
        exact run_sub' (hnext _ _ _ ⟨b13, c', Mem.le_trans hMM hM12, hok, hab.trans (newAb hl hc1e), rfl, rfl⟩) ⟨rfl, rfl, rfl, trivial⟩

/-! ### the document's transaction that comes back -/
def backC0 (t : Tx) (au : Int) (mem : List Mb) (tags : List ByteArray) : Ca := ⟨t, au, mem, [], List.replicate mem.length 0, tags, List.replicate mem.length false, 2, 0, -1⟩
theorem backCo0 {M : Mem} {s : SMb} {ts : SStr} {b8 b12 e8 e12 : Nat} (hs : MbOk M s) (ht : StOk M ts) (h8 : M.blk b8 = some (.cells ⟨List.replicate s.len (.int .u8 0)⟩ e8 (0, 0))) (h12 : M.blk b12 = some (.cells ⟨List.replicate s.len (.bool false)⟩ e12 (0, 0)))
    (hd : ∀ m ∈ s.xs, m.digest.size < 4611686018427387904) (htd : ∀ t ∈ ts.xs, t.size < 4611686018427387904) (t : Tx) (au : Int) : CoOk M ⟨t, au, s, ⟨none, 0, 0, []⟩, ⟨some ⟨b8, 0, none⟩, s.len, s.len, List.replicate s.len 0⟩, ts, ⟨some ⟨b12, 0, none⟩, s.len, s.len, List.replicate s.len false⟩, 2, 0, -1⟩ :=
  ⟨hs, StOk.nil M, repU8 h8 hs.2 _, ht, repBl h12 hs.2 _, hd, (fun x hx => by cases hx), htd⟩
theorem backAb0 {s : SMb} {ts : SStr} {b7 b11 : Nat} {t : Tx} {au : Int} (hl : s.xs.length = s.len) {c1 : Co} (h : c1 = ⟨t, au, s, ⟨none, 0, 0, []⟩, ⟨some ⟨b7, 0, none⟩, s.len, s.len, List.replicate s.len 0⟩, ts, ⟨some ⟨b11, 0, none⟩, s.len, s.len, List.replicate s.len false⟩, 2, 0, -1⟩) : c1.ab = backC0 t au s.xs ts.xs := by rw [h, backC0, hl]; rfl
theorem permBk (x : Nat × Obj) (A B C L : HL) : (A ++ (B ++ (C ++ x :: L))).Perm (x :: (A ++ (B ++ (C ++ L)))) := by
  have := (permMid [x] (A ++ (B ++ C)) L).symm
  simpa [List.append_assoc] using this
theorem backA_big {t : Tx} {au : Int} {mem : List Mb} {tags : List ByteArray} (h : 6 < mem.length ∨ 6 < tags.length) : backA t au mem tags = (caZ, 2) := by
  unfold backA
  split
  · rfl
  · rename_i h1
    have h2 : 6 < tags.length := h.resolve_left h1
    have h3 : ¬ mayA (backC t au mem tags) = true := by
      intro e
      simp only [mayA, coOk, Bool.and_eq_true] at e
      have hr := (rowsR_rows e.1.1.2).tags
      simp only [backC, Ca.co] at hr
      omega
    rw [madeA, if_neg h3]
theorem setAll {n j : Nat} (h : j < n) : (List.replicate j (1 : Int) ++ List.replicate (n - j) 0).set j 1 = List.replicate (j + 1) 1 ++ List.replicate (n - (j + 1)) 0 := by
  rw [List.set_append_right _ _ (by simp), List.length_replicate, Nat.sub_self, show n - j = (n - (j + 1)) + 1 by omega, List.replicate_succ, List.set_cons_zero, ← List.replicate_append_replicate, List.append_assoc]
  rfl
theorem run_mkfrz {P : Program} {C : Cx} {n : Nat} {k : List Item} {ds : List Deferred} {σ : Env} {M : Mem} {L : HL} {c : Co} {Nv Nt Na : HL} (hm : Mk M c Nv Nt Na) (h : ∀ M', M.le M' → CoOk M' c → Run P C n k ds σ M' L) : Run P C n k ds σ M (Na ++ (Nt ++ (Nv ++ L))) :=
  fun a w h1 h2 h3 h4 => by
    obtain ⟨M', h5, h6, h7⟩ := hm.frz h4
    exact h M' h5 h7 a w h1 h2 h3 h6
set_option maxRecDepth 10000 in
set_option maxHeartbeats 32000000 in
theorem refBack_ok (M : Mem) (L : HL) (t : Tx) (au : Int) (s : SMb) (ts : SStr) (hs : MbOk M s) (ht : StOk M ts) (hd : ∀ m ∈ s.xs, m.digest.size < 4611686018427387904) (htd : ∀ t ∈ ts.xs, t.size < 4611686018427387904) : Tr Try.prog 27 [.agg ⟨rpC t au s ts⟩] M L (CoK M L (backA t au s.xs ts.xs)) := by
  have hl := hs.len
  have htl := ht.len
  have h6 := hs.2
  refine Tr.intro 49 Try.func27 rfl rfl Try.call27 rfl ?_
  intro C hC hro
  repeat (first | with_reducible (first | refine run_seq ?_ | refine run_region ?_ | refine runL_nil ?_ | refine run_skip ?_ | refine run_block ?_ | refine run_inBlock ?_) | refine run_exit rfl ?_ | refine runL_q (qt_pev tok rfl) rfl rfl rfl ?_ | refine runL_g rfl rfl (qt_pev tok rfl) rfl rfl rfl rfl rfl ?_ | refine runL_q (ql tok rfl) rfl rfl rfl ?_ | refine runL_g rfl rfl (ql tok rfl) rfl rfl rfl rfl rfl ?_ | (refine runL_op0 (sst tok rfl rfl rfl rfl rfl) ?_; rintro _ _ _ ⟨rfl, rfl, rfl⟩) | (refine runL_op (st_box rfl) rfl rfl rfl ?_; rintro _ _ _ ⟨_, rfl, rfl, rfl⟩) | (refine runL_op (st_alloc tok rfl) rfl rfl rfl ?_; rintro _ _ _ ⟨_, rfl, rfl, rfl⟩) | (refine runL_op (st_buildSlice tok rfl rfl rfl rfl rfl rfl rfl) rfl rfl rfl ?_; rintro _ _ _ ⟨_, rfl, rfl, rfl⟩))
  rename_i b1 b2
  refine run_cond rfl (fun h => ?_) (fun h => ?_)
  · have h1 : 6 < s.xs.length ∨ 6 < ts.xs.length := by
      have : (decide ((s.len : Int) > 6) || decide ((ts.len : Int) > 6)) = true := h
      simp at this
      omega
    rw [backA_big h1] at hC
    repeat (first | with_reducible (first | refine run_seq ?_ | refine run_region ?_ | refine runL_nil ?_ | refine run_skip ?_ | refine run_block ?_ | refine run_inBlock ?_) | refine run_exit rfl ?_ | refine runL_q (qt_pev tok rfl) rfl rfl rfl ?_ | refine runL_g rfl rfl (qt_pev tok rfl) rfl rfl rfl rfl rfl ?_ | refine runL_q (ql tok rfl) rfl rfl rfl ?_ | refine runL_g rfl rfl (ql tok rfl) rfl rfl rfl rfl rfl ?_ | (refine runL_op0 (sst tok rfl rfl rfl rfl rfl) ?_; rintro _ _ _ ⟨rfl, rfl, rfl⟩) | (refine runL_op (st_box rfl) rfl rfl rfl ?_; rintro _ _ _ ⟨_, rfl, rfl, rfl⟩) | (refine runL_op (st_alloc tok rfl) rfl rfl rfl ?_; rintro _ _ _ ⟨_, rfl, rfl, rfl⟩) | (refine runL_op (st_buildSlice tok rfl rfl rfl rfl rfl rfl rfl) rfl rfl rfl ?_; rintro _ _ _ ⟨_, rfl, rfl, rfl⟩))
    exact run_ret hC (rs := [.cell 2 29, .tmp 3]) rfl (rl tok rfl (resT rfl resN)) (fun _ h => h.drop.drop) (CoK.none _ _ _ (Mem.le_refl _))
  have hle : ¬ 6 < s.xs.length := by
    have : (decide ((s.len : Int) > 6) || decide ((ts.len : Int) > 6)) = false := h
    simp at this
    omega
  rw [backA, if_neg hle] at hC
  refine run_skip ?_
  refine run_seq ?_
  refine run_cut (fun σ' M' L' => ∃ b5 c' Nv Nt Na, M.le M' ∧ Mk M' c' Nv Nt Na ∧ c'.ab = backC0 t au s.xs ts.xs ∧ L' = (b5, .cells ⟨coC c'⟩ 29 (0, 0)) :: (Na ++ (Nt ++ (Nv ++ (b2, .cells ⟨coC coZ⟩ 29 (0, 0)) :: (b1, .cells ⟨rpC t au s ts⟩ 51 (0, 0)) :: L))) ∧ σ' = [(5, .pointer (some ⟨b5, 0, none⟩)), (4, .int .i64 (s.xs.length : Int)), (2, .pointer (some ⟨b2, 0, none⟩)), (3, .int .i64 0)]) ?_ ?_
  · rintro _ M1 _ ⟨b5, c', Nv, Nt, Na, hM1, hmk, hab, rfl, rfl⟩
    have hvx : c'.votes.xs = List.replicate s.xs.length 0 := congrArg Ca.votes hab
    have hvl : c'.votes.len = s.xs.length := by rw [← hmk.lv.1, hvx]; simp
    obtain ⟨va, vl, vc, hva⟩ : ∃ va vl vc, c'.votes.v = .slice va vl vc := ⟨_, _, _, rfl⟩
    repeat (first | with_reducible (first | refine run_seq ?_ | refine run_region ?_ | refine runL_nil ?_ | refine run_skip ?_ | refine run_block ?_ | refine run_inBlock ?_) | refine run_exit rfl ?_ | refine runL_q (qt_pev tok rfl) rfl rfl rfl ?_ | refine runL_g rfl rfl (qt_pev tok rfl) rfl rfl rfl rfl rfl ?_ | refine runL_q (ql tok rfl) rfl rfl rfl ?_ | refine runL_g rfl rfl (ql tok rfl) rfl rfl rfl rfl rfl ?_ | (refine runL_op0 (sst tok rfl rfl rfl rfl rfl) ?_; rintro _ _ _ ⟨rfl, rfl, rfl⟩) | (refine runL_op (st_box rfl) rfl rfl rfl ?_; rintro _ _ _ ⟨_, rfl, rfl, rfl⟩) | (refine runL_op (st_alloc tok rfl) rfl rfl rfl ?_; rintro _ _ _ ⟨_, rfl, rfl, rfl⟩) | (refine runL_op (st_buildSlice tok rfl rfl rfl rfl rfl rfl rfl) rfl rfl rfl ?_; rintro _ _ _ ⟨_, rfl, rfl, rfl⟩))
    refine run_loopN (fun j σ1 M2 L2 => j ≤ s.xs.length ∧ M1 = M2 ∧ (∃ Nv', Mk M1 { c' with votes := { c'.votes with xs := List.replicate j 1 ++ List.replicate (s.xs.length - j) 0 } } Nv' Nt Na ∧ L2 = (b5, .cells ⟨coC c'⟩ 29 (0, 0)) :: (Na ++ (Nt ++ (Nv' ++ (b2, .cells ⟨coC coZ⟩ 29 (0, 0)) :: (b1, .cells ⟨rpC t au s ts⟩ 51 (0, 0)) :: L)))) ∧ σ1 = [(7, .int .i64 (j : Int)), (6, c'.votes.v), (5, .pointer (some ⟨b5, 0, none⟩)), (4, .int .i64 (s.xs.length : Int)), (2, .pointer (some ⟨b2, 0, none⟩)), (3, .int .i64 0)]) s.xs.length [(7, .int .i64 ((0 : Nat) : Int)), (6, c'.votes.v), (5, .pointer (some ⟨b5, 0, none⟩)), (4, .int .i64 (s.xs.length : Int)), (2, .pointer (some ⟨b2, 0, none⟩)), (3, .int .i64 0)] ?_ ⟨Nat.zero_le _, rfl, ⟨Nv, ?_, rfl⟩, rfl⟩ (fun j _ _ _ h => h.1) ?_
    · exact ⟨rfl, rfl, rfl, rfl, rfl, rfl, trivial⟩
    · have e : c' = { c' with votes := { c'.votes with xs := List.replicate 0 1 ++ List.replicate (s.xs.length - 0) 0 } } := by
        simp only [List.replicate_zero, List.nil_append, Nat.sub_zero, ← hvx]
      rw [← e]
      exact hmk
    rintro j _ _ _ ⟨hj, rfl, ⟨Nv', hmk', rfl⟩, rfl⟩ hnext
    repeat (first | with_reducible (first | refine run_seq ?_ | refine run_region ?_ | refine runL_nil ?_ | refine run_skip ?_ | refine run_block ?_ | refine run_inBlock ?_) | refine run_exit rfl ?_ | refine runL_q (qt_pev tok rfl) rfl rfl rfl ?_ | refine runL_g rfl rfl (qt_pev tok rfl) rfl rfl rfl rfl rfl ?_ | refine runL_q (ql tok rfl) rfl rfl rfl ?_ | refine runL_g rfl rfl (ql tok rfl) rfl rfl rfl rfl rfl ?_ | (refine runL_op0 (sst tok rfl rfl rfl rfl rfl) ?_; rintro _ _ _ ⟨rfl, rfl, rfl⟩) | (refine runL_op (st_box rfl) rfl rfl rfl ?_; rintro _ _ _ ⟨_, rfl, rfl, rfl⟩) | (refine runL_op (st_alloc tok rfl) rfl rfl rfl ?_; rintro _ _ _ ⟨_, rfl, rfl, rfl⟩) | (refine runL_op (st_buildSlice tok rfl rfl rfl rfl rfl rfl rfl) rfl rfl rfl ?_; rintro _ _ _ ⟨_, rfl, rfl, rfl⟩))
    refine run_cond rfl (fun h1 => ?_) (fun h1 => ?_)
    · have hlt : j < s.xs.length := of_natlt h1
      have hov := hmk'.votes
      obtain ⟨b, cap, pre, post, hv, rfl, hpre, hset⟩ := OS.mid (ls := (List.replicate j (1 : Int) ++ List.replicate (s.xs.length - j) 0).map u8C) hov (u8C_all _) (by simp [hvl]; omega) (k := j) (c := u8C 0) (by rw [List.getElem?_map, List.getElem?_append_right (by simp), List.length_replicate, Nat.sub_self, List.getElem?_replicate, if_pos (by omega)]; rfl)
      simp only [List.cons_append, List.nil_append]
      refine run_as 6 (.slice (some ⟨b, 0, none⟩) c'.votes.len cap) rfl hv ?_
      repeat (first | with_reducible (first | refine run_seq ?_ | refine run_region ?_ | refine runL_nil ?_ | refine run_skip ?_ | refine run_block ?_ | refine run_inBlock ?_) | refine run_exit rfl ?_ | refine runL_q (qt_pev tok rfl) rfl rfl rfl ?_ | refine runL_g rfl rfl (qt_pev tok rfl) rfl rfl rfl rfl rfl ?_ | refine runL_q (ql tok rfl) rfl rfl rfl ?_ | refine runL_g rfl rfl (ql tok rfl) rfl rfl rfl rfl rfl ?_ | (refine runL_op0 (sst tok rfl rfl rfl rfl rfl) ?_; rintro _ _ _ ⟨rfl, rfl, rfl⟩) | (refine runL_op (st_box rfl) rfl rfl rfl ?_; rintro _ _ _ ⟨_, rfl, rfl, rfl⟩) | (refine runL_op (st_alloc tok rfl) rfl rfl rfl ?_; rintro _ _ _ ⟨_, rfl, rfl, rfl⟩) | (refine runL_op (st_buildSlice tok rfl rfl rfl rfl rfl rfl rfl) rfl rfl rfl ?_; rintro _ _ _ ⟨_, rfl, rfl, rfl⟩) | refine runL_q (qt_indexAs (n := j) (o := pre.length) tok rfl rfl rfl rfl (fun _ => by omega) (by rw [hpre, Nat.zero_add])) rfl rfl rfl ?_ | (refine runL_op0 (st_store tok rfl rfl rfl rfl rfl (by (repeat (first | with_reducible apply Upd.here | with_reducible apply Upd.there | with_reducible apply Upd.append_left))) (setE_mid (j := 0) rfl)) ?_; rintro _ _ _ ⟨rfl, rfl, rfl⟩))
      have hset1 := hset (u8C 1) rfl
      refine run_sub' (hnext _ _ _ ⟨hlt, rfl, ⟨[(b, .cells ⟨pre ++ (u8C 1 ++ post)⟩ 5 (0, 0))], ?_, rfl⟩, rfl⟩) ⟨lk_succ rfl (by omega), by rw [show c'.votes.v = _ from hv]; rfl, rfl, rfl, rfl, rfl, trivial⟩
      refine ⟨hmk'.mem, hmk'.bodies, ?_, hmk'.tags, hmk'.acks, ⟨?_, hmk'.lv.2⟩, hmk'.lt, hmk'.la, hmk'.dig, hmk'.bod, hmk'.tag⟩
      · rw [← setAll hlt, List.map_set]
        exact hset1
      · simp [hvl]; omega
    have hge : j = s.xs.length := by
      have : ¬ (j : Int) < (s.xs.length : Int) := of_decide_eq_false h1
      omega
    subst hge
    clear hnext
    have hab2 : Co.ab { c' with votes := { c'.votes with xs := List.replicate s.xs.length 1 ++ List.replicate (s.xs.length - s.xs.length) 0 } } = backC t au s.xs ts.xs := by
      simp only [Nat.sub_self, List.replicate_zero, List.append_nil]
      simp only [Co.ab, backC0, Ca.mk.injEq] at hab
      simp only [Co.ab, backC, hab]
    obtain ⟨c2, hc2⟩ : ∃ c2 : Co, c2 = { c' with votes := { c'.votes with xs := List.replicate s.xs.length 1 ++ List.replicate (s.xs.length - s.xs.length) 0 } } := ⟨_, rfl⟩
    have hcc : coC c' = coC c2 := by rw [hc2]; rfl
    rw [← hc2] at hab2 hmk'
    rw [hcc]
    refine run_mem (fun w h => h.perm (permBk _ Na Nt Nv' _).symm) (run_mkfrz hmk' ?_)
    intro M2 hM2 hok
    have hM12 := Mem.le_trans hM1 hM2
    rw [← hab2] at hC
    repeat (first | with_reducible (first | refine run_seq ?_ | refine run_region ?_ | refine runL_nil ?_ | refine run_skip ?_ | refine run_block ?_ | refine run_inBlock ?_) | refine run_exit rfl ?_ | refine runL_q (qt_pev tok rfl) rfl rfl rfl ?_ | refine runL_g rfl rfl (qt_pev tok rfl) rfl rfl rfl rfl rfl ?_ | refine runL_q (ql tok rfl) rfl rfl rfl ?_ | refine runL_g rfl rfl (ql tok rfl) rfl rfl rfl rfl rfl ?_ | (refine runL_op0 (sst tok rfl rfl rfl rfl rfl) ?_; rintro _ _ _ ⟨rfl, rfl, rfl⟩) | (refine runL_op (st_box rfl) rfl rfl rfl ?_; rintro _ _ _ ⟨_, rfl, rfl, rfl⟩) | (refine runL_op (st_alloc tok rfl) rfl rfl rfl ?_; rintro _ _ _ ⟨_, rfl, rfl, rfl⟩) | (refine runL_op (st_buildSlice tok rfl rfl rfl rfl rfl rfl rfl) rfl rfl rfl ?_; rintro _ _ _ ⟨_, rfl, rfl, rfl⟩) | refine runL_q (qt_callF rfl (fun _ => refMay_ok _ _ _ hok)) rfl rfl rfl ?_)
    refine run_cond rfl (fun h7 => ?_) (fun h7 => ?_)
    · have h8 : ¬ mayA c2.ab = true := by
        intro e
        rw [e] at h7
        cases h7
      rw [madeA, if_neg h8] at hC
      repeat (first | with_reducible (first | refine run_seq ?_ | refine run_region ?_ | refine runL_nil ?_ | refine run_skip ?_ | refine run_block ?_ | refine run_inBlock ?_) | refine run_exit rfl ?_ | refine runL_q (qt_pev tok rfl) rfl rfl rfl ?_ | refine runL_g rfl rfl (qt_pev tok rfl) rfl rfl rfl rfl rfl ?_ | refine runL_q (ql tok rfl) rfl rfl rfl ?_ | refine runL_g rfl rfl (ql tok rfl) rfl rfl rfl rfl rfl ?_ | (refine runL_op0 (sst tok rfl rfl rfl rfl rfl) ?_; rintro _ _ _ ⟨rfl, rfl, rfl⟩) | (refine runL_op (st_box rfl) rfl rfl rfl ?_; rintro _ _ _ ⟨_, rfl, rfl, rfl⟩) | (refine runL_op (st_alloc tok rfl) rfl rfl rfl ?_; rintro _ _ _ ⟨_, rfl, rfl, rfl⟩) | (refine runL_op (st_buildSlice tok rfl rfl rfl rfl rfl rfl rfl) rfl rfl rfl ?_; rintro _ _ _ ⟨_, rfl, rfl, rfl⟩))
      exact run_ret hC (rs := [.cell 2 29, .tmp 3]) rfl (rl tok rfl (resT rfl resN)) (fun _ h => h.drop.drop.drop) (CoK.none _ _ _ hM12)
    · have h8 : mayA c2.ab = true := by
        apply Classical.byContradiction
        intro e
        rw [show mayA c2.ab = false from by simpa using e] at h7
        cases h7
      rw [madeA, if_pos h8] at hC
      repeat (first | with_reducible (first | refine run_seq ?_ | refine run_region ?_ | refine runL_nil ?_ | refine run_skip ?_ | refine run_block ?_ | refine run_inBlock ?_) | refine run_exit rfl ?_ | refine runL_q (qt_pev tok rfl) rfl rfl rfl ?_ | refine runL_g rfl rfl (qt_pev tok rfl) rfl rfl rfl rfl rfl ?_ | refine runL_q (ql tok rfl) rfl rfl rfl ?_ | refine runL_g rfl rfl (ql tok rfl) rfl rfl rfl rfl rfl ?_ | (refine runL_op0 (sst tok rfl rfl rfl rfl rfl) ?_; rintro _ _ _ ⟨rfl, rfl, rfl⟩) | (refine runL_op (st_box rfl) rfl rfl rfl ?_; rintro _ _ _ ⟨_, rfl, rfl, rfl⟩) | (refine runL_op (st_alloc tok rfl) rfl rfl rfl ?_; rintro _ _ _ ⟨_, rfl, rfl, rfl⟩) | (refine runL_op (st_buildSlice tok rfl rfl rfl rfl rfl rfl rfl) rfl rfl rfl ?_; rintro _ _ _ ⟨_, rfl, rfl, rfl⟩))
      exact run_ret hC (rs := [.cell 2 29, .tmp 3]) rfl (rl tok rfl (resT rfl resN)) (fun _ h => h.drop.drop.drop) ⟨hM12, rfl, c2, rfl, rfl, hok⟩
  intro hnext
  have hMM := Mem.le_refl M
  refine prn_start mixed ?_
  refine pr_q 0 (by decide +kernel) rfl (qt_pev tok rfl) rfl rfl rfl ?_
  refine pr_q 1 (by decide +kernel) rfl (ql tok rfl) rfl rfl rfl ?_
  refine pr_q 2 (by decide +kernel) rfl (qt_pev tok rfl) rfl rfl rfl ?_
  refine pr_q 3 (by decide +kernel) rfl (ql tok rfl) rfl rfl rfl ?_
  refine pr_q 4 (by decide +kernel) rfl (qt_pev tok rfl) rfl rfl rfl ?_
  refine pr_q 5 (by decide +kernel) rfl (ql tok rfl) rfl rfl rfl ?_
  refine pr_q 6 (by decide +kernel) rfl (qt_pev tok rfl) rfl rfl rfl ?_
  refine pr_q 8 (by decide +kernel) rfl (qt_pev tok rfl) rfl rfl rfl ?_
  refine pr_q 9 (by decide +kernel) rfl (ql tok rfl) rfl rfl rfl ?_
  refine pr_q 10 (by decide +kernel) rfl (qt_pev tok rfl) rfl rfl rfl ?_
  refine pr_three 7 11 14 (by decide +kernel) ?_ ?_ ?_
  · refine eff1 7 rfl (St.frz1 (st_makeSlice (n := s.len) tok rfl rfl rfl rfl rfl rfl rfl (by omega) (by omega))) (by decide +kernel) (qs := _) rfl rfl rfl rfl ?_
    rintro _ M7 _ ⟨hM7, rfl, b7, rfl, hb7⟩
    refine ⟨by (repeat (first | exact trivial | refine And.intro (pend_q rfl rfl rfl (qt_pev tok rfl)) ?_ | refine And.intro (pend_q rfl rfl rfl (ql tok rfl)) ?_ | refine And.intro (pend_q rfl rfl rfl (Qt.as (qt_pev tok rfl) hc1v.symm)) ?_)), ?_⟩
    have hMM := Mem.le_trans hMM hM7
    have hs := MbOk.le hM7 hs
    have ht := StOk.le hM7 ht
    refine pr_two 11 14 (by decide +kernel) ?_ ?_
    · refine eff1 11 rfl (St.frz1 (st_makeSlice (n := s.len) tok rfl rfl rfl rfl rfl rfl rfl (by omega) (by omega))) (by decide +kernel) (qs := _) rfl rfl rfl rfl ?_
      rintro _ M11 _ ⟨hM11, rfl, b11, rfl, hb11⟩
      refine ⟨by (repeat (first | exact trivial | refine And.intro (pend_q rfl rfl rfl (qt_pev tok rfl)) ?_ | refine And.intro (pend_q rfl rfl rfl (ql tok rfl)) ?_ | refine And.intro (pend_q rfl rfl rfl (Qt.as (qt_pev tok rfl) hc1v.symm)) ?_)), ?_⟩
      have hMM := Mem.le_trans hMM hM11
      have hs := MbOk.le hM11 hs
      have ht := StOk.le hM11 ht
      have hb7 := hM11.blk _ _ hb7
      obtain ⟨c1, hc1e⟩ : ∃ c1 : Co, c1 = ⟨t, au, s, ⟨none, 0, 0, []⟩, ⟨some ⟨b7, 0, none⟩, s.len, s.len, List.replicate s.len 0⟩, ts, ⟨some ⟨b11, 0, none⟩, s.len, s.len, List.replicate s.len false⟩, 2, 0, -1⟩ := ⟨_, rfl⟩
      have hc1 : CoOk _ c1 := hc1e ▸ backCo0 hs ht hb7 hb11 hd htd t au
      have hc1v : (Value.agg ⟨coC c1⟩) = .agg ⟨coC ⟨t, au, s, ⟨none, 0, 0, []⟩, ⟨some ⟨b7, 0, none⟩, s.len, s.len, List.replicate s.len 0⟩, ts, ⟨some ⟨b11, 0, none⟩, s.len, s.len, List.replicate s.len false⟩, 2, 0, -1⟩⟩ := by rw [hc1e]
      refine pr_q 12 (by decide +kernel) rfl (Qt.as (qt_pev tok rfl) hc1v.symm) rfl rfl rfl ?_
      refine pr_two 13 14 (by decide +kernel) ?_ ?_
      · refine eff1 13 rfl (st_callF rfl (fun _ => refOwn_ok _ _ c1 hc1)) (by decide +kernel) (qs := _) rfl rfl rfl rfl ?_
        rintro _ M13 _ ⟨hM13, c', Nv, Nt, Na, rfl, hab, rfl, hmk⟩
        refine ⟨by (repeat (first | exact trivial | refine And.intro (pend_q rfl rfl rfl (qt_pev tok rfl)) ?_ | refine And.intro (pend_q rfl rfl rfl (ql tok rfl)) ?_ | refine And.intro (pend_q rfl rfl rfl (Qt.as (qt_pev tok rfl) hc1v.symm)) ?_)), ?_⟩
        refine pr_one 14 (by decide +kernel) (eff1 14 rfl (st_alloc tok rfl) (by decide +kernel) (qs := _) rfl rfl rfl rfl ?_)
        rintro _ _ _ ⟨b14, rfl, rfl, rfl⟩
        refine ⟨by (repeat (first | exact trivial | refine And.intro (pend_q rfl rfl rfl (qt_pev tok rfl)) ?_ | refine And.intro (pend_q rfl rfl rfl (ql tok rfl)) ?_ | refine And.intro (pend_q rfl rfl rfl (Qt.as (qt_pev tok rfl) hc1v.symm)) ?_)), ?_⟩
        refine pr_one 15 (by decide +kernel) (eff0 15 rfl (sst tok rfl rfl rfl rfl rfl) (by decide +kernel) (qs := _) rfl ?_)
        rintro _ _ _ ⟨rfl, rfl, rfl⟩
        refine ⟨by (repeat (first | exact trivial | refine And.intro (pend_q rfl rfl rfl (qt_pev tok rfl)) ?_ | refine And.intro (pend_q rfl rfl rfl (ql tok rfl)) ?_ | refine And.intro (pend_q rfl rfl rfl (Qt.as (qt_pev tok rfl) hc1v.symm)) ?_)), ?_⟩
        refine pr_end (by decide +kernel) (by decide +kernel) ?_
        exact run_mem (fun w h => h) (run_sub' (hnext _ _ _ ⟨b14, c', Nv, Nt, Na, Mem.le_trans hMM hM13, hmk, hab.trans (backAb0 hl hc1e), rfl, rfl⟩) ⟨rfl, by rw [hl]; rfl, rfl, rfl, trivial⟩)
      · refine eff1 14 rfl (st_alloc tok rfl) (by decide +kernel) (qs := _) rfl rfl rfl rfl ?_
        rintro _ _ _ ⟨b14, rfl, rfl, rfl⟩
        refine ⟨by (repeat (first | exact trivial | refine And.intro (pend_q rfl rfl rfl (qt_pev tok rfl)) ?_ | refine And.intro (pend_q rfl rfl rfl (ql tok rfl)) ?_ | refine And.intro (pend_q rfl rfl rfl (Qt.as (qt_pev tok rfl) hc1v.symm)) ?_)), ?_⟩
        refine pr_one 13 (by decide +kernel) (eff1 13 rfl (st_callF rfl (fun _ => refOwn_ok _ _ c1 hc1)) (by decide +kernel) (qs := _) rfl rfl rfl rfl ?_)
        rintro _ M13 _ ⟨hM13, c', Nv, Nt, Na, rfl, hab, rfl, hmk⟩
        refine ⟨by (repeat (first | exact trivial | refine And.intro (pend_q rfl rfl rfl (qt_pev tok rfl)) ?_ | refine And.intro (pend_q rfl rfl rfl (ql tok rfl)) ?_ | refine And.intro (pend_q rfl rfl rfl (Qt.as (qt_pev tok rfl) hc1v.symm)) ?_)), ?_⟩
        refine pr_one 15 (by decide +kernel) (eff0 15 rfl (sst tok rfl rfl rfl rfl rfl) (by decide +kernel) (qs := _) rfl ?_)
        rintro _ _ _ ⟨rfl, rfl, rfl⟩
        refine ⟨by (repeat (first | exact trivial | refine And.intro (pend_q rfl rfl rfl (qt_pev tok rfl)) ?_ | refine And.intro (pend_q rfl rfl rfl (ql tok rfl)) ?_ | refine And.intro (pend_q rfl rfl rfl (Qt.as (qt_pev tok rfl) hc1v.symm)) ?_)), ?_⟩
        refine pr_end (by decide +kernel) (by decide +kernel) ?_
        exact run_mem (fun w h => h.perm (permBk _ Na Nt Nv _)) (run_sub' (hnext _ _ _ ⟨b14, c', Nv, Nt, Na, Mem.le_trans hMM hM13, hmk, hab.trans (backAb0 hl hc1e), rfl, rfl⟩) ⟨rfl, by rw [hl]; rfl, rfl, rfl, trivial⟩)
    · refine eff1 14 rfl (st_alloc tok rfl) (by decide +kernel) (qs := _) rfl rfl rfl rfl ?_
      rintro _ _ _ ⟨b14, rfl, rfl, rfl⟩
      refine ⟨by (repeat (first | exact trivial | refine And.intro (pend_q rfl rfl rfl (qt_pev tok rfl)) ?_ | refine And.intro (pend_q rfl rfl rfl (ql tok rfl)) ?_ | refine And.intro (pend_q rfl rfl rfl (Qt.as (qt_pev tok rfl) hc1v.symm)) ?_)), ?_⟩
      refine pr_one 11 (by decide +kernel) (eff1 11 rfl (St.frz1 (st_makeSlice (n := s.len) tok rfl rfl rfl rfl rfl rfl rfl (by omega) (by omega))) (by decide +kernel) (qs := _) rfl rfl rfl rfl ?_)
      rintro _ M11 _ ⟨hM11, rfl, b11, rfl, hb11⟩
      refine ⟨by (repeat (first | exact trivial | refine And.intro (pend_q rfl rfl rfl (qt_pev tok rfl)) ?_ | refine And.intro (pend_q rfl rfl rfl (ql tok rfl)) ?_ | refine And.intro (pend_q rfl rfl rfl (Qt.as (qt_pev tok rfl) hc1v.symm)) ?_)), ?_⟩
      have hMM := Mem.le_trans hMM hM11
      have hs := MbOk.le hM11 hs
      have ht := StOk.le hM11 ht
      have hb7 := hM11.blk _ _ hb7
      obtain ⟨c1, hc1e⟩ : ∃ c1 : Co, c1 = ⟨t, au, s, ⟨none, 0, 0, []⟩, ⟨some ⟨b7, 0, none⟩, s.len, s.len, List.replicate s.len 0⟩, ts, ⟨some ⟨b11, 0, none⟩, s.len, s.len, List.replicate s.len false⟩, 2, 0, -1⟩ := ⟨_, rfl⟩
      have hc1 : CoOk _ c1 := hc1e ▸ backCo0 hs ht hb7 hb11 hd htd t au
      have hc1v : (Value.agg ⟨coC c1⟩) = .agg ⟨coC ⟨t, au, s, ⟨none, 0, 0, []⟩, ⟨some ⟨b7, 0, none⟩, s.len, s.len, List.replicate s.len 0⟩, ts, ⟨some ⟨b11, 0, none⟩, s.len, s.len, List.replicate s.len false⟩, 2, 0, -1⟩⟩ := by rw [hc1e]
      refine pr_q 12 (by decide +kernel) rfl (Qt.as (qt_pev tok rfl) hc1v.symm) rfl rfl rfl ?_
      refine pr_one 13 (by decide +kernel) (eff1 13 rfl (st_callF rfl (fun _ => refOwn_ok _ _ c1 hc1)) (by decide +kernel) (qs := _) rfl rfl rfl rfl ?_)
      rintro _ M13 _ ⟨hM13, c', Nv, Nt, Na, rfl, hab, rfl, hmk⟩
      refine ⟨by (repeat (first | exact trivial | refine And.intro (pend_q rfl rfl rfl (qt_pev tok rfl)) ?_ | refine And.intro (pend_q rfl rfl rfl (ql tok rfl)) ?_ | refine And.intro (pend_q rfl rfl rfl (Qt.as (qt_pev tok rfl) hc1v.symm)) ?_)), ?_⟩
      refine pr_one 15 (by decide +kernel) (eff0 15 rfl (sst tok rfl rfl rfl rfl rfl) (by decide +kernel) (qs := _) rfl ?_)
      rintro _ _ _ ⟨rfl, rfl, rfl⟩
      refine ⟨by (repeat (first | exact trivial | refine And.intro (pend_q rfl rfl rfl (qt_pev tok rfl)) ?_ | refine And.intro (pend_q rfl rfl rfl (ql tok rfl)) ?_ | refine And.intro (pend_q rfl rfl rfl (Qt.as (qt_pev tok rfl) hc1v.symm)) ?_)), ?_⟩
      refine pr_end (by decide +kernel) (by decide +kernel) ?_
      exact run_mem (fun w h => h.perm (permBk _ Na Nt Nv _)) (run_sub' (hnext _ _ _ ⟨b14, c', Nv, Nt, Na, Mem.le_trans hMM hM13, hmk, hab.trans (backAb0 hl hc1e), rfl, rfl⟩) ⟨rfl, by rw [hl]; rfl, rfl, rfl, trivial⟩)
  · refine eff1 11 rfl (St.frz1 (st_makeSlice (n := s.len) tok rfl rfl rfl rfl rfl rfl rfl (by omega) (by omega))) (by decide +kernel) (qs := _) rfl rfl rfl rfl ?_
    rintro _ M11 _ ⟨hM11, rfl, b11, rfl, hb11⟩
    refine ⟨by (repeat (first | exact trivial | refine And.intro (pend_q rfl rfl rfl (qt_pev tok rfl)) ?_ | refine And.intro (pend_q rfl rfl rfl (ql tok rfl)) ?_ | refine And.intro (pend_q rfl rfl rfl (Qt.as (qt_pev tok rfl) hc1v.symm)) ?_)), ?_⟩
    have hMM := Mem.le_trans hMM hM11
    have hs := MbOk.le hM11 hs
    have ht := StOk.le hM11 ht
    refine pr_two 7 14 (by decide +kernel) ?_ ?_
    · refine eff1 7 rfl (St.frz1 (st_makeSlice (n := s.len) tok rfl rfl rfl rfl rfl rfl rfl (by omega) (by omega))) (by decide +kernel) (qs := _) rfl rfl rfl rfl ?_
      rintro _ M7 _ ⟨hM7, rfl, b7, rfl, hb7⟩
      refine ⟨by (repeat (first | exact trivial | refine And.intro (pend_q rfl rfl rfl (qt_pev tok rfl)) ?_ | refine And.intro (pend_q rfl rfl rfl (ql tok rfl)) ?_ | refine And.intro (pend_q rfl rfl rfl (Qt.as (qt_pev tok rfl) hc1v.symm)) ?_)), ?_⟩
      have hMM := Mem.le_trans hMM hM7
      have hs := MbOk.le hM7 hs
      have ht := StOk.le hM7 ht
      have hb11 := hM7.blk _ _ hb11
      obtain ⟨c1, hc1e⟩ : ∃ c1 : Co, c1 = ⟨t, au, s, ⟨none, 0, 0, []⟩, ⟨some ⟨b7, 0, none⟩, s.len, s.len, List.replicate s.len 0⟩, ts, ⟨some ⟨b11, 0, none⟩, s.len, s.len, List.replicate s.len false⟩, 2, 0, -1⟩ := ⟨_, rfl⟩
      have hc1 : CoOk _ c1 := hc1e ▸ backCo0 hs ht hb7 hb11 hd htd t au
      have hc1v : (Value.agg ⟨coC c1⟩) = .agg ⟨coC ⟨t, au, s, ⟨none, 0, 0, []⟩, ⟨some ⟨b7, 0, none⟩, s.len, s.len, List.replicate s.len 0⟩, ts, ⟨some ⟨b11, 0, none⟩, s.len, s.len, List.replicate s.len false⟩, 2, 0, -1⟩⟩ := by rw [hc1e]
      refine pr_q 12 (by decide +kernel) rfl (Qt.as (qt_pev tok rfl) hc1v.symm) rfl rfl rfl ?_
      refine pr_two 13 14 (by decide +kernel) ?_ ?_
      · refine eff1 13 rfl (st_callF rfl (fun _ => refOwn_ok _ _ c1 hc1)) (by decide +kernel) (qs := _) rfl rfl rfl rfl ?_
        rintro _ M13 _ ⟨hM13, c', Nv, Nt, Na, rfl, hab, rfl, hmk⟩
        refine ⟨by (repeat (first | exact trivial | refine And.intro (pend_q rfl rfl rfl (qt_pev tok rfl)) ?_ | refine And.intro (pend_q rfl rfl rfl (ql tok rfl)) ?_ | refine And.intro (pend_q rfl rfl rfl (Qt.as (qt_pev tok rfl) hc1v.symm)) ?_)), ?_⟩
        refine pr_one 14 (by decide +kernel) (eff1 14 rfl (st_alloc tok rfl) (by decide +kernel) (qs := _) rfl rfl rfl rfl ?_)
        rintro _ _ _ ⟨b14, rfl, rfl, rfl⟩
        refine ⟨by (repeat (first | exact trivial | refine And.intro (pend_q rfl rfl rfl (qt_pev tok rfl)) ?_ | refine And.intro (pend_q rfl rfl rfl (ql tok rfl)) ?_ | refine And.intro (pend_q rfl rfl rfl (Qt.as (qt_pev tok rfl) hc1v.symm)) ?_)), ?_⟩
        refine pr_one 15 (by decide +kernel) (eff0 15 rfl (sst tok rfl rfl rfl rfl rfl) (by decide +kernel) (qs := _) rfl ?_)
        rintro _ _ _ ⟨rfl, rfl, rfl⟩
        refine ⟨by (repeat (first | exact trivial | refine And.intro (pend_q rfl rfl rfl (qt_pev tok rfl)) ?_ | refine And.intro (pend_q rfl rfl rfl (ql tok rfl)) ?_ | refine And.intro (pend_q rfl rfl rfl (Qt.as (qt_pev tok rfl) hc1v.symm)) ?_)), ?_⟩
        refine pr_end (by decide +kernel) (by decide +kernel) ?_
        exact run_mem (fun w h => h) (run_sub' (hnext _ _ _ ⟨b14, c', Nv, Nt, Na, Mem.le_trans hMM hM13, hmk, hab.trans (backAb0 hl hc1e), rfl, rfl⟩) ⟨rfl, by rw [hl]; rfl, rfl, rfl, trivial⟩)
      · refine eff1 14 rfl (st_alloc tok rfl) (by decide +kernel) (qs := _) rfl rfl rfl rfl ?_
        rintro _ _ _ ⟨b14, rfl, rfl, rfl⟩
        refine ⟨by (repeat (first | exact trivial | refine And.intro (pend_q rfl rfl rfl (qt_pev tok rfl)) ?_ | refine And.intro (pend_q rfl rfl rfl (ql tok rfl)) ?_ | refine And.intro (pend_q rfl rfl rfl (Qt.as (qt_pev tok rfl) hc1v.symm)) ?_)), ?_⟩
        refine pr_one 13 (by decide +kernel) (eff1 13 rfl (st_callF rfl (fun _ => refOwn_ok _ _ c1 hc1)) (by decide +kernel) (qs := _) rfl rfl rfl rfl ?_)
        rintro _ M13 _ ⟨hM13, c', Nv, Nt, Na, rfl, hab, rfl, hmk⟩
        refine ⟨by (repeat (first | exact trivial | refine And.intro (pend_q rfl rfl rfl (qt_pev tok rfl)) ?_ | refine And.intro (pend_q rfl rfl rfl (ql tok rfl)) ?_ | refine And.intro (pend_q rfl rfl rfl (Qt.as (qt_pev tok rfl) hc1v.symm)) ?_)), ?_⟩
        refine pr_one 15 (by decide +kernel) (eff0 15 rfl (sst tok rfl rfl rfl rfl rfl) (by decide +kernel) (qs := _) rfl ?_)
        rintro _ _ _ ⟨rfl, rfl, rfl⟩
        refine ⟨by (repeat (first | exact trivial | refine And.intro (pend_q rfl rfl rfl (qt_pev tok rfl)) ?_ | refine And.intro (pend_q rfl rfl rfl (ql tok rfl)) ?_ | refine And.intro (pend_q rfl rfl rfl (Qt.as (qt_pev tok rfl) hc1v.symm)) ?_)), ?_⟩
        refine pr_end (by decide +kernel) (by decide +kernel) ?_
        exact run_mem (fun w h => h.perm (permBk _ Na Nt Nv _)) (run_sub' (hnext _ _ _ ⟨b14, c', Nv, Nt, Na, Mem.le_trans hMM hM13, hmk, hab.trans (backAb0 hl hc1e), rfl, rfl⟩) ⟨rfl, by rw [hl]; rfl, rfl, rfl, trivial⟩)
    · refine eff1 14 rfl (st_alloc tok rfl) (by decide +kernel) (qs := _) rfl rfl rfl rfl ?_
      rintro _ _ _ ⟨b14, rfl, rfl, rfl⟩
      refine ⟨by (repeat (first | exact trivial | refine And.intro (pend_q rfl rfl rfl (qt_pev tok rfl)) ?_ | refine And.intro (pend_q rfl rfl rfl (ql tok rfl)) ?_ | refine And.intro (pend_q rfl rfl rfl (Qt.as (qt_pev tok rfl) hc1v.symm)) ?_)), ?_⟩
      refine pr_one 7 (by decide +kernel) (eff1 7 rfl (St.frz1 (st_makeSlice (n := s.len) tok rfl rfl rfl rfl rfl rfl rfl (by omega) (by omega))) (by decide +kernel) (qs := _) rfl rfl rfl rfl ?_)
      rintro _ M7 _ ⟨hM7, rfl, b7, rfl, hb7⟩
      refine ⟨by (repeat (first | exact trivial | refine And.intro (pend_q rfl rfl rfl (qt_pev tok rfl)) ?_ | refine And.intro (pend_q rfl rfl rfl (ql tok rfl)) ?_ | refine And.intro (pend_q rfl rfl rfl (Qt.as (qt_pev tok rfl) hc1v.symm)) ?_)), ?_⟩
      have hMM := Mem.le_trans hMM hM7
      have hs := MbOk.le hM7 hs
      have ht := StOk.le hM7 ht
      have hb11 := hM7.blk _ _ hb11
      obtain ⟨c1, hc1e⟩ : ∃ c1 : Co, c1 = ⟨t, au, s, ⟨none, 0, 0, []⟩, ⟨some ⟨b7, 0, none⟩, s.len, s.len, List.replicate s.len 0⟩, ts, ⟨some ⟨b11, 0, none⟩, s.len, s.len, List.replicate s.len false⟩, 2, 0, -1⟩ := ⟨_, rfl⟩
      have hc1 : CoOk _ c1 := hc1e ▸ backCo0 hs ht hb7 hb11 hd htd t au
      have hc1v : (Value.agg ⟨coC c1⟩) = .agg ⟨coC ⟨t, au, s, ⟨none, 0, 0, []⟩, ⟨some ⟨b7, 0, none⟩, s.len, s.len, List.replicate s.len 0⟩, ts, ⟨some ⟨b11, 0, none⟩, s.len, s.len, List.replicate s.len false⟩, 2, 0, -1⟩⟩ := by rw [hc1e]
      refine pr_q 12 (by decide +kernel) rfl (Qt.as (qt_pev tok rfl) hc1v.symm) rfl rfl rfl ?_
      refine pr_one 13 (by decide +kernel) (eff1 13 rfl (st_callF rfl (fun _ => refOwn_ok _ _ c1 hc1)) (by decide +kernel) (qs := _) rfl rfl rfl rfl ?_)
      rintro _ M13 _ ⟨hM13, c', Nv, Nt, Na, rfl, hab, rfl, hmk⟩
      refine ⟨by (repeat (first | exact trivial | refine And.intro (pend_q rfl rfl rfl (qt_pev tok rfl)) ?_ | refine And.intro (pend_q rfl rfl rfl (ql tok rfl)) ?_ | refine And.intro (pend_q rfl rfl rfl (Qt.as (qt_pev tok rfl) hc1v.symm)) ?_)), ?_⟩
      refine pr_one 15 (by decide +kernel) (eff0 15 rfl (sst tok rfl rfl rfl rfl rfl) (by decide +kernel) (qs := _) rfl ?_)
      rintro _ _ _ ⟨rfl, rfl, rfl⟩
      refine ⟨by (repeat (first | exact trivial | refine And.intro (pend_q rfl rfl rfl (qt_pev tok rfl)) ?_ | refine And.intro (pend_q rfl rfl rfl (ql tok rfl)) ?_ | refine And.intro (pend_q rfl rfl rfl (Qt.as (qt_pev tok rfl) hc1v.symm)) ?_)), ?_⟩
      refine pr_end (by decide +kernel) (by decide +kernel) ?_
      exact run_mem (fun w h => h.perm (permBk _ Na Nt Nv _)) (run_sub' (hnext _ _ _ ⟨b14, c', Nv, Nt, Na, Mem.le_trans hMM hM13, hmk, hab.trans (backAb0 hl hc1e), rfl, rfl⟩) ⟨rfl, by rw [hl]; rfl, rfl, rfl, trivial⟩)
  · refine eff1 14 rfl (st_alloc tok rfl) (by decide +kernel) (qs := _) rfl rfl rfl rfl ?_
    rintro _ _ _ ⟨b14, rfl, rfl, rfl⟩
    refine ⟨by (repeat (first | exact trivial | refine And.intro (pend_q rfl rfl rfl (qt_pev tok rfl)) ?_ | refine And.intro (pend_q rfl rfl rfl (ql tok rfl)) ?_ | refine And.intro (pend_q rfl rfl rfl (Qt.as (qt_pev tok rfl) hc1v.symm)) ?_)), ?_⟩
    refine pr_two 7 11 (by decide +kernel) ?_ ?_
    · refine eff1 7 rfl (St.frz1 (st_makeSlice (n := s.len) tok rfl rfl rfl rfl rfl rfl rfl (by omega) (by omega))) (by decide +kernel) (qs := _) rfl rfl rfl rfl ?_
      rintro _ M7 _ ⟨hM7, rfl, b7, rfl, hb7⟩
      refine ⟨by (repeat (first | exact trivial | refine And.intro (pend_q rfl rfl rfl (qt_pev tok rfl)) ?_ | refine And.intro (pend_q rfl rfl rfl (ql tok rfl)) ?_ | refine And.intro (pend_q rfl rfl rfl (Qt.as (qt_pev tok rfl) hc1v.symm)) ?_)), ?_⟩
      have hMM := Mem.le_trans hMM hM7
      have hs := MbOk.le hM7 hs
      have ht := StOk.le hM7 ht
      refine pr_one 11 (by decide +kernel) (eff1 11 rfl (St.frz1 (st_makeSlice (n := s.len) tok rfl rfl rfl rfl rfl rfl rfl (by omega) (by omega))) (by decide +kernel) (qs := _) rfl rfl rfl rfl ?_)
      rintro _ M11 _ ⟨hM11, rfl, b11, rfl, hb11⟩
      refine ⟨by (repeat (first | exact trivial | refine And.intro (pend_q rfl rfl rfl (qt_pev tok rfl)) ?_ | refine And.intro (pend_q rfl rfl rfl (ql tok rfl)) ?_ | refine And.intro (pend_q rfl rfl rfl (Qt.as (qt_pev tok rfl) hc1v.symm)) ?_)), ?_⟩
      have hMM := Mem.le_trans hMM hM11
      have hs := MbOk.le hM11 hs
      have ht := StOk.le hM11 ht
      have hb7 := hM11.blk _ _ hb7
      obtain ⟨c1, hc1e⟩ : ∃ c1 : Co, c1 = ⟨t, au, s, ⟨none, 0, 0, []⟩, ⟨some ⟨b7, 0, none⟩, s.len, s.len, List.replicate s.len 0⟩, ts, ⟨some ⟨b11, 0, none⟩, s.len, s.len, List.replicate s.len false⟩, 2, 0, -1⟩ := ⟨_, rfl⟩
      have hc1 : CoOk _ c1 := hc1e ▸ backCo0 hs ht hb7 hb11 hd htd t au
      have hc1v : (Value.agg ⟨coC c1⟩) = .agg ⟨coC ⟨t, au, s, ⟨none, 0, 0, []⟩, ⟨some ⟨b7, 0, none⟩, s.len, s.len, List.replicate s.len 0⟩, ts, ⟨some ⟨b11, 0, none⟩, s.len, s.len, List.replicate s.len false⟩, 2, 0, -1⟩⟩ := by rw [hc1e]
      refine pr_q 12 (by decide +kernel) rfl (Qt.as (qt_pev tok rfl) hc1v.symm) rfl rfl rfl ?_
      refine pr_one 13 (by decide +kernel) (eff1 13 rfl (st_callF rfl (fun _ => refOwn_ok _ _ c1 hc1)) (by decide +kernel) (qs := _) rfl rfl rfl rfl ?_)
      rintro _ M13 _ ⟨hM13, c', Nv, Nt, Na, rfl, hab, rfl, hmk⟩
      refine ⟨by (repeat (first | exact trivial | refine And.intro (pend_q rfl rfl rfl (qt_pev tok rfl)) ?_ | refine And.intro (pend_q rfl rfl rfl (ql tok rfl)) ?_ | refine And.intro (pend_q rfl rfl rfl (Qt.as (qt_pev tok rfl) hc1v.symm)) ?_)), ?_⟩
      refine pr_one 15 (by decide +kernel) (eff0 15 rfl (sst tok rfl rfl rfl rfl rfl) (by decide +kernel) (qs := _) rfl ?_)
      rintro _ _ _ ⟨rfl, rfl, rfl⟩
      refine ⟨by (repeat (first | exact trivial | refine And.intro (pend_q rfl rfl rfl (qt_pev tok rfl)) ?_ | refine And.intro (pend_q rfl rfl rfl (ql tok rfl)) ?_ | refine And.intro (pend_q rfl rfl rfl (Qt.as (qt_pev tok rfl) hc1v.symm)) ?_)), ?_⟩
      refine pr_end (by decide +kernel) (by decide +kernel) ?_
      exact run_mem (fun w h => h.perm (permBk _ Na Nt Nv _)) (run_sub' (hnext _ _ _ ⟨b14, c', Nv, Nt, Na, Mem.le_trans hMM hM13, hmk, hab.trans (backAb0 hl hc1e), rfl, rfl⟩) ⟨rfl, by rw [hl]; rfl, rfl, rfl, trivial⟩)
    · refine eff1 11 rfl (St.frz1 (st_makeSlice (n := s.len) tok rfl rfl rfl rfl rfl rfl rfl (by omega) (by omega))) (by decide +kernel) (qs := _) rfl rfl rfl rfl ?_
      rintro _ M11 _ ⟨hM11, rfl, b11, rfl, hb11⟩
      refine ⟨by (repeat (first | exact trivial | refine And.intro (pend_q rfl rfl rfl (qt_pev tok rfl)) ?_ | refine And.intro (pend_q rfl rfl rfl (ql tok rfl)) ?_ | refine And.intro (pend_q rfl rfl rfl (Qt.as (qt_pev tok rfl) hc1v.symm)) ?_)), ?_⟩
      have hMM := Mem.le_trans hMM hM11
      have hs := MbOk.le hM11 hs
      have ht := StOk.le hM11 ht
      refine pr_one 7 (by decide +kernel) (eff1 7 rfl (St.frz1 (st_makeSlice (n := s.len) tok rfl rfl rfl rfl rfl rfl rfl (by omega) (by omega))) (by decide +kernel) (qs := _) rfl rfl rfl rfl ?_)
      rintro _ M7 _ ⟨hM7, rfl, b7, rfl, hb7⟩
      refine ⟨by (repeat (first | exact trivial | refine And.intro (pend_q rfl rfl rfl (qt_pev tok rfl)) ?_ | refine And.intro (pend_q rfl rfl rfl (ql tok rfl)) ?_ | refine And.intro (pend_q rfl rfl rfl (Qt.as (qt_pev tok rfl) hc1v.symm)) ?_)), ?_⟩
      have hMM := Mem.le_trans hMM hM7
      have hs := MbOk.le hM7 hs
      have ht := StOk.le hM7 ht
      have hb11 := hM7.blk _ _ hb11
      obtain ⟨c1, hc1e⟩ : ∃ c1 : Co, c1 = ⟨t, au, s, ⟨none, 0, 0, []⟩, ⟨some ⟨b7, 0, none⟩, s.len, s.len, List.replicate s.len 0⟩, ts, ⟨some ⟨b11, 0, none⟩, s.len, s.len, List.replicate s.len false⟩, 2, 0, -1⟩ := ⟨_, rfl⟩
      have hc1 : CoOk _ c1 := hc1e ▸ backCo0 hs ht hb7 hb11 hd htd t au
      have hc1v : (Value.agg ⟨coC c1⟩) = .agg ⟨coC ⟨t, au, s, ⟨none, 0, 0, []⟩, ⟨some ⟨b7, 0, none⟩, s.len, s.len, List.replicate s.len 0⟩, ts, ⟨some ⟨b11, 0, none⟩, s.len, s.len, List.replicate s.len false⟩, 2, 0, -1⟩⟩ := by rw [hc1e]
      refine pr_q 12 (by decide +kernel) rfl (Qt.as (qt_pev tok rfl) hc1v.symm) rfl rfl rfl ?_
      refine pr_one 13 (by decide +kernel) (eff1 13 rfl (st_callF rfl (fun _ => refOwn_ok _ _ c1 hc1)) (by decide +kernel) (qs := _) rfl rfl rfl rfl ?_)
      rintro _ M13 _ ⟨hM13, c', Nv, Nt, Na, rfl, hab, rfl, hmk⟩
      refine ⟨by (repeat (first | exact trivial | refine And.intro (pend_q rfl rfl rfl (qt_pev tok rfl)) ?_ | refine And.intro (pend_q rfl rfl rfl (ql tok rfl)) ?_ | refine And.intro (pend_q rfl rfl rfl (Qt.as (qt_pev tok rfl) hc1v.symm)) ?_)), ?_⟩
      refine pr_one 15 (by decide +kernel) (eff0 15 rfl (sst tok rfl rfl rfl rfl rfl) (by decide +kernel) (qs := _) rfl ?_)
      rintro _ _ _ ⟨rfl, rfl, rfl⟩
      refine ⟨by (repeat (first | exact trivial | refine And.intro (pend_q rfl rfl rfl (qt_pev tok rfl)) ?_ | refine And.intro (pend_q rfl rfl rfl (ql tok rfl)) ?_ | refine And.intro (pend_q rfl rfl rfl (Qt.as (qt_pev tok rfl) hc1v.symm)) ?_)), ?_⟩
      refine pr_end (by decide +kernel) (by decide +kernel) ?_
      exact run_mem (fun w h => h.perm (permBk _ Na Nt Nv _)) (run_sub' (hnext _ _ _ ⟨b14, c', Nv, Nt, Na, Mem.le_trans hMM hM13, hmk, hab.trans (backAb0 hl hc1e), rfl, rfl⟩) ⟨rfl, by rw [hl]; rfl, rfl, rfl, trivial⟩)
end Go.Proofs.Ytpmepmdngdkafaa
namespace Go.Proofs.Ytpmepmdngdkafaa
open Go.Chi

/-! ### what is wanted, who is due -/
def behindR (now was n : Int) : Bool := decide (now ≥ was) && decide (IntKind.i64.wrap (now - was) ≥ (if n > 0 then n else 0))
theorem behind_ok (M : Mem) (L : HL) (now was n : Int) : TrQ Try.prog 55 [.int .i64 now, .int .i64 was, .int .i64 n] M L (.bool (behindR now was n)) := by
  refine Tr.intro 18 Try.func55 rfl rfl Try.call55 rfl ?_
  intro C hC hro
  repeat (first | with_reducible (first | refine run_seq ?_ | refine run_region ?_ | refine runL_nil ?_ | refine run_skip ?_ | refine run_block ?_ | refine run_inBlock ?_) | refine run_exit rfl ?_ | refine runL_q (qt_pev tok rfl) rfl rfl rfl ?_ | refine runL_g rfl rfl (qt_pev tok rfl) rfl rfl rfl rfl rfl ?_ | refine runL_q (ql tok rfl) rfl rfl rfl ?_ | refine runL_g rfl rfl (ql tok rfl) rfl rfl rfl rfl rfl ?_ | (refine runL_op0 (sst tok rfl rfl rfl rfl rfl) ?_; rintro _ _ _ ⟨rfl, rfl, rfl⟩) | (refine runL_op (st_box rfl) rfl rfl rfl ?_; rintro _ _ _ ⟨_, rfl, rfl, rfl⟩) | (refine runL_op (st_alloc tok rfl) rfl rfl rfl ?_; rintro _ _ _ ⟨_, rfl, rfl, rfl⟩) | (refine runL_op (st_buildSlice tok rfl rfl rfl rfl rfl rfl rfl) rfl rfl rfl ?_; rintro _ _ _ ⟨_, rfl, rfl, rfl⟩) | refine runL_g rfl rfl (qt_max2 rfl rfl) rfl rfl rfl rfl rfl ?_)
  exact run_ret hC (rs := [.tmp 6]) rfl (resT rfl resN) (fun _ h => h) ⟨rfl, rfl, rfl⟩
def wantsR (a : Ca) (now timeout : Int) : Int :=
  if ¬ (mayA a = true ∧ (a.state != 1) = false) then 0 else if hasR a.votes 2 = true then 2 else if hasR a.votes 0 = false then 1 else if behindR now a.since timeout = true then 2 else 0
set_option maxHeartbeats 4000000 in
theorem wants_ok (M : Mem) (L : HL) (c : Co) (h : CoOk M c) (now timeout : Int) : TrQ Try.prog 30 [.agg ⟨coC c⟩, .int .i64 now, .int .i64 timeout] M L (.int .u8 (wantsR c.ab now timeout)) := by
  have hE := coE_ab h.lens
  refine Tr.intro 27 Try.func30 rfl rfl Try.call30 rfl ?_
  intro C hC hro
  repeat (first | with_reducible (first | refine run_seq ?_ | refine run_region ?_ | refine runL_nil ?_ | refine run_skip ?_ | refine run_block ?_ | refine run_inBlock ?_) | refine run_exit rfl ?_ | refine runL_q (qt_pev tok rfl) rfl rfl rfl ?_ | refine runL_g rfl rfl (qt_pev tok rfl) rfl rfl rfl rfl rfl ?_ | refine runL_q (ql tok rfl) rfl rfl rfl ?_ | refine runL_g rfl rfl (ql tok rfl) rfl rfl rfl rfl rfl ?_ | (refine runL_op0 (sst tok rfl rfl rfl rfl rfl) ?_; rintro _ _ _ ⟨rfl, rfl, rfl⟩) | (refine runL_op (st_box rfl) rfl rfl rfl ?_; rintro _ _ _ ⟨_, rfl, rfl, rfl⟩) | (refine runL_op (st_alloc tok rfl) rfl rfl rfl ?_; rintro _ _ _ ⟨_, rfl, rfl, rfl⟩) | (refine runL_op (st_buildSlice tok rfl rfl rfl rfl rfl rfl rfl) rfl rfl rfl ?_; rintro _ _ _ ⟨_, rfl, rfl, rfl⟩) | refine runL_q (qt_callF rfl (fun _ => coCheck_ok _ _ c h)) rfl rfl rfl ?_)
  by_cases hm : mayA c.ab = true
  · rw [if_pos hm] at hE
    refine run_cond rfl (fun h1 => by rw [hE] at h1; cases h1) (fun _ => ?_)
    repeat (first | with_reducible (first | refine run_seq ?_ | refine run_region ?_ | refine runL_nil ?_ | refine run_skip ?_ | refine run_block ?_ | refine run_inBlock ?_) | refine run_exit rfl ?_ | refine runL_q (qt_pev tok rfl) rfl rfl rfl ?_ | refine runL_g rfl rfl (qt_pev tok rfl) rfl rfl rfl rfl rfl ?_ | refine runL_q (ql tok rfl) rfl rfl rfl ?_ | refine runL_g rfl rfl (ql tok rfl) rfl rfl rfl rfl rfl ?_ | (refine runL_op0 (sst tok rfl rfl rfl rfl rfl) ?_; rintro _ _ _ ⟨rfl, rfl, rfl⟩) | (refine runL_op (st_box rfl) rfl rfl rfl ?_; rintro _ _ _ ⟨_, rfl, rfl, rfl⟩) | (refine runL_op (st_alloc tok rfl) rfl rfl rfl ?_; rintro _ _ _ ⟨_, rfl, rfl, rfl⟩) | (refine runL_op (st_buildSlice tok rfl rfl rfl rfl rfl rfl rfl) rfl rfl rfl ?_; rintro _ _ _ ⟨_, rfl, rfl, rfl⟩))
    refine run_cond rfl (fun h1 => ?_) (fun h1 => ?_)
    · rw [wantsR, if_pos (fun e => by rw [show (c.ab.state != 1) = true from h1] at e; cases e.2)] at hC
      repeat (first | with_reducible (first | refine run_seq ?_ | refine run_region ?_ | refine runL_nil ?_ | refine run_skip ?_ | refine run_block ?_ | refine run_inBlock ?_) | refine run_exit rfl ?_ | refine runL_q (qt_pev tok rfl) rfl rfl rfl ?_ | refine runL_g rfl rfl (qt_pev tok rfl) rfl rfl rfl rfl rfl ?_ | refine runL_q (ql tok rfl) rfl rfl rfl ?_ | refine runL_g rfl rfl (ql tok rfl) rfl rfl rfl rfl rfl ?_ | (refine runL_op0 (sst tok rfl rfl rfl rfl rfl) ?_; rintro _ _ _ ⟨rfl, rfl, rfl⟩) | (refine runL_op (st_box rfl) rfl rfl rfl ?_; rintro _ _ _ ⟨_, rfl, rfl, rfl⟩) | (refine runL_op (st_alloc tok rfl) rfl rfl rfl ?_; rintro _ _ _ ⟨_, rfl, rfl, rfl⟩) | (refine runL_op (st_buildSlice tok rfl rfl rfl rfl rfl rfl rfl) rfl rfl rfl ?_; rintro _ _ _ ⟨_, rfl, rfl, rfl⟩))
      exact run_ret hC (rs := [.tmp 6]) rfl (resT rfl resN) (fun _ h => h.drop) ⟨rfl, rfl, rfl⟩
    rw [wantsR, if_neg (fun e => e ⟨hm, h1⟩)] at hC
    repeat (first | with_reducible (first | refine run_seq ?_ | refine run_region ?_ | refine runL_nil ?_ | refine run_skip ?_ | refine run_block ?_ | refine run_inBlock ?_) | refine run_exit rfl ?_ | refine runL_q (qt_pev tok rfl) rfl rfl rfl ?_ | refine runL_g rfl rfl (qt_pev tok rfl) rfl rfl rfl rfl rfl ?_ | refine runL_q (ql tok rfl) rfl rfl rfl ?_ | refine runL_g rfl rfl (ql tok rfl) rfl rfl rfl rfl rfl ?_ | (refine runL_op0 (sst tok rfl rfl rfl rfl rfl) ?_; rintro _ _ _ ⟨rfl, rfl, rfl⟩) | (refine runL_op (st_box rfl) rfl rfl rfl ?_; rintro _ _ _ ⟨_, rfl, rfl, rfl⟩) | (refine runL_op (st_alloc tok rfl) rfl rfl rfl ?_; rintro _ _ _ ⟨_, rfl, rfl, rfl⟩) | (refine runL_op (st_buildSlice tok rfl rfl rfl rfl rfl rfl rfl) rfl rfl rfl ?_; rintro _ _ _ ⟨_, rfl, rfl, rfl⟩) | refine runL_q (qt_callF rfl (fun _ => has_ok _ _ c h.votes _)) rfl rfl rfl ?_)
    refine run_cond rfl (fun h2 => ?_) (fun h2 => ?_)
    · rw [if_pos (show hasR c.ab.votes 2 = true from h2)] at hC
      repeat (first | with_reducible (first | refine run_seq ?_ | refine run_region ?_ | refine runL_nil ?_ | refine run_skip ?_ | refine run_block ?_ | refine run_inBlock ?_) | refine run_exit rfl ?_ | refine runL_q (qt_pev tok rfl) rfl rfl rfl ?_ | refine runL_g rfl rfl (qt_pev tok rfl) rfl rfl rfl rfl rfl ?_ | refine runL_q (ql tok rfl) rfl rfl rfl ?_ | refine runL_g rfl rfl (ql tok rfl) rfl rfl rfl rfl rfl ?_ | (refine runL_op0 (sst tok rfl rfl rfl rfl rfl) ?_; rintro _ _ _ ⟨rfl, rfl, rfl⟩) | (refine runL_op (st_box rfl) rfl rfl rfl ?_; rintro _ _ _ ⟨_, rfl, rfl, rfl⟩) | (refine runL_op (st_alloc tok rfl) rfl rfl rfl ?_; rintro _ _ _ ⟨_, rfl, rfl, rfl⟩) | (refine runL_op (st_buildSlice tok rfl rfl rfl rfl rfl rfl rfl) rfl rfl rfl ?_; rintro _ _ _ ⟨_, rfl, rfl, rfl⟩))
      exact run_ret hC (rs := [.tmp 6]) rfl (resT rfl resN) (fun _ h => h.drop) ⟨rfl, rfl, rfl⟩
    rw [if_neg (by rw [show hasR c.ab.votes 2 = false from h2]; simp)] at hC
    repeat (first | with_reducible (first | refine run_seq ?_ | refine run_region ?_ | refine runL_nil ?_ | refine run_skip ?_ | refine run_block ?_ | refine run_inBlock ?_) | refine run_exit rfl ?_ | refine runL_q (qt_pev tok rfl) rfl rfl rfl ?_ | refine runL_g rfl rfl (qt_pev tok rfl) rfl rfl rfl rfl rfl ?_ | refine runL_q (ql tok rfl) rfl rfl rfl ?_ | refine runL_g rfl rfl (ql tok rfl) rfl rfl rfl rfl rfl ?_ | (refine runL_op0 (sst tok rfl rfl rfl rfl rfl) ?_; rintro _ _ _ ⟨rfl, rfl, rfl⟩) | (refine runL_op (st_box rfl) rfl rfl rfl ?_; rintro _ _ _ ⟨_, rfl, rfl, rfl⟩) | (refine runL_op (st_alloc tok rfl) rfl rfl rfl ?_; rintro _ _ _ ⟨_, rfl, rfl, rfl⟩) | (refine runL_op (st_buildSlice tok rfl rfl rfl rfl rfl rfl rfl) rfl rfl rfl ?_; rintro _ _ _ ⟨_, rfl, rfl, rfl⟩) | refine runL_q (qt_callF rfl (fun _ => has_ok _ _ c h.votes _)) rfl rfl rfl ?_)
    refine run_cond rfl (fun h3 => ?_) (fun h3 => ?_)
    · rw [if_pos (show hasR c.ab.votes 0 = false from (by simpa using h3 : hasR c.votes.xs 0 = false))] at hC
      repeat (first | with_reducible (first | refine run_seq ?_ | refine run_region ?_ | refine runL_nil ?_ | refine run_skip ?_ | refine run_block ?_ | refine run_inBlock ?_) | refine run_exit rfl ?_ | refine runL_q (qt_pev tok rfl) rfl rfl rfl ?_ | refine runL_g rfl rfl (qt_pev tok rfl) rfl rfl rfl rfl rfl ?_ | refine runL_q (ql tok rfl) rfl rfl rfl ?_ | refine runL_g rfl rfl (ql tok rfl) rfl rfl rfl rfl rfl ?_ | (refine runL_op0 (sst tok rfl rfl rfl rfl rfl) ?_; rintro _ _ _ ⟨rfl, rfl, rfl⟩) | (refine runL_op (st_box rfl) rfl rfl rfl ?_; rintro _ _ _ ⟨_, rfl, rfl, rfl⟩) | (refine runL_op (st_alloc tok rfl) rfl rfl rfl ?_; rintro _ _ _ ⟨_, rfl, rfl, rfl⟩) | (refine runL_op (st_buildSlice tok rfl rfl rfl rfl rfl rfl rfl) rfl rfl rfl ?_; rintro _ _ _ ⟨_, rfl, rfl, rfl⟩))
      exact run_ret hC (rs := [.tmp 6]) rfl (resT rfl resN) (fun _ h => h.drop) ⟨rfl, rfl, rfl⟩
    rw [if_neg (by rw [show hasR c.ab.votes 0 = true from (by simpa using h3 : hasR c.votes.xs 0 = true)]; simp)] at hC
    repeat (first | with_reducible (first | refine run_seq ?_ | refine run_region ?_ | refine runL_nil ?_ | refine run_skip ?_ | refine run_block ?_ | refine run_inBlock ?_) | refine run_exit rfl ?_ | refine runL_q (qt_pev tok rfl) rfl rfl rfl ?_ | refine runL_g rfl rfl (qt_pev tok rfl) rfl rfl rfl rfl rfl ?_ | refine runL_q (ql tok rfl) rfl rfl rfl ?_ | refine runL_g rfl rfl (ql tok rfl) rfl rfl rfl rfl rfl ?_ | (refine runL_op0 (sst tok rfl rfl rfl rfl rfl) ?_; rintro _ _ _ ⟨rfl, rfl, rfl⟩) | (refine runL_op (st_box rfl) rfl rfl rfl ?_; rintro _ _ _ ⟨_, rfl, rfl, rfl⟩) | (refine runL_op (st_alloc tok rfl) rfl rfl rfl ?_; rintro _ _ _ ⟨_, rfl, rfl, rfl⟩) | (refine runL_op (st_buildSlice tok rfl rfl rfl rfl rfl rfl rfl) rfl rfl rfl ?_; rintro _ _ _ ⟨_, rfl, rfl, rfl⟩) | refine runL_q (qt_callF rfl (fun _ => behind_ok _ _ _ _ _)) rfl rfl rfl ?_)
    refine run_cond rfl (fun h4 => ?_) (fun h4 => ?_)
    · rw [if_pos (show behindR now c.ab.since timeout = true from h4)] at hC
      repeat (first | with_reducible (first | refine run_seq ?_ | refine run_region ?_ | refine runL_nil ?_ | refine run_skip ?_ | refine run_block ?_ | refine run_inBlock ?_) | refine run_exit rfl ?_ | refine runL_q (qt_pev tok rfl) rfl rfl rfl ?_ | refine runL_g rfl rfl (qt_pev tok rfl) rfl rfl rfl rfl rfl ?_ | refine runL_q (ql tok rfl) rfl rfl rfl ?_ | refine runL_g rfl rfl (ql tok rfl) rfl rfl rfl rfl rfl ?_ | (refine runL_op0 (sst tok rfl rfl rfl rfl rfl) ?_; rintro _ _ _ ⟨rfl, rfl, rfl⟩) | (refine runL_op (st_box rfl) rfl rfl rfl ?_; rintro _ _ _ ⟨_, rfl, rfl, rfl⟩) | (refine runL_op (st_alloc tok rfl) rfl rfl rfl ?_; rintro _ _ _ ⟨_, rfl, rfl, rfl⟩) | (refine runL_op (st_buildSlice tok rfl rfl rfl rfl rfl rfl rfl) rfl rfl rfl ?_; rintro _ _ _ ⟨_, rfl, rfl, rfl⟩))
      exact run_ret hC (rs := [.tmp 6]) rfl (resT rfl resN) (fun _ h => h.drop) ⟨rfl, rfl, rfl⟩
    · rw [if_neg (by rw [show behindR now c.ab.since timeout = false from h4]; simp)] at hC
      repeat (first | with_reducible (first | refine run_seq ?_ | refine run_region ?_ | refine runL_nil ?_ | refine run_skip ?_ | refine run_block ?_ | refine run_inBlock ?_) | refine run_exit rfl ?_ | refine runL_q (qt_pev tok rfl) rfl rfl rfl ?_ | refine runL_g rfl rfl (qt_pev tok rfl) rfl rfl rfl rfl rfl ?_ | refine runL_q (ql tok rfl) rfl rfl rfl ?_ | refine runL_g rfl rfl (ql tok rfl) rfl rfl rfl rfl rfl ?_ | (refine runL_op0 (sst tok rfl rfl rfl rfl rfl) ?_; rintro _ _ _ ⟨rfl, rfl, rfl⟩) | (refine runL_op (st_box rfl) rfl rfl rfl ?_; rintro _ _ _ ⟨_, rfl, rfl, rfl⟩) | (refine runL_op (st_alloc tok rfl) rfl rfl rfl ?_; rintro _ _ _ ⟨_, rfl, rfl, rfl⟩) | (refine runL_op (st_buildSlice tok rfl rfl rfl rfl rfl rfl rfl) rfl rfl rfl ?_; rintro _ _ _ ⟨_, rfl, rfl, rfl⟩))
      exact run_ret hC (rs := [.tmp 6]) rfl (resT rfl resN) (fun _ h => h.drop) ⟨rfl, rfl, rfl⟩
  · rw [if_neg hm] at hE
    rw [wantsR, if_pos (fun e => hm e.1)] at hC
    refine run_cond rfl (fun _ => ?_) (fun h1 => by rw [hE] at h1; cases h1)
    repeat (first | with_reducible (first | refine run_seq ?_ | refine run_region ?_ | refine runL_nil ?_ | refine run_skip ?_ | refine run_block ?_ | refine run_inBlock ?_) | refine run_exit rfl ?_ | refine runL_q (qt_pev tok rfl) rfl rfl rfl ?_ | refine runL_g rfl rfl (qt_pev tok rfl) rfl rfl rfl rfl rfl ?_ | refine runL_q (ql tok rfl) rfl rfl rfl ?_ | refine runL_g rfl rfl (ql tok rfl) rfl rfl rfl rfl rfl ?_ | (refine runL_op0 (sst tok rfl rfl rfl rfl rfl) ?_; rintro _ _ _ ⟨rfl, rfl, rfl⟩) | (refine runL_op (st_box rfl) rfl rfl rfl ?_; rintro _ _ _ ⟨_, rfl, rfl, rfl⟩) | (refine runL_op (st_alloc tok rfl) rfl rfl rfl ?_; rintro _ _ _ ⟨_, rfl, rfl, rfl⟩) | (refine runL_op (st_buildSlice tok rfl rfl rfl rfl rfl rfl rfl) rfl rfl rfl ?_; rintro _ _ _ ⟨_, rfl, rfl, rfl⟩))
    refine run_cond rfl (fun _ => ?_) (fun h1 => by rw [hE] at h1; cases h1)
    repeat (first | with_reducible (first | refine run_seq ?_ | refine run_region ?_ | refine runL_nil ?_ | refine run_skip ?_ | refine run_block ?_ | refine run_inBlock ?_) | refine run_exit rfl ?_ | refine runL_q (qt_pev tok rfl) rfl rfl rfl ?_ | refine runL_g rfl rfl (qt_pev tok rfl) rfl rfl rfl rfl rfl ?_ | refine runL_q (ql tok rfl) rfl rfl rfl ?_ | refine runL_g rfl rfl (ql tok rfl) rfl rfl rfl rfl rfl ?_ | (refine runL_op0 (sst tok rfl rfl rfl rfl rfl) ?_; rintro _ _ _ ⟨rfl, rfl, rfl⟩) | (refine runL_op (st_box rfl) rfl rfl rfl ?_; rintro _ _ _ ⟨_, rfl, rfl, rfl⟩) | (refine runL_op (st_alloc tok rfl) rfl rfl rfl ?_; rintro _ _ _ ⟨_, rfl, rfl, rfl⟩) | (refine runL_op (st_buildSlice tok rfl rfl rfl rfl rfl rfl rfl) rfl rfl rfl ?_; rintro _ _ _ ⟨_, rfl, rfl, rfl⟩))
    exact run_ret hC (rs := [.tmp 6]) rfl (resT rfl resN) (fun _ h => h.drop) ⟨rfl, rfl, rfl⟩

/-! ### the organisations that are due -/
structure SInt where
  a : Option Addr
  len : Nat
  cap : Nat
  xs : List Int
def SInt.v (s : SInt) : Value := .slice s.a s.len s.cap
def inC (x : Int) : List Value := [.int .i64 x]
def SInt.Ok (M : Mem) (s : SInt) : Prop := SlM M 1 s.a s.len (s.xs.map inC)
theorem inC_all (xs : List Int) : ∀ l ∈ xs.map inC, l.length = 1 := by intro l hl; obtain ⟨p, _, rfl⟩ := List.mem_map.1 hl; rfl
theorem inC_one (r : Int) : ∀ u ∈ inC r, u.oneCell' = true := by intro u hu; simp [inC] at hu; subst hu; rfl
def dueB (c : Co) (m : On) : Bool := ((c.state == 1) && (m.vote == 0)) || ((c.state != 1) && !m.ack)
def dueR (c : Co) (now retry : Int) : List Int := if mayA c.ab = false ∨ (decide (c.sent ≥ 0) && !behindR now c.sent retry) = true then [] else ((ons c).filter (dueB c)).map On.org
set_option maxRecDepth 10000 in
set_option maxHeartbeats 8000000 in
theorem due_ok (M : Mem) (L : HL) (c : Co) (h : CoOk M c) (now retry : Int) : Tr Try.prog 32 [.agg ⟨coC c⟩, .int .i64 now, .int .i64 retry] M L (fun v M' L' => M.le M' ∧ L = L' ∧ ∃ s : SInt, v = s.v ∧ s.Ok M' ∧ s.xs = dueR c now retry ∧ s.len = s.xs.length ∧ s.len ≤ c.mem.len) := by
  have hE := coE_ab h.lens
  have h6 := h.mem.2
  refine Tr.intro 52 Try.func32 rfl rfl Try.call32 rfl ?_
  intro C hC hro
  repeat (first | with_reducible (first | refine run_seq ?_ | refine run_region ?_ | refine runL_nil ?_ | refine run_skip ?_ | refine run_block ?_ | refine run_inBlock ?_) | refine run_exit rfl ?_ | refine runL_q (qt_pev tok rfl) rfl rfl rfl ?_ | refine runL_g rfl rfl (qt_pev tok rfl) rfl rfl rfl rfl rfl ?_ | refine runL_q (ql tok rfl) rfl rfl rfl ?_ | refine runL_g rfl rfl (ql tok rfl) rfl rfl rfl rfl rfl ?_ | (refine runL_op0 (sst tok rfl rfl rfl rfl rfl) ?_; rintro _ _ _ ⟨rfl, rfl, rfl⟩) | (refine runL_op (st_box rfl) rfl rfl rfl ?_; rintro _ _ _ ⟨_, rfl, rfl, rfl⟩) | (refine runL_op (st_alloc tok rfl) rfl rfl rfl ?_; rintro _ _ _ ⟨_, rfl, rfl, rfl⟩) | (refine runL_op (st_buildSlice tok rfl rfl rfl rfl rfl rfl rfl) rfl rfl rfl ?_; rintro _ _ _ ⟨_, rfl, rfl, rfl⟩) | refine runL_q (qt_callF rfl (fun _ => coCheck_ok _ _ c h)) rfl rfl rfl ?_ | refine runL_g rfl rfl (qt_callF rfl (fun _ => behind_ok _ _ _ _ _)) rfl rfl rfl rfl rfl ?_)
  rename_i b3 b6
  refine run_cond rfl (fun h1 => ?_) (fun h1 => ?_)
  · have h2 : mayA c.ab = false ∨ (decide (c.sent ≥ 0) && !behindR now c.sent retry) = true := by
      rw [hE] at h1
      cases hm : mayA c.ab
      · exact .inl rfl
      · rw [hm] at h1
        exact .inr (by simpa using h1)
    have h3 : dueR c now retry = [] := if_pos h2
    repeat (first | with_reducible (first | refine run_seq ?_ | refine run_region ?_ | refine runL_nil ?_ | refine run_skip ?_ | refine run_block ?_ | refine run_inBlock ?_) | refine run_exit rfl ?_ | refine runL_q (qt_pev tok rfl) rfl rfl rfl ?_ | refine runL_g rfl rfl (qt_pev tok rfl) rfl rfl rfl rfl rfl ?_ | refine runL_q (ql tok rfl) rfl rfl rfl ?_ | refine runL_g rfl rfl (ql tok rfl) rfl rfl rfl rfl rfl ?_ | (refine runL_op0 (sst tok rfl rfl rfl rfl rfl) ?_; rintro _ _ _ ⟨rfl, rfl, rfl⟩) | (refine runL_op (st_box rfl) rfl rfl rfl ?_; rintro _ _ _ ⟨_, rfl, rfl, rfl⟩) | (refine runL_op (st_alloc tok rfl) rfl rfl rfl ?_; rintro _ _ _ ⟨_, rfl, rfl, rfl⟩) | (refine runL_op (st_buildSlice tok rfl rfl rfl rfl rfl rfl rfl) rfl rfl rfl ?_; rintro _ _ _ ⟨_, rfl, rfl, rfl⟩))
    exact run_ret hC (rs := [.cell 6 58]) rfl (rl tok rfl resN) (fun _ h => h.drop.drop) ⟨Mem.le_refl _, rfl, ⟨none, 0, 0, []⟩, rfl, SlM.nil _ _ _, h3.symm, rfl, Nat.zero_le _⟩
  have hm : mayA c.ab = true := by
    rw [hE] at h1
    cases hm : mayA c.ab
    · rw [hm] at h1
      simp at h1
    · rfl
  have h2 : dueR c now retry = ((ons c).filter (dueB c)).map On.org := by
    rw [hE, hm] at h1
    refine if_neg ?_
    rintro (e | e)
    · rw [hm] at e; cases e
    · have h5 : (decide (c.sent ≥ 0) && !behindR now c.sent retry) = false := by simpa using h1
      rw [h5] at e; cases e
  have hr := mayA_rows h hm
  rw [h2] at hC
  repeat (first | with_reducible (first | refine run_seq ?_ | refine run_region ?_ | refine runL_nil ?_ | refine run_skip ?_ | refine run_block ?_ | refine run_inBlock ?_) | refine run_exit rfl ?_ | refine runL_q (qt_pev tok rfl) rfl rfl rfl ?_ | refine runL_g rfl rfl (qt_pev tok rfl) rfl rfl rfl rfl rfl ?_ | refine runL_q (ql tok rfl) rfl rfl rfl ?_ | refine runL_g rfl rfl (ql tok rfl) rfl rfl rfl rfl rfl ?_ | (refine runL_op0 (sst tok rfl rfl rfl rfl rfl) ?_; rintro _ _ _ ⟨rfl, rfl, rfl⟩) | (refine runL_op (st_box rfl) rfl rfl rfl ?_; rintro _ _ _ ⟨_, rfl, rfl, rfl⟩) | (refine runL_op (st_alloc tok rfl) rfl rfl rfl ?_; rintro _ _ _ ⟨_, rfl, rfl, rfl⟩) | (refine runL_op (st_buildSlice tok rfl rfl rfl rfl rfl rfl rfl) rfl rfl rfl ?_; rintro _ _ _ ⟨_, rfl, rfl, rfl⟩) | (refine runL_op (st_callF rfl (fun _ => members_ok _ _ c h hr)) rfl rfl rfl ?_; rintro _ M1 _ ⟨hM1, rfl, caps, rfl, hit⟩))
  refine run_rangeM hro rfl hit rfl (by intro x hx; obtain ⟨p, _, rfl⟩ := List.mem_map.1 hx; rfl)
    (fun k M' L' => M1.le M' ∧ ∃ v N l, l = (((ons c).take k).filter (dueB c)).map On.org ∧ l.length ≤ k ∧ OS 3 1 v l.length (l.map inC).flatten N ∧ L' = N ++ ((b6, .cells ⟨[v]⟩ 58 (0, 0)) :: (b3, .cells ⟨coC c⟩ 29 (0, 0)) :: L))
    (fun _ _ _ _ => False)
    (fun k M2 M3 L2 h ⟨h1, h2⟩ => ⟨Mem.le_trans h1 h, h2⟩) ?_ ?_ ?_ ?_
  · exact ⟨Mem.le_refl _, .slice none 0 0, [], [], rfl, Nat.le_refl _, OS.nil _ _, rfl⟩
  · rintro j x M2 _ R R' C' hx hM2 ⟨hM2', v, N, l, hl, hll, hO, rfl⟩ B
    obtain ⟨m, he, rfl⟩ : ∃ p, (ons c)[j]? = some p ∧ onV p = x := by simpa using hx
    have hjl : j < c.mem.len := by
      have := (List.getElem?_eq_some_iff.1 he).1
      rw [ons_len] at this
      exact this
    simp only [List.append_assoc, List.cons_append]
    repeat (first | with_reducible (first | refine run_seq ?_ | refine run_region ?_ | refine runL_nil ?_ | refine run_skip ?_ | refine run_block ?_ | refine run_inBlock ?_) | refine run_exit rfl ?_ | refine runL_q (qt_pev tok rfl) rfl rfl rfl ?_ | refine runL_g rfl rfl (qt_pev tok rfl) rfl rfl rfl rfl rfl ?_ | refine runL_q (ql tok rfl) rfl rfl rfl ?_ | refine runL_g rfl rfl (ql tok rfl) rfl rfl rfl rfl rfl ?_ | (refine runL_op0 (sst tok rfl rfl rfl rfl rfl) ?_; rintro _ _ _ ⟨rfl, rfl, rfl⟩) | (refine runL_op (st_box rfl) rfl rfl rfl ?_; rintro _ _ _ ⟨_, rfl, rfl, rfl⟩) | (refine runL_op (st_alloc tok rfl) rfl rfl rfl ?_; rintro _ _ _ ⟨_, rfl, rfl, rfl⟩) | (refine runL_op (st_buildSlice tok rfl rfl rfl rfl rfl rfl rfl) rfl rfl rfl ?_; rintro _ _ _ ⟨_, rfl, rfl, rfl⟩))
    rename_i b7
    refine B.begin' ((b7, .cells ⟨onC m⟩ 93 (0, 0)) :: (N ++ ((b6, .cells ⟨[v]⟩ 58 (0, 0)) :: (b3, .cells ⟨coC c⟩ 29 (0, 0)) :: L))) (by simp; rfl) ?_
    simp only [List.append_assoc, List.cons_append]
    repeat (first | with_reducible (first | refine run_seq ?_ | refine run_region ?_ | refine runL_nil ?_ | refine run_skip ?_ | refine run_block ?_ | refine run_inBlock ?_) | refine run_exit rfl ?_ | refine runL_q (qt_pev tok rfl) rfl rfl rfl ?_ | refine runL_g rfl rfl (qt_pev tok rfl) rfl rfl rfl rfl rfl ?_ | refine runL_q (ql tok rfl) rfl rfl rfl ?_ | refine runL_g rfl rfl (ql tok rfl) rfl rfl rfl rfl rfl ?_ | (refine runL_op0 (sst tok rfl rfl rfl rfl rfl) ?_; rintro _ _ _ ⟨rfl, rfl, rfl⟩) | (refine runL_op (st_box rfl) rfl rfl rfl ?_; rintro _ _ _ ⟨_, rfl, rfl, rfl⟩) | (refine runL_op (st_alloc tok rfl) rfl rfl rfl ?_; rintro _ _ _ ⟨_, rfl, rfl, rfl⟩) | (refine runL_op (st_buildSlice tok rfl rfl rfl rfl rfl rfl rfl) rfl rfl rfl ?_; rintro _ _ _ ⟨_, rfl, rfl, rfl⟩))
    refine run_cond rfl (fun h3 => ?_) (fun h3 => ?_)
    · have hd : dueB c m = true := h3
      repeat (first | with_reducible (first | refine run_seq ?_ | refine run_region ?_ | refine runL_nil ?_ | refine run_skip ?_ | refine run_block ?_ | refine run_inBlock ?_) | refine run_exit rfl ?_ | refine runL_q (qt_pev tok rfl) rfl rfl rfl ?_ | refine runL_g rfl rfl (qt_pev tok rfl) rfl rfl rfl rfl rfl ?_ | refine runL_q (ql tok rfl) rfl rfl rfl ?_ | refine runL_g rfl rfl (ql tok rfl) rfl rfl rfl rfl rfl ?_ | (refine runL_op0 (sst tok rfl rfl rfl rfl rfl) ?_; rintro _ _ _ ⟨rfl, rfl, rfl⟩) | (refine runL_op (st_box rfl) rfl rfl rfl ?_; rintro _ _ _ ⟨_, rfl, rfl, rfl⟩) | (refine runL_op (st_alloc tok rfl) rfl rfl rfl ?_; rintro _ _ _ ⟨_, rfl, rfl, rfl⟩) | (refine runL_op (st_buildSlice tok rfl rfl rfl rfl rfl rfl rfl) rfl rfl rfl ?_; rintro _ _ _ ⟨_, rfl, rfl, rfl⟩))
      rename_i bs
      refine runL_op (st_append (news := inC m.org) tok rfl rfl rfl rfl rfl rfl rfl rfl (pm2 _ _ N _) hO (.inr ⟨bs, 0, 1, rfl, cellsAll List.mem_cons_self, rfl⟩) (inC_one _) (by omega) (by omega)) rfl rfl rfl ?_
      rintro va' _ _ ⟨N', rfl, rfl, hO'⟩
      obtain ⟨va2, vc2, rfl⟩ := os_slice hO'
      repeat (first | with_reducible (first | refine run_seq ?_ | refine run_region ?_ | refine runL_nil ?_ | refine run_skip ?_ | refine run_block ?_ | refine run_inBlock ?_) | refine run_exit rfl ?_ | refine runL_q (qt_pev tok rfl) rfl rfl rfl ?_ | refine runL_g rfl rfl (qt_pev tok rfl) rfl rfl rfl rfl rfl ?_ | refine runL_q (ql tok rfl) rfl rfl rfl ?_ | refine runL_g rfl rfl (ql tok rfl) rfl rfl rfl rfl rfl ?_ | (refine runL_op0 (sst tok rfl rfl rfl rfl rfl) ?_; rintro _ _ _ ⟨rfl, rfl, rfl⟩) | (refine runL_op (st_box rfl) rfl rfl rfl ?_; rintro _ _ _ ⟨_, rfl, rfl, rfl⟩) | (refine runL_op (st_alloc tok rfl) rfl rfl rfl ?_; rintro _ _ _ ⟨_, rfl, rfl, rfl⟩) | (refine runL_op (st_buildSlice tok rfl rfl rfl rfl rfl rfl rfl) rfl rfl rfl ?_; rintro _ _ _ ⟨_, rfl, rfl, rfl⟩))
      refine B.fin' (L2 := N' ++ ((b6, .cells ⟨[.slice va2 (l.length + 1) vc2]⟩ 58 (0, 0)) :: (b3, .cells ⟨coC c⟩ 29 (0, 0)) :: L)) (Mem.le_refl _) (fun w h => ?_) ⟨hM2', .slice va2 (l.length + 1) vc2, N', l ++ [m.org], ?_, by simp; omega, ?_, rfl⟩
      · have h4 := (h.perm (pm2 _ _ N' _).symm).drop.drop
        simpa [List.append_assoc, cellsL] using h4
      · rw [take_snoc he, List.filter_append, List.map_append, ← hl]
        simp [hd]
      · rw [List.map_append, List.flatten_append, List.length_append]
        simpa using hO'
    · have hd : dueB c m = false := h3
      repeat (first | with_reducible (first | refine run_seq ?_ | refine run_region ?_ | refine runL_nil ?_ | refine run_skip ?_ | refine run_block ?_ | refine run_inBlock ?_) | refine run_exit rfl ?_ | refine runL_q (qt_pev tok rfl) rfl rfl rfl ?_ | refine runL_g rfl rfl (qt_pev tok rfl) rfl rfl rfl rfl rfl ?_ | refine runL_q (ql tok rfl) rfl rfl rfl ?_ | refine runL_g rfl rfl (ql tok rfl) rfl rfl rfl rfl rfl ?_ | (refine runL_op0 (sst tok rfl rfl rfl rfl rfl) ?_; rintro _ _ _ ⟨rfl, rfl, rfl⟩) | (refine runL_op (st_box rfl) rfl rfl rfl ?_; rintro _ _ _ ⟨_, rfl, rfl, rfl⟩) | (refine runL_op (st_alloc tok rfl) rfl rfl rfl ?_; rintro _ _ _ ⟨_, rfl, rfl, rfl⟩) | (refine runL_op (st_buildSlice tok rfl rfl rfl rfl rfl rfl rfl) rfl rfl rfl ?_; rintro _ _ _ ⟨_, rfl, rfl, rfl⟩))
      refine B.fin' (L2 := N ++ ((b6, .cells ⟨[v]⟩ 58 (0, 0)) :: (b3, .cells ⟨coC c⟩ 29 (0, 0)) :: L)) (Mem.le_refl _) (fun w h => ?_) ⟨hM2', v, N, l, ?_, by omega, hO, rfl⟩
      · simpa [List.append_assoc] using h.drop
      · rw [take_snoc he, List.filter_append, List.map_append, ← hl]
        simp [hd]
  · rintro D M2 _ hM2 ⟨hM2', v, N, l, hl, hll, hO, rfl⟩
    rw [List.take_of_length_le (by simp)] at hl
    rw [← hl] at hC
    rw [show (List.map onV (ons c)).length = c.mem.len from by simp [ons]] at hll
    obtain ⟨va, vc, rfl⟩ := os_slice hO
    repeat (first | with_reducible (first | refine run_seq ?_ | refine run_region ?_ | refine runL_nil ?_ | refine run_skip ?_ | refine run_block ?_ | refine run_inBlock ?_) | refine run_exit rfl ?_ | refine runL_q (qt_pev tok rfl) rfl rfl rfl ?_ | refine runL_g rfl rfl (qt_pev tok rfl) rfl rfl rfl rfl rfl ?_ | refine runL_q (ql tok rfl) rfl rfl rfl ?_ | refine runL_g rfl rfl (ql tok rfl) rfl rfl rfl rfl rfl ?_ | (refine runL_op0 (sst tok rfl rfl rfl rfl rfl) ?_; rintro _ _ _ ⟨rfl, rfl, rfl⟩) | (refine runL_op (st_box rfl) rfl rfl rfl ?_; rintro _ _ _ ⟨_, rfl, rfl, rfl⟩) | (refine runL_op (st_alloc tok rfl) rfl rfl rfl ?_; rintro _ _ _ ⟨_, rfl, rfl, rfl⟩) | (refine runL_op (st_buildSlice tok rfl rfl rfl rfl rfl rfl rfl) rfl rfl rfl ?_; rintro _ _ _ ⟨_, rfl, rfl, rfl⟩))
    refine run_ret1E hC (by (repeat (first | with_reducible apply Upd.here | with_reducible apply Upd.there | with_reducible apply Upd.append_left))) (rs := [.cell 6 58]) rfl (rl tok rfl resN) fun w hw => ?_
    obtain ⟨M3, a', c', h5, h6, h7, h8⟩ := hw.drop.freezeOS (ls := l.map inC) hO (by simp) (inC_all _)
    cases h7
    exact ⟨M3, L, h6.drop.drop, Mem.le_trans hM1 (Mem.le_trans hM2 h5), rfl, ⟨va, l.length, vc, l⟩, rfl, h8, rfl, rfl, hll⟩
  · rintro _ j D M2 _ hM2 h
    exact h.elim

/-! ### what a member is sent, and the receipt -/
def msgV (kind : Int) (t : Tx) (au : Int) (mv : Value) (body : ByteArray) (yes : Bool) (tag : ByteArray) : Value := .tuple ⟨[.agg ⟨[.int .u8 kind, .int .i64 t.coord, .int .i64 t.epoch, .int .i64 t.seq, .int .i64 au, mv, .string body, .bool yes, .string tag]⟩, .bool true]⟩
theorem mayA_bodies {M : Mem} {c : Co} (h : CoOk M c) (hm : mayA c.ab = true) (hs : (c.state == 1) = true) : c.bodies.len = c.mem.len := by
  rw [← coOk_ab h.lens, coOk] at hm
  simp only [Bool.and_eq_true, rowsR, bodiesR, Bool.or_eq_true, beq_iff_eq, bne_iff_ne] at hm hs
  rcases hm.1.1.2.1.1.1.1 with h1 | h1
  · omega
  · exact absurd hs h1.2
set_option maxRecDepth 10000 in
set_option maxHeartbeats 8000000 in
theorem what_ok (M : Mem) (L : HL) (c : Co) (h : CoOk M c) (org : Int) (hm : mayA c.ab = true) (k : Nat) (hk : memR c.mem.xs org = some k) : Tr Try.prog 45 [.agg ⟨coC c⟩, .int .i64 org] M L (fun v M' L' => M.le M' ∧ L = L' ∧ ∃ au mv body yes, (∃ a l p, mv = .slice a l p) ∧ v = msgV (if (c.state == 1) = true then 1 else 3) c.txn au mv body yes ⟨#[]⟩) := by
  refine Tr.intro 48 Try.func45 rfl rfl Try.call45 rfl ?_
  intro C hC hro
  repeat (first | with_reducible (first | refine run_seq ?_ | refine run_region ?_ | refine runL_nil ?_ | refine run_skip ?_ | refine run_block ?_ | refine run_inBlock ?_) | refine run_exit rfl ?_ | refine runL_q (qt_pev tok rfl) rfl rfl rfl ?_ | refine runL_g rfl rfl (qt_pev tok rfl) rfl rfl rfl rfl rfl ?_ | refine runL_q (ql tok rfl) rfl rfl rfl ?_ | refine runL_g rfl rfl (ql tok rfl) rfl rfl rfl rfl rfl ?_ | (refine runL_op0 (sst tok rfl rfl rfl rfl rfl) ?_; rintro _ _ _ ⟨rfl, rfl, rfl⟩) | (refine runL_op (st_box rfl) rfl rfl rfl ?_; rintro _ _ _ ⟨_, rfl, rfl, rfl⟩) | (refine runL_op (st_alloc tok rfl) rfl rfl rfl ?_; rintro _ _ _ ⟨_, rfl, rfl, rfl⟩) | (refine runL_op (st_buildSlice tok rfl rfl rfl rfl rfl rfl rfl) rfl rfl rfl ?_; rintro _ _ _ ⟨_, rfl, rfl, rfl⟩))
  refine runL_op (st_callF rfl (fun _ => made_frz _ _ c h)) rfl rfl rfl ?_
  rintro _ M1 _ ⟨hM1, rfl, c', rfl, hab, hok⟩
  rw [madeA, if_pos hm] at hab ⊢
  replace hab : c'.ab = c.ab := hab
  have hm' : mayA c'.ab = true := by rw [hab]; exact hm
  obtain ⟨x1, x2, x3, x4, x5, x6⟩ := ab_len hab
  have hk' : memR c'.mem.xs org = some k := by rw [x1]; exact hk
  have htx : c'.txn = c.txn := congrArg Ca.txn hab
  repeat (first | with_reducible (first | refine run_seq ?_ | refine run_region ?_ | refine runL_nil ?_ | refine run_skip ?_ | refine run_block ?_ | refine run_inBlock ?_) | refine run_exit rfl ?_ | refine runL_q (qt_pev tok rfl) rfl rfl rfl ?_ | refine runL_g rfl rfl (qt_pev tok rfl) rfl rfl rfl rfl rfl ?_ | refine runL_q (ql tok rfl) rfl rfl rfl ?_ | refine runL_g rfl rfl (ql tok rfl) rfl rfl rfl rfl rfl ?_ | (refine runL_op0 (sst tok rfl rfl rfl rfl rfl) ?_; rintro _ _ _ ⟨rfl, rfl, rfl⟩) | (refine runL_op (st_box rfl) rfl rfl rfl ?_; rintro _ _ _ ⟨_, rfl, rfl, rfl⟩) | (refine runL_op (st_alloc tok rfl) rfl rfl rfl ?_; rintro _ _ _ ⟨_, rfl, rfl, rfl⟩) | (refine runL_op (st_buildSlice tok rfl rfl rfl rfl rfl rfl rfl) rfl rfl rfl ?_; rintro _ _ _ ⟨_, rfl, rfl, rfl⟩) | refine runL_q (qt_callF rfl (fun _ => member_ok _ _ c' hok.mem org)) rfl rfl rfl ?_)
  rw [hk']
  repeat (first | with_reducible (first | refine run_seq ?_ | refine run_region ?_ | refine runL_nil ?_ | refine run_skip ?_ | refine run_block ?_ | refine run_inBlock ?_) | refine run_exit rfl ?_ | refine runL_q (qt_pev tok rfl) rfl rfl rfl ?_ | refine runL_g rfl rfl (qt_pev tok rfl) rfl rfl rfl rfl rfl ?_ | refine runL_q (ql tok rfl) rfl rfl rfl ?_ | refine runL_g rfl rfl (ql tok rfl) rfl rfl rfl rfl rfl ?_ | (refine runL_op0 (sst tok rfl rfl rfl rfl rfl) ?_; rintro _ _ _ ⟨rfl, rfl, rfl⟩) | (refine runL_op (st_box rfl) rfl rfl rfl ?_; rintro _ _ _ ⟨_, rfl, rfl, rfl⟩) | (refine runL_op (st_alloc tok rfl) rfl rfl rfl ?_; rintro _ _ _ ⟨_, rfl, rfl, rfl⟩) | (refine runL_op (st_buildSlice tok rfl rfl rfl rfl rfl rfl rfl) rfl rfl rfl ?_; rintro _ _ _ ⟨_, rfl, rfl, rfl⟩))
  refine run_cond rfl (fun h => by cases h) (fun _ => ?_)
  repeat (first | with_reducible (first | refine run_seq ?_ | refine run_region ?_ | refine runL_nil ?_ | refine run_skip ?_ | refine run_block ?_ | refine run_inBlock ?_) | refine run_exit rfl ?_ | refine runL_q (qt_pev tok rfl) rfl rfl rfl ?_ | refine runL_g rfl rfl (qt_pev tok rfl) rfl rfl rfl rfl rfl ?_ | refine runL_q (ql tok rfl) rfl rfl rfl ?_ | refine runL_g rfl rfl (ql tok rfl) rfl rfl rfl rfl rfl ?_ | (refine runL_op0 (sst tok rfl rfl rfl rfl rfl) ?_; rintro _ _ _ ⟨rfl, rfl, rfl⟩) | (refine runL_op (st_box rfl) rfl rfl rfl ?_; rintro _ _ _ ⟨_, rfl, rfl, rfl⟩) | (refine runL_op (st_alloc tok rfl) rfl rfl rfl ?_; rintro _ _ _ ⟨_, rfl, rfl, rfl⟩) | (refine runL_op (st_buildSlice tok rfl rfl rfl rfl rfl rfl rfl) rfl rfl rfl ?_; rintro _ _ _ ⟨_, rfl, rfl, rfl⟩))
  refine run_cond rfl (fun h => by cases h) (fun _ => ?_)
  repeat (first | with_reducible (first | refine run_seq ?_ | refine run_region ?_ | refine runL_nil ?_ | refine run_skip ?_ | refine run_block ?_ | refine run_inBlock ?_) | refine run_exit rfl ?_ | refine runL_q (qt_pev tok rfl) rfl rfl rfl ?_ | refine runL_g rfl rfl (qt_pev tok rfl) rfl rfl rfl rfl rfl ?_ | refine runL_q (ql tok rfl) rfl rfl rfl ?_ | refine runL_g rfl rfl (ql tok rfl) rfl rfl rfl rfl rfl ?_ | (refine runL_op0 (sst tok rfl rfl rfl rfl rfl) ?_; rintro _ _ _ ⟨rfl, rfl, rfl⟩) | (refine runL_op (st_box rfl) rfl rfl rfl ?_; rintro _ _ _ ⟨_, rfl, rfl, rfl⟩) | (refine runL_op (st_alloc tok rfl) rfl rfl rfl ?_; rintro _ _ _ ⟨_, rfl, rfl, rfl⟩) | (refine runL_op (st_buildSlice tok rfl rfl rfl rfl rfl rfl rfl) rfl rfl rfl ?_; rintro _ _ _ ⟨_, rfl, rfl, rfl⟩))
  rw [← x6, ← htx] at hC
  refine run_cond rfl (fun h2 => ?_) (fun h2 => ?_)
  · have hbl := mayA_bodies hok hm' h2
    have hkl := memR_lt hk'
    have hml := hok.mem.len
    obtain ⟨b, off, m, hma, hbm, hc⟩ := SStr.at_ hok.bodies.1 (show k < c'.bodies.len by omega)
    have hv : c'.bodies.v = .slice (some ⟨b, off, none⟩) c'.bodies.len c'.bodies.cap := by rw [← hma]; rfl
    rw [if_pos h2] at hC
    repeat (first | with_reducible (first | refine run_seq ?_ | refine run_region ?_ | refine runL_nil ?_ | refine run_skip ?_ | refine run_block ?_ | refine run_inBlock ?_) | refine run_exit rfl ?_)
    refine prn_start mixed ?_
    iterate 8 (first | refine prn_q rfl (qt_pev tok rfl) (by decide +kernel) rfl rfl rfl ?_ | refine prn_gK rfl rfl rfl (qt_pev tok rfl) (by decide +kernel) rfl rfl rfl ?_ | refine prn_gF rfl rfl rfl (by decide +kernel) rfl rfl rfl ?_ | refine prn_g rfl rfl rfl (qt_pev tok rfl) (by decide +kernel) rfl rfl rfl rfl rfl ?_ | refine prn_q rfl (ql tok rfl) (by decide +kernel) rfl rfl rfl ?_ | refine prn_gK rfl rfl rfl (ql tok rfl) (by decide +kernel) rfl rfl rfl ?_ | refine prn_gF rfl rfl rfl (by decide +kernel) rfl rfl rfl ?_ | refine prn_g rfl rfl rfl (ql tok rfl) (by decide +kernel) rfl rfl rfl rfl rfl ?_ | (refine prn_e0 rfl (sst tok rfl rfl rfl rfl rfl) (by decide +kernel) ?_; rintro _ _ _ ⟨rfl, rfl, rfl⟩) | (refine prn_e1 rfl (st_box rfl) (by decide +kernel) rfl rfl rfl ?_; rintro _ _ _ ⟨_, rfl, rfl, rfl⟩) | (refine prn_e1 rfl (st_alloc tok rfl) (by decide +kernel) rfl rfl rfl ?_; rintro _ _ _ ⟨_, rfl, rfl, rfl⟩) | (refine prn_e1 rfl (st_buildSlice tok rfl rfl rfl rfl rfl rfl rfl) (by decide +kernel) rfl rfl rfl ?_; rintro _ _ _ ⟨_, rfl, rfl, rfl⟩) | (refine prn_o0 rfl (sst tok rfl rfl rfl rfl rfl) (by decide +kernel) ?_; rintro _ _ _ ⟨rfl, rfl, rfl⟩; refine ⟨by (repeat (first | exact trivial | refine And.intro (pend_q rfl rfl rfl (qt_pev tok rfl)) ?_ | refine And.intro (pend_q rfl rfl rfl (ql tok rfl)) ?_)), ?_⟩) | (refine prn_o1 rfl (st_box rfl) (by decide +kernel) rfl rfl rfl ?_; rintro _ _ _ ⟨_, rfl, rfl, rfl⟩; refine ⟨by (repeat (first | exact trivial | refine And.intro (pend_q rfl rfl rfl (qt_pev tok rfl)) ?_ | refine And.intro (pend_q rfl rfl rfl (ql tok rfl)) ?_)), ?_⟩) | (refine prn_o1 rfl (st_alloc tok rfl) (by decide +kernel) rfl rfl rfl ?_; rintro _ _ _ ⟨_, rfl, rfl, rfl⟩; refine ⟨by (repeat (first | exact trivial | refine And.intro (pend_q rfl rfl rfl (qt_pev tok rfl)) ?_ | refine And.intro (pend_q rfl rfl rfl (ql tok rfl)) ?_)), ?_⟩) | (refine prn_o1 rfl (st_buildSlice tok rfl rfl rfl rfl rfl rfl rfl) (by decide +kernel) rfl rfl rfl ?_; rintro _ _ _ ⟨_, rfl, rfl, rfl⟩; refine ⟨by (repeat (first | exact trivial | refine And.intro (pend_q rfl rfl rfl (qt_pev tok rfl)) ?_ | refine And.intro (pend_q rfl rfl rfl (ql tok rfl)) ?_)), ?_⟩) | (refine prn_e1 rfl (qt_pev tok rfl) (by decide +kernel) rfl rfl rfl ?_; rintro _ _ _ ⟨rfl, rfl, rfl⟩))
    refine pr_as 37 (.slice (some ⟨b, off, none⟩) c'.bodies.len c'.bodies.cap) rfl hv ?_
    repeat (first | with_reducible (first | refine run_seq ?_ | refine run_region ?_ | refine runL_nil ?_ | refine run_skip ?_ | refine run_block ?_ | refine run_inBlock ?_) | refine run_exit rfl ?_ | refine runL_q (qt_pev tok rfl) rfl rfl rfl ?_ | refine runL_g rfl rfl (qt_pev tok rfl) rfl rfl rfl rfl rfl ?_ | refine runL_q (ql tok rfl) rfl rfl rfl ?_ | refine runL_g rfl rfl (ql tok rfl) rfl rfl rfl rfl rfl ?_ | (refine runL_op0 (sst tok rfl rfl rfl rfl rfl) ?_; rintro _ _ _ ⟨rfl, rfl, rfl⟩) | (refine runL_op (st_box rfl) rfl rfl rfl ?_; rintro _ _ _ ⟨_, rfl, rfl, rfl⟩) | (refine runL_op (st_alloc tok rfl) rfl rfl rfl ?_; rintro _ _ _ ⟨_, rfl, rfl, rfl⟩) | (refine runL_op (st_buildSlice tok rfl rfl rfl rfl rfl rfl rfl) rfl rfl rfl ?_; rintro _ _ _ ⟨_, rfl, rfl, rfl⟩) | refine prn_start mixed ?_ | refine prn_end (by decide +kernel) ?_ | refine prn_q rfl (qt_pev tok rfl) (by decide +kernel) rfl rfl rfl ?_ | refine prn_g rfl rfl rfl (qt_pev tok rfl) (by decide +kernel) rfl rfl rfl rfl rfl ?_ | refine prn_q rfl (ql tok rfl) (by decide +kernel) rfl rfl rfl ?_ | refine prn_g rfl rfl rfl (ql tok rfl) (by decide +kernel) rfl rfl rfl rfl rfl ?_ | (refine prn_e0 rfl (sst tok rfl rfl rfl rfl rfl) (by decide +kernel) ?_; rintro _ _ _ ⟨rfl, rfl, rfl⟩) | (refine prn_e1 rfl (st_box rfl) (by decide +kernel) rfl rfl rfl ?_; rintro _ _ _ ⟨_, rfl, rfl, rfl⟩) | (refine prn_e1 rfl (st_alloc tok rfl) (by decide +kernel) rfl rfl rfl ?_; rintro _ _ _ ⟨_, rfl, rfl, rfl⟩) | (refine prn_e1 rfl (st_buildSlice tok rfl rfl rfl rfl rfl rfl rfl) (by decide +kernel) rfl rfl rfl ?_; rintro _ _ _ ⟨_, rfl, rfl, rfl⟩) | (refine prn_o0 rfl (sst tok rfl rfl rfl rfl rfl) (by decide +kernel) ?_; rintro _ _ _ ⟨rfl, rfl, rfl⟩; refine ⟨by (repeat (first | exact trivial | refine And.intro (pend_q rfl rfl rfl (qt_pev tok rfl)) ?_ | refine And.intro (pend_q rfl rfl rfl (ql tok rfl)) ?_)), ?_⟩) | (refine prn_o1 rfl (st_box rfl) (by decide +kernel) rfl rfl rfl ?_; rintro _ _ _ ⟨_, rfl, rfl, rfl⟩; refine ⟨by (repeat (first | exact trivial | refine And.intro (pend_q rfl rfl rfl (qt_pev tok rfl)) ?_ | refine And.intro (pend_q rfl rfl rfl (ql tok rfl)) ?_)), ?_⟩) | (refine prn_o1 rfl (st_alloc tok rfl) (by decide +kernel) rfl rfl rfl ?_; rintro _ _ _ ⟨_, rfl, rfl, rfl⟩; refine ⟨by (repeat (first | exact trivial | refine And.intro (pend_q rfl rfl rfl (qt_pev tok rfl)) ?_ | refine And.intro (pend_q rfl rfl rfl (ql tok rfl)) ?_)), ?_⟩) | (refine prn_o1 rfl (st_buildSlice tok rfl rfl rfl rfl rfl rfl rfl) (by decide +kernel) rfl rfl rfl ?_; rintro _ _ _ ⟨_, rfl, rfl, rfl⟩; refine ⟨by (repeat (first | exact trivial | refine And.intro (pend_q rfl rfl rfl (qt_pev tok rfl)) ?_ | refine And.intro (pend_q rfl rfl rfl (ql tok rfl)) ?_)), ?_⟩) | (refine prn_e1 rfl (qt_pev tok rfl) (by decide +kernel) rfl rfl rfl ?_; rintro _ _ _ ⟨rfl, rfl, rfl⟩) | refine prn_q rfl (qt_indexN tok rfl rfl rfl rfl (fun _ => by omega)) (by decide +kernel) rfl rfl rfl ?_ | refine prn_g rfl rfl rfl (qt_indexN tok rfl rfl rfl rfl (fun _ => by omega)) (by decide +kernel) rfl rfl rfl rfl rfl ?_ | refine prn_q rfl (qt_ldM tok rfl hc rfl) (by decide +kernel) rfl rfl rfl ?_ | refine prn_g rfl rfl rfl (qt_ldM tok rfl hc rfl) (by decide +kernel) rfl rfl rfl rfl rfl ?_ | refine prn_q rfl (qt_ldM0 tok rfl hc rfl) (by decide +kernel) rfl rfl rfl ?_ | refine prn_g rfl rfl rfl (qt_ldM0 tok rfl hc rfl) (by decide +kernel) rfl rfl rfl rfl rfl ?_)
    exact run_ret hC (rs := [.cell 4 76, .tmp 5]) rfl (rl tok rfl (resT rfl resN)) (fun _ h => h.drop.drop) ⟨hM1, rfl, c'.auditor, c'.mem.v, m, false, ⟨_, _, _, rfl⟩, rfl⟩
  · rw [if_neg (by rw [h2]; simp)] at hC
    repeat (first | with_reducible (first | refine run_seq ?_ | refine run_region ?_ | refine runL_nil ?_ | refine run_skip ?_ | refine run_block ?_ | refine run_inBlock ?_) | refine run_exit rfl ?_ | refine runL_q (qt_pev tok rfl) rfl rfl rfl ?_ | refine runL_g rfl rfl (qt_pev tok rfl) rfl rfl rfl rfl rfl ?_ | refine runL_q (ql tok rfl) rfl rfl rfl ?_ | refine runL_g rfl rfl (ql tok rfl) rfl rfl rfl rfl rfl ?_ | (refine runL_op0 (sst tok rfl rfl rfl rfl rfl) ?_; rintro _ _ _ ⟨rfl, rfl, rfl⟩) | (refine runL_op (st_box rfl) rfl rfl rfl ?_; rintro _ _ _ ⟨_, rfl, rfl, rfl⟩) | (refine runL_op (st_alloc tok rfl) rfl rfl rfl ?_; rintro _ _ _ ⟨_, rfl, rfl, rfl⟩) | (refine runL_op (st_buildSlice tok rfl rfl rfl rfl rfl rfl rfl) rfl rfl rfl ?_; rintro _ _ _ ⟨_, rfl, rfl, rfl⟩))
    exact run_ret hC (rs := [.cell 4 76, .tmp 5]) rfl (rl tok rfl (resT rfl resN)) (fun _ h => h.drop.drop) ⟨hM1, rfl, 0, .slice none 0 0, ⟨#[]⟩, (c'.state == 2), ⟨_, _, _, rfl⟩, rfl⟩
set_option maxRecDepth 10000 in
set_option maxHeartbeats 8000000 in
theorem receipt_ok (M : Mem) (L : HL) (c : Co) (h : CoOk M c) (hm : mayA c.ab = true) : Tr Try.prog 43 [.agg ⟨coC c⟩] M L (fun v M' L' => M.le M' ∧ L = L' ∧ ∃ t au s ts, v = .tuple ⟨[.agg ⟨rpC t au s ts⟩, .bool (c.state == 2)]⟩ ∧ MbOk M' s ∧ StOk M' ts ∧ ((c.state == 2) = true → t = c.txn ∧ au = c.auditor ∧ s.xs = c.mem.xs ∧ ts.xs = c.tags.xs)) := by
  refine Tr.intro 27 Try.func43 rfl rfl Try.call43 rfl ?_
  intro C hC hro
  repeat (first | with_reducible (first | refine run_seq ?_ | refine run_region ?_ | refine runL_nil ?_ | refine run_skip ?_ | refine run_block ?_ | refine run_inBlock ?_) | refine run_exit rfl ?_ | refine runL_q (qt_pev tok rfl) rfl rfl rfl ?_ | refine runL_g rfl rfl (qt_pev tok rfl) rfl rfl rfl rfl rfl ?_ | refine runL_q (ql tok rfl) rfl rfl rfl ?_ | refine runL_g rfl rfl (ql tok rfl) rfl rfl rfl rfl rfl ?_ | (refine runL_op0 (sst tok rfl rfl rfl rfl rfl) ?_; rintro _ _ _ ⟨rfl, rfl, rfl⟩) | (refine runL_op (st_box rfl) rfl rfl rfl ?_; rintro _ _ _ ⟨_, rfl, rfl, rfl⟩) | (refine runL_op (st_alloc tok rfl) rfl rfl rfl ?_; rintro _ _ _ ⟨_, rfl, rfl, rfl⟩) | (refine runL_op (st_buildSlice tok rfl rfl rfl rfl rfl rfl rfl) rfl rfl rfl ?_; rintro _ _ _ ⟨_, rfl, rfl, rfl⟩))
  refine runL_op (st_callF rfl (fun _ => made_frz _ _ c h)) rfl rfl rfl ?_
  rintro _ M1 _ ⟨hM1, rfl, c', rfl, hab, hok⟩
  rw [madeA, if_pos hm] at hab ⊢
  replace hab : c'.ab = c.ab := hab
  obtain ⟨x1, x2, x3, x4, x5, x6⟩ := ab_len hab
  have htx : c'.txn = c.txn := congrArg Ca.txn hab
  have hau : c'.auditor = c.auditor := congrArg Ca.auditor hab
  repeat (first | with_reducible (first | refine run_seq ?_ | refine run_region ?_ | refine runL_nil ?_ | refine run_skip ?_ | refine run_block ?_ | refine run_inBlock ?_) | refine run_exit rfl ?_ | refine runL_q (qt_pev tok rfl) rfl rfl rfl ?_ | refine runL_g rfl rfl (qt_pev tok rfl) rfl rfl rfl rfl rfl ?_ | refine runL_q (ql tok rfl) rfl rfl rfl ?_ | refine runL_g rfl rfl (ql tok rfl) rfl rfl rfl rfl rfl ?_ | (refine runL_op0 (sst tok rfl rfl rfl rfl rfl) ?_; rintro _ _ _ ⟨rfl, rfl, rfl⟩) | (refine runL_op (st_box rfl) rfl rfl rfl ?_; rintro _ _ _ ⟨_, rfl, rfl, rfl⟩) | (refine runL_op (st_alloc tok rfl) rfl rfl rfl ?_; rintro _ _ _ ⟨_, rfl, rfl, rfl⟩) | (refine runL_op (st_buildSlice tok rfl rfl rfl rfl rfl rfl rfl) rfl rfl rfl ?_; rintro _ _ _ ⟨_, rfl, rfl, rfl⟩))
  refine run_cond rfl (fun h2 => ?_) (fun h2 => ?_)
  · have h3 : (c.state == 2) = false := by
      have : (c'.state != 2) = true := by simpa using h2
      rw [← x6]
      simpa [bne] using this
    rw [h3] at hC
    repeat (first | with_reducible (first | refine run_seq ?_ | refine run_region ?_ | refine runL_nil ?_ | refine run_skip ?_ | refine run_block ?_ | refine run_inBlock ?_) | refine run_exit rfl ?_ | refine runL_q (qt_pev tok rfl) rfl rfl rfl ?_ | refine runL_g rfl rfl (qt_pev tok rfl) rfl rfl rfl rfl rfl ?_ | refine runL_q (ql tok rfl) rfl rfl rfl ?_ | refine runL_g rfl rfl (ql tok rfl) rfl rfl rfl rfl rfl ?_ | (refine runL_op0 (sst tok rfl rfl rfl rfl rfl) ?_; rintro _ _ _ ⟨rfl, rfl, rfl⟩) | (refine runL_op (st_box rfl) rfl rfl rfl ?_; rintro _ _ _ ⟨_, rfl, rfl, rfl⟩) | (refine runL_op (st_alloc tok rfl) rfl rfl rfl ?_; rintro _ _ _ ⟨_, rfl, rfl, rfl⟩) | (refine runL_op (st_buildSlice tok rfl rfl rfl rfl rfl rfl rfl) rfl rfl rfl ?_; rintro _ _ _ ⟨_, rfl, rfl, rfl⟩))
    exact run_ret hC (rs := [.cell 2 51, .tmp 3]) rfl (rl tok rfl (resT rfl resN)) (fun _ h => h.drop.drop) ⟨hM1, rfl, ⟨0, 0, 0⟩, 0, ⟨none, 0, 0, []⟩, ⟨none, 0, 0, []⟩, rfl, MbOk.nil _, StOk.nil _, fun h => by cases h⟩
  · have h3 : (c.state == 2) = true := by
      have : (c'.state != 2) = false := by simpa using h2
      rw [← x6]
      simpa [bne] using this
    rw [h3] at hC
    repeat (first | with_reducible (first | refine run_seq ?_ | refine run_region ?_ | refine runL_nil ?_ | refine run_skip ?_ | refine run_block ?_ | refine run_inBlock ?_) | refine run_exit rfl ?_ | refine runL_q (qt_pev tok rfl) rfl rfl rfl ?_ | refine runL_g rfl rfl (qt_pev tok rfl) rfl rfl rfl rfl rfl ?_ | refine runL_q (ql tok rfl) rfl rfl rfl ?_ | refine runL_g rfl rfl (ql tok rfl) rfl rfl rfl rfl rfl ?_ | (refine runL_op0 (sst tok rfl rfl rfl rfl rfl) ?_; rintro _ _ _ ⟨rfl, rfl, rfl⟩) | (refine runL_op (st_box rfl) rfl rfl rfl ?_; rintro _ _ _ ⟨_, rfl, rfl, rfl⟩) | (refine runL_op (st_alloc tok rfl) rfl rfl rfl ?_; rintro _ _ _ ⟨_, rfl, rfl, rfl⟩) | (refine runL_op (st_buildSlice tok rfl rfl rfl rfl rfl rfl rfl) rfl rfl rfl ?_; rintro _ _ _ ⟨_, rfl, rfl, rfl⟩))
    exact run_ret hC (rs := [.cell 2 51, .tmp 3]) rfl (rl tok rfl (resT rfl resN)) (fun _ h => h.drop.drop) ⟨hM1, rfl, c'.txn, c'.auditor, c'.mem, c'.tags, rfl, hok.mem, hok.tags, fun _ => ⟨htx, hau, x1, x4⟩⟩
end Go.Proofs.Ytpmepmdngdkafaa
namespace Go.Proofs.Ytpmepmdngdkafaa
open Go.Chi

/-! ### what is too long -/
def long12 (s : SMb) : Bool := decide ((s.len : Int) > 20) || s.xs.any fun m => decide ((m.digest.size : Int) > 20000)
def long06 (s : SStr) : Bool := decide ((s.len : Int) > 40) || s.xs.any fun t => decide ((t.size : Int) > 20000)
set_option maxHeartbeats 4000000 in
theorem long12_ok (M : Mem) (L : HL) (s : SMb) (hs : s.Ok M) : TrQ Try.prog 18 [s.v] M L (.bool (long12 s)) := by
  have hl : s.xs.length = s.len := by have := hs.1; simpa using this
  refine Tr.intro 20 Try.func18 rfl rfl Try.call18 rfl ?_
  intro C hC hro
  repeat (first | with_reducible (first | refine run_seq ?_ | refine run_region ?_ | refine runL_nil ?_ | refine run_skip ?_ | refine run_block ?_ | refine run_inBlock ?_) | refine run_exit rfl ?_ | refine runL_q (qt_pev tok rfl) rfl rfl rfl ?_ | refine runL_g rfl rfl (qt_pev tok rfl) rfl rfl rfl rfl rfl ?_ | refine runL_q (ql tok rfl) rfl rfl rfl ?_ | refine runL_g rfl rfl (ql tok rfl) rfl rfl rfl rfl rfl ?_ | (refine runL_op0 (sst tok rfl rfl rfl rfl rfl) ?_; rintro _ _ _ ⟨rfl, rfl, rfl⟩) | (refine runL_op (st_box rfl) rfl rfl rfl ?_; rintro _ _ _ ⟨_, rfl, rfl, rfl⟩) | (refine runL_op (st_alloc tok rfl) rfl rfl rfl ?_; rintro _ _ _ ⟨_, rfl, rfl, rfl⟩) | (refine runL_op (st_buildSlice tok rfl rfl rfl rfl rfl rfl rfl) rfl rfl rfl ?_; rintro _ _ _ ⟨_, rfl, rfl, rfl⟩))
  refine run_cond rfl (fun h => ?_) (fun h => ?_)
  · repeat (first | with_reducible (first | refine run_seq ?_ | refine run_region ?_ | refine runL_nil ?_ | refine run_skip ?_ | refine run_block ?_ | refine run_inBlock ?_) | refine run_exit rfl ?_ | refine runL_q (qt_pev tok rfl) rfl rfl rfl ?_ | refine runL_g rfl rfl (qt_pev tok rfl) rfl rfl rfl rfl rfl ?_ | refine runL_q (ql tok rfl) rfl rfl rfl ?_ | refine runL_g rfl rfl (ql tok rfl) rfl rfl rfl rfl rfl ?_ | (refine runL_op0 (sst tok rfl rfl rfl rfl rfl) ?_; rintro _ _ _ ⟨rfl, rfl, rfl⟩) | (refine runL_op (st_box rfl) rfl rfl rfl ?_; rintro _ _ _ ⟨_, rfl, rfl, rfl⟩) | (refine runL_op (st_alloc tok rfl) rfl rfl rfl ?_; rintro _ _ _ ⟨_, rfl, rfl, rfl⟩) | (refine runL_op (st_buildSlice tok rfl rfl rfl rfl rfl rfl rfl) rfl rfl rfl ?_; rintro _ _ _ ⟨_, rfl, rfl, rfl⟩))
    exact run_ret hC (rs := [.tmp 2]) rfl (resT rfl resN) (fun _ h => h) ⟨by rw [long12, h]; rfl, rfl, rfl⟩
  have h20 : ¬ (s.len : Int) > 20 := of_decide_eq_false h
  rw [long12, h, Bool.false_or] at hC
  repeat (first | with_reducible (first | refine run_seq ?_ | refine run_region ?_ | refine runL_nil ?_ | refine run_skip ?_ | refine run_block ?_ | refine run_inBlock ?_) | refine run_exit rfl ?_ | refine runL_q (qt_pev tok rfl) rfl rfl rfl ?_ | refine runL_g rfl rfl (qt_pev tok rfl) rfl rfl rfl rfl rfl ?_ | refine runL_q (ql tok rfl) rfl rfl rfl ?_ | refine runL_g rfl rfl (ql tok rfl) rfl rfl rfl rfl rfl ?_ | (refine runL_op0 (sst tok rfl rfl rfl rfl rfl) ?_; rintro _ _ _ ⟨rfl, rfl, rfl⟩) | (refine runL_op (st_box rfl) rfl rfl rfl ?_; rintro _ _ _ ⟨_, rfl, rfl, rfl⟩) | (refine runL_op (st_alloc tok rfl) rfl rfl rfl ?_; rintro _ _ _ ⟨_, rfl, rfl, rfl⟩) | (refine runL_op (st_buildSlice tok rfl rfl rfl rfl rfl rfl rfl) rfl rfl rfl ?_; rintro _ _ _ ⟨_, rfl, rfl, rfl⟩))
  refine run_loopN (fun j σ1 M1 L1 => j ≤ s.len ∧ M = M1 ∧ L = L1 ∧ ((s.xs.take j).any fun m => decide ((m.digest.size : Int) > 20000)) = false ∧ σ1 = [(3, .int .i64 (j : Int)), (0, s.v)]) s.len [(3, .int .i64 ((0 : Nat) : Int)), (0, s.v)] ?_ ⟨Nat.zero_le _, rfl, rfl, by simp, rfl⟩ (fun j _ _ _ h => h.1) ?_
  · exact ⟨rfl, rfl, trivial⟩
  rintro j _ _ _ ⟨hj, rfl, rfl, hpre, rfl⟩ hnext
  repeat (first | with_reducible (first | refine run_seq ?_ | refine run_region ?_ | refine runL_nil ?_ | refine run_skip ?_ | refine run_block ?_ | refine run_inBlock ?_) | refine run_exit rfl ?_ | refine runL_q (qt_pev tok rfl) rfl rfl rfl ?_ | refine runL_g rfl rfl (qt_pev tok rfl) rfl rfl rfl rfl rfl ?_ | refine runL_q (ql tok rfl) rfl rfl rfl ?_ | refine runL_g rfl rfl (ql tok rfl) rfl rfl rfl rfl rfl ?_ | (refine runL_op0 (sst tok rfl rfl rfl rfl rfl) ?_; rintro _ _ _ ⟨rfl, rfl, rfl⟩) | (refine runL_op (st_box rfl) rfl rfl rfl ?_; rintro _ _ _ ⟨_, rfl, rfl, rfl⟩) | (refine runL_op (st_alloc tok rfl) rfl rfl rfl ?_; rintro _ _ _ ⟨_, rfl, rfl, rfl⟩) | (refine runL_op (st_buildSlice tok rfl rfl rfl rfl rfl rfl rfl) rfl rfl rfl ?_; rintro _ _ _ ⟨_, rfl, rfl, rfl⟩))
  refine run_cond rfl (fun h => ?_) (fun h => ?_)
  · have hlt : j < s.len := of_natlt h
    obtain ⟨b, off, m, hma, hm, hc⟩ := SMb.at_ hs hlt
    have hv : s.v = .slice (some ⟨b, off, none⟩) s.len s.cap := by rw [← hma]; rfl
    refine run_as 0 (.slice (some ⟨b, off, none⟩) s.len s.cap) rfl hv ?_
    repeat (first | with_reducible (first | refine run_seq ?_ | refine run_region ?_ | refine runL_nil ?_ | refine run_skip ?_ | refine run_block ?_ | refine run_inBlock ?_) | refine run_exit rfl ?_ | refine runL_q (qt_pev tok rfl) rfl rfl rfl ?_ | refine runL_g rfl rfl (qt_pev tok rfl) rfl rfl rfl rfl rfl ?_ | refine runL_q (ql tok rfl) rfl rfl rfl ?_ | refine runL_g rfl rfl (ql tok rfl) rfl rfl rfl rfl rfl ?_ | (refine runL_op0 (sst tok rfl rfl rfl rfl rfl) ?_; rintro _ _ _ ⟨rfl, rfl, rfl⟩) | (refine runL_op (st_box rfl) rfl rfl rfl ?_; rintro _ _ _ ⟨_, rfl, rfl, rfl⟩) | (refine runL_op (st_alloc tok rfl) rfl rfl rfl ?_; rintro _ _ _ ⟨_, rfl, rfl, rfl⟩) | (refine runL_op (st_buildSlice tok rfl rfl rfl rfl rfl rfl rfl) rfl rfl rfl ?_; rintro _ _ _ ⟨_, rfl, rfl, rfl⟩) | refine runL_q (qt_indexN tok rfl rfl rfl rfl (fun _ => by omega)) rfl rfl rfl ?_ | refine runL_g rfl rfl (qt_indexN tok rfl rfl rfl rfl (fun _ => by omega)) rfl rfl rfl rfl rfl ?_ | refine runL_q (qt_ldM tok rfl hc rfl) rfl rfl rfl ?_ | refine runL_g rfl rfl (qt_ldM tok rfl hc rfl) rfl rfl rfl rfl rfl ?_ | refine runL_q (qt_ldM0 tok rfl hc rfl) rfl rfl rfl ?_ | refine runL_g rfl rfl (qt_ldM0 tok rfl hc rfl) rfl rfl rfl rfl rfl ?_)
    refine run_cond rfl (fun h => ?_) (fun h => ?_)
    · rw [any_true (fun m : Mb => decide ((m.digest.size : Int) > 20000)) hm h] at hC
      repeat (first | with_reducible (first | refine run_seq ?_ | refine run_region ?_ | refine runL_nil ?_ | refine run_skip ?_ | refine run_block ?_ | refine run_inBlock ?_) | refine run_exit rfl ?_ | refine runL_q (qt_pev tok rfl) rfl rfl rfl ?_ | refine runL_g rfl rfl (qt_pev tok rfl) rfl rfl rfl rfl rfl ?_ | refine runL_q (ql tok rfl) rfl rfl rfl ?_ | refine runL_g rfl rfl (ql tok rfl) rfl rfl rfl rfl rfl ?_ | (refine runL_op0 (sst tok rfl rfl rfl rfl rfl) ?_; rintro _ _ _ ⟨rfl, rfl, rfl⟩) | (refine runL_op (st_box rfl) rfl rfl rfl ?_; rintro _ _ _ ⟨_, rfl, rfl, rfl⟩) | (refine runL_op (st_alloc tok rfl) rfl rfl rfl ?_; rintro _ _ _ ⟨_, rfl, rfl, rfl⟩) | (refine runL_op (st_buildSlice tok rfl rfl rfl rfl rfl rfl rfl) rfl rfl rfl ?_; rintro _ _ _ ⟨_, rfl, rfl, rfl⟩))
      exact run_ret hC (rs := [.tmp 2]) rfl (resT rfl resN) (fun _ h => h) ⟨rfl, rfl, rfl⟩
    · repeat (first | with_reducible (first | refine run_seq ?_ | refine run_region ?_ | refine runL_nil ?_ | refine run_skip ?_ | refine run_block ?_ | refine run_inBlock ?_) | refine run_exit rfl ?_ | refine runL_q (qt_pev tok rfl) rfl rfl rfl ?_ | refine runL_g rfl rfl (qt_pev tok rfl) rfl rfl rfl rfl rfl ?_ | refine runL_q (ql tok rfl) rfl rfl rfl ?_ | refine runL_g rfl rfl (ql tok rfl) rfl rfl rfl rfl rfl ?_ | (refine runL_op0 (sst tok rfl rfl rfl rfl rfl) ?_; rintro _ _ _ ⟨rfl, rfl, rfl⟩) | (refine runL_op (st_box rfl) rfl rfl rfl ?_; rintro _ _ _ ⟨_, rfl, rfl, rfl⟩) | (refine runL_op (st_alloc tok rfl) rfl rfl rfl ?_; rintro _ _ _ ⟨_, rfl, rfl, rfl⟩) | (refine runL_op (st_buildSlice tok rfl rfl rfl rfl rfl rfl rfl) rfl rfl rfl ?_; rintro _ _ _ ⟨_, rfl, rfl, rfl⟩))
      exact run_sub' (hnext _ _ _ ⟨hlt, rfl, rfl, by rw [any_snoc _ hm hpre]; exact h, rfl⟩) ⟨lk_succ rfl (by omega), by rw [hv]; rfl, trivial⟩
  · have hge : j = s.len := by
      have : ¬ (j : Int) < (s.len : Int) := of_decide_eq_false h
      omega
    rw [hge, List.take_of_length_le (by omega)] at hpre
    rw [hpre] at hC
    repeat (first | with_reducible (first | refine run_seq ?_ | refine run_region ?_ | refine runL_nil ?_ | refine run_skip ?_ | refine run_block ?_ | refine run_inBlock ?_) | refine run_exit rfl ?_ | refine runL_q (qt_pev tok rfl) rfl rfl rfl ?_ | refine runL_g rfl rfl (qt_pev tok rfl) rfl rfl rfl rfl rfl ?_ | refine runL_q (ql tok rfl) rfl rfl rfl ?_ | refine runL_g rfl rfl (ql tok rfl) rfl rfl rfl rfl rfl ?_ | (refine runL_op0 (sst tok rfl rfl rfl rfl rfl) ?_; rintro _ _ _ ⟨rfl, rfl, rfl⟩) | (refine runL_op (st_box rfl) rfl rfl rfl ?_; rintro _ _ _ ⟨_, rfl, rfl, rfl⟩) | (refine runL_op (st_alloc tok rfl) rfl rfl rfl ?_; rintro _ _ _ ⟨_, rfl, rfl, rfl⟩) | (refine runL_op (st_buildSlice tok rfl rfl rfl rfl rfl rfl rfl) rfl rfl rfl ?_; rintro _ _ _ ⟨_, rfl, rfl, rfl⟩))
    exact run_ret hC (rs := [.tmp 2]) rfl (resT rfl resN) (fun _ h => h) ⟨rfl, rfl, rfl⟩
set_option maxHeartbeats 4000000 in
theorem long06_ok (M : Mem) (L : HL) (s : SStr) (hs : s.Ok M) : TrQ Try.prog 19 [s.v] M L (.bool (long06 s)) := by
  have hl : s.xs.length = s.len := by have := hs.1; simpa using this
  refine Tr.intro 19 Try.func19 rfl rfl Try.call19 rfl ?_
  intro C hC hro
  repeat (first | with_reducible (first | refine run_seq ?_ | refine run_region ?_ | refine runL_nil ?_ | refine run_skip ?_ | refine run_block ?_ | refine run_inBlock ?_) | refine run_exit rfl ?_ | refine runL_q (qt_pev tok rfl) rfl rfl rfl ?_ | refine runL_g rfl rfl (qt_pev tok rfl) rfl rfl rfl rfl rfl ?_ | refine runL_q (ql tok rfl) rfl rfl rfl ?_ | refine runL_g rfl rfl (ql tok rfl) rfl rfl rfl rfl rfl ?_ | (refine runL_op0 (sst tok rfl rfl rfl rfl rfl) ?_; rintro _ _ _ ⟨rfl, rfl, rfl⟩) | (refine runL_op (st_box rfl) rfl rfl rfl ?_; rintro _ _ _ ⟨_, rfl, rfl, rfl⟩) | (refine runL_op (st_alloc tok rfl) rfl rfl rfl ?_; rintro _ _ _ ⟨_, rfl, rfl, rfl⟩) | (refine runL_op (st_buildSlice tok rfl rfl rfl rfl rfl rfl rfl) rfl rfl rfl ?_; rintro _ _ _ ⟨_, rfl, rfl, rfl⟩))
  refine run_cond rfl (fun h => ?_) (fun h => ?_)
  · repeat (first | with_reducible (first | refine run_seq ?_ | refine run_region ?_ | refine runL_nil ?_ | refine run_skip ?_ | refine run_block ?_ | refine run_inBlock ?_) | refine run_exit rfl ?_ | refine runL_q (qt_pev tok rfl) rfl rfl rfl ?_ | refine runL_g rfl rfl (qt_pev tok rfl) rfl rfl rfl rfl rfl ?_ | refine runL_q (ql tok rfl) rfl rfl rfl ?_ | refine runL_g rfl rfl (ql tok rfl) rfl rfl rfl rfl rfl ?_ | (refine runL_op0 (sst tok rfl rfl rfl rfl rfl) ?_; rintro _ _ _ ⟨rfl, rfl, rfl⟩) | (refine runL_op (st_box rfl) rfl rfl rfl ?_; rintro _ _ _ ⟨_, rfl, rfl, rfl⟩) | (refine runL_op (st_alloc tok rfl) rfl rfl rfl ?_; rintro _ _ _ ⟨_, rfl, rfl, rfl⟩) | (refine runL_op (st_buildSlice tok rfl rfl rfl rfl rfl rfl rfl) rfl rfl rfl ?_; rintro _ _ _ ⟨_, rfl, rfl, rfl⟩))
    exact run_ret hC (rs := [.tmp 2]) rfl (resT rfl resN) (fun _ h => h) ⟨by rw [long06, h]; rfl, rfl, rfl⟩
  have h20 : ¬ (s.len : Int) > 40 := of_decide_eq_false h
  rw [long06, h, Bool.false_or] at hC
  repeat (first | with_reducible (first | refine run_seq ?_ | refine run_region ?_ | refine runL_nil ?_ | refine run_skip ?_ | refine run_block ?_ | refine run_inBlock ?_) | refine run_exit rfl ?_ | refine runL_q (qt_pev tok rfl) rfl rfl rfl ?_ | refine runL_g rfl rfl (qt_pev tok rfl) rfl rfl rfl rfl rfl ?_ | refine runL_q (ql tok rfl) rfl rfl rfl ?_ | refine runL_g rfl rfl (ql tok rfl) rfl rfl rfl rfl rfl ?_ | (refine runL_op0 (sst tok rfl rfl rfl rfl rfl) ?_; rintro _ _ _ ⟨rfl, rfl, rfl⟩) | (refine runL_op (st_box rfl) rfl rfl rfl ?_; rintro _ _ _ ⟨_, rfl, rfl, rfl⟩) | (refine runL_op (st_alloc tok rfl) rfl rfl rfl ?_; rintro _ _ _ ⟨_, rfl, rfl, rfl⟩) | (refine runL_op (st_buildSlice tok rfl rfl rfl rfl rfl rfl rfl) rfl rfl rfl ?_; rintro _ _ _ ⟨_, rfl, rfl, rfl⟩))
  refine run_loopN (fun j σ1 M1 L1 => j ≤ s.len ∧ M = M1 ∧ L = L1 ∧ ((s.xs.take j).any fun m => decide ((m.size : Int) > 20000)) = false ∧ σ1 = [(3, .int .i64 (j : Int)), (0, s.v)]) s.len [(3, .int .i64 ((0 : Nat) : Int)), (0, s.v)] ?_ ⟨Nat.zero_le _, rfl, rfl, by simp, rfl⟩ (fun j _ _ _ h => h.1) ?_
  · exact ⟨rfl, rfl, trivial⟩
  rintro j _ _ _ ⟨hj, rfl, rfl, hpre, rfl⟩ hnext
  repeat (first | with_reducible (first | refine run_seq ?_ | refine run_region ?_ | refine runL_nil ?_ | refine run_skip ?_ | refine run_block ?_ | refine run_inBlock ?_) | refine run_exit rfl ?_ | refine runL_q (qt_pev tok rfl) rfl rfl rfl ?_ | refine runL_g rfl rfl (qt_pev tok rfl) rfl rfl rfl rfl rfl ?_ | refine runL_q (ql tok rfl) rfl rfl rfl ?_ | refine runL_g rfl rfl (ql tok rfl) rfl rfl rfl rfl rfl ?_ | (refine runL_op0 (sst tok rfl rfl rfl rfl rfl) ?_; rintro _ _ _ ⟨rfl, rfl, rfl⟩) | (refine runL_op (st_box rfl) rfl rfl rfl ?_; rintro _ _ _ ⟨_, rfl, rfl, rfl⟩) | (refine runL_op (st_alloc tok rfl) rfl rfl rfl ?_; rintro _ _ _ ⟨_, rfl, rfl, rfl⟩) | (refine runL_op (st_buildSlice tok rfl rfl rfl rfl rfl rfl rfl) rfl rfl rfl ?_; rintro _ _ _ ⟨_, rfl, rfl, rfl⟩))
  refine run_cond rfl (fun h => ?_) (fun h => ?_)
  · have hlt : j < s.len := of_natlt h
    obtain ⟨b, off, m, hma, hm, hc⟩ := SStr.at_ hs hlt
    have hv : s.v = .slice (some ⟨b, off, none⟩) s.len s.cap := by rw [← hma]; rfl
    refine run_as 0 (.slice (some ⟨b, off, none⟩) s.len s.cap) rfl hv ?_
    repeat (first | with_reducible (first | refine run_seq ?_ | refine run_region ?_ | refine runL_nil ?_ | refine run_skip ?_ | refine run_block ?_ | refine run_inBlock ?_) | refine run_exit rfl ?_ | refine runL_q (qt_pev tok rfl) rfl rfl rfl ?_ | refine runL_g rfl rfl (qt_pev tok rfl) rfl rfl rfl rfl rfl ?_ | refine runL_q (ql tok rfl) rfl rfl rfl ?_ | refine runL_g rfl rfl (ql tok rfl) rfl rfl rfl rfl rfl ?_ | (refine runL_op0 (sst tok rfl rfl rfl rfl rfl) ?_; rintro _ _ _ ⟨rfl, rfl, rfl⟩) | (refine runL_op (st_box rfl) rfl rfl rfl ?_; rintro _ _ _ ⟨_, rfl, rfl, rfl⟩) | (refine runL_op (st_alloc tok rfl) rfl rfl rfl ?_; rintro _ _ _ ⟨_, rfl, rfl, rfl⟩) | (refine runL_op (st_buildSlice tok rfl rfl rfl rfl rfl rfl rfl) rfl rfl rfl ?_; rintro _ _ _ ⟨_, rfl, rfl, rfl⟩) | refine runL_q (qt_indexN tok rfl rfl rfl rfl (fun _ => by omega)) rfl rfl rfl ?_ | refine runL_g rfl rfl (qt_indexN tok rfl rfl rfl rfl (fun _ => by omega)) rfl rfl rfl rfl rfl ?_ | refine runL_q (qt_ldM tok rfl hc rfl) rfl rfl rfl ?_ | refine runL_g rfl rfl (qt_ldM tok rfl hc rfl) rfl rfl rfl rfl rfl ?_ | refine runL_q (qt_ldM0 tok rfl hc rfl) rfl rfl rfl ?_ | refine runL_g rfl rfl (qt_ldM0 tok rfl hc rfl) rfl rfl rfl rfl rfl ?_)
    refine run_cond rfl (fun h => ?_) (fun h => ?_)
    · rw [any_true (fun m : ByteArray => decide ((m.size : Int) > 20000)) hm h] at hC
      repeat (first | with_reducible (first | refine run_seq ?_ | refine run_region ?_ | refine runL_nil ?_ | refine run_skip ?_ | refine run_block ?_ | refine run_inBlock ?_) | refine run_exit rfl ?_ | refine runL_q (qt_pev tok rfl) rfl rfl rfl ?_ | refine runL_g rfl rfl (qt_pev tok rfl) rfl rfl rfl rfl rfl ?_ | refine runL_q (ql tok rfl) rfl rfl rfl ?_ | refine runL_g rfl rfl (ql tok rfl) rfl rfl rfl rfl rfl ?_ | (refine runL_op0 (sst tok rfl rfl rfl rfl rfl) ?_; rintro _ _ _ ⟨rfl, rfl, rfl⟩) | (refine runL_op (st_box rfl) rfl rfl rfl ?_; rintro _ _ _ ⟨_, rfl, rfl, rfl⟩) | (refine runL_op (st_alloc tok rfl) rfl rfl rfl ?_; rintro _ _ _ ⟨_, rfl, rfl, rfl⟩) | (refine runL_op (st_buildSlice tok rfl rfl rfl rfl rfl rfl rfl) rfl rfl rfl ?_; rintro _ _ _ ⟨_, rfl, rfl, rfl⟩))
      exact run_ret hC (rs := [.tmp 2]) rfl (resT rfl resN) (fun _ h => h) ⟨rfl, rfl, rfl⟩
    · repeat (first | with_reducible (first | refine run_seq ?_ | refine run_region ?_ | refine runL_nil ?_ | refine run_skip ?_ | refine run_block ?_ | refine run_inBlock ?_) | refine run_exit rfl ?_ | refine runL_q (qt_pev tok rfl) rfl rfl rfl ?_ | refine runL_g rfl rfl (qt_pev tok rfl) rfl rfl rfl rfl rfl ?_ | refine runL_q (ql tok rfl) rfl rfl rfl ?_ | refine runL_g rfl rfl (ql tok rfl) rfl rfl rfl rfl rfl ?_ | (refine runL_op0 (sst tok rfl rfl rfl rfl rfl) ?_; rintro _ _ _ ⟨rfl, rfl, rfl⟩) | (refine runL_op (st_box rfl) rfl rfl rfl ?_; rintro _ _ _ ⟨_, rfl, rfl, rfl⟩) | (refine runL_op (st_alloc tok rfl) rfl rfl rfl ?_; rintro _ _ _ ⟨_, rfl, rfl, rfl⟩) | (refine runL_op (st_buildSlice tok rfl rfl rfl rfl rfl rfl rfl) rfl rfl rfl ?_; rintro _ _ _ ⟨_, rfl, rfl, rfl⟩))
      exact run_sub' (hnext _ _ _ ⟨hlt, rfl, rfl, by rw [any_snoc _ hm hpre]; exact h, rfl⟩) ⟨lk_succ rfl (by omega), by rw [hv]; rfl, trivial⟩
  · have hge : j = s.len := by
      have : ¬ (j : Int) < (s.len : Int) := of_decide_eq_false h
      omega
    rw [hge, List.take_of_length_le (by omega)] at hpre
    rw [hpre] at hC
    repeat (first | with_reducible (first | refine run_seq ?_ | refine run_region ?_ | refine runL_nil ?_ | refine run_skip ?_ | refine run_block ?_ | refine run_inBlock ?_) | refine run_exit rfl ?_ | refine runL_q (qt_pev tok rfl) rfl rfl rfl ?_ | refine runL_g rfl rfl (qt_pev tok rfl) rfl rfl rfl rfl rfl ?_ | refine runL_q (ql tok rfl) rfl rfl rfl ?_ | refine runL_g rfl rfl (ql tok rfl) rfl rfl rfl rfl rfl ?_ | (refine runL_op0 (sst tok rfl rfl rfl rfl rfl) ?_; rintro _ _ _ ⟨rfl, rfl, rfl⟩) | (refine runL_op (st_box rfl) rfl rfl rfl ?_; rintro _ _ _ ⟨_, rfl, rfl, rfl⟩) | (refine runL_op (st_alloc tok rfl) rfl rfl rfl ?_; rintro _ _ _ ⟨_, rfl, rfl, rfl⟩) | (refine runL_op (st_buildSlice tok rfl rfl rfl rfl rfl rfl rfl) rfl rfl rfl ?_; rintro _ _ _ ⟨_, rfl, rfl, rfl⟩))
    exact run_ret hC (rs := [.tmp 2]) rfl (resT rfl resN) (fun _ h => h) ⟨rfl, rfl, rfl⟩
theorem long12_m {M : Mem} {s : SMb} (hs : s.Ok M) (h : long12 s = false) : MbOk M s ∧ ∀ m ∈ s.xs, m.digest.size < 4611686018427387904 := by
  simp only [long12, Bool.or_eq_false_iff, decide_eq_false_iff_not, List.any_eq_false, decide_eq_true_eq] at h
  exact ⟨⟨hs, by omega⟩, fun m hm => by have := h.2 m hm; omega⟩
theorem long06_m {M : Mem} {s : SStr} (hs : s.Ok M) (h : long06 s = false) : StOk M s ∧ ∀ m ∈ s.xs, m.size < 4611686018427387904 := by
  simp only [long06, Bool.or_eq_false_iff, decide_eq_false_iff_not, List.any_eq_false, decide_eq_true_eq] at h
  exact ⟨⟨hs, by omega⟩, fun m hm => by have := h.2 m hm; omega⟩
/-- a transaction as it is handed over -/
structure CoIn (M : Mem) (c : Co) : Prop where
  mem : c.mem.Ok M
  bodies : c.bodies.Ok M
  votes : c.votes.Ok M
  tags : c.tags.Ok M
  acks : c.acks.Ok M
def longC (c : Co) : Bool := (((long12 c.mem || long06 c.bodies) || long06 c.tags) || decide ((c.votes.len : Int) > 40)) || decide ((c.acks.len : Int) > 40)
set_option maxRecDepth 10000 in
theorem longC_ok (M : Mem) (L : HL) (c : Co) (h : CoIn M c) : TrQ Try.prog 6 [.agg ⟨coC c⟩] M L (.bool (longC c)) := by
  refine Tr.intro 28 Try.func6 rfl rfl Try.call6 rfl ?_
  intro C hC hro
  repeat (first | with_reducible (first | refine run_seq ?_ | refine run_region ?_ | refine runL_nil ?_ | refine run_skip ?_ | refine run_block ?_ | refine run_inBlock ?_) | refine run_exit rfl ?_ | refine runL_q (qt_pev tok rfl) rfl rfl rfl ?_ | refine runL_g rfl rfl (qt_pev tok rfl) rfl rfl rfl rfl rfl ?_ | refine runL_q (ql tok rfl) rfl rfl rfl ?_ | refine runL_g rfl rfl (ql tok rfl) rfl rfl rfl rfl rfl ?_ | (refine runL_op0 (sst tok rfl rfl rfl rfl rfl) ?_; rintro _ _ _ ⟨rfl, rfl, rfl⟩) | (refine runL_op (st_box rfl) rfl rfl rfl ?_; rintro _ _ _ ⟨_, rfl, rfl, rfl⟩) | (refine runL_op (st_alloc tok rfl) rfl rfl rfl ?_; rintro _ _ _ ⟨_, rfl, rfl, rfl⟩) | (refine runL_op (st_buildSlice tok rfl rfl rfl rfl rfl rfl rfl) rfl rfl rfl ?_; rintro _ _ _ ⟨_, rfl, rfl, rfl⟩) | refine runL_q (qt_callF rfl (fun _ => long12_ok _ _ c.mem h.mem)) rfl rfl rfl ?_ | refine runL_g rfl rfl (qt_callF rfl (fun _ => long06_ok _ _ c.bodies h.bodies)) rfl rfl rfl rfl rfl ?_ | refine runL_g rfl rfl (qt_callF rfl (fun _ => long06_ok _ _ c.tags h.tags)) rfl rfl rfl rfl rfl ?_)
  exact run_ret hC (rs := [.tmp 2]) rfl (resT rfl resN) (fun _ h => h.drop) ⟨rfl, rfl, rfl⟩
theorem longC_m {M : Mem} {c : Co} (h : CoIn M c) (hl : longC c = false) : CoOk M c := by
  simp only [longC, Bool.or_eq_false_iff, decide_eq_false_iff_not] at hl
  obtain ⟨⟨⟨⟨h1, h2⟩, h3⟩, h4⟩, h5⟩ := hl
  obtain ⟨a1, a2⟩ := long12_m h.mem h1
  obtain ⟨b1, b2⟩ := long06_m h.bodies h2
  obtain ⟨c1, c2⟩ := long06_m h.tags h3
  exact ⟨a1, b1, ⟨h.votes, by omega⟩, c1, ⟨h.acks, by omega⟩, a2, b2, c2⟩

/-! ### the chapter's transaction -/
def dz : ByteArray := ⟨#[100, 0]⟩
def tx1 : Tx := ⟨0, 1, 1⟩
def ca0 : Ca := newC tx1 3 [⟨1, dz⟩, ⟨2, dz⟩] [dz, dz] 5
def ca1 : Ca := { ca0 with votes := [1, 0], tags := [dz, ⟨#[]⟩] }
def ca2 : Ca := { ca0 with votes := [1, 1], tags := [dz, dz] }
def ca3 : Ca := { ca2 with state := 2, sent := -1 }
theorem two_law : newA tx1 3 [⟨1, dz⟩, ⟨2, dz⟩] [dz, dz] 5 = (ca0, 0) := by kernel_rfl
theorem vote1_law : voteA ca0 1 true dz = (ca1, 0) := by kernel_rfl
theorem vote2_law : voteA ca1 2 true dz = (ca2, 0) := by kernel_rfl
theorem dec_law : decideA ca2 true = (ca3, 0) := by kernel_rfl
theorem vote3_law : voteA ca3 1 true dz = (caZ, 8) := by kernel_rfl
theorem want1_law : wantsR ca1 14 10 = 0 := by kernel_rfl
theorem want2_law : wantsR ca1 15 10 = 2 := by kernel_rfl
theorem want3_law : wantsR ca2 15 10 = 1 := by kernel_rfl
theorem dz_size : dz.size < 4611686018427387904 := by decide
theorem due_ab {c c' : Co} (hl : Lens c) (hl' : Lens c') (h : c.ab = c'.ab) (now retry : Int) : dueR c now retry = dueR c' now retry := by
  have h0 := h
  simp only [Co.ab, Ca.mk.injEq] at h0
  obtain ⟨_, _, h3, _, h5, h6, h7, h8, _, h10⟩ := h0
  have hml : c.mem.len = c'.mem.len := by rw [← hl.mem, ← hl'.mem, h3]
  have ho : ons c = ons c' := by
    unfold ons
    rw [hml]
    congr 1
    funext k
    simp only [onAt, h3, h5, h6, h7]
  have hd : dueB c = dueB c' := by funext m; simp only [dueB, h8]
  unfold dueR
  rw [h, ho, hd, h10]
theorem due_law : dueR ca3.co 0 9 = [1, 2] := by kernel_rfl
set_option maxRecDepth 10000 in
set_option maxHeartbeats 4000000 in
theorem two_ok (M : Mem) (L : HL) : Tr Try.prog 29 [] M L (CoK M L (ca0, 0)) := by
  refine Tr.intro 10 Try.func29 rfl rfl Try.call29 rfl ?_
  intro C hC hro
  repeat (first | with_reducible (first | refine run_seq ?_ | refine run_region ?_ | refine runL_nil ?_ | refine run_skip ?_ | refine run_block ?_ | refine run_inBlock ?_) | refine run_exit rfl ?_ | refine runL_q (qt_pev tok rfl) rfl rfl rfl ?_ | refine runL_g rfl rfl (qt_pev tok rfl) rfl rfl rfl rfl rfl ?_ | refine runL_q (ql tok rfl) rfl rfl rfl ?_ | refine runL_g rfl rfl (ql tok rfl) rfl rfl rfl rfl rfl ?_ | (refine runL_op0 (sst tok rfl rfl rfl rfl rfl) ?_; rintro _ _ _ ⟨rfl, rfl, rfl⟩) | (refine runL_op (st_box rfl) rfl rfl rfl ?_; rintro _ _ _ ⟨_, rfl, rfl, rfl⟩) | (refine runL_op (st_alloc tok rfl) rfl rfl rfl ?_; rintro _ _ _ ⟨_, rfl, rfl, rfl⟩) | (refine runL_op (st_buildSlice tok rfl rfl rfl rfl rfl rfl rfl) rfl rfl rfl ?_; rintro _ _ _ ⟨_, rfl, rfl, rfl⟩))
  rename_i b0 b5 b6
  refine runL_frz 0 rfl ?_
  intro M1 hM1 hb6
  show RunL _ _ _ _ _ _ _ _ _ _ ((b5, _) :: (b0, _) :: L)
  refine runL_frz 0 rfl ?_
  intro M2 hM2 hb5
  show RunL _ _ _ _ _ _ _ _ _ _ ((b0, _) :: L)
  have hs : MbOk M2 ⟨some ⟨b5, 0, none⟩, 2, 2, [⟨1, dz⟩, ⟨2, dz⟩]⟩ := ⟨SlM.ofBlk (ls := [(⟨1, dz⟩ : Mb), ⟨2, dz⟩].map mbC) hb5 rfl (mbC_all _), by show (2 : Nat) < 1000000; decide⟩
  have hb : StOk M2 ⟨some ⟨b6, 0, none⟩, 2, 2, [dz, dz]⟩ := ⟨SlM.ofBlk (ls := [dz, dz].map stC) (hM2.blk _ _ hb6) rfl (stC_all _), by show (2 : Nat) < 1000000; decide⟩
  refine runL_op (st_callF rfl (fun _ => new_ok _ _ tx1 3 ⟨some ⟨b5, 0, none⟩, 2, 2, [⟨1, dz⟩, ⟨2, dz⟩]⟩ ⟨some ⟨b6, 0, none⟩, 2, 2, [dz, dz]⟩ 5 hs hb (by intro m hm; simp at hm; rcases hm with rfl | rfl <;> exact dz_size) (by intro m hm; simp at hm; subst hm; exact dz_size))) rfl rfl rfl ?_
  rintro _ M3 _ ⟨hM3, rfl, c', rfl, hab, hok⟩
  rw [two_law] at hab ⊢
  repeat (first | with_reducible (first | refine run_seq ?_ | refine run_region ?_ | refine runL_nil ?_ | refine run_skip ?_ | refine run_block ?_ | refine run_inBlock ?_) | refine run_exit rfl ?_ | refine runL_q (qt_pev tok rfl) rfl rfl rfl ?_ | refine runL_g rfl rfl (qt_pev tok rfl) rfl rfl rfl rfl rfl ?_ | refine runL_q (ql tok rfl) rfl rfl rfl ?_ | refine runL_g rfl rfl (ql tok rfl) rfl rfl rfl rfl rfl ?_ | (refine runL_op0 (sst tok rfl rfl rfl rfl rfl) ?_; rintro _ _ _ ⟨rfl, rfl, rfl⟩) | (refine runL_op (st_box rfl) rfl rfl rfl ?_; rintro _ _ _ ⟨_, rfl, rfl, rfl⟩) | (refine runL_op (st_alloc tok rfl) rfl rfl rfl ?_; rintro _ _ _ ⟨_, rfl, rfl, rfl⟩) | (refine runL_op (st_buildSlice tok rfl rfl rfl rfl rfl rfl rfl) rfl rfl rfl ?_; rintro _ _ _ ⟨_, rfl, rfl, rfl⟩))
  exact run_ret hC (rs := [.cell 0 29, .tmp 1]) rfl (rl tok rfl (resT rfl resN)) (fun _ h => h.drop) ⟨Mem.le_trans hM1 (Mem.le_trans hM2 hM3), rfl, c', rfl, hab, hok⟩
theorem CoK.as {M : Mem} {L : HL} {r r' : Ca × Int} {P : Program} {f : FuncId} {args : List Value} {M0 : Mem} {L0 : HL} (h : Tr P f args M0 L0 (CoK M L r)) (e : r = r') : Tr P f args M0 L0 (CoK M L r') := e ▸ h
/-! ### the same numbers -/
set_option maxRecDepth 10000 in
set_option maxHeartbeats 4000000 in
theorem sameInt_ok (M : Mem) (L : HL) (s : SInt) (hs : s.Ok M) (hl : s.len = s.xs.length) (hlt6 : s.len < 1000000) (b2 cap : Nat) (hb : (b2, .cells ⟨s.xs.map (fun x => .int .i64 x)⟩ 3 (0, 0)) ∈ L) : TrQ Try.prog 31 [s.v, .slice (some ⟨b2, 0, none⟩) s.len cap] M L (.bool true) := by
  refine Tr.intro 26 Try.func31 rfl rfl Try.call31 rfl ?_
  intro C hC hro
  repeat (first | with_reducible (first | refine run_seq ?_ | refine run_region ?_ | refine runL_nil ?_ | refine run_skip ?_ | refine run_block ?_ | refine run_inBlock ?_) | refine run_exit rfl ?_ | refine runL_q (qt_pev tok rfl) rfl rfl rfl ?_ | refine runL_g rfl rfl (qt_pev tok rfl) rfl rfl rfl rfl rfl ?_ | refine runL_q (ql tok rfl) rfl rfl rfl ?_ | refine runL_g rfl rfl (ql tok rfl) rfl rfl rfl rfl rfl ?_ | (refine runL_op0 (sst tok rfl rfl rfl rfl rfl) ?_; rintro _ _ _ ⟨rfl, rfl, rfl⟩) | (refine runL_op (st_box rfl) rfl rfl rfl ?_; rintro _ _ _ ⟨_, rfl, rfl, rfl⟩) | (refine runL_op (st_alloc tok rfl) rfl rfl rfl ?_; rintro _ _ _ ⟨_, rfl, rfl, rfl⟩) | (refine runL_op (st_buildSlice tok rfl rfl rfl rfl rfl rfl rfl) rfl rfl rfl ?_; rintro _ _ _ ⟨_, rfl, rfl, rfl⟩))
  refine run_cond rfl (fun h => ?_) (fun _ => ?_)
  · simp at h
  repeat (first | with_reducible (first | refine run_seq ?_ | refine run_region ?_ | refine runL_nil ?_ | refine run_skip ?_ | refine run_block ?_ | refine run_inBlock ?_) | refine run_exit rfl ?_ | refine runL_q (qt_pev tok rfl) rfl rfl rfl ?_ | refine runL_g rfl rfl (qt_pev tok rfl) rfl rfl rfl rfl rfl ?_ | refine runL_q (ql tok rfl) rfl rfl rfl ?_ | refine runL_g rfl rfl (ql tok rfl) rfl rfl rfl rfl rfl ?_ | (refine runL_op0 (sst tok rfl rfl rfl rfl rfl) ?_; rintro _ _ _ ⟨rfl, rfl, rfl⟩) | (refine runL_op (st_box rfl) rfl rfl rfl ?_; rintro _ _ _ ⟨_, rfl, rfl, rfl⟩) | (refine runL_op (st_alloc tok rfl) rfl rfl rfl ?_; rintro _ _ _ ⟨_, rfl, rfl, rfl⟩) | (refine runL_op (st_buildSlice tok rfl rfl rfl rfl rfl rfl rfl) rfl rfl rfl ?_; rintro _ _ _ ⟨_, rfl, rfl, rfl⟩))
  refine run_loopN (fun j σ1 M1 L1 => j ≤ s.len ∧ M = M1 ∧ L = L1 ∧ σ1 = [(5, .int .i64 (j : Int)), (0, s.v), (1, .slice (some ⟨b2, 0, none⟩) s.len cap)]) s.len [(5, .int .i64 ((0 : Nat) : Int)), (0, s.v), (1, .slice (some ⟨b2, 0, none⟩) s.len cap)] ?_ ⟨Nat.zero_le _, rfl, rfl, rfl⟩ (fun j _ _ _ h => h.1) ?_
  · exact ⟨rfl, rfl, rfl, trivial⟩
  rintro j _ _ _ ⟨hj, rfl, rfl, rfl⟩ hnext
  repeat (first | with_reducible (first | refine run_seq ?_ | refine run_region ?_ | refine runL_nil ?_ | refine run_skip ?_ | refine run_block ?_ | refine run_inBlock ?_) | refine run_exit rfl ?_ | refine runL_q (qt_pev tok rfl) rfl rfl rfl ?_ | refine runL_g rfl rfl (qt_pev tok rfl) rfl rfl rfl rfl rfl ?_ | refine runL_q (ql tok rfl) rfl rfl rfl ?_ | refine runL_g rfl rfl (ql tok rfl) rfl rfl rfl rfl rfl ?_ | (refine runL_op0 (sst tok rfl rfl rfl rfl rfl) ?_; rintro _ _ _ ⟨rfl, rfl, rfl⟩) | (refine runL_op (st_box rfl) rfl rfl rfl ?_; rintro _ _ _ ⟨_, rfl, rfl, rfl⟩) | (refine runL_op (st_alloc tok rfl) rfl rfl rfl ?_; rintro _ _ _ ⟨_, rfl, rfl, rfl⟩) | (refine runL_op (st_buildSlice tok rfl rfl rfl rfl rfl rfl rfl) rfl rfl rfl ?_; rintro _ _ _ ⟨_, rfl, rfl, rfl⟩))
  refine run_cond rfl (fun h => ?_) (fun h => ?_)
  · have hlt : j < s.len := of_natlt h
    obtain ⟨b, off, cv, hma, hcv, _, hc⟩ := hs.at_ hlt
    obtain ⟨x, hx, rfl⟩ : ∃ y, s.xs[j]? = some y ∧ inC y = cv := by simpa using hcv
    have hv : s.v = .slice (some ⟨b, off, none⟩) s.len s.cap := by rw [← hma]; rfl
    have hc2 : Cells M L b2 (0 + j * 1) (inC x) := ⟨⟨s.xs.map (fun x => .int .i64 x)⟩, _, _, .inl hb, fun i u hu => by
      have hi : i = 0 := by have := (List.getElem?_eq_some_iff.1 hu).1; simpa [inC] using this
      subst hi
      simp only [inC, List.getElem?_cons_zero] at hu
      simp only [Nat.zero_add, Nat.mul_one, Nat.add_zero, List.getElem?_toArray, List.getElem?_map, hx]
      exact hu⟩
    refine run_as 0 (.slice (some ⟨b, off, none⟩) s.len s.cap) rfl hv ?_
    repeat (first | with_reducible (first | refine run_seq ?_ | refine run_region ?_ | refine runL_nil ?_ | refine run_skip ?_ | refine run_block ?_ | refine run_inBlock ?_) | refine run_exit rfl ?_ | refine runL_q (qt_pev tok rfl) rfl rfl rfl ?_ | refine runL_g rfl rfl (qt_pev tok rfl) rfl rfl rfl rfl rfl ?_ | refine runL_q (ql tok rfl) rfl rfl rfl ?_ | refine runL_g rfl rfl (ql tok rfl) rfl rfl rfl rfl rfl ?_ | (refine runL_op0 (sst tok rfl rfl rfl rfl rfl) ?_; rintro _ _ _ ⟨rfl, rfl, rfl⟩) | (refine runL_op (st_box rfl) rfl rfl rfl ?_; rintro _ _ _ ⟨_, rfl, rfl, rfl⟩) | (refine runL_op (st_alloc tok rfl) rfl rfl rfl ?_; rintro _ _ _ ⟨_, rfl, rfl, rfl⟩) | (refine runL_op (st_buildSlice tok rfl rfl rfl rfl rfl rfl rfl) rfl rfl rfl ?_; rintro _ _ _ ⟨_, rfl, rfl, rfl⟩) | refine prn_start mixed ?_ | refine prn_end (by decide +kernel) ?_ | refine prn_q rfl (qt_pev tok rfl) (by decide +kernel) rfl rfl rfl ?_ | refine prn_g rfl rfl rfl (qt_pev tok rfl) (by decide +kernel) rfl rfl rfl rfl rfl ?_ | refine prn_q rfl (ql tok rfl) (by decide +kernel) rfl rfl rfl ?_ | refine prn_g rfl rfl rfl (ql tok rfl) (by decide +kernel) rfl rfl rfl rfl rfl ?_ | (refine prn_e0 rfl (sst tok rfl rfl rfl rfl rfl) (by decide +kernel) ?_; rintro _ _ _ ⟨rfl, rfl, rfl⟩) | (refine prn_e1 rfl (st_box rfl) (by decide +kernel) rfl rfl rfl ?_; rintro _ _ _ ⟨_, rfl, rfl, rfl⟩) | (refine prn_e1 rfl (st_alloc tok rfl) (by decide +kernel) rfl rfl rfl ?_; rintro _ _ _ ⟨_, rfl, rfl, rfl⟩) | (refine prn_e1 rfl (st_buildSlice tok rfl rfl rfl rfl rfl rfl rfl) (by decide +kernel) rfl rfl rfl ?_; rintro _ _ _ ⟨_, rfl, rfl, rfl⟩) | (refine prn_o0 rfl (sst tok rfl rfl rfl rfl rfl) (by decide +kernel) ?_; rintro _ _ _ ⟨rfl, rfl, rfl⟩; refine ⟨by (repeat (first | exact trivial | refine And.intro (pend_q rfl rfl rfl (qt_pev tok rfl)) ?_ | refine And.intro (pend_q rfl rfl rfl (ql tok rfl)) ?_)), ?_⟩) | (refine prn_o1 rfl (st_box rfl) (by decide +kernel) rfl rfl rfl ?_; rintro _ _ _ ⟨_, rfl, rfl, rfl⟩; refine ⟨by (repeat (first | exact trivial | refine And.intro (pend_q rfl rfl rfl (qt_pev tok rfl)) ?_ | refine And.intro (pend_q rfl rfl rfl (ql tok rfl)) ?_)), ?_⟩) | (refine prn_o1 rfl (st_alloc tok rfl) (by decide +kernel) rfl rfl rfl ?_; rintro _ _ _ ⟨_, rfl, rfl, rfl⟩; refine ⟨by (repeat (first | exact trivial | refine And.intro (pend_q rfl rfl rfl (qt_pev tok rfl)) ?_ | refine And.intro (pend_q rfl rfl rfl (ql tok rfl)) ?_)), ?_⟩) | (refine prn_o1 rfl (st_buildSlice tok rfl rfl rfl rfl rfl rfl rfl) (by decide +kernel) rfl rfl rfl ?_; rintro _ _ _ ⟨_, rfl, rfl, rfl⟩; refine ⟨by (repeat (first | exact trivial | refine And.intro (pend_q rfl rfl rfl (qt_pev tok rfl)) ?_ | refine And.intro (pend_q rfl rfl rfl (ql tok rfl)) ?_)), ?_⟩) | (refine prn_e1 rfl (qt_pev tok rfl) (by decide +kernel) rfl rfl rfl ?_; rintro _ _ _ ⟨rfl, rfl, rfl⟩) | refine prn_q rfl (qt_indexN tok rfl rfl rfl rfl (fun _ => by omega)) (by decide +kernel) rfl rfl rfl ?_ | refine prn_g rfl rfl rfl (qt_indexN tok rfl rfl rfl rfl (fun _ => by omega)) (by decide +kernel) rfl rfl rfl rfl rfl ?_ | refine prn_q rfl (qt_ldM tok rfl hc rfl) (by decide +kernel) rfl rfl rfl ?_ | refine prn_g rfl rfl rfl (qt_ldM tok rfl hc rfl) (by decide +kernel) rfl rfl rfl rfl rfl ?_ | refine prn_q rfl (qt_ldM0 tok rfl hc rfl) (by decide +kernel) rfl rfl rfl ?_ | refine prn_g rfl rfl rfl (qt_ldM0 tok rfl hc rfl) (by decide +kernel) rfl rfl rfl rfl rfl ?_ | refine prn_q rfl (qt_ldC (k := 0) tok rfl hc2 rfl) (by decide +kernel) rfl rfl rfl ?_)
    refine run_cond rfl (fun h => ?_) (fun h => ?_)
    · simp at h
    · repeat (first | with_reducible (first | refine run_seq ?_ | refine run_region ?_ | refine runL_nil ?_ | refine run_skip ?_ | refine run_block ?_ | refine run_inBlock ?_) | refine run_exit rfl ?_ | refine runL_q (qt_pev tok rfl) rfl rfl rfl ?_ | refine runL_g rfl rfl (qt_pev tok rfl) rfl rfl rfl rfl rfl ?_ | refine runL_q (ql tok rfl) rfl rfl rfl ?_ | refine runL_g rfl rfl (ql tok rfl) rfl rfl rfl rfl rfl ?_ | (refine runL_op0 (sst tok rfl rfl rfl rfl rfl) ?_; rintro _ _ _ ⟨rfl, rfl, rfl⟩) | (refine runL_op (st_box rfl) rfl rfl rfl ?_; rintro _ _ _ ⟨_, rfl, rfl, rfl⟩) | (refine runL_op (st_alloc tok rfl) rfl rfl rfl ?_; rintro _ _ _ ⟨_, rfl, rfl, rfl⟩) | (refine runL_op (st_buildSlice tok rfl rfl rfl rfl rfl rfl rfl) rfl rfl rfl ?_; rintro _ _ _ ⟨_, rfl, rfl, rfl⟩))
      exact run_sub' (hnext _ _ _ ⟨hlt, rfl, rfl, rfl⟩) ⟨lk_succ rfl (by omega), by rw [hv]; rfl, rfl, trivial⟩
  · repeat (first | with_reducible (first | refine run_seq ?_ | refine run_region ?_ | refine runL_nil ?_ | refine run_skip ?_ | refine run_block ?_ | refine run_inBlock ?_) | refine run_exit rfl ?_ | refine runL_q (qt_pev tok rfl) rfl rfl rfl ?_ | refine runL_g rfl rfl (qt_pev tok rfl) rfl rfl rfl rfl rfl ?_ | refine runL_q (ql tok rfl) rfl rfl rfl ?_ | refine runL_g rfl rfl (ql tok rfl) rfl rfl rfl rfl rfl ?_ | (refine runL_op0 (sst tok rfl rfl rfl rfl rfl) ?_; rintro _ _ _ ⟨rfl, rfl, rfl⟩) | (refine runL_op (st_box rfl) rfl rfl rfl ?_; rintro _ _ _ ⟨_, rfl, rfl, rfl⟩) | (refine runL_op (st_alloc tok rfl) rfl rfl rfl ?_; rintro _ _ _ ⟨_, rfl, rfl, rfl⟩) | (refine runL_op (st_buildSlice tok rfl rfl rfl rfl rfl rfl rfl) rfl rfl rfl ?_; rintro _ _ _ ⟨_, rfl, rfl, rfl⟩))
    exact run_ret hC (rs := [.tmp 4]) rfl (resT rfl resN) (fun _ h => h) ⟨rfl, rfl, rfl⟩
set_option maxRecDepth 10000 in
set_option maxHeartbeats 8000000 in
theorem alive_ok (M : Mem) (L : HL) : Tr Try.prog 7 [] M L (fun v M' L' => v = .bool true ∧ M.le M' ∧ L = L') := by
  refine Tr.intro 74 Try.func7 rfl rfl Try.call7 rfl ?_
  intro C hC hro
  repeat (first | with_reducible (first | refine run_seq ?_ | refine run_region ?_ | refine runL_nil ?_ | refine run_skip ?_ | refine run_block ?_ | refine run_inBlock ?_) | refine run_exit rfl ?_ | refine runL_q (qt_pev tok rfl) rfl rfl rfl ?_ | refine runL_g rfl rfl (qt_pev tok rfl) rfl rfl rfl rfl rfl ?_ | refine runL_q (ql tok rfl) rfl rfl rfl ?_ | refine runL_g rfl rfl (ql tok rfl) rfl rfl rfl rfl rfl ?_ | (refine runL_op0 (sst tok rfl rfl rfl rfl rfl) ?_; rintro _ _ _ ⟨rfl, rfl, rfl⟩) | (refine runL_op (st_box rfl) rfl rfl rfl ?_; rintro _ _ _ ⟨_, rfl, rfl, rfl⟩) | (refine runL_op (st_alloc tok rfl) rfl rfl rfl ?_; rintro _ _ _ ⟨_, rfl, rfl, rfl⟩) | (refine runL_op (st_buildSlice tok rfl rfl rfl rfl rfl rfl rfl) rfl rfl rfl ?_; rintro _ _ _ ⟨_, rfl, rfl, rfl⟩) | (refine runL_op (st_callF rfl (fun _ => two_ok _ _)) rfl rfl rfl ?_; rintro _ M1 _ ⟨hM1, rfl, c0, rfl, a0, k0⟩))
  replace a0 : c0.ab = ca0 := a0
  refine runL_op (st_callF rfl (fun _ => CoK.as (r' := (ca1, 0)) (vote_ok _ _ c0 k0 1 true dz dz_size) (by rw [a0]; exact vote1_law))) rfl rfl rfl ?_
  rintro _ M2 _ ⟨hM2, rfl, c1, rfl, a1, k1⟩
  replace a1 : c1.ab = ca1 := a1
  repeat (first | with_reducible (first | refine run_seq ?_ | refine run_region ?_ | refine runL_nil ?_ | refine run_skip ?_ | refine run_block ?_ | refine run_inBlock ?_) | refine run_exit rfl ?_ | refine runL_q (qt_pev tok rfl) rfl rfl rfl ?_ | refine runL_g rfl rfl (qt_pev tok rfl) rfl rfl rfl rfl rfl ?_ | refine runL_q (ql tok rfl) rfl rfl rfl ?_ | refine runL_g rfl rfl (ql tok rfl) rfl rfl rfl rfl rfl ?_ | (refine runL_op0 (sst tok rfl rfl rfl rfl rfl) ?_; rintro _ _ _ ⟨rfl, rfl, rfl⟩) | (refine runL_op (st_box rfl) rfl rfl rfl ?_; rintro _ _ _ ⟨_, rfl, rfl, rfl⟩) | (refine runL_op (st_alloc tok rfl) rfl rfl rfl ?_; rintro _ _ _ ⟨_, rfl, rfl, rfl⟩) | (refine runL_op (st_buildSlice tok rfl rfl rfl rfl rfl rfl rfl) rfl rfl rfl ?_; rintro _ _ _ ⟨_, rfl, rfl, rfl⟩))
  refine runL_op (st_callF rfl (fun _ => CoK.as (r' := (ca2, 0)) (vote_ok _ _ c1 k1 2 true dz dz_size) (by rw [a1]; exact vote2_law))) rfl rfl rfl ?_
  rintro _ M3 _ ⟨hM3, rfl, c2, rfl, a2, k2⟩
  replace a2 : c2.ab = ca2 := a2
  repeat (first | with_reducible (first | refine run_seq ?_ | refine run_region ?_ | refine runL_nil ?_ | refine run_skip ?_ | refine run_block ?_ | refine run_inBlock ?_) | refine run_exit rfl ?_ | refine runL_q (qt_pev tok rfl) rfl rfl rfl ?_ | refine runL_g rfl rfl (qt_pev tok rfl) rfl rfl rfl rfl rfl ?_ | refine runL_q (ql tok rfl) rfl rfl rfl ?_ | refine runL_g rfl rfl (ql tok rfl) rfl rfl rfl rfl rfl ?_ | (refine runL_op0 (sst tok rfl rfl rfl rfl rfl) ?_; rintro _ _ _ ⟨rfl, rfl, rfl⟩) | (refine runL_op (st_box rfl) rfl rfl rfl ?_; rintro _ _ _ ⟨_, rfl, rfl, rfl⟩) | (refine runL_op (st_alloc tok rfl) rfl rfl rfl ?_; rintro _ _ _ ⟨_, rfl, rfl, rfl⟩) | (refine runL_op (st_buildSlice tok rfl rfl rfl rfl rfl rfl rfl) rfl rfl rfl ?_; rintro _ _ _ ⟨_, rfl, rfl, rfl⟩))
  refine runL_op (st_callF rfl (fun _ => CoK.as (r' := (ca3, 0)) (decide_ok _ _ c2 k2 true) (by rw [a2]; exact dec_law))) rfl rfl rfl ?_
  rintro _ M4 _ ⟨hM4, rfl, c3, rfl, a3, k3⟩
  replace a3 : c3.ab = ca3 := a3
  repeat (first | with_reducible (first | refine run_seq ?_ | refine run_region ?_ | refine runL_nil ?_ | refine run_skip ?_ | refine run_block ?_ | refine run_inBlock ?_) | refine run_exit rfl ?_ | refine runL_q (qt_pev tok rfl) rfl rfl rfl ?_ | refine runL_g rfl rfl (qt_pev tok rfl) rfl rfl rfl rfl rfl ?_ | refine runL_q (ql tok rfl) rfl rfl rfl ?_ | refine runL_g rfl rfl (ql tok rfl) rfl rfl rfl rfl rfl ?_ | (refine runL_op0 (sst tok rfl rfl rfl rfl rfl) ?_; rintro _ _ _ ⟨rfl, rfl, rfl⟩) | (refine runL_op (st_box rfl) rfl rfl rfl ?_; rintro _ _ _ ⟨_, rfl, rfl, rfl⟩) | (refine runL_op (st_alloc tok rfl) rfl rfl rfl ?_; rintro _ _ _ ⟨_, rfl, rfl, rfl⟩) | (refine runL_op (st_buildSlice tok rfl rfl rfl rfl rfl rfl rfl) rfl rfl rfl ?_; rintro _ _ _ ⟨_, rfl, rfl, rfl⟩))
  refine runL_op (st_callF rfl (fun _ => CoK.as (r' := (caZ, 8)) (vote_ok _ _ c3 k3 1 true dz dz_size) (by rw [a3]; exact vote3_law))) rfl rfl rfl ?_
  rintro _ M5 _ ⟨hM5, rfl, c4, rfl, a4, k4⟩
  have k3' := k3.le hM5
  have k2' := (k2.le hM4).le hM5
  have k1' := ((k1.le hM3).le hM4).le hM5
  have w1 : wantsR c1.ab 14 10 = 0 := by rw [a1]; exact want1_law
  have w2 : wantsR c1.ab 15 10 = 2 := by rw [a1]; exact want2_law
  have w3 : wantsR c2.ab 15 10 = 1 := by rw [a2]; exact want3_law
  have d1 : dueR c3 0 9 = [1, 2] := by rw [due_ab k3.lens ⟨rfl, rfl, rfl, rfl, rfl⟩ (show c3.ab = (ca3.co).ab from a3) 0 9]; exact due_law
  repeat (first | with_reducible (first | refine run_seq ?_ | refine run_region ?_ | refine runL_nil ?_ | refine run_skip ?_ | refine run_block ?_ | refine run_inBlock ?_) | refine run_exit rfl ?_ | refine runL_q (qt_pev tok rfl) rfl rfl rfl ?_ | refine runL_gK rfl rfl (qt_pev tok rfl) rfl rfl rfl ?_ | refine runL_gF rfl rfl rfl rfl rfl ?_ | refine runL_g rfl rfl (qt_pev tok rfl) rfl rfl rfl rfl rfl ?_ | refine runL_q (ql tok rfl) rfl rfl rfl ?_ | refine runL_gK rfl rfl (ql tok rfl) rfl rfl rfl ?_ | refine runL_gF rfl rfl rfl rfl rfl ?_ | refine runL_g rfl rfl (ql tok rfl) rfl rfl rfl rfl rfl ?_ | (refine runL_op0 (sst tok rfl rfl rfl rfl rfl) ?_; rintro _ _ _ ⟨rfl, rfl, rfl⟩) | (refine runL_op (st_box rfl) rfl rfl rfl ?_; rintro _ _ _ ⟨_, rfl, rfl, rfl⟩) | (refine runL_op (st_alloc tok rfl) rfl rfl rfl ?_; rintro _ _ _ ⟨_, rfl, rfl, rfl⟩) | (refine runL_op (st_buildSlice tok rfl rfl rfl rfl rfl rfl rfl) rfl rfl rfl ?_; rintro _ _ _ ⟨_, rfl, rfl, rfl⟩))
  refine runL_gK rfl rfl (Qt.as (v' := .int .u8 0) (qt_callF rfl (fun _ => wants_ok _ _ c1 k1' 14 10)) (by rw [w1])) rfl rfl rfl ?_
  repeat (first | with_reducible (first | refine run_seq ?_ | refine run_region ?_ | refine runL_nil ?_ | refine run_skip ?_ | refine run_block ?_ | refine run_inBlock ?_) | refine run_exit rfl ?_ | refine runL_q (qt_pev tok rfl) rfl rfl rfl ?_ | refine runL_gK rfl rfl (qt_pev tok rfl) rfl rfl rfl ?_ | refine runL_gF rfl rfl rfl rfl rfl ?_ | refine runL_g rfl rfl (qt_pev tok rfl) rfl rfl rfl rfl rfl ?_ | refine runL_q (ql tok rfl) rfl rfl rfl ?_ | refine runL_gK rfl rfl (ql tok rfl) rfl rfl rfl ?_ | refine runL_gF rfl rfl rfl rfl rfl ?_ | refine runL_g rfl rfl (ql tok rfl) rfl rfl rfl rfl rfl ?_ | (refine runL_op0 (sst tok rfl rfl rfl rfl rfl) ?_; rintro _ _ _ ⟨rfl, rfl, rfl⟩) | (refine runL_op (st_box rfl) rfl rfl rfl ?_; rintro _ _ _ ⟨_, rfl, rfl, rfl⟩) | (refine runL_op (st_alloc tok rfl) rfl rfl rfl ?_; rintro _ _ _ ⟨_, rfl, rfl, rfl⟩) | (refine runL_op (st_buildSlice tok rfl rfl rfl rfl rfl rfl rfl) rfl rfl rfl ?_; rintro _ _ _ ⟨_, rfl, rfl, rfl⟩))
  refine runL_gK rfl rfl (Qt.as (v' := .int .u8 2) (qt_callF rfl (fun _ => wants_ok _ _ c1 k1' 15 10)) (by rw [w2])) rfl rfl rfl ?_
  repeat (first | with_reducible (first | refine run_seq ?_ | refine run_region ?_ | refine runL_nil ?_ | refine run_skip ?_ | refine run_block ?_ | refine run_inBlock ?_) | refine run_exit rfl ?_ | refine runL_q (qt_pev tok rfl) rfl rfl rfl ?_ | refine runL_gK rfl rfl (qt_pev tok rfl) rfl rfl rfl ?_ | refine runL_gF rfl rfl rfl rfl rfl ?_ | refine runL_g rfl rfl (qt_pev tok rfl) rfl rfl rfl rfl rfl ?_ | refine runL_q (ql tok rfl) rfl rfl rfl ?_ | refine runL_gK rfl rfl (ql tok rfl) rfl rfl rfl ?_ | refine runL_gF rfl rfl rfl rfl rfl ?_ | refine runL_g rfl rfl (ql tok rfl) rfl rfl rfl rfl rfl ?_ | (refine runL_op0 (sst tok rfl rfl rfl rfl rfl) ?_; rintro _ _ _ ⟨rfl, rfl, rfl⟩) | (refine runL_op (st_box rfl) rfl rfl rfl ?_; rintro _ _ _ ⟨_, rfl, rfl, rfl⟩) | (refine runL_op (st_alloc tok rfl) rfl rfl rfl ?_; rintro _ _ _ ⟨_, rfl, rfl, rfl⟩) | (refine runL_op (st_buildSlice tok rfl rfl rfl rfl rfl rfl rfl) rfl rfl rfl ?_; rintro _ _ _ ⟨_, rfl, rfl, rfl⟩))
  refine runL_gK rfl rfl (Qt.as (v' := .int .u8 1) (qt_callF rfl (fun _ => wants_ok _ _ c2 k2' 15 10)) (by rw [w3])) rfl rfl rfl ?_
  repeat (first | with_reducible (first | refine run_seq ?_ | refine run_region ?_ | refine runL_nil ?_ | refine run_skip ?_ | refine run_block ?_ | refine run_inBlock ?_) | refine run_exit rfl ?_ | refine runL_q (qt_pev tok rfl) rfl rfl rfl ?_ | refine runL_gK rfl rfl (qt_pev tok rfl) rfl rfl rfl ?_ | refine runL_gF rfl rfl rfl rfl rfl ?_ | refine runL_g rfl rfl (qt_pev tok rfl) rfl rfl rfl rfl rfl ?_ | refine runL_q (ql tok rfl) rfl rfl rfl ?_ | refine runL_gK rfl rfl (ql tok rfl) rfl rfl rfl ?_ | refine runL_gF rfl rfl rfl rfl rfl ?_ | refine runL_g rfl rfl (ql tok rfl) rfl rfl rfl rfl rfl ?_ | (refine runL_op0 (sst tok rfl rfl rfl rfl rfl) ?_; rintro _ _ _ ⟨rfl, rfl, rfl⟩) | (refine runL_op (st_box rfl) rfl rfl rfl ?_; rintro _ _ _ ⟨_, rfl, rfl, rfl⟩) | (refine runL_op (st_alloc tok rfl) rfl rfl rfl ?_; rintro _ _ _ ⟨_, rfl, rfl, rfl⟩) | (refine runL_op (st_buildSlice tok rfl rfl rfl rfl rfl rfl rfl) rfl rfl rfl ?_; rintro _ _ _ ⟨_, rfl, rfl, rfl⟩))
  refine runL_gT rfl rfl (st_callF rfl (fun _ => due_ok _ _ c3 k3' 0 9)) rfl rfl rfl ?_
  rintro _ M6 _ ⟨hM6, rfl, ⟨sa, sl, sc, sx⟩, rfl, hso, hsx, hsl, _⟩
  rw [d1] at hsx
  simp only at hsx hsl
  subst hsx
  replace hsl : sl = 2 := hsl
  subst hsl
  refine runL_gT rfl rfl (st_buildSlice tok rfl rfl rfl rfl rfl rfl rfl) rfl rfl rfl ?_
  rintro _ _ _ ⟨bs, rfl, rfl, rfl⟩
  refine runL_gK rfl rfl (qt_callF rfl (fun _ => sameInt_ok _ _ ⟨sa, 2, sc, [1, 2]⟩ hso rfl (by show (2 : Nat) < 1000000; decide) bs 2 List.mem_cons_self)) rfl rfl rfl ?_
  repeat (first | with_reducible (first | refine run_seq ?_ | refine run_region ?_ | refine runL_nil ?_ | refine run_skip ?_ | refine run_block ?_ | refine run_inBlock ?_) | refine run_exit rfl ?_ | refine runL_q (qt_pev tok rfl) rfl rfl rfl ?_ | refine runL_gK rfl rfl (qt_pev tok rfl) rfl rfl rfl ?_ | refine runL_gF rfl rfl rfl rfl rfl ?_ | refine runL_g rfl rfl (qt_pev tok rfl) rfl rfl rfl rfl rfl ?_ | refine runL_q (ql tok rfl) rfl rfl rfl ?_ | refine runL_gK rfl rfl (ql tok rfl) rfl rfl rfl ?_ | refine runL_gF rfl rfl rfl rfl rfl ?_ | refine runL_g rfl rfl (ql tok rfl) rfl rfl rfl rfl rfl ?_ | (refine runL_op0 (sst tok rfl rfl rfl rfl rfl) ?_; rintro _ _ _ ⟨rfl, rfl, rfl⟩) | (refine runL_op (st_box rfl) rfl rfl rfl ?_; rintro _ _ _ ⟨_, rfl, rfl, rfl⟩) | (refine runL_op (st_alloc tok rfl) rfl rfl rfl ?_; rintro _ _ _ ⟨_, rfl, rfl, rfl⟩) | (refine runL_op (st_buildSlice tok rfl rfl rfl rfl rfl rfl rfl) rfl rfl rfl ?_; rintro _ _ _ ⟨_, rfl, rfl, rfl⟩))
  have hMM : M.le M6 := Mem.le_trans hM1 (Mem.le_trans hM2 (Mem.le_trans hM3 (Mem.le_trans hM4 (Mem.le_trans hM5 hM6))))
  exact run_ret hC (rs := [.tmp 0]) rfl (resT rfl resN) (fun _ h => h.drop.drop.drop.drop.drop.drop) ⟨rfl, hMM, rfl⟩
end Go.Proofs.Ytpmepmdngdkafaa
