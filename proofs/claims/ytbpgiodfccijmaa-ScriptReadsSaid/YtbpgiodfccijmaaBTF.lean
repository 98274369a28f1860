import Derived.Test.YtbpgiodfccijmaaBTB
import Derived.Test.YtbpgiodfccijmaaBTE
import Derived.Test.YtbpgiodfccijmaaBTD
import Derived.KernelRfl
namespace Go.Proofs.Ytbpgiodfccijmaa
open Go.Chi

theorem sameSp_iff (x y : Sp) : sameSp x y = true ↔ x = y := by
  obtain ⟨d, a, b, c, n, t, l⟩ := x
  obtain ⟨d', a', b', c', n', t', l'⟩ := y
  unfold sameSp
  rw [bytes_beq]
  simp [and_assoc]
set_option maxRecDepth 10000 in
set_option maxHeartbeats 32000000 in
theorem refSameAct_ok (M : Mem) (L : HL) (x y : Ax) (hx : AxOk M x) (hy : AxOk M y) (r : Bool) (hr : r = true ↔ x.aa = y.aa) : TrQ Try.prog 21 [.agg ⟨axC x⟩, .agg ⟨axC y⟩] M L (.bool r) := by
  have l1 := hx.gives.len
  have l2 := hy.gives.len
  have l3 := hx.steps.len
  have l4 := hy.steps.len
  have n1 := hx.gives.2
  have n3 := hx.steps.lt
  refine Tr.intro 102 Try.func21 rfl rfl Try.call21 rfl ?_
  intro C hC hro
  repeat (first | with_reducible (first | refine cS ?_ | refine cR ?_ | refine cN ?_ | refine cK ?_ | refine cB ?_ | refine cI ?_) | refine cE rfl ?_ | refine rq (qt_pev tok rfl) ?_ | refine rg rfl rfl (qt_pev tok rfl) ?_ | refine rq (ql tok rfl) ?_ | refine rg rfl rfl (ql tok rfl) ?_ | (refine runL_op0 (sst tok rfl rfl rfl rfl rfl) ?_; rintro _ _ _ ⟨rfl, rfl, rfl⟩) | ((first | refine ro (st_box rfl) ?_ | refine ro (st_alloc tok rfl) ?_ | refine ro (st_buildSlice tok rfl rfl rfl rfl rfl rfl rfl) ?_); rintro _ _ _ ⟨_, rfl, rfl, rfl⟩))
  rename_i bx bY
  refine run_cond rfl (fun h => ?_) (fun h => ?_)
  · have hrf : r = false := by
      cases r with
      | false => rfl
      | true =>
        exfalso
        have he := hr.1 rfl
        simp only [Ax.aa, Aa.mk.injEq] at he
        obtain ⟨e1, e2, e3, e4, e5, e6, e7, e8⟩ := he
        have e9 : x.gives.len = y.gives.len := by rw [← l1, ← l2, e5]
        have e10 : x.steps.len = y.steps.len := by have := congrArg List.length e8; simpa [l3, l4] using this
        simp [e1, e2, e3, e4, e6, e7, e9, e10] at h
    subst hrf
    repeat (first | with_reducible (first | refine cS ?_ | refine cR ?_ | refine cN ?_ | refine cK ?_ | refine cB ?_ | refine cI ?_) | refine cE rfl ?_ | refine rq (qt_pev tok rfl) ?_ | refine rg rfl rfl (qt_pev tok rfl) ?_ | refine rq (ql tok rfl) ?_ | refine rg rfl rfl (ql tok rfl) ?_ | (refine runL_op0 (sst tok rfl rfl rfl rfl rfl) ?_; rintro _ _ _ ⟨rfl, rfl, rfl⟩) | ((first | refine ro (st_box rfl) ?_ | refine ro (st_alloc tok rfl) ?_ | refine ro (st_buildSlice tok rfl rfl rfl rfl rfl rfl rfl) ?_); rintro _ _ _ ⟨_, rfl, rfl, rfl⟩))
    exact run_ret hC (rs := [.tmp 4]) rfl (resT rfl resN) (fun _ h => h.drop.drop) ⟨rfl, rfl, rfl⟩
  have hall : x.do_ = y.do_ ∧ x.org = y.org ∧ x.auditor = y.auditor ∧ x.n = y.n ∧ x.txn = y.txn ∧ x.yes = y.yes ∧ x.gives.len = y.gives.len ∧ x.steps.len = y.steps.len := by
    simp only [Bool.or_eq_false_iff, bne_eq_false_iff_eq, Bool.not_eq_false', Bool.and_eq_true, beq_iff_eq, and_true] at h
    obtain ⟨⟨⟨⟨⟨⟨⟨e1, e2⟩, e3⟩, e4⟩, e5, e6, e7⟩, e8⟩, e9⟩, e10⟩ := h
    refine ⟨e1, e2, e3, e4, ?_, e8, by omega, by omega⟩
    cases hxt : x.txn
    cases hyt : y.txn
    rw [hxt, hyt] at e5 e6 e7
    simp only at e5 e6 e7
    rw [e5, e6, e7]
  obtain ⟨e1, e2, e3, e4, e6, e7, e9, e10⟩ := hall
  have hr2 : r = true ↔ x.gives.xs = y.gives.xs ∧ x.steps.xs.map Sr.sp = y.steps.xs.map Sr.sp := by
    rw [hr]
    simp only [Ax.aa, Aa.mk.injEq]
    exact ⟨fun q => ⟨q.2.2.2.2.1, q.2.2.2.2.2.2.2⟩, fun q => ⟨e1, e2, e3, e4, q.1, e6, e7, q.2⟩⟩
  repeat (first | with_reducible (first | refine cS ?_ | refine cR ?_ | refine cN ?_ | refine cK ?_ | refine cB ?_ | refine cI ?_) | refine cE rfl ?_ | refine rq (qt_pev tok rfl) ?_ | refine rg rfl rfl (qt_pev tok rfl) ?_ | refine rq (ql tok rfl) ?_ | refine rg rfl rfl (ql tok rfl) ?_ | (refine runL_op0 (sst tok rfl rfl rfl rfl rfl) ?_; rintro _ _ _ ⟨rfl, rfl, rfl⟩) | ((first | refine ro (st_box rfl) ?_ | refine ro (st_alloc tok rfl) ?_ | refine ro (st_buildSlice tok rfl rfl rfl rfl rfl rfl rfl) ?_); rintro _ _ _ ⟨_, rfl, rfl, rfl⟩))
  refine run_loopN (fun j σ1 M1 L1 => j ≤ x.gives.len ∧ M = M1 ∧ x.gives.xs.take j = y.gives.xs.take j ∧ L1 = (bY, .cells ⟨axC y⟩ 37 (0, 0)) :: (bx, .cells ⟨axC x⟩ 37 (0, 0)) :: L ∧ σ1 = [(5, .int .i64 (j : Int)), (2, .pointer (some ⟨bx, 0, none⟩)), (3, .pointer (some ⟨bY, 0, none⟩))]) x.gives.len [(5, .int .i64 ((0 : Nat) : Int)), (2, .pointer (some ⟨bx, 0, none⟩)), (3, .pointer (some ⟨bY, 0, none⟩))] ?_ ⟨Nat.zero_le _, rfl, by simp, rfl, rfl⟩ (fun j _ _ _ h => h.1) ?_
  · exact ⟨rfl, rfl, rfl, trivial⟩
  rintro j _ _ _ ⟨hj, rfl, heq, rfl, rfl⟩ hnext
  repeat (first | with_reducible (first | refine cS ?_ | refine cR ?_ | refine cN ?_ | refine cK ?_ | refine cB ?_ | refine cI ?_) | refine cE rfl ?_ | refine rq (qt_pev tok rfl) ?_ | refine rg rfl rfl (qt_pev tok rfl) ?_ | refine rq (ql tok rfl) ?_ | refine rg rfl rfl (ql tok rfl) ?_ | (refine runL_op0 (sst tok rfl rfl rfl rfl rfl) ?_; rintro _ _ _ ⟨rfl, rfl, rfl⟩) | ((first | refine ro (st_box rfl) ?_ | refine ro (st_alloc tok rfl) ?_ | refine ro (st_buildSlice tok rfl rfl rfl rfl rfl rfl rfl) ?_); rintro _ _ _ ⟨_, rfl, rfl, rfl⟩))
  refine run_cond rfl (fun h => ?_) (fun h => ?_)
  · have hlt : j < x.gives.len := by simpa using h
    obtain ⟨b, off, m, hma, hm, hc⟩ := SMb.at_ hx.gives.1 hlt
    have hv : x.gives.v = .slice (some ⟨b, off, none⟩) x.gives.len x.gives.cap := by rw [← hma]; rfl
    obtain ⟨b', off', m', hma', hm', hc'⟩ := SMb.at_ hy.gives.1 (show j < y.gives.len by omega)
    have hv' : y.gives.v = .slice (some ⟨b', off', none⟩) y.gives.len y.gives.cap := by rw [← hma']; rfl
    repeat (first | with_reducible (first | refine cS ?_ | refine cR ?_ | refine cN ?_ | refine cK ?_ | refine cB ?_ | refine cI ?_) | refine cE rfl ?_ | refine rq (qt_pev tok rfl) ?_ | refine rg rfl rfl (qt_pev tok rfl) ?_ | refine rq (ql tok rfl) ?_ | refine rg rfl rfl (ql tok rfl) ?_ | (refine runL_op0 (sst tok rfl rfl rfl rfl rfl) ?_; rintro _ _ _ ⟨rfl, rfl, rfl⟩) | ((first | refine ro (st_box rfl) ?_ | refine ro (st_alloc tok rfl) ?_ | refine ro (st_buildSlice tok rfl rfl rfl rfl rfl rfl rfl) ?_); rintro _ _ _ ⟨_, rfl, rfl, rfl⟩))
    repeat (first | with_reducible (first | refine cS ?_ | refine cR ?_ | refine cN ?_ | refine cK ?_ | refine cB ?_ | refine cI ?_) | refine cE rfl ?_ | refine rq (qt_pev tok rfl) ?_ | refine rg rfl rfl (qt_pev tok rfl) ?_ | refine rq (ql tok rfl) ?_ | refine rg rfl rfl (ql tok rfl) ?_ | (refine runL_op0 (sst tok rfl rfl rfl rfl rfl) ?_; rintro _ _ _ ⟨rfl, rfl, rfl⟩) | ((first | refine ro (st_box rfl) ?_ | refine ro (st_alloc tok rfl) ?_ | refine ro (st_buildSlice tok rfl rfl rfl rfl rfl rfl rfl) ?_); rintro _ _ _ ⟨_, rfl, rfl, rfl⟩) | refine prn_start mixed ?_ | refine prn_end (by decide +kernel) ?_ | refine pq rfl (qt_pev tok rfl) ?_ | refine pg rfl rfl rfl (qt_pev tok rfl) ?_ | refine pq rfl (ql tok rfl) ?_ | refine pg rfl rfl rfl (ql tok rfl) ?_ | (refine prn_e0 rfl (sst tok rfl rfl rfl rfl rfl) (by decide +kernel) ?_; rintro _ _ _ ⟨rfl, rfl, rfl⟩) | ((first | refine pe rfl (st_box rfl) ?_ | refine pe rfl (st_alloc tok rfl) ?_ | refine pe rfl (st_buildSlice tok rfl rfl rfl rfl rfl rfl rfl) ?_); rintro _ _ _ ⟨_, rfl, rfl, rfl⟩) | (refine prn_o0 rfl (sst tok rfl rfl rfl rfl rfl) (by decide +kernel) ?_; rintro _ _ _ ⟨rfl, rfl, rfl⟩; refine ⟨by (repeat (first | exact trivial | refine And.intro (pend_q rfl rfl rfl (qt_pev tok rfl)) ?_ | refine And.intro (pend_q rfl rfl rfl (ql tok rfl)) ?_)), ?_⟩) | ((first | refine po rfl (st_box rfl) ?_ | refine po rfl (st_alloc tok rfl) ?_ | refine po rfl (st_buildSlice tok rfl rfl rfl rfl rfl rfl rfl) ?_); rintro _ _ _ ⟨_, rfl, rfl, rfl⟩; refine ⟨by (repeat (first | exact trivial | refine And.intro (pend_q rfl rfl rfl (qt_pev tok rfl)) ?_ | refine And.intro (pend_q rfl rfl rfl (ql tok rfl)) ?_)), ?_⟩) | (refine pe rfl (qt_pev tok rfl) ?_; rintro _ _ _ ⟨rfl, rfl, rfl⟩))
    refine pr_as 73 (.slice (some ⟨b, off, none⟩) x.gives.len x.gives.cap) rfl hv ?_
    repeat (first | with_reducible (first | refine cS ?_ | refine cR ?_ | refine cN ?_ | refine cK ?_ | refine cB ?_ | refine cI ?_) | refine cE rfl ?_ | refine rq (qt_pev tok rfl) ?_ | refine rg rfl rfl (qt_pev tok rfl) ?_ | refine rq (ql tok rfl) ?_ | refine rg rfl rfl (ql tok rfl) ?_ | (refine runL_op0 (sst tok rfl rfl rfl rfl rfl) ?_; rintro _ _ _ ⟨rfl, rfl, rfl⟩) | ((first | refine ro (st_box rfl) ?_ | refine ro (st_alloc tok rfl) ?_ | refine ro (st_buildSlice tok rfl rfl rfl rfl rfl rfl rfl) ?_); rintro _ _ _ ⟨_, rfl, rfl, rfl⟩) | refine prn_start mixed ?_ | refine prn_end (by decide +kernel) ?_ | refine pq rfl (qt_pev tok rfl) ?_ | refine pg rfl rfl rfl (qt_pev tok rfl) ?_ | refine pq rfl (ql tok rfl) ?_ | refine pg rfl rfl rfl (ql tok rfl) ?_ | (refine prn_e0 rfl (sst tok rfl rfl rfl rfl rfl) (by decide +kernel) ?_; rintro _ _ _ ⟨rfl, rfl, rfl⟩) | ((first | refine pe rfl (st_box rfl) ?_ | refine pe rfl (st_alloc tok rfl) ?_ | refine pe rfl (st_buildSlice tok rfl rfl rfl rfl rfl rfl rfl) ?_); rintro _ _ _ ⟨_, rfl, rfl, rfl⟩) | (refine prn_o0 rfl (sst tok rfl rfl rfl rfl rfl) (by decide +kernel) ?_; rintro _ _ _ ⟨rfl, rfl, rfl⟩; refine ⟨by (repeat (first | exact trivial | refine And.intro (pend_q rfl rfl rfl (qt_pev tok rfl)) ?_ | refine And.intro (pend_q rfl rfl rfl (ql tok rfl)) ?_)), ?_⟩) | ((first | refine po rfl (st_box rfl) ?_ | refine po rfl (st_alloc tok rfl) ?_ | refine po rfl (st_buildSlice tok rfl rfl rfl rfl rfl rfl rfl) ?_); rintro _ _ _ ⟨_, rfl, rfl, rfl⟩; refine ⟨by (repeat (first | exact trivial | refine And.intro (pend_q rfl rfl rfl (qt_pev tok rfl)) ?_ | refine And.intro (pend_q rfl rfl rfl (ql tok rfl)) ?_)), ?_⟩) | (refine pe rfl (qt_pev tok rfl) ?_; rintro _ _ _ ⟨rfl, rfl, rfl⟩) | refine prn_q rfl (qt_indexN tok rfl rfl rfl rfl (fun _ => by omega)) (by decide +kernel) rfl rfl rfl ?_ | refine prn_g rfl rfl rfl (qt_indexN tok rfl rfl rfl rfl (fun _ => by omega)) (by decide +kernel) rfl rfl rfl rfl rfl ?_ | refine prn_q rfl (qt_ldM tok rfl hc rfl) (by decide +kernel) rfl rfl rfl ?_ | refine prn_g rfl rfl rfl (qt_ldM tok rfl hc rfl) (by decide +kernel) rfl rfl rfl rfl rfl ?_ | refine prn_q rfl (qt_ldM0 tok rfl hc rfl) (by decide +kernel) rfl rfl rfl ?_ | refine prn_g rfl rfl rfl (qt_ldM0 tok rfl hc rfl) (by decide +kernel) rfl rfl rfl rfl rfl ?_)
    refine pr_as 78 (.slice (some ⟨b', off', none⟩) y.gives.len y.gives.cap) rfl hv' ?_
    repeat (first | with_reducible (first | refine cS ?_ | refine cR ?_ | refine cN ?_ | refine cK ?_ | refine cB ?_ | refine cI ?_) | refine cE rfl ?_ | refine rq (qt_pev tok rfl) ?_ | refine rg rfl rfl (qt_pev tok rfl) ?_ | refine rq (ql tok rfl) ?_ | refine rg rfl rfl (ql tok rfl) ?_ | (refine runL_op0 (sst tok rfl rfl rfl rfl rfl) ?_; rintro _ _ _ ⟨rfl, rfl, rfl⟩) | ((first | refine ro (st_box rfl) ?_ | refine ro (st_alloc tok rfl) ?_ | refine ro (st_buildSlice tok rfl rfl rfl rfl rfl rfl rfl) ?_); rintro _ _ _ ⟨_, rfl, rfl, rfl⟩) | refine prn_start mixed ?_ | refine prn_end (by decide +kernel) ?_ | refine pq rfl (qt_pev tok rfl) ?_ | refine pg rfl rfl rfl (qt_pev tok rfl) ?_ | refine pq rfl (ql tok rfl) ?_ | refine pg rfl rfl rfl (ql tok rfl) ?_ | (refine prn_e0 rfl (sst tok rfl rfl rfl rfl rfl) (by decide +kernel) ?_; rintro _ _ _ ⟨rfl, rfl, rfl⟩) | ((first | refine pe rfl (st_box rfl) ?_ | refine pe rfl (st_alloc tok rfl) ?_ | refine pe rfl (st_buildSlice tok rfl rfl rfl rfl rfl rfl rfl) ?_); rintro _ _ _ ⟨_, rfl, rfl, rfl⟩) | (refine prn_o0 rfl (sst tok rfl rfl rfl rfl rfl) (by decide +kernel) ?_; rintro _ _ _ ⟨rfl, rfl, rfl⟩; refine ⟨by (repeat (first | exact trivial | refine And.intro (pend_q rfl rfl rfl (qt_pev tok rfl)) ?_ | refine And.intro (pend_q rfl rfl rfl (ql tok rfl)) ?_)), ?_⟩) | ((first | refine po rfl (st_box rfl) ?_ | refine po rfl (st_alloc tok rfl) ?_ | refine po rfl (st_buildSlice tok rfl rfl rfl rfl rfl rfl rfl) ?_); rintro _ _ _ ⟨_, rfl, rfl, rfl⟩; refine ⟨by (repeat (first | exact trivial | refine And.intro (pend_q rfl rfl rfl (qt_pev tok rfl)) ?_ | refine And.intro (pend_q rfl rfl rfl (ql tok rfl)) ?_)), ?_⟩) | (refine pe rfl (qt_pev tok rfl) ?_; rintro _ _ _ ⟨rfl, rfl, rfl⟩) | refine prn_q rfl (qt_indexN tok rfl rfl rfl rfl (fun _ => by omega)) (by decide +kernel) rfl rfl rfl ?_ | refine prn_g rfl rfl rfl (qt_indexN tok rfl rfl rfl rfl (fun _ => by omega)) (by decide +kernel) rfl rfl rfl rfl rfl ?_ | refine prn_q rfl (qt_ldM tok rfl hc' rfl) (by decide +kernel) rfl rfl rfl ?_ | refine prn_g rfl rfl rfl (qt_ldM tok rfl hc' rfl) (by decide +kernel) rfl rfl rfl rfl rfl ?_ | refine prn_q rfl (qt_ldM0 tok rfl hc' rfl) (by decide +kernel) rfl rfl rfl ?_ | refine prn_g rfl rfl rfl (qt_ldM0 tok rfl hc' rfl) (by decide +kernel) rfl rfl rfl rfl rfl ?_)
    have hmb : ∀ t : Bool, (!(m.org == m'.org && ((m.digest.toList == m'.digest.toList) && true))) = t → (t = true ↔ m ≠ m') := by
      rintro _ rfl
      obtain ⟨o, g⟩ := m
      obtain ⟨o', g'⟩ := m'
      rw [bytes_beq]
      simp
      exact ⟨fun h q1 q2 => h.elim (fun q => q q1) (fun q => q q2), fun h => by
        by_cases q : o = o'
        · exact .inr (h q)
        · exact .inl q⟩
    refine run_cond rfl (fun h => ?_) (fun h => ?_)
    · have hne := (hmb true h).1 rfl
      have hrf : r = false := by
        cases r with
        | false => rfl
        | true =>
          have he := (hr2.1 rfl).1
          rw [he, hm'] at hm
          cases hm
          exact absurd rfl hne
      subst hrf
      repeat (first | with_reducible (first | refine cS ?_ | refine cR ?_ | refine cN ?_ | refine cK ?_ | refine cB ?_ | refine cI ?_) | refine cE rfl ?_ | refine rq (qt_pev tok rfl) ?_ | refine rg rfl rfl (qt_pev tok rfl) ?_ | refine rq (ql tok rfl) ?_ | refine rg rfl rfl (ql tok rfl) ?_ | (refine runL_op0 (sst tok rfl rfl rfl rfl rfl) ?_; rintro _ _ _ ⟨rfl, rfl, rfl⟩) | ((first | refine ro (st_box rfl) ?_ | refine ro (st_alloc tok rfl) ?_ | refine ro (st_buildSlice tok rfl rfl rfl rfl rfl rfl rfl) ?_); rintro _ _ _ ⟨_, rfl, rfl, rfl⟩))
      exact run_ret hC (rs := [.tmp 4]) rfl (resT rfl resN) (fun _ h => h.drop.drop) ⟨rfl, rfl, rfl⟩
    · have hmm : m = m' := Classical.byContradiction fun hne => by have := (hmb false h).2 hne; cases this
      subst hmm
      repeat (first | with_reducible (first | refine cS ?_ | refine cR ?_ | refine cN ?_ | refine cK ?_ | refine cB ?_ | refine cI ?_) | refine cE rfl ?_ | refine rq (qt_pev tok rfl) ?_ | refine rg rfl rfl (qt_pev tok rfl) ?_ | refine rq (ql tok rfl) ?_ | refine rg rfl rfl (ql tok rfl) ?_ | (refine runL_op0 (sst tok rfl rfl rfl rfl rfl) ?_; rintro _ _ _ ⟨rfl, rfl, rfl⟩) | ((first | refine ro (st_box rfl) ?_ | refine ro (st_alloc tok rfl) ?_ | refine ro (st_buildSlice tok rfl rfl rfl rfl rfl rfl rfl) ?_); rintro _ _ _ ⟨_, rfl, rfl, rfl⟩))
      refine run_sub' (hnext _ _ _ ⟨hlt, rfl, ?_, rfl, rfl⟩) ⟨lk_succ rfl (by omega), rfl, rfl, trivial⟩
      rw [take_snoc hm, take_snoc hm', heq]
  have hge : j = x.gives.len := by simp at h; omega
  subst hge
  rw [List.take_of_length_le (by omega), List.take_of_length_le (by omega)] at heq
  clear hnext
  repeat (first | with_reducible (first | refine cS ?_ | refine cR ?_ | refine cN ?_ | refine cK ?_ | refine cB ?_ | refine cI ?_) | refine cE rfl ?_ | refine rq (qt_pev tok rfl) ?_ | refine rg rfl rfl (qt_pev tok rfl) ?_ | refine rq (ql tok rfl) ?_ | refine rg rfl rfl (ql tok rfl) ?_ | (refine runL_op0 (sst tok rfl rfl rfl rfl rfl) ?_; rintro _ _ _ ⟨rfl, rfl, rfl⟩) | ((first | refine ro (st_box rfl) ?_ | refine ro (st_alloc tok rfl) ?_ | refine ro (st_buildSlice tok rfl rfl rfl rfl rfl rfl rfl) ?_); rintro _ _ _ ⟨_, rfl, rfl, rfl⟩))
  refine run_loopN (fun j σ1 M1 L1 => j ≤ x.steps.len ∧ M = M1 ∧ (x.steps.xs.map Sr.sp).take j = (y.steps.xs.map Sr.sp).take j ∧ L1 = (bY, .cells ⟨axC y⟩ 37 (0, 0)) :: (bx, .cells ⟨axC x⟩ 37 (0, 0)) :: L ∧ σ1 = [(6, .int .i64 (j : Int)), (2, .pointer (some ⟨bx, 0, none⟩)), (3, .pointer (some ⟨bY, 0, none⟩))]) x.steps.len [(6, .int .i64 ((0 : Nat) : Int)), (2, .pointer (some ⟨bx, 0, none⟩)), (3, .pointer (some ⟨bY, 0, none⟩))] ?_ ⟨Nat.zero_le _, rfl, by simp, rfl, rfl⟩ (fun j _ _ _ h => h.1) ?_
  · exact ⟨rfl, rfl, rfl, trivial⟩
  rintro j _ _ _ ⟨hj, rfl, heqs, rfl, rfl⟩ hnext
  repeat (first | with_reducible (first | refine cS ?_ | refine cR ?_ | refine cN ?_ | refine cK ?_ | refine cB ?_ | refine cI ?_) | refine cE rfl ?_ | refine rq (qt_pev tok rfl) ?_ | refine rg rfl rfl (qt_pev tok rfl) ?_ | refine rq (ql tok rfl) ?_ | refine rg rfl rfl (ql tok rfl) ?_ | (refine runL_op0 (sst tok rfl rfl rfl rfl rfl) ?_; rintro _ _ _ ⟨rfl, rfl, rfl⟩) | ((first | refine ro (st_box rfl) ?_ | refine ro (st_alloc tok rfl) ?_ | refine ro (st_buildSlice tok rfl rfl rfl rfl rfl rfl rfl) ?_); rintro _ _ _ ⟨_, rfl, rfl, rfl⟩))
  refine run_cond rfl (fun h => ?_) (fun h => ?_)
  · have hlt : j < x.steps.len := by simpa using h
    obtain ⟨b, off, m, hma, hm, hc⟩ := SSr.at_ hx.steps.sl hlt
    have hv : x.steps.v = .slice (some ⟨b, off, none⟩) x.steps.len x.steps.cap := by rw [← hma]; rfl
    obtain ⟨b', off', m', hma', hm', hc'⟩ := SSr.at_ hy.steps.sl (show j < y.steps.len by omega)
    have hv' : y.steps.v = .slice (some ⟨b', off', none⟩) y.steps.len y.steps.cap := by rw [← hma']; rfl
    have hmo := hx.steps.each m (List.mem_of_getElem? hm)
    have hmo' := hy.steps.each m' (List.mem_of_getElem? hm')
    have hms : (x.steps.xs.map Sr.sp)[j]? = some m.sp := by rw [List.getElem?_map, hm]; rfl
    have hms' : (y.steps.xs.map Sr.sp)[j]? = some m'.sp := by rw [List.getElem?_map, hm']; rfl
    repeat (first | with_reducible (first | refine cS ?_ | refine cR ?_ | refine cN ?_ | refine cK ?_ | refine cB ?_ | refine cI ?_) | refine cE rfl ?_ | refine rq (qt_pev tok rfl) ?_ | refine rg rfl rfl (qt_pev tok rfl) ?_ | refine rq (ql tok rfl) ?_ | refine rg rfl rfl (ql tok rfl) ?_ | (refine runL_op0 (sst tok rfl rfl rfl rfl rfl) ?_; rintro _ _ _ ⟨rfl, rfl, rfl⟩) | ((first | refine ro (st_box rfl) ?_ | refine ro (st_alloc tok rfl) ?_ | refine ro (st_buildSlice tok rfl rfl rfl rfl rfl rfl rfl) ?_); rintro _ _ _ ⟨_, rfl, rfl, rfl⟩))
    repeat (first | with_reducible (first | refine cS ?_ | refine cR ?_ | refine cN ?_ | refine cK ?_ | refine cB ?_ | refine cI ?_) | refine cE rfl ?_ | refine rq (qt_pev tok rfl) ?_ | refine rg rfl rfl (qt_pev tok rfl) ?_ | refine rq (ql tok rfl) ?_ | refine rg rfl rfl (ql tok rfl) ?_ | (refine runL_op0 (sst tok rfl rfl rfl rfl rfl) ?_; rintro _ _ _ ⟨rfl, rfl, rfl⟩) | ((first | refine ro (st_box rfl) ?_ | refine ro (st_alloc tok rfl) ?_ | refine ro (st_buildSlice tok rfl rfl rfl rfl rfl rfl rfl) ?_); rintro _ _ _ ⟨_, rfl, rfl, rfl⟩) | refine prn_start mixed ?_ | refine prn_end (by decide +kernel) ?_ | refine pq rfl (qt_pev tok rfl) ?_ | refine pg rfl rfl rfl (qt_pev tok rfl) ?_ | refine pq rfl (ql tok rfl) ?_ | refine pg rfl rfl rfl (ql tok rfl) ?_ | (refine prn_e0 rfl (sst tok rfl rfl rfl rfl rfl) (by decide +kernel) ?_; rintro _ _ _ ⟨rfl, rfl, rfl⟩) | ((first | refine pe rfl (st_box rfl) ?_ | refine pe rfl (st_alloc tok rfl) ?_ | refine pe rfl (st_buildSlice tok rfl rfl rfl rfl rfl rfl rfl) ?_); rintro _ _ _ ⟨_, rfl, rfl, rfl⟩) | (refine prn_o0 rfl (sst tok rfl rfl rfl rfl rfl) (by decide +kernel) ?_; rintro _ _ _ ⟨rfl, rfl, rfl⟩; refine ⟨by (repeat (first | exact trivial | refine And.intro (pend_q rfl rfl rfl (qt_pev tok rfl)) ?_ | refine And.intro (pend_q rfl rfl rfl (ql tok rfl)) ?_)), ?_⟩) | ((first | refine po rfl (st_box rfl) ?_ | refine po rfl (st_alloc tok rfl) ?_ | refine po rfl (st_buildSlice tok rfl rfl rfl rfl rfl rfl rfl) ?_); rintro _ _ _ ⟨_, rfl, rfl, rfl⟩; refine ⟨by (repeat (first | exact trivial | refine And.intro (pend_q rfl rfl rfl (qt_pev tok rfl)) ?_ | refine And.intro (pend_q rfl rfl rfl (ql tok rfl)) ?_)), ?_⟩) | (refine pe rfl (qt_pev tok rfl) ?_; rintro _ _ _ ⟨rfl, rfl, rfl⟩))
    refine pr_as 91 (.slice (some ⟨b, off, none⟩) x.steps.len x.steps.cap) rfl hv ?_
    repeat (first | with_reducible (first | refine cS ?_ | refine cR ?_ | refine cN ?_ | refine cK ?_ | refine cB ?_ | refine cI ?_) | refine cE rfl ?_ | refine rq (qt_pev tok rfl) ?_ | refine rg rfl rfl (qt_pev tok rfl) ?_ | refine rq (ql tok rfl) ?_ | refine rg rfl rfl (ql tok rfl) ?_ | (refine runL_op0 (sst tok rfl rfl rfl rfl rfl) ?_; rintro _ _ _ ⟨rfl, rfl, rfl⟩) | ((first | refine ro (st_box rfl) ?_ | refine ro (st_alloc tok rfl) ?_ | refine ro (st_buildSlice tok rfl rfl rfl rfl rfl rfl rfl) ?_); rintro _ _ _ ⟨_, rfl, rfl, rfl⟩) | refine prn_start mixed ?_ | refine prn_end (by decide +kernel) ?_ | refine pq rfl (qt_pev tok rfl) ?_ | refine pg rfl rfl rfl (qt_pev tok rfl) ?_ | refine pq rfl (ql tok rfl) ?_ | refine pg rfl rfl rfl (ql tok rfl) ?_ | (refine prn_e0 rfl (sst tok rfl rfl rfl rfl rfl) (by decide +kernel) ?_; rintro _ _ _ ⟨rfl, rfl, rfl⟩) | ((first | refine pe rfl (st_box rfl) ?_ | refine pe rfl (st_alloc tok rfl) ?_ | refine pe rfl (st_buildSlice tok rfl rfl rfl rfl rfl rfl rfl) ?_); rintro _ _ _ ⟨_, rfl, rfl, rfl⟩) | (refine prn_o0 rfl (sst tok rfl rfl rfl rfl rfl) (by decide +kernel) ?_; rintro _ _ _ ⟨rfl, rfl, rfl⟩; refine ⟨by (repeat (first | exact trivial | refine And.intro (pend_q rfl rfl rfl (qt_pev tok rfl)) ?_ | refine And.intro (pend_q rfl rfl rfl (ql tok rfl)) ?_)), ?_⟩) | ((first | refine po rfl (st_box rfl) ?_ | refine po rfl (st_alloc tok rfl) ?_ | refine po rfl (st_buildSlice tok rfl rfl rfl rfl rfl rfl rfl) ?_); rintro _ _ _ ⟨_, rfl, rfl, rfl⟩; refine ⟨by (repeat (first | exact trivial | refine And.intro (pend_q rfl rfl rfl (qt_pev tok rfl)) ?_ | refine And.intro (pend_q rfl rfl rfl (ql tok rfl)) ?_)), ?_⟩) | (refine pe rfl (qt_pev tok rfl) ?_; rintro _ _ _ ⟨rfl, rfl, rfl⟩) | refine prn_q rfl (qt_indexN tok rfl rfl rfl rfl (fun _ => by omega)) (by decide +kernel) rfl rfl rfl ?_ | refine prn_g rfl rfl rfl (qt_indexN tok rfl rfl rfl rfl (fun _ => by omega)) (by decide +kernel) rfl rfl rfl rfl rfl ?_ | refine prn_q rfl (qt_ldM tok rfl hc rfl) (by decide +kernel) rfl rfl rfl ?_ | refine prn_g rfl rfl rfl (qt_ldM tok rfl hc rfl) (by decide +kernel) rfl rfl rfl rfl rfl ?_ | refine prn_q rfl (qt_ldM0 tok rfl hc rfl) (by decide +kernel) rfl rfl rfl ?_ | refine prn_g rfl rfl rfl (qt_ldM0 tok rfl hc rfl) (by decide +kernel) rfl rfl rfl rfl rfl ?_)
    refine pr_as 96 (.slice (some ⟨b', off', none⟩) y.steps.len y.steps.cap) rfl hv' ?_
    repeat (first | with_reducible (first | refine cS ?_ | refine cR ?_ | refine cN ?_ | refine cK ?_ | refine cB ?_ | refine cI ?_) | refine cE rfl ?_ | refine rq (qt_pev tok rfl) ?_ | refine rg rfl rfl (qt_pev tok rfl) ?_ | refine rq (ql tok rfl) ?_ | refine rg rfl rfl (ql tok rfl) ?_ | (refine runL_op0 (sst tok rfl rfl rfl rfl rfl) ?_; rintro _ _ _ ⟨rfl, rfl, rfl⟩) | ((first | refine ro (st_box rfl) ?_ | refine ro (st_alloc tok rfl) ?_ | refine ro (st_buildSlice tok rfl rfl rfl rfl rfl rfl rfl) ?_); rintro _ _ _ ⟨_, rfl, rfl, rfl⟩) | refine prn_start mixed ?_ | refine prn_end (by decide +kernel) ?_ | refine pq rfl (qt_pev tok rfl) ?_ | refine pg rfl rfl rfl (qt_pev tok rfl) ?_ | refine pq rfl (ql tok rfl) ?_ | refine pg rfl rfl rfl (ql tok rfl) ?_ | (refine prn_e0 rfl (sst tok rfl rfl rfl rfl rfl) (by decide +kernel) ?_; rintro _ _ _ ⟨rfl, rfl, rfl⟩) | ((first | refine pe rfl (st_box rfl) ?_ | refine pe rfl (st_alloc tok rfl) ?_ | refine pe rfl (st_buildSlice tok rfl rfl rfl rfl rfl rfl rfl) ?_); rintro _ _ _ ⟨_, rfl, rfl, rfl⟩) | (refine prn_o0 rfl (sst tok rfl rfl rfl rfl rfl) (by decide +kernel) ?_; rintro _ _ _ ⟨rfl, rfl, rfl⟩; refine ⟨by (repeat (first | exact trivial | refine And.intro (pend_q rfl rfl rfl (qt_pev tok rfl)) ?_ | refine And.intro (pend_q rfl rfl rfl (ql tok rfl)) ?_)), ?_⟩) | ((first | refine po rfl (st_box rfl) ?_ | refine po rfl (st_alloc tok rfl) ?_ | refine po rfl (st_buildSlice tok rfl rfl rfl rfl rfl rfl rfl) ?_); rintro _ _ _ ⟨_, rfl, rfl, rfl⟩; refine ⟨by (repeat (first | exact trivial | refine And.intro (pend_q rfl rfl rfl (qt_pev tok rfl)) ?_ | refine And.intro (pend_q rfl rfl rfl (ql tok rfl)) ?_)), ?_⟩) | (refine pe rfl (qt_pev tok rfl) ?_; rintro _ _ _ ⟨rfl, rfl, rfl⟩) | refine prn_q rfl (qt_indexN tok rfl rfl rfl rfl (fun _ => by omega)) (by decide +kernel) rfl rfl rfl ?_ | refine prn_g rfl rfl rfl (qt_indexN tok rfl rfl rfl rfl (fun _ => by omega)) (by decide +kernel) rfl rfl rfl rfl rfl ?_ | refine prn_q rfl (qt_ldM tok rfl hc' rfl) (by decide +kernel) rfl rfl rfl ?_ | refine prn_g rfl rfl rfl (qt_ldM tok rfl hc' rfl) (by decide +kernel) rfl rfl rfl rfl rfl ?_ | refine prn_q rfl (qt_ldM0 tok rfl hc' rfl) (by decide +kernel) rfl rfl rfl ?_ | refine prn_g rfl rfl rfl (qt_ldM0 tok rfl hc' rfl) (by decide +kernel) rfl rfl rfl rfl rfl ?_ | refine prn_q rfl (qt_callF rfl (fun _ => refSameStep_ok _ _ m m' hmo hmo')) (by decide +kernel) rfl rfl rfl ?_)
    refine run_cond rfl (fun h => ?_) (fun h => ?_)
    · have hrf : r = false := by
        cases r with
        | false => rfl
        | true =>
          have he := (hr2.1 rfl).2
          rw [he, hms'] at hms
          have hse : sameSp m.sp m'.sp = false := by simpa using h
          have : sameSp m.sp m'.sp = true := (sameSp_iff _ _).2 (Option.some.inj hms).symm
          rw [hse] at this; cases this
      subst hrf
      repeat (first | with_reducible (first | refine cS ?_ | refine cR ?_ | refine cN ?_ | refine cK ?_ | refine cB ?_ | refine cI ?_) | refine cE rfl ?_ | refine rq (qt_pev tok rfl) ?_ | refine rg rfl rfl (qt_pev tok rfl) ?_ | refine rq (ql tok rfl) ?_ | refine rg rfl rfl (ql tok rfl) ?_ | (refine runL_op0 (sst tok rfl rfl rfl rfl rfl) ?_; rintro _ _ _ ⟨rfl, rfl, rfl⟩) | ((first | refine ro (st_box rfl) ?_ | refine ro (st_alloc tok rfl) ?_ | refine ro (st_buildSlice tok rfl rfl rfl rfl rfl rfl rfl) ?_); rintro _ _ _ ⟨_, rfl, rfl, rfl⟩))
      exact run_ret hC (rs := [.tmp 4]) rfl (resT rfl resN) (fun _ h => h.drop.drop) ⟨rfl, rfl, rfl⟩
    · have hmm : m.sp = m'.sp := (sameSp_iff _ _).1 (by simpa using h)
      repeat (first | with_reducible (first | refine cS ?_ | refine cR ?_ | refine cN ?_ | refine cK ?_ | refine cB ?_ | refine cI ?_) | refine cE rfl ?_ | refine rq (qt_pev tok rfl) ?_ | refine rg rfl rfl (qt_pev tok rfl) ?_ | refine rq (ql tok rfl) ?_ | refine rg rfl rfl (ql tok rfl) ?_ | (refine runL_op0 (sst tok rfl rfl rfl rfl rfl) ?_; rintro _ _ _ ⟨rfl, rfl, rfl⟩) | ((first | refine ro (st_box rfl) ?_ | refine ro (st_alloc tok rfl) ?_ | refine ro (st_buildSlice tok rfl rfl rfl rfl rfl rfl rfl) ?_); rintro _ _ _ ⟨_, rfl, rfl, rfl⟩))
      refine run_sub' (hnext _ _ _ ⟨hlt, rfl, ?_, rfl, rfl⟩) ⟨lk_succ rfl (by omega), rfl, rfl, trivial⟩
      rw [take_snoc hms, take_snoc hms', heqs, hmm]
  have hge : j = x.steps.len := by simp at h; omega
  subst hge
  rw [List.take_of_length_le (by rw [List.length_map]; omega), List.take_of_length_le (by rw [List.length_map]; omega)] at heqs
  have hrt : r = true := hr2.2 ⟨heq, heqs⟩
  subst hrt
  repeat (first | with_reducible (first | refine cS ?_ | refine cR ?_ | refine cN ?_ | refine cK ?_ | refine cB ?_ | refine cI ?_) | refine cE rfl ?_ | refine rq (qt_pev tok rfl) ?_ | refine rg rfl rfl (qt_pev tok rfl) ?_ | refine rq (ql tok rfl) ?_ | refine rg rfl rfl (ql tok rfl) ?_ | (refine runL_op0 (sst tok rfl rfl rfl rfl rfl) ?_; rintro _ _ _ ⟨rfl, rfl, rfl⟩) | ((first | refine ro (st_box rfl) ?_ | refine ro (st_alloc tok rfl) ?_ | refine ro (st_buildSlice tok rfl rfl rfl rfl rfl rfl rfl) ?_); rintro _ _ _ ⟨_, rfl, rfl, rfl⟩))
  exact run_ret hC (rs := [.tmp 4]) rfl (resT rfl resN) (fun _ h => h.drop.drop) ⟨rfl, rfl, rfl⟩
end Go.Proofs.Ytbpgiodfccijmaa
namespace Go.Proofs.Ytbpgiodfccijmaa
open Go.Chi

set_option maxRecDepth 10000 in
set_option maxHeartbeats 16000000 in
theorem refSame_ok (M : Mem) (L : HL) (p q : SAx) (hp : SaOk M p) (hq : SaOk M q) (r : Bool) (hr : r = true ↔ p.xs.map Ax.aa = q.xs.map Ax.aa) : TrQ Try.prog 12 [p.v, q.v] M L (.bool r) := by
  have l1 := hp.len
  have l2 := hq.len
  have n1 := hp.lt
  have n2 := hq.lt
  obtain ⟨pa, pl, pc, px⟩ := p
  obtain ⟨qa, ql, qc, qx⟩ := q
  simp only [SAx.v] at *
  refine Tr.intro 27 Try.func12 rfl rfl Try.call12 rfl ?_
  intro C hC hro
  repeat (first | with_reducible (first | refine cS ?_ | refine cR ?_ | refine cN ?_ | refine cK ?_ | refine cB ?_ | refine cI ?_) | refine cE rfl ?_ | refine rq (qt_pev tok rfl) ?_ | refine rg rfl rfl (qt_pev tok rfl) ?_ | refine rq (ql tok rfl) ?_ | refine rg rfl rfl (ql tok rfl) ?_ | (refine runL_op0 (sst tok rfl rfl rfl rfl rfl) ?_; rintro _ _ _ ⟨rfl, rfl, rfl⟩) | ((first | refine ro (st_box rfl) ?_ | refine ro (st_alloc tok rfl) ?_ | refine ro (st_buildSlice tok rfl rfl rfl rfl rfl rfl rfl) ?_); rintro _ _ _ ⟨_, rfl, rfl, rfl⟩))
  refine run_cond rfl (fun h => ?_) (fun h => ?_)
  · have hrf : r = false := by
      cases r with
      | false => rfl
      | true =>
        have he := congrArg List.length (hr.1 rfl)
        simp only [List.length_map] at he
        simp at h
        omega
    subst hrf
    repeat (first | with_reducible (first | refine cS ?_ | refine cR ?_ | refine cN ?_ | refine cK ?_ | refine cB ?_ | refine cI ?_) | refine cE rfl ?_ | refine rq (qt_pev tok rfl) ?_ | refine rg rfl rfl (qt_pev tok rfl) ?_ | refine rq (ql tok rfl) ?_ | refine rg rfl rfl (ql tok rfl) ?_ | (refine runL_op0 (sst tok rfl rfl rfl rfl rfl) ?_; rintro _ _ _ ⟨rfl, rfl, rfl⟩) | ((first | refine ro (st_box rfl) ?_ | refine ro (st_alloc tok rfl) ?_ | refine ro (st_buildSlice tok rfl rfl rfl rfl rfl rfl rfl) ?_); rintro _ _ _ ⟨_, rfl, rfl, rfl⟩))
    exact run_ret hC (rs := [.tmp 4]) rfl (resT rfl resN) (fun _ h => h) ⟨rfl, rfl, rfl⟩
  have he : pl = ql := by simp at h; omega
  subst he
  repeat (first | with_reducible (first | refine cS ?_ | refine cR ?_ | refine cN ?_ | refine cK ?_ | refine cB ?_ | refine cI ?_) | refine cE rfl ?_ | refine rq (qt_pev tok rfl) ?_ | refine rg rfl rfl (qt_pev tok rfl) ?_ | refine rq (ql tok rfl) ?_ | refine rg rfl rfl (ql tok rfl) ?_ | (refine runL_op0 (sst tok rfl rfl rfl rfl rfl) ?_; rintro _ _ _ ⟨rfl, rfl, rfl⟩) | ((first | refine ro (st_box rfl) ?_ | refine ro (st_alloc tok rfl) ?_ | refine ro (st_buildSlice tok rfl rfl rfl rfl rfl rfl rfl) ?_); rintro _ _ _ ⟨_, rfl, rfl, rfl⟩))
  refine run_loopN (fun j σ1 M1 L1 => j ≤ pl ∧ M = M1 ∧ L = L1 ∧ (px.map Ax.aa).take j = (qx.map Ax.aa).take j ∧ σ1 = [(5, .int .i64 (j : Int)), (0, .slice pa pl pc), (1, .slice qa pl qc)]) pl [(5, .int .i64 ((0 : Nat) : Int)), (0, .slice pa pl pc), (1, .slice qa pl qc)] ?_ ⟨Nat.zero_le _, rfl, rfl, by simp, rfl⟩ (fun j _ _ _ h => h.1) ?_
  · exact ⟨rfl, rfl, rfl, trivial⟩
  rintro j _ _ _ ⟨hj, rfl, rfl, heq, rfl⟩ hnext
  repeat (first | with_reducible (first | refine cS ?_ | refine cR ?_ | refine cN ?_ | refine cK ?_ | refine cB ?_ | refine cI ?_) | refine cE rfl ?_ | refine rq (qt_pev tok rfl) ?_ | refine rg rfl rfl (qt_pev tok rfl) ?_ | refine rq (ql tok rfl) ?_ | refine rg rfl rfl (ql tok rfl) ?_ | (refine runL_op0 (sst tok rfl rfl rfl rfl rfl) ?_; rintro _ _ _ ⟨rfl, rfl, rfl⟩) | ((first | refine ro (st_box rfl) ?_ | refine ro (st_alloc tok rfl) ?_ | refine ro (st_buildSlice tok rfl rfl rfl rfl rfl rfl rfl) ?_); rintro _ _ _ ⟨_, rfl, rfl, rfl⟩))
  refine run_cond rfl (fun h => ?_) (fun h => ?_)
  · have hlt : j < pl := by simpa using h
    obtain ⟨b, off, m, rfl, hm, hc⟩ := SAx.at_ hp.sl hlt
    obtain ⟨b', off', m', rfl, hm', hc'⟩ := SAx.at_ hq.sl hlt
    have hmo := hp.each m (List.mem_of_getElem? hm)
    have hmo' := hq.each m' (List.mem_of_getElem? hm')
    have hms : (px.map Ax.aa)[j]? = some m.aa := by rw [List.getElem?_map, hm]; rfl
    have hms' : (qx.map Ax.aa)[j]? = some m'.aa := by rw [List.getElem?_map, hm']; rfl
    obtain ⟨r2, hr2⟩ : ∃ r2 : Bool, r2 = true ↔ m.aa = m'.aa := by
      by_cases e : m.aa = m'.aa
      · exact ⟨true, by simp [e]⟩
      · exact ⟨false, by simp [e]⟩
    repeat (first | with_reducible (first | refine cS ?_ | refine cR ?_ | refine cN ?_ | refine cK ?_ | refine cB ?_ | refine cI ?_) | refine cE rfl ?_ | refine rq (qt_pev tok rfl) ?_ | refine rg rfl rfl (qt_pev tok rfl) ?_ | refine rq (ql tok rfl) ?_ | refine rg rfl rfl (ql tok rfl) ?_ | (refine runL_op0 (sst tok rfl rfl rfl rfl rfl) ?_; rintro _ _ _ ⟨rfl, rfl, rfl⟩) | ((first | refine ro (st_box rfl) ?_ | refine ro (st_alloc tok rfl) ?_ | refine ro (st_buildSlice tok rfl rfl rfl rfl rfl rfl rfl) ?_); rintro _ _ _ ⟨_, rfl, rfl, rfl⟩) | refine prn_start mixed ?_ | refine prn_end (by decide +kernel) ?_ | refine pq rfl (qt_pev tok rfl) ?_ | refine pg rfl rfl rfl (qt_pev tok rfl) ?_ | refine pq rfl (ql tok rfl) ?_ | refine pg rfl rfl rfl (ql tok rfl) ?_ | (refine prn_e0 rfl (sst tok rfl rfl rfl rfl rfl) (by decide +kernel) ?_; rintro _ _ _ ⟨rfl, rfl, rfl⟩) | ((first | refine pe rfl (st_box rfl) ?_ | refine pe rfl (st_alloc tok rfl) ?_ | refine pe rfl (st_buildSlice tok rfl rfl rfl rfl rfl rfl rfl) ?_); rintro _ _ _ ⟨_, rfl, rfl, rfl⟩) | (refine prn_o0 rfl (sst tok rfl rfl rfl rfl rfl) (by decide +kernel) ?_; rintro _ _ _ ⟨rfl, rfl, rfl⟩; refine ⟨by (repeat (first | exact trivial | refine And.intro (pend_q rfl rfl rfl (qt_pev tok rfl)) ?_ | refine And.intro (pend_q rfl rfl rfl (ql tok rfl)) ?_)), ?_⟩) | ((first | refine po rfl (st_box rfl) ?_ | refine po rfl (st_alloc tok rfl) ?_ | refine po rfl (st_buildSlice tok rfl rfl rfl rfl rfl rfl rfl) ?_); rintro _ _ _ ⟨_, rfl, rfl, rfl⟩; refine ⟨by (repeat (first | exact trivial | refine And.intro (pend_q rfl rfl rfl (qt_pev tok rfl)) ?_ | refine And.intro (pend_q rfl rfl rfl (ql tok rfl)) ?_)), ?_⟩) | (refine pe rfl (qt_pev tok rfl) ?_; rintro _ _ _ ⟨rfl, rfl, rfl⟩) | refine prn_q rfl (qt_indexN tok rfl rfl rfl rfl (fun _ => by omega)) (by decide +kernel) rfl rfl rfl ?_ | refine prn_g rfl rfl rfl (qt_indexN tok rfl rfl rfl rfl (fun _ => by omega)) (by decide +kernel) rfl rfl rfl rfl rfl ?_ | refine prn_q rfl (qt_ldM tok rfl hc rfl) (by decide +kernel) rfl rfl rfl ?_ | refine prn_g rfl rfl rfl (qt_ldM tok rfl hc rfl) (by decide +kernel) rfl rfl rfl rfl rfl ?_ | refine prn_q rfl (qt_ldM0 tok rfl hc rfl) (by decide +kernel) rfl rfl rfl ?_ | refine prn_g rfl rfl rfl (qt_ldM0 tok rfl hc rfl) (by decide +kernel) rfl rfl rfl rfl rfl ?_ | refine prn_q rfl (qt_ldM tok rfl hc' rfl) (by decide +kernel) rfl rfl rfl ?_ | refine prn_g rfl rfl rfl (qt_ldM tok rfl hc' rfl) (by decide +kernel) rfl rfl rfl rfl rfl ?_ | refine prn_q rfl (qt_ldM0 tok rfl hc' rfl) (by decide +kernel) rfl rfl rfl ?_ | refine prn_g rfl rfl rfl (qt_ldM0 tok rfl hc' rfl) (by decide +kernel) rfl rfl rfl rfl rfl ?_ | refine prn_q rfl (qt_callF rfl (fun _ => refSameAct_ok _ _ m m' hmo hmo' r2 hr2)) (by decide +kernel) rfl rfl rfl ?_)
    refine run_cond rfl (fun h => ?_) (fun h => ?_)
    · have hrf : r = false := by
        cases r with
        | false => rfl
        | true =>
          have he := hr.1 rfl
          rw [he, hms'] at hms
          have h2 : r2 = true := hr2.2 (Option.some.inj hms).symm
          rw [h2] at h; cases h
      subst hrf
      repeat (first | with_reducible (first | refine cS ?_ | refine cR ?_ | refine cN ?_ | refine cK ?_ | refine cB ?_ | refine cI ?_) | refine cE rfl ?_ | refine rq (qt_pev tok rfl) ?_ | refine rg rfl rfl (qt_pev tok rfl) ?_ | refine rq (ql tok rfl) ?_ | refine rg rfl rfl (ql tok rfl) ?_ | (refine runL_op0 (sst tok rfl rfl rfl rfl rfl) ?_; rintro _ _ _ ⟨rfl, rfl, rfl⟩) | ((first | refine ro (st_box rfl) ?_ | refine ro (st_alloc tok rfl) ?_ | refine ro (st_buildSlice tok rfl rfl rfl rfl rfl rfl rfl) ?_); rintro _ _ _ ⟨_, rfl, rfl, rfl⟩))
      exact run_ret hC (rs := [.tmp 4]) rfl (resT rfl resN) (fun _ h => h) ⟨rfl, rfl, rfl⟩
    · have hmm : m.aa = m'.aa := hr2.1 (by simpa using h)
      repeat (first | with_reducible (first | refine cS ?_ | refine cR ?_ | refine cN ?_ | refine cK ?_ | refine cB ?_ | refine cI ?_) | refine cE rfl ?_ | refine rq (qt_pev tok rfl) ?_ | refine rg rfl rfl (qt_pev tok rfl) ?_ | refine rq (ql tok rfl) ?_ | refine rg rfl rfl (ql tok rfl) ?_ | (refine runL_op0 (sst tok rfl rfl rfl rfl rfl) ?_; rintro _ _ _ ⟨rfl, rfl, rfl⟩) | ((first | refine ro (st_box rfl) ?_ | refine ro (st_alloc tok rfl) ?_ | refine ro (st_buildSlice tok rfl rfl rfl rfl rfl rfl rfl) ?_); rintro _ _ _ ⟨_, rfl, rfl, rfl⟩))
      refine run_sub' (hnext _ _ _ ⟨hlt, rfl, rfl, ?_, rfl⟩) ⟨lk_succ rfl (by omega), rfl, rfl, trivial⟩
      rw [take_snoc hms, take_snoc hms', heq, hmm]
  · have hge : j = pl := by simp at h; omega
    subst hge
    rw [List.take_of_length_le (by rw [List.length_map]; omega), List.take_of_length_le (by rw [List.length_map]; omega)] at heq
    have hrt : r = true := hr.2 heq
    subst hrt
    repeat (first | with_reducible (first | refine cS ?_ | refine cR ?_ | refine cN ?_ | refine cK ?_ | refine cB ?_ | refine cI ?_) | refine cE rfl ?_ | refine rq (qt_pev tok rfl) ?_ | refine rg rfl rfl (qt_pev tok rfl) ?_ | refine rq (ql tok rfl) ?_ | refine rg rfl rfl (ql tok rfl) ?_ | (refine runL_op0 (sst tok rfl rfl rfl rfl rfl) ?_; rintro _ _ _ ⟨rfl, rfl, rfl⟩) | ((first | refine ro (st_box rfl) ?_ | refine ro (st_alloc tok rfl) ?_ | refine ro (st_buildSlice tok rfl rfl rfl rfl rfl rfl rfl) ?_); rintro _ _ _ ⟨_, rfl, rfl, rfl⟩))
    exact run_ret hC (rs := [.tmp 4]) rfl (resT rfl resN) (fun _ h => h) ⟨rfl, rfl, rfl⟩
end Go.Proofs.Ytbpgiodfccijmaa
namespace Go.Proofs.Ytbpgiodfccijmaa
open Go.Chi

/-! ### the document's answer: which steps may be -/
set_option maxRecDepth 10000 in
set_option maxHeartbeats 16000000 in
theorem refMayStep_ok (M : Mem) (L : HL) (x : Sr) (hx : SrOk M x) (r : Bool) (hr : r = true ↔ SpP x.sp) : TrQ Try.prog 32 [.agg ⟨srC x⟩] M L (.bool r) := by
  have l1 := hx.list.len
  have n1 := hx.list.2
  refine Tr.intro 62 Try.func32 rfl rfl Try.call32 rfl ?_
  intro C hC hro
  repeat (first | with_reducible (first | refine cS ?_ | refine cR ?_ | refine cN ?_ | refine cK ?_ | refine cB ?_ | refine cI ?_) | refine cE rfl ?_ | refine rq (qt_pev tok rfl) ?_ | refine rg rfl rfl (qt_pev tok rfl) ?_ | refine rq (ql tok rfl) ?_ | refine rg rfl rfl (ql tok rfl) ?_ | (refine runL_op0 (sst tok rfl rfl rfl rfl rfl) ?_; rintro _ _ _ ⟨rfl, rfl, rfl⟩) | ((first | refine ro (st_box rfl) ?_ | refine ro (st_alloc tok rfl) ?_ | refine ro (st_buildSlice tok rfl rfl rfl rfl rfl rfl rfl) ?_); rintro _ _ _ ⟨_, rfl, rfl, rfl⟩) | refine runL_g rfl rfl (qt_callF rfl (fun _ => refNm_ok _ _ x.a)) rfl rfl rfl rfl rfl ?_ | refine runL_g rfl rfl (qt_callF rfl (fun _ => refNm_ok _ _ x.b)) rfl rfl rfl rfl rfl ?_ | refine runL_g rfl rfl (qt_callF rfl (fun _ => refNm_ok _ _ x.c)) rfl rfl rfl rfl rfl ?_ | refine runL_g rfl rfl (qt_callF rfl (fun _ => refNm_ok _ _ x.n)) rfl rfl rfl rfl rfl ?_)
  rename_i bx
  refine run_cond rfl (fun h => ?_) (fun h => ?_)
  · have hrf : r = false := by
      cases r with
      | false => rfl
      | true =>
        exfalso
        obtain ⟨⟨d1, d2⟩, h2, h3, h4, h5, h6, h7, h8⟩ := hr.1 rfl
        simp only [Sr.sp] at d1 d2 h2 h3 h4 h5 h6 h7
        rw [l1] at h7
        simp only [h2, h3, h4, h5, Bool.not_true, Bool.or_false, Bool.or_eq_true, decide_eq_true_eq] at h
        omega
    subst hrf
    repeat (first | with_reducible (first | refine cS ?_ | refine cR ?_ | refine cN ?_ | refine cK ?_ | refine cB ?_ | refine cI ?_) | refine cE rfl ?_ | refine rq (qt_pev tok rfl) ?_ | refine rg rfl rfl (qt_pev tok rfl) ?_ | refine rq (ql tok rfl) ?_ | refine rg rfl rfl (ql tok rfl) ?_ | (refine runL_op0 (sst tok rfl rfl rfl rfl rfl) ?_; rintro _ _ _ ⟨rfl, rfl, rfl⟩) | ((first | refine ro (st_box rfl) ?_ | refine ro (st_alloc tok rfl) ?_ | refine ro (st_buildSlice tok rfl rfl rfl rfl rfl rfl rfl) ?_); rintro _ _ _ ⟨_, rfl, rfl, rfl⟩))
    exact run_ret hC (rs := [.tmp 2]) rfl (resT rfl resN) (fun _ h => h.drop) ⟨rfl, rfl, rfl⟩
  have hr2 : r = true ↔ ∀ v ∈ x.list.xs, nmW v = true := by
    rw [hr]
    simp only [Bool.or_eq_false_iff, decide_eq_false_iff_not, Bool.not_eq_false'] at h
    obtain ⟨⟨⟨⟨⟨⟨⟨d1, d2⟩, h2⟩, h3⟩, h4⟩, h5⟩, h6⟩, h7⟩ := h
    exact ⟨fun q => q.list, fun q => ⟨by show 1 ≤ x.do_ ∧ x.do_ ≤ 9; omega, h2, h3, h4, h5, by show x.text.size ≤ 1024; omega, by show x.list.xs.length ≤ 32; omega, q⟩⟩
  repeat (first | with_reducible (first | refine cS ?_ | refine cR ?_ | refine cN ?_ | refine cK ?_ | refine cB ?_ | refine cI ?_) | refine cE rfl ?_ | refine rq (qt_pev tok rfl) ?_ | refine rg rfl rfl (qt_pev tok rfl) ?_ | refine rq (ql tok rfl) ?_ | refine rg rfl rfl (ql tok rfl) ?_ | (refine runL_op0 (sst tok rfl rfl rfl rfl rfl) ?_; rintro _ _ _ ⟨rfl, rfl, rfl⟩) | ((first | refine ro (st_box rfl) ?_ | refine ro (st_alloc tok rfl) ?_ | refine ro (st_buildSlice tok rfl rfl rfl rfl rfl rfl rfl) ?_); rintro _ _ _ ⟨_, rfl, rfl, rfl⟩))
  refine run_loopN (fun j σ1 M1 L1 => j ≤ x.list.len ∧ M = M1 ∧ (∀ v ∈ x.list.xs.take j, nmW v = true) ∧ L1 = (bx, .cells ⟨srC x⟩ 51 (0, 0)) :: L ∧ σ1 = [(3, .int .i64 (j : Int)), (1, .pointer (some ⟨bx, 0, none⟩))]) x.list.len [(3, .int .i64 ((0 : Nat) : Int)), (1, .pointer (some ⟨bx, 0, none⟩))] ?_ ⟨Nat.zero_le _, rfl, by simp, rfl, rfl⟩ (fun j _ _ _ h => h.1) ?_
  · exact ⟨rfl, rfl, trivial⟩
  rintro j _ _ _ ⟨hj, rfl, hall, rfl, rfl⟩ hnext
  repeat (first | with_reducible (first | refine cS ?_ | refine cR ?_ | refine cN ?_ | refine cK ?_ | refine cB ?_ | refine cI ?_) | refine cE rfl ?_ | refine rq (qt_pev tok rfl) ?_ | refine rg rfl rfl (qt_pev tok rfl) ?_ | refine rq (ql tok rfl) ?_ | refine rg rfl rfl (ql tok rfl) ?_ | (refine runL_op0 (sst tok rfl rfl rfl rfl rfl) ?_; rintro _ _ _ ⟨rfl, rfl, rfl⟩) | ((first | refine ro (st_box rfl) ?_ | refine ro (st_alloc tok rfl) ?_ | refine ro (st_buildSlice tok rfl rfl rfl rfl rfl rfl rfl) ?_); rintro _ _ _ ⟨_, rfl, rfl, rfl⟩))
  refine run_cond rfl (fun h => ?_) (fun h => ?_)
  · have hlt : j < x.list.len := by simpa using h
    obtain ⟨b, off, m, hma, hm, hc⟩ := SIn.at_ hx.list.1 hlt
    have hv : x.list.v = .slice (some ⟨b, off, none⟩) x.list.len x.list.cap := by rw [← hma]; rfl
    repeat (first | with_reducible (first | refine cS ?_ | refine cR ?_ | refine cN ?_ | refine cK ?_ | refine cB ?_ | refine cI ?_) | refine cE rfl ?_ | refine rq (qt_pev tok rfl) ?_ | refine rg rfl rfl (qt_pev tok rfl) ?_ | refine rq (ql tok rfl) ?_ | refine rg rfl rfl (ql tok rfl) ?_ | (refine runL_op0 (sst tok rfl rfl rfl rfl rfl) ?_; rintro _ _ _ ⟨rfl, rfl, rfl⟩) | ((first | refine ro (st_box rfl) ?_ | refine ro (st_alloc tok rfl) ?_ | refine ro (st_buildSlice tok rfl rfl rfl rfl rfl rfl rfl) ?_); rintro _ _ _ ⟨_, rfl, rfl, rfl⟩))
    refine runL_as 56 (.slice (some ⟨b, off, none⟩) x.list.len x.list.cap) rfl hv ?_
    repeat (first | with_reducible (first | refine cS ?_ | refine cR ?_ | refine cN ?_ | refine cK ?_ | refine cB ?_ | refine cI ?_) | refine cE rfl ?_ | refine rq (qt_pev tok rfl) ?_ | refine rg rfl rfl (qt_pev tok rfl) ?_ | refine rq (ql tok rfl) ?_ | refine rg rfl rfl (ql tok rfl) ?_ | (refine runL_op0 (sst tok rfl rfl rfl rfl rfl) ?_; rintro _ _ _ ⟨rfl, rfl, rfl⟩) | ((first | refine ro (st_box rfl) ?_ | refine ro (st_alloc tok rfl) ?_ | refine ro (st_buildSlice tok rfl rfl rfl rfl rfl rfl rfl) ?_); rintro _ _ _ ⟨_, rfl, rfl, rfl⟩) | refine runL_q (qt_indexN tok rfl rfl rfl rfl (fun _ => by omega)) rfl rfl rfl ?_ | refine runL_g rfl rfl (qt_indexN tok rfl rfl rfl rfl (fun _ => by omega)) rfl rfl rfl rfl rfl ?_ | refine runL_q (qt_ldM tok rfl hc rfl) rfl rfl rfl ?_ | refine runL_g rfl rfl (qt_ldM tok rfl hc rfl) rfl rfl rfl rfl rfl ?_ | refine runL_q (qt_ldM0 tok rfl hc rfl) rfl rfl rfl ?_ | refine runL_g rfl rfl (qt_ldM0 tok rfl hc rfl) rfl rfl rfl rfl rfl ?_ | refine runL_q (qt_callF rfl (fun _ => refNm_ok _ _ m)) rfl rfl rfl ?_)
    refine run_cond rfl (fun h => ?_) (fun h => ?_)
    · have hrf : r = false := by
        cases r with
        | false => rfl
        | true =>
          have h2 := hr2.1 rfl m (List.mem_of_getElem? hm)
          rw [h2] at h; cases h
      subst hrf
      repeat (first | with_reducible (first | refine cS ?_ | refine cR ?_ | refine cN ?_ | refine cK ?_ | refine cB ?_ | refine cI ?_) | refine cE rfl ?_ | refine rq (qt_pev tok rfl) ?_ | refine rg rfl rfl (qt_pev tok rfl) ?_ | refine rq (ql tok rfl) ?_ | refine rg rfl rfl (ql tok rfl) ?_ | (refine runL_op0 (sst tok rfl rfl rfl rfl rfl) ?_; rintro _ _ _ ⟨rfl, rfl, rfl⟩) | ((first | refine ro (st_box rfl) ?_ | refine ro (st_alloc tok rfl) ?_ | refine ro (st_buildSlice tok rfl rfl rfl rfl rfl rfl rfl) ?_); rintro _ _ _ ⟨_, rfl, rfl, rfl⟩))
      exact run_ret hC (rs := [.tmp 2]) rfl (resT rfl resN) (fun _ h => h.drop) ⟨rfl, rfl, rfl⟩
    · have hmm : nmW m = true := by simpa using h
      repeat (first | with_reducible (first | refine cS ?_ | refine cR ?_ | refine cN ?_ | refine cK ?_ | refine cB ?_ | refine cI ?_) | refine cE rfl ?_ | refine rq (qt_pev tok rfl) ?_ | refine rg rfl rfl (qt_pev tok rfl) ?_ | refine rq (ql tok rfl) ?_ | refine rg rfl rfl (ql tok rfl) ?_ | (refine runL_op0 (sst tok rfl rfl rfl rfl rfl) ?_; rintro _ _ _ ⟨rfl, rfl, rfl⟩) | ((first | refine ro (st_box rfl) ?_ | refine ro (st_alloc tok rfl) ?_ | refine ro (st_buildSlice tok rfl rfl rfl rfl rfl rfl rfl) ?_); rintro _ _ _ ⟨_, rfl, rfl, rfl⟩))
      refine run_sub' (hnext _ _ _ ⟨hlt, rfl, ?_, rfl, rfl⟩) ⟨lk_succ rfl (by omega), rfl, trivial⟩
      intro v hv
      rw [take_snoc hm] at hv
      rcases List.mem_append.1 hv with hv | hv
      · exact hall v hv
      · rw [List.mem_singleton.1 hv]; exact hmm
  · have hge : j = x.list.len := by simp at h; omega
    subst hge
    rw [List.take_of_length_le (by omega)] at hall
    have hrt : r = true := hr2.2 hall
    subst hrt
    repeat (first | with_reducible (first | refine cS ?_ | refine cR ?_ | refine cN ?_ | refine cK ?_ | refine cB ?_ | refine cI ?_) | refine cE rfl ?_ | refine rq (qt_pev tok rfl) ?_ | refine rg rfl rfl (qt_pev tok rfl) ?_ | refine rq (ql tok rfl) ?_ | refine rg rfl rfl (ql tok rfl) ?_ | (refine runL_op0 (sst tok rfl rfl rfl rfl rfl) ?_; rintro _ _ _ ⟨rfl, rfl, rfl⟩) | ((first | refine ro (st_box rfl) ?_ | refine ro (st_alloc tok rfl) ?_ | refine ro (st_buildSlice tok rfl rfl rfl rfl rfl rfl rfl) ?_); rintro _ _ _ ⟨_, rfl, rfl, rfl⟩))
    exact run_ret hC (rs := [.tmp 2]) rfl (resT rfl resN) (fun _ h => h.drop) ⟨rfl, rfl, rfl⟩
end Go.Proofs.Ytbpgiodfccijmaa
namespace Go.Proofs.Ytbpgiodfccijmaa
open Go.Chi

/-! ### the document's writer: a text, a row of numbers -/
theorem u64_of {n : Int} (hn : 0 ≤ n ∧ n < 4611686018427387904) : IntKind.u64.wrap n = ((n.toNat : Nat) : Int) := by
  rw [show n = ((n.toNat : Nat) : Int) by omega, u64_nat (by omega)]
  simp
set_option maxRecDepth 10000 in
set_option maxHeartbeats 4000000 in
theorem dtext_ok (M : Mem) (L : HL) (s : ByteArray) (hs : s.size < 2305843009213693952) : TrQ Try.prog 37 [.string s] M L (.string (textB s)) := by
  have hz := numB_size (v := s.size) (by omega)
  have e1 : IntKind.u64.wrap (s.size : Int) = (s.size : Int) := u64_nat (by omega)
  refine Tr.intro 9 Try.func37 rfl rfl Try.call37 rfl ?_
  intro C hC hro
  repeat (first | with_reducible (first | refine cS ?_ | refine cR ?_ | refine cN ?_ | refine cK ?_ | refine cB ?_ | refine cI ?_) | refine cE rfl ?_ | refine rq (qt_pev tok rfl) ?_ | refine rg rfl rfl (qt_pev tok rfl) ?_ | refine rq (ql tok rfl) ?_ | refine rg rfl rfl (ql tok rfl) ?_ | (refine runL_op0 (sst tok rfl rfl rfl rfl rfl) ?_; rintro _ _ _ ⟨rfl, rfl, rfl⟩) | ((first | refine ro (st_box rfl) ?_ | refine ro (st_alloc tok rfl) ?_ | refine ro (st_buildSlice tok rfl rfl rfl rfl rfl rfl rfl) ?_); rintro _ _ _ ⟨_, rfl, rfl, rfl⟩))
  refine runL_as 5 (.int .u64 (s.size : Int)) rfl (by rw [e1]) ?_
  repeat (first | with_reducible (first | refine cS ?_ | refine cR ?_ | refine cN ?_ | refine cK ?_ | refine cB ?_ | refine cI ?_) | refine cE rfl ?_ | refine rq (qt_pev tok rfl) ?_ | refine rg rfl rfl (qt_pev tok rfl) ?_ | refine rq (ql tok rfl) ?_ | refine rg rfl rfl (ql tok rfl) ?_ | (refine runL_op0 (sst tok rfl rfl rfl rfl rfl) ?_; rintro _ _ _ ⟨rfl, rfl, rfl⟩) | ((first | refine ro (st_box rfl) ?_ | refine ro (st_alloc tok rfl) ?_ | refine ro (st_buildSlice tok rfl rfl rfl rfl rfl rfl rfl) ?_); rintro _ _ _ ⟨_, rfl, rfl, rfl⟩) | refine runL_q (qt_callF rfl (fun _ => num_ok _ _ s.size (by omega))) rfl rfl rfl ?_ | refine runL_q (qt_concat rfl rfl (by omega)) rfl rfl rfl ?_)
  exact run_ret hC (rs := [.tmp 2]) rfl (resT rfl resN) (fun _ h => h) ⟨rfl, rfl, rfl⟩
set_option maxRecDepth 10000 in
set_option maxHeartbeats 8000000 in
theorem dnums_ok (M : Mem) (L : HL) (p : SIn) (hp : InOk M p) (hall : ∀ v ∈ p.xs, nmW v = true) : TrQ Try.prog 36 [p.v] M L (.string (nsB p.xs)) := by
  have l1 := hp.len
  have n1 := hp.2
  obtain ⟨pa, pl, pc, px⟩ := p
  simp only [SIn.v] at *
  refine Tr.intro 20 Try.func36 rfl rfl Try.call36 rfl ?_
  intro C hC hro
  repeat (first | with_reducible (first | refine cS ?_ | refine cR ?_ | refine cN ?_ | refine cK ?_ | refine cB ?_ | refine cI ?_) | refine cE rfl ?_ | refine rq (qt_pev tok rfl) ?_ | refine rg rfl rfl (qt_pev tok rfl) ?_ | refine rq (ql tok rfl) ?_ | refine rg rfl rfl (ql tok rfl) ?_ | (refine runL_op0 (sst tok rfl rfl rfl rfl rfl) ?_; rintro _ _ _ ⟨rfl, rfl, rfl⟩) | ((first | refine ro (st_box rfl) ?_ | refine ro (st_alloc tok rfl) ?_ | refine ro (st_buildSlice tok rfl rfl rfl rfl rfl rfl rfl) ?_); rintro _ _ _ ⟨_, rfl, rfl, rfl⟩))
  refine run_loopN (fun j σ1 M1 L1 => j ≤ pl ∧ M = M1 ∧ L = L1 ∧ σ1 = [(4, .int .i64 (j : Int)), (3, .string (nsB (px.take j))), (0, .slice pa pl pc)]) pl [(4, .int .i64 ((0 : Nat) : Int)), (3, .string bz), (0, .slice pa pl pc)] ?_ ⟨Nat.zero_le _, rfl, rfl, by rw [List.take_zero, nsB]⟩ (fun j _ _ _ h => h.1) ?_
  · exact ⟨rfl, rfl, rfl, trivial⟩
  rintro j _ _ _ ⟨hj, rfl, rfl, rfl⟩ hnext
  repeat (first | with_reducible (first | refine cS ?_ | refine cR ?_ | refine cN ?_ | refine cK ?_ | refine cB ?_ | refine cI ?_) | refine cE rfl ?_ | refine rq (qt_pev tok rfl) ?_ | refine rg rfl rfl (qt_pev tok rfl) ?_ | refine rq (ql tok rfl) ?_ | refine rg rfl rfl (ql tok rfl) ?_ | (refine runL_op0 (sst tok rfl rfl rfl rfl rfl) ?_; rintro _ _ _ ⟨rfl, rfl, rfl⟩) | ((first | refine ro (st_box rfl) ?_ | refine ro (st_alloc tok rfl) ?_ | refine ro (st_buildSlice tok rfl rfl rfl rfl rfl rfl rfl) ?_); rintro _ _ _ ⟨_, rfl, rfl, rfl⟩))
  refine run_cond rfl (fun h => ?_) (fun h => ?_)
  · have hlt : j < pl := by simpa using h
    obtain ⟨b, off, m, rfl, hm, hc⟩ := SIn.at_ hp.1 hlt
    have hmw := nm_r (hall m (List.mem_of_getElem? hm))
    have z1 := nsB_sz (l := px.take j) fun v hv => hall v (List.mem_of_mem_take hv)
    have z2 : (px.take j).length ≤ pl := by rw [List.length_take]; omega
    have z3 := numB_size (v := m.toNat) (by omega)
    have hcat : (nsB (px.take j)).size + (numB m.toNat).size < 4611686018427387904 := by omega
    repeat (first | with_reducible (first | refine cS ?_ | refine cR ?_ | refine cN ?_ | refine cK ?_ | refine cB ?_ | refine cI ?_) | refine cE rfl ?_ | refine rq (qt_pev tok rfl) ?_ | refine rg rfl rfl (qt_pev tok rfl) ?_ | refine rq (ql tok rfl) ?_ | refine rg rfl rfl (ql tok rfl) ?_ | (refine runL_op0 (sst tok rfl rfl rfl rfl rfl) ?_; rintro _ _ _ ⟨rfl, rfl, rfl⟩) | ((first | refine ro (st_box rfl) ?_ | refine ro (st_alloc tok rfl) ?_ | refine ro (st_buildSlice tok rfl rfl rfl rfl rfl rfl rfl) ?_); rintro _ _ _ ⟨_, rfl, rfl, rfl⟩) | refine runL_q (qt_indexN tok rfl rfl rfl rfl (fun _ => by omega)) rfl rfl rfl ?_ | refine runL_g rfl rfl (qt_indexN tok rfl rfl rfl rfl (fun _ => by omega)) rfl rfl rfl rfl rfl ?_ | refine runL_q (qt_ldM tok rfl hc rfl) rfl rfl rfl ?_ | refine runL_g rfl rfl (qt_ldM tok rfl hc rfl) rfl rfl rfl rfl rfl ?_ | refine runL_q (qt_ldM0 tok rfl hc rfl) rfl rfl rfl ?_ | refine runL_g rfl rfl (qt_ldM0 tok rfl hc rfl) rfl rfl rfl rfl rfl ?_)
    refine runL_as 16 (.int .u64 ((m.toNat : Nat) : Int)) rfl (by rw [u64_of (by omega)]) ?_
    repeat (first | with_reducible (first | refine cS ?_ | refine cR ?_ | refine cN ?_ | refine cK ?_ | refine cB ?_ | refine cI ?_) | refine cE rfl ?_ | refine rq (qt_pev tok rfl) ?_ | refine rg rfl rfl (qt_pev tok rfl) ?_ | refine rq (ql tok rfl) ?_ | refine rg rfl rfl (ql tok rfl) ?_ | (refine runL_op0 (sst tok rfl rfl rfl rfl rfl) ?_; rintro _ _ _ ⟨rfl, rfl, rfl⟩) | ((first | refine ro (st_box rfl) ?_ | refine ro (st_alloc tok rfl) ?_ | refine ro (st_buildSlice tok rfl rfl rfl rfl rfl rfl rfl) ?_); rintro _ _ _ ⟨_, rfl, rfl, rfl⟩) | refine runL_q (qt_callF rfl (fun _ => num_ok _ _ m.toNat (by omega))) rfl rfl rfl ?_ | refine runL_q (qt_concat rfl rfl hcat) rfl rfl rfl ?_)
    refine run_sub' (hnext _ _ _ ⟨hlt, rfl, rfl, rfl⟩) ⟨lk_succ rfl (by omega), ?_, rfl, trivial⟩
    rw [take_snoc hm, nsB_snoc]
    rfl
  · have hge : j = pl := by simp at h; omega
    subst hge
    rw [List.take_of_length_le (by omega)]
    repeat (first | with_reducible (first | refine cS ?_ | refine cR ?_ | refine cN ?_ | refine cK ?_ | refine cB ?_ | refine cI ?_) | refine cE rfl ?_ | refine rq (qt_pev tok rfl) ?_ | refine rg rfl rfl (qt_pev tok rfl) ?_ | refine rq (ql tok rfl) ?_ | refine rg rfl rfl (ql tok rfl) ?_ | (refine runL_op0 (sst tok rfl rfl rfl rfl rfl) ?_; rintro _ _ _ ⟨rfl, rfl, rfl⟩) | ((first | refine ro (st_box rfl) ?_ | refine ro (st_alloc tok rfl) ?_ | refine ro (st_buildSlice tok rfl rfl rfl rfl rfl rfl rfl) ?_); rintro _ _ _ ⟨_, rfl, rfl, rfl⟩))
    exact run_ret hC (rs := [.tmp 2]) rfl (resT rfl resN) (fun _ h => h) ⟨rfl, rfl, rfl⟩
end Go.Proofs.Ytbpgiodfccijmaa
namespace Go.Proofs.Ytbpgiodfccijmaa
open Go.Chi

/-! ### which parts a kind has, by the document -/
def ofL (k : Int) : List Bool :=
  if k = 1 then [true, true, false, true, false, false, false] else
  if k = 2 then [true, false, false, false, true, true, false] else
  if k = 3 ∨ k = 8 then [true, false, false, false, false, false, false] else
  if k = 4 then [false, false, true, false, false, false, false] else
  if k = 5 ∨ k = 10 then [true, false, false, false, false, false, true] else
  if k = 6 ∨ k = 7 then [true, false, true, false, false, false, false] else
  if k = 9 then [true, false, false, false, true, false, false] else [false, false, false, false, false, false, false]
def ofC (k : Int) : List Value := (ofL k).map Value.bool
set_option maxRecDepth 10000 in
set_option maxHeartbeats 16000000 in
theorem refOf_ok (M : Mem) (L : HL) (k : Int) : TrQ Try.prog 27 [.int .u8 k] M L (.tuple ⟨[.agg ⟨ofC k⟩, .bool (decide (1 ≤ k ∧ k ≤ 10))]⟩) := by
  refine Tr.intro 30 Try.func27 rfl rfl Try.call27 rfl ?_
  intro C hC hro
  by_cases hk : 1 ≤ k ∧ k ≤ 10
  · have hk10 : k = 1 ∨ k = 2 ∨ k = 3 ∨ k = 4 ∨ k = 5 ∨ k = 6 ∨ k = 7 ∨ k = 8 ∨ k = 9 ∨ k = 10 := by omega
    rcases hk10 with rfl | rfl | rfl | rfl | rfl | rfl | rfl | rfl | rfl | rfl
    · repeat (first | with_reducible (first | refine cS ?_ | refine cR ?_ | refine cN ?_ | refine cK ?_ | refine cB ?_ | refine cI ?_) | refine cE rfl ?_ | refine rq (qt_pev tok rfl) ?_ | refine rg rfl rfl (qt_pev tok rfl) ?_ | refine rq (ql tok rfl) ?_ | refine rg rfl rfl (ql tok rfl) ?_ | (refine runL_op0 (sst tok rfl rfl rfl rfl rfl) ?_; rintro _ _ _ ⟨rfl, rfl, rfl⟩) | ((first | refine ro (st_box rfl) ?_ | refine ro (st_alloc tok rfl) ?_ | refine ro (st_buildSlice tok rfl rfl rfl rfl rfl rfl rfl) ?_); rintro _ _ _ ⟨_, rfl, rfl, rfl⟩) | refine run_cond rfl (fun _ => ?_) (fun h => absurd h (by decide)) | refine run_cond rfl (fun h => absurd h (by decide)) (fun _ => ?_))
      exact run_ret hC (rs := [.cell 2 59, .tmp 3]) rfl (rl tok rfl (resT rfl resN)) (fun _ h => h.drop) ⟨rfl, rfl, rfl⟩
    · repeat (first | with_reducible (first | refine cS ?_ | refine cR ?_ | refine cN ?_ | refine cK ?_ | refine cB ?_ | refine cI ?_) | refine cE rfl ?_ | refine rq (qt_pev tok rfl) ?_ | refine rg rfl rfl (qt_pev tok rfl) ?_ | refine rq (ql tok rfl) ?_ | refine rg rfl rfl (ql tok rfl) ?_ | (refine runL_op0 (sst tok rfl rfl rfl rfl rfl) ?_; rintro _ _ _ ⟨rfl, rfl, rfl⟩) | ((first | refine ro (st_box rfl) ?_ | refine ro (st_alloc tok rfl) ?_ | refine ro (st_buildSlice tok rfl rfl rfl rfl rfl rfl rfl) ?_); rintro _ _ _ ⟨_, rfl, rfl, rfl⟩) | refine run_cond rfl (fun _ => ?_) (fun h => absurd h (by decide)) | refine run_cond rfl (fun h => absurd h (by decide)) (fun _ => ?_))
      exact run_ret hC (rs := [.cell 2 59, .tmp 3]) rfl (rl tok rfl (resT rfl resN)) (fun _ h => h.drop) ⟨rfl, rfl, rfl⟩
    · repeat (first | with_reducible (first | refine cS ?_ | refine cR ?_ | refine cN ?_ | refine cK ?_ | refine cB ?_ | refine cI ?_) | refine cE rfl ?_ | refine rq (qt_pev tok rfl) ?_ | refine rg rfl rfl (qt_pev tok rfl) ?_ | refine rq (ql tok rfl) ?_ | refine rg rfl rfl (ql tok rfl) ?_ | (refine runL_op0 (sst tok rfl rfl rfl rfl rfl) ?_; rintro _ _ _ ⟨rfl, rfl, rfl⟩) | ((first | refine ro (st_box rfl) ?_ | refine ro (st_alloc tok rfl) ?_ | refine ro (st_buildSlice tok rfl rfl rfl rfl rfl rfl rfl) ?_); rintro _ _ _ ⟨_, rfl, rfl, rfl⟩) | refine run_cond rfl (fun _ => ?_) (fun h => absurd h (by decide)) | refine run_cond rfl (fun h => absurd h (by decide)) (fun _ => ?_))
      exact run_ret hC (rs := [.cell 2 59, .tmp 3]) rfl (rl tok rfl (resT rfl resN)) (fun _ h => h.drop) ⟨rfl, rfl, rfl⟩
    · repeat (first | with_reducible (first | refine cS ?_ | refine cR ?_ | refine cN ?_ | refine cK ?_ | refine cB ?_ | refine cI ?_) | refine cE rfl ?_ | refine rq (qt_pev tok rfl) ?_ | refine rg rfl rfl (qt_pev tok rfl) ?_ | refine rq (ql tok rfl) ?_ | refine rg rfl rfl (ql tok rfl) ?_ | (refine runL_op0 (sst tok rfl rfl rfl rfl rfl) ?_; rintro _ _ _ ⟨rfl, rfl, rfl⟩) | ((first | refine ro (st_box rfl) ?_ | refine ro (st_alloc tok rfl) ?_ | refine ro (st_buildSlice tok rfl rfl rfl rfl rfl rfl rfl) ?_); rintro _ _ _ ⟨_, rfl, rfl, rfl⟩) | refine run_cond rfl (fun _ => ?_) (fun h => absurd h (by decide)) | refine run_cond rfl (fun h => absurd h (by decide)) (fun _ => ?_))
      exact run_ret hC (rs := [.cell 2 59, .tmp 3]) rfl (rl tok rfl (resT rfl resN)) (fun _ h => h.drop) ⟨rfl, rfl, rfl⟩
    · repeat (first | with_reducible (first | refine cS ?_ | refine cR ?_ | refine cN ?_ | refine cK ?_ | refine cB ?_ | refine cI ?_) | refine cE rfl ?_ | refine rq (qt_pev tok rfl) ?_ | refine rg rfl rfl (qt_pev tok rfl) ?_ | refine rq (ql tok rfl) ?_ | refine rg rfl rfl (ql tok rfl) ?_ | (refine runL_op0 (sst tok rfl rfl rfl rfl rfl) ?_; rintro _ _ _ ⟨rfl, rfl, rfl⟩) | ((first | refine ro (st_box rfl) ?_ | refine ro (st_alloc tok rfl) ?_ | refine ro (st_buildSlice tok rfl rfl rfl rfl rfl rfl rfl) ?_); rintro _ _ _ ⟨_, rfl, rfl, rfl⟩) | refine run_cond rfl (fun _ => ?_) (fun h => absurd h (by decide)) | refine run_cond rfl (fun h => absurd h (by decide)) (fun _ => ?_))
      exact run_ret hC (rs := [.cell 2 59, .tmp 3]) rfl (rl tok rfl (resT rfl resN)) (fun _ h => h.drop) ⟨rfl, rfl, rfl⟩
    · repeat (first | with_reducible (first | refine cS ?_ | refine cR ?_ | refine cN ?_ | refine cK ?_ | refine cB ?_ | refine cI ?_) | refine cE rfl ?_ | refine rq (qt_pev tok rfl) ?_ | refine rg rfl rfl (qt_pev tok rfl) ?_ | refine rq (ql tok rfl) ?_ | refine rg rfl rfl (ql tok rfl) ?_ | (refine runL_op0 (sst tok rfl rfl rfl rfl rfl) ?_; rintro _ _ _ ⟨rfl, rfl, rfl⟩) | ((first | refine ro (st_box rfl) ?_ | refine ro (st_alloc tok rfl) ?_ | refine ro (st_buildSlice tok rfl rfl rfl rfl rfl rfl rfl) ?_); rintro _ _ _ ⟨_, rfl, rfl, rfl⟩) | refine run_cond rfl (fun _ => ?_) (fun h => absurd h (by decide)) | refine run_cond rfl (fun h => absurd h (by decide)) (fun _ => ?_))
      exact run_ret hC (rs := [.cell 2 59, .tmp 3]) rfl (rl tok rfl (resT rfl resN)) (fun _ h => h.drop) ⟨rfl, rfl, rfl⟩
    · repeat (first | with_reducible (first | refine cS ?_ | refine cR ?_ | refine cN ?_ | refine cK ?_ | refine cB ?_ | refine cI ?_) | refine cE rfl ?_ | refine rq (qt_pev tok rfl) ?_ | refine rg rfl rfl (qt_pev tok rfl) ?_ | refine rq (ql tok rfl) ?_ | refine rg rfl rfl (ql tok rfl) ?_ | (refine runL_op0 (sst tok rfl rfl rfl rfl rfl) ?_; rintro _ _ _ ⟨rfl, rfl, rfl⟩) | ((first | refine ro (st_box rfl) ?_ | refine ro (st_alloc tok rfl) ?_ | refine ro (st_buildSlice tok rfl rfl rfl rfl rfl rfl rfl) ?_); rintro _ _ _ ⟨_, rfl, rfl, rfl⟩) | refine run_cond rfl (fun _ => ?_) (fun h => absurd h (by decide)) | refine run_cond rfl (fun h => absurd h (by decide)) (fun _ => ?_))
      exact run_ret hC (rs := [.cell 2 59, .tmp 3]) rfl (rl tok rfl (resT rfl resN)) (fun _ h => h.drop) ⟨rfl, rfl, rfl⟩
    · repeat (first | with_reducible (first | refine cS ?_ | refine cR ?_ | refine cN ?_ | refine cK ?_ | refine cB ?_ | refine cI ?_) | refine cE rfl ?_ | refine rq (qt_pev tok rfl) ?_ | refine rg rfl rfl (qt_pev tok rfl) ?_ | refine rq (ql tok rfl) ?_ | refine rg rfl rfl (ql tok rfl) ?_ | (refine runL_op0 (sst tok rfl rfl rfl rfl rfl) ?_; rintro _ _ _ ⟨rfl, rfl, rfl⟩) | ((first | refine ro (st_box rfl) ?_ | refine ro (st_alloc tok rfl) ?_ | refine ro (st_buildSlice tok rfl rfl rfl rfl rfl rfl rfl) ?_); rintro _ _ _ ⟨_, rfl, rfl, rfl⟩) | refine run_cond rfl (fun _ => ?_) (fun h => absurd h (by decide)) | refine run_cond rfl (fun h => absurd h (by decide)) (fun _ => ?_))
      exact run_ret hC (rs := [.cell 2 59, .tmp 3]) rfl (rl tok rfl (resT rfl resN)) (fun _ h => h.drop) ⟨rfl, rfl, rfl⟩
    · repeat (first | with_reducible (first | refine cS ?_ | refine cR ?_ | refine cN ?_ | refine cK ?_ | refine cB ?_ | refine cI ?_) | refine cE rfl ?_ | refine rq (qt_pev tok rfl) ?_ | refine rg rfl rfl (qt_pev tok rfl) ?_ | refine rq (ql tok rfl) ?_ | refine rg rfl rfl (ql tok rfl) ?_ | (refine runL_op0 (sst tok rfl rfl rfl rfl rfl) ?_; rintro _ _ _ ⟨rfl, rfl, rfl⟩) | ((first | refine ro (st_box rfl) ?_ | refine ro (st_alloc tok rfl) ?_ | refine ro (st_buildSlice tok rfl rfl rfl rfl rfl rfl rfl) ?_); rintro _ _ _ ⟨_, rfl, rfl, rfl⟩) | refine run_cond rfl (fun _ => ?_) (fun h => absurd h (by decide)) | refine run_cond rfl (fun h => absurd h (by decide)) (fun _ => ?_))
      exact run_ret hC (rs := [.cell 2 59, .tmp 3]) rfl (rl tok rfl (resT rfl resN)) (fun _ h => h.drop) ⟨rfl, rfl, rfl⟩
    · repeat (first | with_reducible (first | refine cS ?_ | refine cR ?_ | refine cN ?_ | refine cK ?_ | refine cB ?_ | refine cI ?_) | refine cE rfl ?_ | refine rq (qt_pev tok rfl) ?_ | refine rg rfl rfl (qt_pev tok rfl) ?_ | refine rq (ql tok rfl) ?_ | refine rg rfl rfl (ql tok rfl) ?_ | (refine runL_op0 (sst tok rfl rfl rfl rfl rfl) ?_; rintro _ _ _ ⟨rfl, rfl, rfl⟩) | ((first | refine ro (st_box rfl) ?_ | refine ro (st_alloc tok rfl) ?_ | refine ro (st_buildSlice tok rfl rfl rfl rfl rfl rfl rfl) ?_); rintro _ _ _ ⟨_, rfl, rfl, rfl⟩) | refine run_cond rfl (fun _ => ?_) (fun h => absurd h (by decide)) | refine run_cond rfl (fun h => absurd h (by decide)) (fun _ => ?_))
      exact run_ret hC (rs := [.cell 2 59, .tmp 3]) rfl (rl tok rfl (resT rfl resN)) (fun _ h => h.drop) ⟨rfl, rfl, rfl⟩
  · have hd : decide (1 ≤ k ∧ k ≤ 10) = false := decide_eq_false hk
    have hp : ofC k = [.bool false, .bool false, .bool false, .bool false, .bool false, .bool false, .bool false] := by
      unfold ofC ofL
      rw [if_neg (by omega), if_neg (by omega), if_neg (by omega), if_neg (by omega), if_neg (by omega), if_neg (by omega), if_neg (by omega)]
      rfl
    rw [hd, hp] at hC
    repeat (first | with_reducible (first | refine cS ?_ | refine cR ?_ | refine cN ?_ | refine cK ?_ | refine cB ?_ | refine cI ?_) | refine cE rfl ?_ | refine rq (qt_pev tok rfl) ?_ | refine rg rfl rfl (qt_pev tok rfl) ?_ | refine rq (ql tok rfl) ?_ | refine rg rfl rfl (ql tok rfl) ?_ | (refine runL_op0 (sst tok rfl rfl rfl rfl rfl) ?_; rintro _ _ _ ⟨rfl, rfl, rfl⟩) | ((first | refine ro (st_box rfl) ?_ | refine ro (st_alloc tok rfl) ?_ | refine ro (st_buildSlice tok rfl rfl rfl rfl rfl rfl rfl) ?_); rintro _ _ _ ⟨_, rfl, rfl, rfl⟩) | refine run_cond rfl (fun h => absurd h (by simp; omega)) (fun _ => ?_))
    exact run_ret hC (rs := [.cell 2 59, .tmp 3]) rfl (rl tok rfl (resT rfl resN)) (fun _ h => h.drop) ⟨rfl, rfl, rfl⟩
end Go.Proofs.Ytbpgiodfccijmaa
namespace Go.Proofs.Ytbpgiodfccijmaa
open Go.Chi

/-! ### the document's answer: which acts may be -/
def dB (is o au n g t y s : Bool) (x : Ax) : Bool := (((((((!is) || ((!o) && (x.org != 0))) || ((!au) && (x.auditor != 0))) || ((!n) && (x.n != 0))) || ((!g) && decide ((x.gives.len : Int) > 0))) || ((!t) && !((x.txn.coord == 0) && ((x.txn.epoch == 0) && ((x.txn.seq == 0) && true))))) || ((!y) && x.yes)) || ((!s) && decide ((x.steps.len : Int) > 0))
def dD (t : Bool) (x : Ax) : Bool := (((((!orgW x.org) || !orgW x.auditor) || !nmW x.n) || (t && !mayTx x.txn)) || decide ((x.gives.len : Int) > 6)) || decide ((x.steps.len : Int) > 64)
theorem dB_iff {is o au n g t y s : Bool} {x : Ax} (hi : is = true ↔ 1 ≤ x.do_ ∧ x.do_ ≤ 10) (h1 : 1 ≤ x.do_ ∧ x.do_ ≤ 10 → (o = true ↔ x.do_ ≠ 4)) (h2 : 1 ≤ x.do_ ∧ x.do_ ≤ 10 → (au = true ↔ x.do_ = 1)) (h3 : 1 ≤ x.do_ ∧ x.do_ ≤ 10 → (n = true ↔ x.do_ = 4 ∨ x.do_ = 6 ∨ x.do_ = 7)) (h4 : 1 ≤ x.do_ ∧ x.do_ ≤ 10 → (g = true ↔ x.do_ = 1)) (h5 : 1 ≤ x.do_ ∧ x.do_ ≤ 10 → (t = true ↔ x.do_ = 2 ∨ x.do_ = 9)) (h6 : 1 ≤ x.do_ ∧ x.do_ ≤ 10 → (y = true ↔ x.do_ = 2)) (h7 : 1 ≤ x.do_ ∧ x.do_ ≤ 10 → (s = true ↔ x.do_ = 5 ∨ x.do_ = 10)) :
    dB is o au n g t y s x = false ↔ (1 ≤ x.do_ ∧ x.do_ ≤ 10) ∧ bareA x = true := by
  have e1 : ∀ (b : Bool) (v : Int), ((!b) && (v != 0)) = false ↔ (b = false → v = 0) := fun b v => by cases b <;> simp
  have e2 : ∀ (b : Bool) (v : Nat), ((!b) && decide ((v : Int) > 0)) = false ↔ (b = false → v = 0) := fun b v => by cases b <;> simp
  have e3 : ∀ (b c : Bool), ((!b) && c) = false ↔ (b = false → c = false) := fun b v => by cases b <;> simp
  have e4 : (!((x.txn.coord == 0) && ((x.txn.epoch == 0) && ((x.txn.seq == 0) && true)))) = false ↔ x.txn = tz := by
    rw [Bool.not_eq_false']
    exact ⟨tx_tz, fun h => by rw [h]; rfl⟩
  unfold dB
  rw [bareA_iff]
  simp only [Bool.or_eq_false_iff, e1, e2, e3 t, e4, e3 y]
  have nf : ∀ {b : Bool} {P : Prop}, (b = true ↔ P) → (b = false ↔ ¬ P) := fun {b P} h => by rw [← h]; simp
  constructor
  · rintro ⟨⟨⟨⟨⟨⟨⟨a0, a1⟩, a2⟩, a3⟩, a4⟩, a5⟩, a6⟩, a7⟩
    have hk := hi.1 (by simpa using a0)
    have n1 := nf (h1 hk); have n2 := nf (h2 hk); have n3 := nf (h3 hk); have n4 := nf (h4 hk); have n5 := nf (h5 hk); have n6 := nf (h6 hk); have n7 := nf (h7 hk)
    exact ⟨hk, fun q => a1 (n1.2 (by omega)), fun q => ⟨a2 (n2.2 q), a4 (n4.2 q)⟩, fun q => a5 (n5.2 (by omega)), fun q => a6 (n6.2 q), fun q => a7 (n7.2 (by omega)), fun q => a3 (n3.2 (by omega))⟩
  · rintro ⟨hk, b1, b2, b3, b4, b5, b6⟩
    have n1 := nf (h1 hk); have n2 := nf (h2 hk); have n3 := nf (h3 hk); have n4 := nf (h4 hk); have n5 := nf (h5 hk); have n6 := nf (h6 hk); have n7 := nf (h7 hk)
    exact ⟨⟨⟨⟨⟨⟨⟨by simpa using hi.2 hk, fun q => b1 (by have := n1.1 q; omega)⟩, fun q => (b2 (n2.1 q)).1⟩, fun q => b6 (by have := n3.1 q; omega)⟩, fun q => (b2 (n4.1 q)).2⟩, fun q => b3 (by have := n5.1 q; omega)⟩, fun q => b4 (n6.1 q)⟩, fun q => b5 (by have := n7.1 q; omega)⟩
theorem dD_iff {t : Bool} {x : Ax} : dD t x = false ↔ orgW x.org = true ∧ orgW x.auditor = true ∧ nmW x.n = true ∧ (t = true → mayTx x.txn = true) ∧ x.gives.len ≤ 6 ∧ x.steps.len ≤ 64 := by
  have e3 : (t && !mayTx x.txn) = false ↔ (t = true → mayTx x.txn = true) := by cases t <;> simp
  unfold dD
  simp only [Bool.or_eq_false_iff, e3, Bool.not_eq_false', decide_eq_false_iff_not]
  constructor
  · rintro ⟨⟨⟨⟨⟨a0, a1⟩, a2⟩, a3⟩, a4⟩, a5⟩; exact ⟨a0, a1, a2, a3, by omega, by omega⟩
  · rintro ⟨a0, a1, a2, a3, a4, a5⟩; exact ⟨⟨⟨⟨⟨a0, a1⟩, a2⟩, a3⟩, by omega⟩, by omega⟩
theorem of_ex (k : Int) : ∃ o au n g t y s : Bool, ofC k = [.bool o, .bool au, .bool n, .bool g, .bool t, .bool y, .bool s] ∧
    (1 ≤ k ∧ k ≤ 10 → (o = true ↔ k ≠ 4)) ∧ (1 ≤ k ∧ k ≤ 10 → (au = true ↔ k = 1)) ∧ (1 ≤ k ∧ k ≤ 10 → (n = true ↔ k = 4 ∨ k = 6 ∨ k = 7)) ∧ (1 ≤ k ∧ k ≤ 10 → (g = true ↔ k = 1)) ∧ (1 ≤ k ∧ k ≤ 10 → (t = true ↔ k = 2 ∨ k = 9)) ∧ (1 ≤ k ∧ k ≤ 10 → (y = true ↔ k = 2)) ∧ (1 ≤ k ∧ k ≤ 10 → (s = true ↔ k = 5 ∨ k = 10)) := by
  by_cases hk : 1 ≤ k ∧ k ≤ 10
  · have hk10 : k = 1 ∨ k = 2 ∨ k = 3 ∨ k = 4 ∨ k = 5 ∨ k = 6 ∨ k = 7 ∨ k = 8 ∨ k = 9 ∨ k = 10 := by omega
    rcases hk10 with rfl | rfl | rfl | rfl | rfl | rfl | rfl | rfl | rfl | rfl <;> exact ⟨_, _, _, _, _, _, _, rfl, by simp, by simp, by simp, by simp, by simp, by simp, by simp⟩
  · refine ⟨false, false, false, false, false, false, false, ?_, fun h => absurd h hk, fun h => absurd h hk, fun h => absurd h hk, fun h => absurd h hk, fun h => absurd h hk, fun h => absurd h hk, fun h => absurd h hk⟩
    unfold ofC ofL
    rw [if_neg (by omega), if_neg (by omega), if_neg (by omega), if_neg (by omega), if_neg (by omega), if_neg (by omega), if_neg (by omega)]
    rfl
theorem acP_fine {M : Mem} {x : Ax} (hx : AxOk M x) : AcP x.aa ↔ FineP x := by
  have h0 : chkA x = 0 ↔ fineA x = true := by unfold chkA; split <;> simp_all
  have hl : ∀ s ∈ x.steps.xs, s.list.xs.length = s.list.len := fun s hs => (hx.steps.each s hs).list.len
  rw [← chkA_iff hx.gives.len hx.steps.len hl, h0, fineA_iff hl]
theorem gvB_iff {g : Mb} {t : Bool} (h : ((!orgW g.org) || !isT g.digest) = t) : t = false ↔ GvP g := by
  subst h
  unfold GvP isT
  simp
set_option maxRecDepth 10000 in
set_option maxHeartbeats 32000000 in
theorem refMay_ok (M : Mem) (L : HL) (x : Ax) (hx : AxOk M x) (r : Bool) (hr : r = true ↔ AcP x.aa) : TrQ Try.prog 14 [.agg ⟨axC x⟩] M L (.bool r) := by
  have l1 := hx.gives.len
  have l3 := hx.steps.len
  have n1 := hx.gives.2
  have n3 := hx.steps.lt
  have hOf := refOf_ok M ((0, .cells ⟨axC x⟩ 37 (0, 0)) :: L) x.do_
  obtain ⟨o, au, n, g, t, y, s, hof, f1, f2, f3, f4, f5, f6, f7⟩ := of_ex x.do_
  generalize hi : decide (1 ≤ x.do_ ∧ x.do_ ≤ 10) = is at hOf
  have hi : is = true ↔ 1 ≤ x.do_ ∧ x.do_ ≤ 10 := by rw [← hi]; simp
  have hB := dB_iff hi f1 f2 f3 f4 f5 f6 f7
  have hD := dD_iff (t := t) (x := x)
  have hr1 : r = true ↔ (dB is o au n g t y s x = false ∧ dD t x = false) ∧ (∀ m ∈ x.gives.xs, GvP m) ∧ (∀ m ∈ x.steps.xs, SpP m.sp) := by
    rw [hr, acP_fine hx, hB, hD]
    constructor
    · rintro ⟨hk, a2, a3, a4, a5, a6, a7, a8, a9, a10⟩
      exact ⟨⟨⟨hk, a2⟩, a3, a4, a5, fun q => a8 ((f5 hk).1 q), a6, a7⟩, a9, a10⟩
    · rintro ⟨⟨⟨hk, a2⟩, a3, a4, a5, a8, a6, a7⟩, a9, a10⟩
      exact ⟨hk, a2, a3, a4, a5, a6, a7, fun q => a8 ((f5 hk).2 q), a9, a10⟩
  clear hB hD hr f1 f2 f3 f4 f5 f6 f7 hOf
  have hOf : ∀ L', TrQ Try.prog 27 [.int .u8 x.do_] M L' (.tuple ⟨[.agg ⟨[.bool o, .bool au, .bool n, .bool g, .bool t, .bool y, .bool s]⟩, .bool is]⟩) := by
    intro L'
    have := refOf_ok M L' x.do_
    rw [hof, show decide (1 ≤ x.do_ ∧ x.do_ ≤ 10) = is by rw [Bool.eq_iff_iff, hi]; simp] at this
    exact this
  refine Tr.intro 164 Try.func14 rfl rfl Try.call14 rfl ?_
  intro C hC hro
  repeat (first | with_reducible (first | refine cS ?_ | refine cR ?_ | refine cN ?_ | refine cK ?_ | refine cB ?_ | refine cI ?_) | refine cE rfl ?_ | refine rq (qt_pev tok rfl) ?_ | refine rg rfl rfl (qt_pev tok rfl) ?_ | refine rq (ql tok rfl) ?_ | refine rg rfl rfl (ql tok rfl) ?_ | (refine runL_op0 (sst tok rfl rfl rfl rfl rfl) ?_; rintro _ _ _ ⟨rfl, rfl, rfl⟩) | ((first | refine ro (st_box rfl) ?_ | refine ro (st_alloc tok rfl) ?_ | refine ro (st_buildSlice tok rfl rfl rfl rfl rfl rfl rfl) ?_); rintro _ _ _ ⟨_, rfl, rfl, rfl⟩) | refine runL_q (qt_callF rfl (fun _ => hOf _)) rfl rfl rfl ?_)
  rename_i bx bn
  refine run_cond rfl (fun h => ?_) (fun h => ?_)
  · have hb : dB is o au n g t y s x = true := h
    have hrf : r = false := by
      cases r with
      | false => rfl
      | true => have := (hr1.1 rfl).1.1; rw [hb] at this; cases this
    subst hrf
    repeat (first | with_reducible (first | refine cS ?_ | refine cR ?_ | refine cN ?_ | refine cK ?_ | refine cB ?_ | refine cI ?_) | refine cE rfl ?_ | refine rq (qt_pev tok rfl) ?_ | refine rg rfl rfl (qt_pev tok rfl) ?_ | refine rq (ql tok rfl) ?_ | refine rg rfl rfl (ql tok rfl) ?_ | (refine runL_op0 (sst tok rfl rfl rfl rfl rfl) ?_; rintro _ _ _ ⟨rfl, rfl, rfl⟩) | ((first | refine ro (st_box rfl) ?_ | refine ro (st_alloc tok rfl) ?_ | refine ro (st_buildSlice tok rfl rfl rfl rfl rfl rfl rfl) ?_); rintro _ _ _ ⟨_, rfl, rfl, rfl⟩))
    exact run_ret hC (rs := [.tmp 2]) rfl (resT rfl resN) (fun _ h => h.drop.drop) ⟨rfl, rfl, rfl⟩
  have hb : dB is o au n g t y s x = false := h
  clear h
  repeat (first | with_reducible (first | refine cS ?_ | refine cR ?_ | refine cN ?_ | refine cK ?_ | refine cB ?_ | refine cI ?_) | refine cE rfl ?_ | refine rq (qt_pev tok rfl) ?_ | refine rg rfl rfl (qt_pev tok rfl) ?_ | refine rq (ql tok rfl) ?_ | refine rg rfl rfl (ql tok rfl) ?_ | (refine runL_op0 (sst tok rfl rfl rfl rfl rfl) ?_; rintro _ _ _ ⟨rfl, rfl, rfl⟩) | ((first | refine ro (st_box rfl) ?_ | refine ro (st_alloc tok rfl) ?_ | refine ro (st_buildSlice tok rfl rfl rfl rfl rfl rfl rfl) ?_); rintro _ _ _ ⟨_, rfl, rfl, rfl⟩) | refine runL_q (qt_callF rfl (fun _ => refOrg_ok _ _ _)) rfl rfl rfl ?_ | refine runL_g rfl rfl (qt_callF rfl (fun _ => refOrg_ok _ _ _)) rfl rfl rfl rfl rfl ?_ | refine runL_g rfl rfl (qt_callF rfl (fun _ => refNm_ok _ _ _)) rfl rfl rfl rfl rfl ?_ | refine runL_g rfl rfl (qt_callF rfl (fun _ => refTx_ok _ _ x.txn)) rfl rfl rfl rfl rfl ?_)
  refine run_cond rfl (fun h => ?_) (fun h => ?_)
  · have hd : dD t x = true := h
    have hrf : r = false := by
      cases r with
      | false => rfl
      | true => have := (hr1.1 rfl).1.2; rw [hd] at this; cases this
    subst hrf
    repeat (first | with_reducible (first | refine cS ?_ | refine cR ?_ | refine cN ?_ | refine cK ?_ | refine cB ?_ | refine cI ?_) | refine cE rfl ?_ | refine rq (qt_pev tok rfl) ?_ | refine rg rfl rfl (qt_pev tok rfl) ?_ | refine rq (ql tok rfl) ?_ | refine rg rfl rfl (ql tok rfl) ?_ | (refine runL_op0 (sst tok rfl rfl rfl rfl rfl) ?_; rintro _ _ _ ⟨rfl, rfl, rfl⟩) | ((first | refine ro (st_box rfl) ?_ | refine ro (st_alloc tok rfl) ?_ | refine ro (st_buildSlice tok rfl rfl rfl rfl rfl rfl rfl) ?_); rintro _ _ _ ⟨_, rfl, rfl, rfl⟩))
    exact run_ret hC (rs := [.tmp 2]) rfl (resT rfl resN) (fun _ h => h.drop.drop) ⟨rfl, rfl, rfl⟩
  have hd : dD t x = false := h
  clear h
  repeat (first | with_reducible (first | refine cS ?_ | refine cR ?_ | refine cN ?_ | refine cK ?_ | refine cB ?_ | refine cI ?_) | refine cE rfl ?_ | refine rq (qt_pev tok rfl) ?_ | refine rg rfl rfl (qt_pev tok rfl) ?_ | refine rq (ql tok rfl) ?_ | refine rg rfl rfl (ql tok rfl) ?_ | (refine runL_op0 (sst tok rfl rfl rfl rfl rfl) ?_; rintro _ _ _ ⟨rfl, rfl, rfl⟩) | ((first | refine ro (st_box rfl) ?_ | refine ro (st_alloc tok rfl) ?_ | refine ro (st_buildSlice tok rfl rfl rfl rfl rfl rfl rfl) ?_); rintro _ _ _ ⟨_, rfl, rfl, rfl⟩))
  have hr2 : r = true ↔ (∀ m ∈ x.gives.xs, GvP m) ∧ (∀ m ∈ x.steps.xs, SpP m.sp) := by
    rw [hr1]
    exact ⟨fun q => q.2, fun q => ⟨⟨hb, hd⟩, q⟩⟩
  clear hr1
  refine run_loopN (fun j σ1 M1 L1 => j ≤ x.gives.len ∧ M = M1 ∧ (∀ m ∈ x.gives.xs.take j, GvP m) ∧ L1 = (bn, Obj.cells ⟨[.bool o, .bool au, .bool n, .bool g, .bool t, .bool y, .bool s]⟩ 59 (0, 0)) :: (bx, Obj.cells ⟨axC x⟩ 37 (0, 0)) :: L ∧ σ1 = [(5, .int .i64 (j : Int)), (1, .pointer (some ⟨bx, 0, none⟩))]) x.gives.len [(5, .int .i64 ((0 : Nat) : Int)), (1, .pointer (some ⟨bx, 0, none⟩))] ?_ ⟨Nat.zero_le _, rfl, by simp, rfl, rfl⟩ (fun j _ _ _ h => h.1) ?_
  · exact ⟨rfl, rfl, trivial⟩
  rintro j _ _ _ ⟨hj, rfl, hall, rfl, rfl⟩ hnext
  repeat (first | with_reducible (first | refine cS ?_ | refine cR ?_ | refine cN ?_ | refine cK ?_ | refine cB ?_ | refine cI ?_) | refine cE rfl ?_ | refine rq (qt_pev tok rfl) ?_ | refine rg rfl rfl (qt_pev tok rfl) ?_ | refine rq (ql tok rfl) ?_ | refine rg rfl rfl (ql tok rfl) ?_ | (refine runL_op0 (sst tok rfl rfl rfl rfl rfl) ?_; rintro _ _ _ ⟨rfl, rfl, rfl⟩) | ((first | refine ro (st_box rfl) ?_ | refine ro (st_alloc tok rfl) ?_ | refine ro (st_buildSlice tok rfl rfl rfl rfl rfl rfl rfl) ?_); rintro _ _ _ ⟨_, rfl, rfl, rfl⟩))
  refine run_cond rfl (fun h => ?_) (fun h => ?_)
  · have hlt : j < x.gives.len := by simpa using h
    obtain ⟨b, off, m, hma, hm, hc⟩ := SMb.at_ hx.gives.1 hlt
    have hv : x.gives.v = .slice (some ⟨b, off, none⟩) x.gives.len x.gives.cap := by rw [← hma]; rfl
    have hmp := hx.pay m (List.mem_of_getElem? hm)
    repeat (first | with_reducible (first | refine cS ?_ | refine cR ?_ | refine cN ?_ | refine cK ?_ | refine cB ?_ | refine cI ?_) | refine cE rfl ?_ | refine rq (qt_pev tok rfl) ?_ | refine rg rfl rfl (qt_pev tok rfl) ?_ | refine rq (ql tok rfl) ?_ | refine rg rfl rfl (ql tok rfl) ?_ | (refine runL_op0 (sst tok rfl rfl rfl rfl rfl) ?_; rintro _ _ _ ⟨rfl, rfl, rfl⟩) | ((first | refine ro (st_box rfl) ?_ | refine ro (st_alloc tok rfl) ?_ | refine ro (st_buildSlice tok rfl rfl rfl rfl rfl rfl rfl) ?_); rintro _ _ _ ⟨_, rfl, rfl, rfl⟩))
    refine runL_as 133 (.slice (some ⟨b, off, none⟩) x.gives.len x.gives.cap) rfl hv ?_
    repeat (first | refine runL_g rfl rfl (Qt.as (v' := Value.slice (some ⟨b, off, none⟩) x.gives.len x.gives.cap) (ql tok rfl) hv) rfl rfl rfl rfl rfl ?_ | with_reducible (first | refine cS ?_ | refine cR ?_ | refine cN ?_ | refine cK ?_ | refine cB ?_ | refine cI ?_) | refine cE rfl ?_ | refine rq (qt_pev tok rfl) ?_ | refine rg rfl rfl (qt_pev tok rfl) ?_ | refine rq (ql tok rfl) ?_ | refine rg rfl rfl (ql tok rfl) ?_ | (refine runL_op0 (sst tok rfl rfl rfl rfl rfl) ?_; rintro _ _ _ ⟨rfl, rfl, rfl⟩) | ((first | refine ro (st_box rfl) ?_ | refine ro (st_alloc tok rfl) ?_ | refine ro (st_buildSlice tok rfl rfl rfl rfl rfl rfl rfl) ?_); rintro _ _ _ ⟨_, rfl, rfl, rfl⟩) | refine runL_q (qt_indexN tok rfl rfl rfl rfl (fun _ => by omega)) rfl rfl rfl ?_ | refine runL_g rfl rfl (qt_indexN tok rfl rfl rfl rfl (fun _ => by omega)) rfl rfl rfl rfl rfl ?_ | refine runL_q (qt_ldM tok rfl hc rfl) rfl rfl rfl ?_ | refine runL_g rfl rfl (qt_ldM tok rfl hc rfl) rfl rfl rfl rfl rfl ?_ | refine runL_q (qt_ldM0 tok rfl hc rfl) rfl rfl rfl ?_ | refine runL_g rfl rfl (qt_ldM0 tok rfl hc rfl) rfl rfl rfl rfl rfl ?_ | refine runL_q (qt_callF rfl (fun _ => refOrg_ok _ _ m.org)) rfl rfl rfl ?_ | refine runL_g rfl rfl (qt_callF rfl (fun _ => ref06May_ok _ _ m.digest (by omega))) rfl rfl rfl rfl rfl ?_)
    refine run_cond rfl (fun h => ?_) (fun h => ?_)
    · have hno : ¬ GvP m := fun e => by have h1 := (gvB_iff h).2 e; cases h1
      have hrf : r = false := by
        cases r with
        | false => rfl
        | true => exact absurd ((hr2.1 rfl).1 m (List.mem_of_getElem? hm)) hno
      subst hrf
      repeat (first | with_reducible (first | refine cS ?_ | refine cR ?_ | refine cN ?_ | refine cK ?_ | refine cB ?_ | refine cI ?_) | refine cE rfl ?_ | refine rq (qt_pev tok rfl) ?_ | refine rg rfl rfl (qt_pev tok rfl) ?_ | refine rq (ql tok rfl) ?_ | refine rg rfl rfl (ql tok rfl) ?_ | (refine runL_op0 (sst tok rfl rfl rfl rfl rfl) ?_; rintro _ _ _ ⟨rfl, rfl, rfl⟩) | ((first | refine ro (st_box rfl) ?_ | refine ro (st_alloc tok rfl) ?_ | refine ro (st_buildSlice tok rfl rfl rfl rfl rfl rfl rfl) ?_); rintro _ _ _ ⟨_, rfl, rfl, rfl⟩))
      exact run_ret hC (rs := [.tmp 2]) rfl (resT rfl resN) (fun _ h => h.drop.drop) ⟨rfl, rfl, rfl⟩
    · have hgp : GvP m := (gvB_iff h).1 rfl
      repeat (first | with_reducible (first | refine cS ?_ | refine cR ?_ | refine cN ?_ | refine cK ?_ | refine cB ?_ | refine cI ?_) | refine cE rfl ?_ | refine rq (qt_pev tok rfl) ?_ | refine rg rfl rfl (qt_pev tok rfl) ?_ | refine rq (ql tok rfl) ?_ | refine rg rfl rfl (ql tok rfl) ?_ | (refine runL_op0 (sst tok rfl rfl rfl rfl rfl) ?_; rintro _ _ _ ⟨rfl, rfl, rfl⟩) | ((first | refine ro (st_box rfl) ?_ | refine ro (st_alloc tok rfl) ?_ | refine ro (st_buildSlice tok rfl rfl rfl rfl rfl rfl rfl) ?_); rintro _ _ _ ⟨_, rfl, rfl, rfl⟩))
      refine run_sub' (hnext _ _ _ ⟨hlt, rfl, ?_, rfl, rfl⟩) ⟨lk_succ rfl (by omega), rfl, trivial⟩
      intro y hy
      rw [take_snoc hm] at hy
      rcases List.mem_append.1 hy with hy | hy
      · exact hall y hy
      · rw [List.mem_singleton.1 hy]; exact hgp
  have hge : j = x.gives.len := by simp at h; omega
  rw [hge, List.take_of_length_le (by omega)] at hall
  have hr3 : r = true ↔ ∀ m ∈ x.steps.xs, SpP m.sp := by
    rw [hr2]
    exact ⟨fun q => q.2, fun q => ⟨hall, q⟩⟩
  clear hnext h hr2
  repeat (first | with_reducible (first | refine cS ?_ | refine cR ?_ | refine cN ?_ | refine cK ?_ | refine cB ?_ | refine cI ?_) | refine cE rfl ?_ | refine rq (qt_pev tok rfl) ?_ | refine rg rfl rfl (qt_pev tok rfl) ?_ | refine rq (ql tok rfl) ?_ | refine rg rfl rfl (ql tok rfl) ?_ | (refine runL_op0 (sst tok rfl rfl rfl rfl rfl) ?_; rintro _ _ _ ⟨rfl, rfl, rfl⟩) | ((first | refine ro (st_box rfl) ?_ | refine ro (st_alloc tok rfl) ?_ | refine ro (st_buildSlice tok rfl rfl rfl rfl rfl rfl rfl) ?_); rintro _ _ _ ⟨_, rfl, rfl, rfl⟩))
  refine run_loopN (fun j σ1 M1 L1 => j ≤ x.steps.len ∧ M = M1 ∧ (∀ m ∈ x.steps.xs.take j, SpP m.sp) ∧ L1 = (bn, Obj.cells ⟨[.bool o, .bool au, .bool n, .bool g, .bool t, .bool y, .bool s]⟩ 59 (0, 0)) :: (bx, Obj.cells ⟨axC x⟩ 37 (0, 0)) :: L ∧ σ1 = [(6, .int .i64 (j : Int)), (1, .pointer (some ⟨bx, 0, none⟩))]) x.steps.len [(6, .int .i64 ((0 : Nat) : Int)), (1, .pointer (some ⟨bx, 0, none⟩))] ?_ ⟨Nat.zero_le _, rfl, by simp, rfl, rfl⟩ (fun j _ _ _ h => h.1) ?_
  · exact ⟨rfl, rfl, trivial⟩
  rintro i _ _ _ ⟨hi, rfl, halls, rfl, rfl⟩ hnext
  repeat (first | with_reducible (first | refine cS ?_ | refine cR ?_ | refine cN ?_ | refine cK ?_ | refine cB ?_ | refine cI ?_) | refine cE rfl ?_ | refine rq (qt_pev tok rfl) ?_ | refine rg rfl rfl (qt_pev tok rfl) ?_ | refine rq (ql tok rfl) ?_ | refine rg rfl rfl (ql tok rfl) ?_ | (refine runL_op0 (sst tok rfl rfl rfl rfl rfl) ?_; rintro _ _ _ ⟨rfl, rfl, rfl⟩) | ((first | refine ro (st_box rfl) ?_ | refine ro (st_alloc tok rfl) ?_ | refine ro (st_buildSlice tok rfl rfl rfl rfl rfl rfl rfl) ?_); rintro _ _ _ ⟨_, rfl, rfl, rfl⟩))
  refine run_cond rfl (fun h => ?_) (fun h => ?_)
  · have hlt : i < x.steps.len := by simpa using h
    obtain ⟨b, off, m, hma, hm, hc⟩ := SSr.at_ hx.steps.sl hlt
    have hv : x.steps.v = .slice (some ⟨b, off, none⟩) x.steps.len x.steps.cap := by rw [← hma]; rfl
    have hmo := hx.steps.each m (List.mem_of_getElem? hm)
    repeat (first | with_reducible (first | refine cS ?_ | refine cR ?_ | refine cN ?_ | refine cK ?_ | refine cB ?_ | refine cI ?_) | refine cE rfl ?_ | refine rq (qt_pev tok rfl) ?_ | refine rg rfl rfl (qt_pev tok rfl) ?_ | refine rq (ql tok rfl) ?_ | refine rg rfl rfl (ql tok rfl) ?_ | (refine runL_op0 (sst tok rfl rfl rfl rfl rfl) ?_; rintro _ _ _ ⟨rfl, rfl, rfl⟩) | ((first | refine ro (st_box rfl) ?_ | refine ro (st_alloc tok rfl) ?_ | refine ro (st_buildSlice tok rfl rfl rfl rfl rfl rfl rfl) ?_); rintro _ _ _ ⟨_, rfl, rfl, rfl⟩))
    refine runL_as 158 (.slice (some ⟨b, off, none⟩) x.steps.len x.steps.cap) rfl hv ?_
    obtain ⟨rm, hrm⟩ : ∃ rm : Bool, rm = true ↔ SpP m.sp := by
      by_cases hq : SpP m.sp
      · exact ⟨true, by simp [hq]⟩
      · exact ⟨false, by simp [hq]⟩
    repeat (first | with_reducible (first | refine cS ?_ | refine cR ?_ | refine cN ?_ | refine cK ?_ | refine cB ?_ | refine cI ?_) | refine cE rfl ?_ | refine rq (qt_pev tok rfl) ?_ | refine rg rfl rfl (qt_pev tok rfl) ?_ | refine rq (ql tok rfl) ?_ | refine rg rfl rfl (ql tok rfl) ?_ | (refine runL_op0 (sst tok rfl rfl rfl rfl rfl) ?_; rintro _ _ _ ⟨rfl, rfl, rfl⟩) | ((first | refine ro (st_box rfl) ?_ | refine ro (st_alloc tok rfl) ?_ | refine ro (st_buildSlice tok rfl rfl rfl rfl rfl rfl rfl) ?_); rintro _ _ _ ⟨_, rfl, rfl, rfl⟩) | refine runL_q (qt_indexN tok rfl rfl rfl rfl (fun _ => by omega)) rfl rfl rfl ?_ | refine runL_g rfl rfl (qt_indexN tok rfl rfl rfl rfl (fun _ => by omega)) rfl rfl rfl rfl rfl ?_ | refine runL_q (qt_ldM tok rfl hc rfl) rfl rfl rfl ?_ | refine runL_g rfl rfl (qt_ldM tok rfl hc rfl) rfl rfl rfl rfl rfl ?_ | refine runL_q (qt_ldM0 tok rfl hc rfl) rfl rfl rfl ?_ | refine runL_g rfl rfl (qt_ldM0 tok rfl hc rfl) rfl rfl rfl rfl rfl ?_ | refine runL_q (qt_callF rfl (fun _ => refMayStep_ok _ _ m hmo rm hrm)) rfl rfl rfl ?_)
    refine run_cond rfl (fun h => ?_) (fun h => ?_)
    · have hno : ¬ SpP m.sp := fun e => by have h1 := hrm.2 e; rw [h1] at h; cases h
      have hrf : r = false := by
        cases r with
        | false => rfl
        | true => exact absurd (hr3.1 rfl m (List.mem_of_getElem? hm)) hno
      subst hrf
      repeat (first | with_reducible (first | refine cS ?_ | refine cR ?_ | refine cN ?_ | refine cK ?_ | refine cB ?_ | refine cI ?_) | refine cE rfl ?_ | refine rq (qt_pev tok rfl) ?_ | refine rg rfl rfl (qt_pev tok rfl) ?_ | refine rq (ql tok rfl) ?_ | refine rg rfl rfl (ql tok rfl) ?_ | (refine runL_op0 (sst tok rfl rfl rfl rfl rfl) ?_; rintro _ _ _ ⟨rfl, rfl, rfl⟩) | ((first | refine ro (st_box rfl) ?_ | refine ro (st_alloc tok rfl) ?_ | refine ro (st_buildSlice tok rfl rfl rfl rfl rfl rfl rfl) ?_); rintro _ _ _ ⟨_, rfl, rfl, rfl⟩))
      exact run_ret hC (rs := [.tmp 2]) rfl (resT rfl resN) (fun _ h => h.drop.drop) ⟨rfl, rfl, rfl⟩
    · have hgp : SpP m.sp := hrm.1 (by simpa using h)
      repeat (first | with_reducible (first | refine cS ?_ | refine cR ?_ | refine cN ?_ | refine cK ?_ | refine cB ?_ | refine cI ?_) | refine cE rfl ?_ | refine rq (qt_pev tok rfl) ?_ | refine rg rfl rfl (qt_pev tok rfl) ?_ | refine rq (ql tok rfl) ?_ | refine rg rfl rfl (ql tok rfl) ?_ | (refine runL_op0 (sst tok rfl rfl rfl rfl rfl) ?_; rintro _ _ _ ⟨rfl, rfl, rfl⟩) | ((first | refine ro (st_box rfl) ?_ | refine ro (st_alloc tok rfl) ?_ | refine ro (st_buildSlice tok rfl rfl rfl rfl rfl rfl rfl) ?_); rintro _ _ _ ⟨_, rfl, rfl, rfl⟩))
      refine run_sub' (hnext _ _ _ ⟨hlt, rfl, ?_, rfl, rfl⟩) ⟨lk_succ rfl (by omega), rfl, trivial⟩
      intro y hy
      rw [take_snoc hm] at hy
      rcases List.mem_append.1 hy with hy | hy
      · exact halls y hy
      · rw [List.mem_singleton.1 hy]; exact hgp
  have hge2 : i = x.steps.len := by simp at h; omega
  rw [hge2, List.take_of_length_le (by omega)] at halls
  have hrt : r = true := hr3.2 halls
  subst hrt
  repeat (first | with_reducible (first | refine cS ?_ | refine cR ?_ | refine cN ?_ | refine cK ?_ | refine cB ?_ | refine cI ?_) | refine cE rfl ?_ | refine rq (qt_pev tok rfl) ?_ | refine rg rfl rfl (qt_pev tok rfl) ?_ | refine rq (ql tok rfl) ?_ | refine rg rfl rfl (ql tok rfl) ?_ | (refine runL_op0 (sst tok rfl rfl rfl rfl rfl) ?_; rintro _ _ _ ⟨rfl, rfl, rfl⟩) | ((first | refine ro (st_box rfl) ?_ | refine ro (st_alloc tok rfl) ?_ | refine ro (st_buildSlice tok rfl rfl rfl rfl rfl rfl rfl) ?_); rintro _ _ _ ⟨_, rfl, rfl, rfl⟩))
  exact run_ret hC (rs := [.tmp 2]) rfl (resT rfl resN) (fun _ h => h.drop.drop) ⟨rfl, rfl, rfl⟩
end Go.Proofs.Ytbpgiodfccijmaa
namespace Go.Proofs.Ytbpgiodfccijmaa
open Go.Chi

/-! ### the document's taker as a function: it goes on after a failure, with its flag fallen -/
def bK {α β : Type} (p : Tk → α × Tk) (q : α → Tk → β × Tk) : Tk → β × Tk := fun c => q (p c).1 (p c).2
def puK {α : Type} (a : α) : Tk → α × Tk := fun c => (a, c)
def guK {α : Type} (z : α) (p : Tk → α × Tk) : Tk → α × Tk := fun c => if c.2 = true then p c else (z, c)
def opK {α : Type} (b : Bool) (z : α) (p : Tk → α × Tk) : Tk → α × Tk := if b = true then p else puK z
structure Good {α : Type} (p : Tk → α × Tk) (g : ByteArray → Option (α × ByteArray)) : Prop where
  some_ : ∀ {s x r}, g s = some (x, r) → p (s, true) = (x, (r, true))
  none_ : ∀ {s}, g s = none → (p (s, true)).2.2 = false
  bad : ∀ s, (p (s, false)).2.2 = false
theorem Good.bind {α β : Type} {p : Tk → α × Tk} {g : ByteArray → Option (α × ByteArray)} {q : α → Tk → β × Tk} {k : α → ByteArray → Option (β × ByteArray)} (h : Good p g) (h' : ∀ a, Good (q a) (k a)) : Good (bK p q) (fun s => (g s).bind fun x => k x.1 x.2) := by
  refine ⟨?_, ?_, ?_⟩
  · intro s x r hs
    obtain ⟨⟨a, s1⟩, h1, h2⟩ := Option.bind_eq_some_iff.1 hs
    show q (p (s, true)).1 (p (s, true)).2 = _
    rw [h.some_ h1]
    exact (h' a).some_ h2
  · intro s hs
    show (q (p (s, true)).1 (p (s, true)).2).2.2 = false
    cases hg : g s with
    | none =>
      have h1 := h.none_ hg
      generalize p (s, true) = z at h1 ⊢
      obtain ⟨a, s1, b⟩ := z
      simp only at h1
      subst h1
      exact (h' a).bad s1
    | some x =>
      obtain ⟨a, s1⟩ := x
      rw [hg] at hs
      rw [h.some_ hg]
      exact (h' a).none_ hs
  · intro s
    show (q (p (s, false)).1 (p (s, false)).2).2.2 = false
    have h1 := h.bad s
    generalize p (s, false) = z at h1 ⊢
    obtain ⟨a, s1, b⟩ := z
    simp only at h1
    subst h1
    exact (h' a).bad s1
theorem Good.pure {α : Type} (a : α) : Good (puK a) (fun s => some (a, s)) := ⟨fun h => (by cases h; rfl), fun h => (by cases h), fun _ => rfl⟩
theorem Good.guard {α : Type} {p : Tk → α × Tk} {g : ByteArray → Option (α × ByteArray)} (z : α) (h : Good p g) : Good (guK z p) g :=
  ⟨fun hs => by rw [guK, if_pos rfl]; exact h.some_ hs, fun hs => by rw [guK, if_pos rfl]; exact h.none_ hs, fun s => by rw [guK, if_neg (by simp)]⟩
theorem Good.fail {α : Type} (z : α) : Good (fun c : Tk => (z, (c.1, false))) (fun _ => none) := ⟨fun h => (by cases h), fun _ => rfl, fun _ => rfl⟩
theorem goodN : Good kN gN := by
  refine ⟨fun {s x r} h => ?_, fun {s} h => ?_, fun s => ?_⟩
  · have h' : pN 2147483647 s = some (x, r) := h
    rw [kN_pN, h']
  · have h' : pN 2147483647 s = none := h
    rw [kN_pN, h']
  · rw [kN_bad]
theorem goodT (most : Nat) : Good (kT most) (pTm most) := by
  refine ⟨fun {s x r} h => ?_, fun {s} h => ?_, fun s => ?_⟩
  · rw [kT_pT, h]
  · rw [kT_pT, h]
  · rw [kT_bad]
def kNs : Nat → Tk → List Int × Tk
  | 0 => puK []
  | n + 1 => guK [] (bK kN fun x => bK (kNs n) fun l => puK (x :: l))
def sp0 : Sp := ⟨0, 0, 0, 0, 0, ⟨#[]⟩, []⟩
def kSpT (d : Int) : Tk → Sp × Tk := bK kN fun a => bK kN fun b => bK kN fun c => bK kN fun n => bK (kT 1024) fun t => bK kN fun k => bK (kNs k.toNat) fun l => puK ⟨d, a, b, c, n, t, l⟩
def kSp : Tk → Sp × Tk := bK kN fun d => if 255 < d then fun c => (sp0, (c.1, false)) else kSpT d
def kSps : Nat → Tk → List Sp × Tk
  | 0 => puK []
  | n + 1 => guK [] (bK kSp fun x => bK (kSps n) fun l => puK (x :: l))
def kGs : Nat → Tk → List Mb × Tk
  | 0 => puK []
  | n + 1 => guK [] (bK kN fun o => bK (kT 16384) fun t => bK (kGs n) fun l => puK (⟨o, t⟩ :: l))
def kTx : Tk → Tx × Tk := bK kN fun a => bK kN fun b => bK kN fun c => puK ⟨a, b, c⟩
def kY : Tk → Bool × Tk := bK kN fun x c => (x == 1, (c.1, c.2 && decide (x < 2)))
def kGives : Tk → List Mb × Tk := bK kN fun n => kGs n.toNat
def kSteps : Tk → List Sp × Tk := bK kN fun n => kSps n.toNat
def kAct (o au n g t y s : Bool) (k : Int) : Tk → Aa × Tk :=
  bK (opK o 0 kN) fun vo => bK (opK au 0 kN) fun va => bK (opK n 0 kN) fun vn => bK (opK g [] kGives) fun vg => bK (opK t tz kTx) fun vt => bK (opK y false kY) fun vy => bK (opK s [] kSteps) fun vs => puK ⟨k, vo, va, vn, vg, vt, vy, vs⟩
theorem goodNs : ∀ n, Good (kNs n) (pNs n)
  | 0 => Good.pure []
  | n + 1 => Good.guard [] (Good.bind goodN fun x => Good.bind (goodNs n) fun l => Good.pure (x :: l))
set_option maxHeartbeats 4000000 in
theorem goodSp : Good kSp gSp := by
  refine Good.bind (k := fun d s => if 255 < d then none else (gN s).bind fun a => (gN a.2).bind fun b => (gN b.2).bind fun c => (gN c.2).bind fun n => (pTm 1024 n.2).bind fun t => (gN t.2).bind fun k => (pNs k.1.toNat k.2).bind fun l => some ((⟨d, a.1, b.1, c.1, n.1, t.1, l.1⟩ : Sp), l.2)) goodN fun d => ?_
  by_cases hd : 255 < d
  · rw [if_pos hd]
    have : (fun s => if 255 < d then none else (gN s).bind fun a => (gN a.2).bind fun b => (gN b.2).bind fun c => (gN c.2).bind fun n => (pTm 1024 n.2).bind fun t => (gN t.2).bind fun k => (pNs k.1.toNat k.2).bind fun l => some ((⟨d, a.1, b.1, c.1, n.1, t.1, l.1⟩ : Sp), l.2)) = fun _ => none := by funext s; rw [if_pos hd]
    rw [this]
    exact Good.fail _
  · rw [if_neg hd]
    have : (fun s => if 255 < d then none else (gN s).bind fun a => (gN a.2).bind fun b => (gN b.2).bind fun c => (gN c.2).bind fun n => (pTm 1024 n.2).bind fun t => (gN t.2).bind fun k => (pNs k.1.toNat k.2).bind fun l => some ((⟨d, a.1, b.1, c.1, n.1, t.1, l.1⟩ : Sp), l.2)) = fun s => (gN s).bind fun a => (gN a.2).bind fun b => (gN b.2).bind fun c => (gN c.2).bind fun n => (pTm 1024 n.2).bind fun t => (gN t.2).bind fun k => (pNs k.1.toNat k.2).bind fun l => some ((⟨d, a.1, b.1, c.1, n.1, t.1, l.1⟩ : Sp), l.2) := by funext s; rw [if_neg hd]
    rw [this]
    exact Good.bind goodN fun a => Good.bind goodN fun b => Good.bind goodN fun c => Good.bind goodN fun n => Good.bind (goodT 1024) fun t => Good.bind goodN fun k => Good.bind (goodNs k.toNat) fun l => Good.pure (⟨d, a, b, c, n, t, l⟩ : Sp)
theorem goodSps : ∀ n, Good (kSps n) (gSps n)
  | 0 => Good.pure []
  | n + 1 => Good.guard [] (Good.bind goodSp fun x => Good.bind (goodSps n) fun l => Good.pure (x :: l))
theorem goodGs : ∀ n, Good (kGs n) (gGs n)
  | 0 => Good.pure []
  | n + 1 => Good.guard [] (Good.bind goodN fun x => Good.bind (goodT 16384) fun t => Good.bind (goodGs n) fun l => Good.pure (⟨x, t⟩ :: l))
theorem goodTx : Good kTx gTx := Good.bind goodN fun a => Good.bind goodN fun b => Good.bind goodN fun c => Good.pure (⟨a, b, c⟩ : Tx)
theorem goodY : Good kY gY := by
  refine Good.bind (k := fun x s => if x < 2 then some (x == 1, s) else none) goodN fun x => ?_
  by_cases hx : x < 2
  · refine ⟨fun {s y r} h => ?_, fun {s} h => ?_, fun s => rfl⟩
    · rw [if_pos hx] at h; cases h; simp [hx]
    · rw [if_pos hx] at h; cases h
  · refine ⟨fun {s y r} h => ?_, fun {s} h => ?_, fun s => rfl⟩
    · rw [if_neg hx] at h; cases h
    · simp [hx]
theorem goodGives : Good kGives gGives := Good.bind goodN fun n => goodGs n.toNat
theorem goodSteps : Good kSteps gSteps := Good.bind goodN fun n => goodSps n.toNat
theorem mapB_inj : ∀ {l l' : List Bool}, l.map Value.bool = l'.map Value.bool → l = l'
  | [], [], _ => rfl
  | [], _ :: _, h => by cases h
  | _ :: _, [], h => by cases h
  | a :: l, b :: l', h => by
    rw [List.map_cons, List.map_cons] at h
    injection h with h1 h2
    injection h1 with h1
    rw [h1, mapB_inj h2]
set_option maxHeartbeats 4000000 in
theorem goodAct {k : Int} (hk : 1 ≤ k ∧ k ≤ 10) {o au n g t y s : Bool} (h : ofC k = [.bool o, .bool au, .bool n, .bool g, .bool t, .bool y, .bool s]) : Good (kAct o au n g t y s k) (gAct k) := by
  have hk10 : k = 1 ∨ k = 2 ∨ k = 3 ∨ k = 4 ∨ k = 5 ∨ k = 6 ∨ k = 7 ∨ k = 8 ∨ k = 9 ∨ k = 10 := by omega
  have key : ∀ l : List Bool, ofL k = l → [o, au, n, g, t, y, s] = l := by
    intro l hl
    have h1 : (ofL k).map Value.bool = [o, au, n, g, t, y, s].map Value.bool := h
    rw [← mapB_inj h1, hl]
  rcases hk10 with rfl | rfl | rfl | rfl | rfl | rfl | rfl | rfl | rfl | rfl
  · cases key _ rfl
    exact Good.bind goodN fun o => Good.bind goodN fun au => Good.bind goodGives fun g => Good.pure (⟨1, o, au, 0, g, tz, false, []⟩ : Aa)
  · cases key _ rfl
    exact Good.bind goodN fun o => Good.bind goodTx fun t => Good.bind goodY fun y => Good.pure (⟨2, o, 0, 0, [], t, y, []⟩ : Aa)
  · cases key _ rfl
    exact Good.bind goodN fun o => Good.pure (⟨3, o, 0, 0, [], tz, false, []⟩ : Aa)
  · cases key _ rfl
    exact Good.bind goodN fun n => Good.pure (⟨4, 0, 0, n, [], tz, false, []⟩ : Aa)
  · cases key _ rfl
    exact Good.bind goodN fun o => Good.bind goodSteps fun l => Good.pure (⟨5, o, 0, 0, [], tz, false, l⟩ : Aa)
  · cases key _ rfl
    exact Good.bind goodN fun o => Good.bind goodN fun n => Good.pure (⟨6, o, 0, n, [], tz, false, []⟩ : Aa)
  · cases key _ rfl
    exact Good.bind goodN fun o => Good.bind goodN fun n => Good.pure (⟨7, o, 0, n, [], tz, false, []⟩ : Aa)
  · cases key _ rfl
    exact Good.bind goodN fun o => Good.pure (⟨8, o, 0, 0, [], tz, false, []⟩ : Aa)
  · cases key _ rfl
    exact Good.bind goodN fun o => Good.bind goodTx fun t => Good.pure (⟨9, o, 0, 0, [], t, false, []⟩ : Aa)
  · cases key _ rfl
    exact Good.bind goodN fun o => Good.bind goodSteps fun l => Good.pure (⟨10, o, 0, 0, [], tz, false, l⟩ : Aa)

/-! ### what it takes is never longer than what there was -/
def Shr {α : Type} (p : Tk → α × Tk) : Prop := ∀ c, (p c).2.1.size ≤ c.1.size
theorem Shr.bind {α β : Type} {p : Tk → α × Tk} {q : α → Tk → β × Tk} (h : Shr p) (h' : ∀ a, Shr (q a)) : Shr (bK p q) := fun c => Nat.le_trans (h' _ _) (h c)
theorem Shr.pure {α : Type} (a : α) : Shr (puK a) := fun _ => Nat.le_refl _
theorem Shr.guard {α : Type} {p : Tk → α × Tk} (z : α) (h : Shr p) : Shr (guK z p) := fun c => by
  unfold guK
  split
  · exact h c
  · exact Nat.le_refl _
theorem Shr.op {α : Type} {p : Tk → α × Tk} (b : Bool) (z : α) (h : Shr p) : Shr (opK b z p) := by
  unfold opK
  split
  · exact h
  · exact Shr.pure z
theorem shrN : Shr kN := kN_size
theorem shrT (most : Nat) : Shr (kT most) := kT_size most
theorem shrNs : ∀ n, Shr (kNs n)
  | 0 => Shr.pure []
  | n + 1 => Shr.guard [] (Shr.bind shrN fun _ => Shr.bind (shrNs n) fun _ => Shr.pure _)
theorem shrSpT (d : Int) : Shr (kSpT d) := Shr.bind shrN fun _ => Shr.bind shrN fun _ => Shr.bind shrN fun _ => Shr.bind shrN fun _ => Shr.bind (shrT _) fun _ => Shr.bind shrN fun _ => Shr.bind (shrNs _) fun _ => Shr.pure _
theorem shrSp' (d : Int) : Shr (if 255 < d then fun c => (sp0, (c.1, false)) else kSpT d) := by
  split
  · exact fun _ => Nat.le_refl _
  · exact shrSpT d
theorem shrSp : Shr kSp := Shr.bind shrN shrSp'
theorem shrSps : ∀ n, Shr (kSps n)
  | 0 => Shr.pure []
  | n + 1 => Shr.guard [] (Shr.bind shrSp fun _ => Shr.bind (shrSps n) fun _ => Shr.pure _)
theorem shrGs : ∀ n, Shr (kGs n)
  | 0 => Shr.pure []
  | n + 1 => Shr.guard [] (Shr.bind shrN fun _ => Shr.bind (shrT _) fun _ => Shr.bind (shrGs n) fun _ => Shr.pure _)
theorem shrTx : Shr kTx := Shr.bind shrN fun _ => Shr.bind shrN fun _ => Shr.bind shrN fun _ => Shr.pure _
theorem shrY : Shr kY := Shr.bind shrN fun _ => fun _ => Nat.le_refl _
theorem kN_eat {c : Tk} (h : (kN c).2.2 = true) : c.2 = true ∧ (kN c).2.1.size + 1 ≤ c.1.size := by
  unfold kN at h ⊢
  split
  · rename_i h1
    refine ⟨h1.1.1, ?_⟩
    obtain ⟨m, hm1, hm2, hm3⟩ := numR_len c.1 h1.1.2
    rw [hm1]
    show (c.1.extract _ _).size + 1 ≤ _
    simp
    omega
  · rename_i h1
    rw [if_neg h1] at h; cases h
theorem keep {α : Type} {p : Tk → α × Tk} (h : ∀ s, (p (s, false)).2.2 = false) {c : Tk} (hc : (p c).2.2 = true) : c.2 = true := by
  obtain ⟨s, b⟩ := c
  cases b
  · rw [h s] at hc; cases hc
  · rfl
theorem badSp' (d : Int) (s : ByteArray) : ((if 255 < d then fun c : Tk => (sp0, (c.1, false)) else kSpT d) (s, false)).2.2 = false := by
  split
  · rfl
  · exact (Good.bind goodN fun a => Good.bind goodN fun b => Good.bind goodN fun c => Good.bind goodN fun n => Good.bind (goodT 1024) fun t => Good.bind goodN fun k => Good.bind (goodNs k.toNat) fun l => Good.pure (⟨d, a, b, c, n, t, l⟩ : Sp)).bad s
theorem kSp_eat {c : Tk} (h : (kSp c).2.2 = true) : (kSp c).2.1.size + 1 ≤ c.1.size := by
  have h1 : (kN c).2.2 = true := keep (badSp' _) h
  have h2 := (kN_eat h1).2
  have h3 : (kSp c).2.1.size ≤ (kN c).2.1.size := shrSp' _ _
  omega
theorem kT_eat {most : Nat} {c : Tk} (h : (kT most c).2.2 = true) : c.2 = true := keep (goodT most).bad h
theorem kT_short (most : Nat) (c : Tk) : (kT most c).1.size ≤ most := by
  unfold kT
  split
  · rename_i h
    obtain ⟨t, h1, h2, _⟩ := text_back h.2
    show (textR c.1 most).1.size ≤ most
    rw [h2]; exact h1
  · exact Nat.zero_le _
theorem kN_bool {c : Tk} (h : c.2 = false) : (kN c).2.2 = false := by obtain ⟨s, b⟩ := c; simp only at h; subst h; rw [kN_bad]
theorem kNs_off {c : Tk} (h : ¬ c.2 = true) (n : Nat) : kNs n c = ([], c) := by
  cases n with
  | zero => rfl
  | succ n => rw [kNs, guK, if_neg h]
theorem kNs_on {c : Tk} (h : c.2 = true) (n : Nat) : kNs (n + 1) c = ((kN c).1 :: (kNs n (kN c).2).1, (kNs n (kN c).2).2) := by rw [kNs, guK, if_pos h]; rfl
theorem kSps_off {c : Tk} (h : ¬ c.2 = true) (n : Nat) : kSps n c = ([], c) := by
  cases n with
  | zero => rfl
  | succ n => rw [kSps, guK, if_neg h]
theorem kSps_on {c : Tk} (h : c.2 = true) (n : Nat) : kSps (n + 1) c = ((kSp c).1 :: (kSps n (kSp c).2).1, (kSps n (kSp c).2).2) := by rw [kSps, guK, if_pos h]; rfl
theorem kGs_off {c : Tk} (h : ¬ c.2 = true) (n : Nat) : kGs n c = ([], c) := by
  cases n with
  | zero => rfl
  | succ n => rw [kGs, guK, if_neg h]
theorem kGs_on {c : Tk} (h : c.2 = true) (n : Nat) : kGs (n + 1) c = (⟨(kN c).1, (kT 16384 (kN c).2).1⟩ :: (kGs n (kT 16384 (kN c).2).2).1, (kGs n (kT 16384 (kN c).2).2).2) := by rw [kGs, guK, if_pos h]; rfl
end Go.Proofs.Ytbpgiodfccijmaa
namespace Go.Proofs.Ytbpgiodfccijmaa
open Go.Chi

/-! ### the document's bytes of an act -/
def opB (b : Bool) (x : ByteArray) : ByteArray := if b = true then x else bz
theorem opB_t (x : ByteArray) : opB true x = x := rfl
theorem opB_f' (x : ByteArray) : opB false x = bz := rfl
theorem opB_f (s x : ByteArray) : s ++ opB false x = s := by rw [opB_f', app_bz']
theorem opB_sz (b : Bool) (x : ByteArray) : (opB b x).size ≤ x.size := by
  unfold opB
  split
  · exact Nat.le_refl _
  · exact Nat.zero_le _
theorem yB_t : yB true = ⟨#[1]⟩ := by rw [yB, if_pos rfl, nB, numB, if_pos (by decide)]; rfl
theorem yB_f : yB false = ⟨#[0]⟩ := by rw [yB, if_neg (by decide), nB, numB, if_pos (by decide)]; rfl
theorem dnumsL (M : Mem) (L : HL) (b et n : Nat) (cs : List Value) (ns : List Int) (hcs : cs = (ns.map inC).flatten) (hn : ns.length = n) (hlt : n < 1000000) (hm : (b, Obj.cells ⟨cs⟩ et (0, 0)) ∈ L) (hall : ∀ v ∈ ns, nmW v = true) : TrQ Try.prog 36 [.slice (some ⟨b, 0, none⟩) n n] M L (.string (nsB ns)) :=
  TrQ.lend (fun w => Try.call36 _ w) fun M' _ hb => by
    have hsl := SlM.ofBlk (M := M') (b := b) (size := 1) (ls := ns.map inC) (hb b _ hm) hcs (by simp [inC])
    rw [List.length_map, hn] at hsl
    exact dnums_ok M' [] ⟨some ⟨b, 0, none⟩, n, n, ns⟩ ⟨hsl, hlt⟩ hall
theorem dnum1 (M : Mem) (L : HL) (b et : Nat) (v : Int) (hv : nmW v = true) (hm : (b, Obj.cells ⟨[.int .i64 v]⟩ et (0, 0)) ∈ L) : TrQ Try.prog 36 [.slice (some ⟨b, 0, none⟩) 1 1] M L (.string (nB v)) := by
  have := dnumsL M L b et 1 _ [v] rfl rfl (by decide) hm (by simpa using hv)
  rwa [show nsB [v] = nB v from app_bz' _] at this
theorem dnum3 (M : Mem) (L : HL) (b et : Nat) (t : Tx) (h1 : nmW t.coord = true) (h2 : nmW t.epoch = true) (h3 : nmW t.seq = true) (hm : (b, Obj.cells ⟨[.int .i64 t.coord, .int .i64 t.epoch, .int .i64 t.seq]⟩ et (0, 0)) ∈ L) : TrQ Try.prog 36 [.slice (some ⟨b, 0, none⟩) 3 3] M L (.string (txB t)) := by
  have := dnumsL M L b et 3 _ [t.coord, t.epoch, t.seq] rfl rfl (by decide) hm (by simp [h1, h2, h3])
  rwa [show nsB [t.coord, t.epoch, t.seq] = txB t by show nB _ ++ (nB _ ++ (nB _ ++ bz)) = _; rw [app_bz']; rfl] at this
theorem dnum5 (M : Mem) (L : HL) (b et : Nat) (d' d x1 x2 x3 x4 : Int) (hd : d' = d) (h0 : nmW d = true) (h1 : nmW x1 = true) (h2 : nmW x2 = true) (h3 : nmW x3 = true) (h4 : nmW x4 = true) (hm : (b, Obj.cells ⟨[.int .i64 d', .int .i64 x1, .int .i64 x2, .int .i64 x3, .int .i64 x4]⟩ et (0, 0)) ∈ L) : TrQ Try.prog 36 [.slice (some ⟨b, 0, none⟩) 5 5] M L (.string (nB d ++ (nB x1 ++ (nB x2 ++ (nB x3 ++ nB x4))))) := by
  subst hd
  have := dnumsL M L b et 5 _ [d', x1, x2, x3, x4] rfl rfl (by decide) hm (by simp [h0, h1, h2, h3, h4])
  rwa [show nsB [d', x1, x2, x3, x4] = nB d' ++ (nB x1 ++ (nB x2 ++ (nB x3 ++ nB x4))) by show nB _ ++ (nB _ ++ (nB _ ++ (nB _ ++ (nB _ ++ bz)))) = _; rw [app_bz']] at this
theorem yes_two (s : ByteArray) (y v : Bool) : s ++ opB (y && v) ⟨#[1]⟩ ++ opB (y && !v) ⟨#[0]⟩ = s ++ opB y (yB v) := by
  cases y <;> cases v <;> simp only [Bool.and_true, Bool.and_false, Bool.not_true, Bool.not_false, opB_f', opB_t, app_bz', yB_t, yB_f]
theorem w64_nm {v : Int} (h : nmW v = true) : IntKind.i64.wrap v = v := by
  have := nm_r h
  rw [show v = ((v.toNat : Nat) : Int) by omega, wrap64_nat (by omega)]
theorem nm_org {v : Int} (h : orgW v = true) : nmW v = true := by have := org_r h; simp [nmW]; omega
theorem nm_len {n : Nat} (h : n ≤ 1000000) : nmW (n : Int) = true := by simp [nmW]; omega
theorem oneR {a : Aa} (h : AcP a) {o au n g t y s : Bool} (hof : ofC a.do_ = [.bool o, .bool au, .bool n, .bool g, .bool t, .bool y, .bool s]) :
    bytesI [a.do_] ++ opB o (nB a.org) ++ opB au (nB a.auditor) ++ opB n (nB a.n) ++ opB g (msB a.gives) ++ opB t (txB a.txn) ++ opB y (yB a.yes) ++ opB s (stepsB a.steps) = actB a := by
  have key : ∀ l : List Bool, ofL a.do_ = l → [o, au, n, g, t, y, s] = l := by
    intro l hl
    have h1 : (ofL a.do_).map Value.bool = [o, au, n, g, t, y, s].map Value.bool := hof
    rw [← mapB_inj h1, hl]
  cases h <;> (cases key _ rfl; simp only [opB_t, opB_f', app_bz', actB, actBody]; simp [app_assoc])
set_option maxRecDepth 10000 in
set_option maxHeartbeats 64000000 in
theorem dOne_ok (M : Mem) (L : HL) (x : Ax) (hx : AxOk M x) (hp : AcP x.aa) : TrQ Try.prog 20 [.agg ⟨axC x⟩] M L (.string (actB x.aa)) := by
  have l1 := hx.gives.len
  have l3 := hx.steps.len
  have n1 := hx.gives.2
  have n3 := hx.steps.lt
  have hsh : ShortA x.aa := shortA hp (fun m hm => by have := hx.pay m hm; omega)
  obtain ⟨g1, g2⟩ := gives_lim hp hsh
  obtain ⟨s1, s2⟩ := steps_lim hp
  obtain ⟨o1, o2, o3⟩ := org_lim hp
  have o1' : orgW x.org = true := o1
  have o2' : orgW x.auditor = true := o2
  have o3' : nmW x.n = true := o3
  have zo := nB_size (n := x.org) (by have := org_r o1'; omega)
  have zau := nB_size (n := x.auditor) (by have := org_r o2'; omega)
  have zn := nB_size (n := x.n) (by have := nm_r o3'; omega)
  have g2' : x.gives.len ≤ 6 := by have : x.gives.xs.length ≤ 6 := g2; omega
  have s2' : x.steps.len ≤ 64 := by have : (x.steps.xs.map Sr.sp).length ≤ 64 := s2; rw [List.length_map] at this; omega
  obtain ⟨o, au, n, g, t, y, s, hof, f1, f2, f3, f4, f5, f6, f7⟩ := of_ex x.do_
  have hOf : ∀ L', TrQ Try.prog 27 [.int .u8 x.do_] M L' (.tuple ⟨[.agg ⟨[.bool o, .bool au, .bool n, .bool g, .bool t, .bool y, .bool s]⟩, .bool (decide (1 ≤ x.do_ ∧ x.do_ ≤ 10))]⟩) := by
    intro L'
    have := refOf_ok M L' x.do_
    rwa [hof] at this
  have hkr := hp.do_
  have htx : t = true → nmW x.txn.coord = true ∧ nmW x.txn.epoch = true ∧ nmW x.txn.seq = true ∧ (txB x.txn).size ≤ 27 := by
    intro ht
    have hk := (f5 hkr).1 ht
    have hm : mayTx x.txn = true := by
      have := (acP_fine hx).1 hp
      exact this.txn hk
    obtain ⟨q1, q2, q3⟩ := mayTx_r hm
    exact ⟨by simp [nmW]; omega, by simp [nmW]; omega, by simp [nmW]; omega, txB_lim hm⟩
  have hR : bytesI [x.do_] ++ opB o (nB x.org) ++ opB au (nB x.auditor) ++ opB n (nB x.n) ++ opB g (msB x.gives.xs) ++ opB t (txB x.txn) ++ opB y (yB x.yes) ++ opB s (stepsB x.aa.steps) = actB x.aa := oneR hp hof
  clear f1 f2 f3 f4 f5 f6 f7
  refine Tr.intro 160 Try.func20 rfl rfl Try.call20 rfl ?_
  intro C hC hro
  rw [← hR] at hC
  clear hR
  repeat (first | with_reducible (first | refine cS ?_ | refine cR ?_ | refine cN ?_ | refine cK ?_ | refine cB ?_ | refine cI ?_) | refine cE rfl ?_ | refine rq (qt_pev tok rfl) ?_ | refine rg rfl rfl (qt_pev tok rfl) ?_ | refine rq (ql tok rfl) ?_ | refine rg rfl rfl (ql tok rfl) ?_ | (refine runL_op0 (sst tok rfl rfl rfl rfl rfl) ?_; rintro _ _ _ ⟨rfl, rfl, rfl⟩) | ((first | refine ro (st_box rfl) ?_ | refine ro (st_alloc tok rfl) ?_ | refine ro (st_buildSlice tok rfl rfl rfl rfl rfl rfl rfl) ?_); rintro _ _ _ ⟨_, rfl, rfl, rfl⟩) | refine runL_q (qt_callF rfl (fun _ => hOf _)) rfl rfl rfl ?_ | refine runL_q (qt_bytesStr tok [x.do_] rfl rfl rfl rfl (cellsAll List.mem_cons_self) rfl) rfl rfl rfl ?_)
  rename_i bx bn bk
  refine run_mem (fun _ h => h.drop) ?_
  have hz0 : (bytesI [x.do_]).size = 1 := bytesI_one _
  generalize hS0 : bytesI [x.do_] = S0 at hC hz0 ⊢
  repeat (first | with_reducible (first | refine cS ?_ | refine cR ?_ | refine cN ?_ | refine cK ?_ | refine cB ?_ | refine cI ?_) | refine cE rfl ?_ | refine rq (qt_pev tok rfl) ?_ | refine rg rfl rfl (qt_pev tok rfl) ?_ | refine rq (ql tok rfl) ?_ | refine rg rfl rfl (ql tok rfl) ?_ | (refine runL_op0 (sst tok rfl rfl rfl rfl rfl) ?_; rintro _ _ _ ⟨rfl, rfl, rfl⟩) | ((first | refine ro (st_box rfl) ?_ | refine ro (st_alloc tok rfl) ?_ | refine ro (st_buildSlice tok rfl rfl rfl rfl rfl rfl rfl) ?_); rintro _ _ _ ⟨_, rfl, rfl, rfl⟩))
  refine run_cut (fun σ' M' L' => σ' = [(5, .string (S0 ++ opB o (nB x.org))), (3, .pointer (some ⟨bn, 0, none⟩)), (1, .pointer (some ⟨bx, 0, none⟩))] ∧ M = M' ∧ L' = (bn, Obj.cells ⟨[.bool o, .bool au, .bool n, .bool g, .bool t, .bool y, .bool s]⟩ 59 (0, 0)) :: (bx, Obj.cells ⟨axC x⟩ 37 (0, 0)) :: L) ?_ ?_
  rotate_left
  · intro hnext
    refine run_cond rfl (fun h => ?_) (fun h => ?_)
    · refine run_region ?_
      repeat (first | refine rq (qt_pev tok rfl) ?_ | refine rg rfl rfl (qt_pev tok rfl) ?_ | refine rq (ql tok rfl) ?_ | refine rg rfl rfl (ql tok rfl) ?_ | (refine runL_op0 (sst tok rfl rfl rfl rfl rfl) ?_; rintro _ _ _ ⟨rfl, rfl, rfl⟩) | ((first | refine ro (st_box rfl) ?_ | refine ro (st_alloc tok rfl) ?_ | refine ro (st_buildSlice tok rfl rfl rfl rfl rfl rfl rfl) ?_); rintro _ _ _ ⟨_, rfl, rfl, rfl⟩) | refine runL_q (qt_callF rfl (fun _ => dnum1 _ _ _ _ x.org (nm_org o1') List.mem_cons_self)) rfl rfl rfl ?_ | refine runL_q (qt_concat rfl rfl (by omega)) rfl rfl rfl ?_)
      refine runL_nil ?_
      refine run_mem (fun _ h => h.drop) ?_
      exact run_sub' (hnext _ _ _ ⟨rfl, rfl, rfl⟩) ⟨by rw [h]; rfl, rfl, rfl, trivial⟩
    · refine run_skip ?_
      exact run_sub' (hnext _ _ _ ⟨rfl, rfl, rfl⟩) ⟨by rw [h, opB_f]; rfl, rfl, rfl, trivial⟩
  rintro _ _ _ ⟨rfl, rfl, rfl⟩
  have hz1 : (S0 ++ opB o (nB x.org)).size ≤ S0.size + 9 := by rw [app_size]; have := opB_sz o (nB x.org); omega
  generalize hS1 : S0 ++ opB o (nB x.org) = S1 at hC hz1 ⊢
  repeat (first | with_reducible (first | refine cS ?_ | refine cR ?_ | refine cN ?_ | refine cK ?_ | refine cB ?_ | refine cI ?_) | refine cE rfl ?_ | refine rq (qt_pev tok rfl) ?_ | refine rg rfl rfl (qt_pev tok rfl) ?_ | refine rq (ql tok rfl) ?_ | refine rg rfl rfl (ql tok rfl) ?_ | (refine runL_op0 (sst tok rfl rfl rfl rfl rfl) ?_; rintro _ _ _ ⟨rfl, rfl, rfl⟩) | ((first | refine ro (st_box rfl) ?_ | refine ro (st_alloc tok rfl) ?_ | refine ro (st_buildSlice tok rfl rfl rfl rfl rfl rfl rfl) ?_); rintro _ _ _ ⟨_, rfl, rfl, rfl⟩))
  refine run_cut (fun σ' M' L' => σ' = [(5, .string (S1 ++ opB au (nB x.auditor))), (3, .pointer (some ⟨bn, 0, none⟩)), (1, .pointer (some ⟨bx, 0, none⟩))] ∧ M = M' ∧ L' = (bn, Obj.cells ⟨[.bool o, .bool au, .bool n, .bool g, .bool t, .bool y, .bool s]⟩ 59 (0, 0)) :: (bx, Obj.cells ⟨axC x⟩ 37 (0, 0)) :: L) ?_ ?_
  rotate_left
  · intro hnext
    refine run_cond rfl (fun h => ?_) (fun h => ?_)
    · refine run_region ?_
      repeat (first | refine rq (qt_pev tok rfl) ?_ | refine rg rfl rfl (qt_pev tok rfl) ?_ | refine rq (ql tok rfl) ?_ | refine rg rfl rfl (ql tok rfl) ?_ | (refine runL_op0 (sst tok rfl rfl rfl rfl rfl) ?_; rintro _ _ _ ⟨rfl, rfl, rfl⟩) | ((first | refine ro (st_box rfl) ?_ | refine ro (st_alloc tok rfl) ?_ | refine ro (st_buildSlice tok rfl rfl rfl rfl rfl rfl rfl) ?_); rintro _ _ _ ⟨_, rfl, rfl, rfl⟩) | refine runL_q (qt_callF rfl (fun _ => dnum1 _ _ _ _ x.auditor (nm_org o2') List.mem_cons_self)) rfl rfl rfl ?_ | refine runL_q (qt_concat rfl rfl (by omega)) rfl rfl rfl ?_)
      refine runL_nil ?_
      refine run_mem (fun _ h => h.drop) ?_
      exact run_sub' (hnext _ _ _ ⟨rfl, rfl, rfl⟩) ⟨by rw [h]; rfl, rfl, rfl, trivial⟩
    · refine run_skip ?_
      exact run_sub' (hnext _ _ _ ⟨rfl, rfl, rfl⟩) ⟨by rw [h, opB_f]; rfl, rfl, rfl, trivial⟩
  rintro _ _ _ ⟨rfl, rfl, rfl⟩
  have hz2 : (S1 ++ opB au (nB x.auditor)).size ≤ S1.size + 9 := by rw [app_size]; have := opB_sz au (nB x.auditor); omega
  generalize hS2 : S1 ++ opB au (nB x.auditor) = S2 at hC hz2 ⊢
  repeat (first | with_reducible (first | refine cS ?_ | refine cR ?_ | refine cN ?_ | refine cK ?_ | refine cB ?_ | refine cI ?_) | refine cE rfl ?_ | refine rq (qt_pev tok rfl) ?_ | refine rg rfl rfl (qt_pev tok rfl) ?_ | refine rq (ql tok rfl) ?_ | refine rg rfl rfl (ql tok rfl) ?_ | (refine runL_op0 (sst tok rfl rfl rfl rfl rfl) ?_; rintro _ _ _ ⟨rfl, rfl, rfl⟩) | ((first | refine ro (st_box rfl) ?_ | refine ro (st_alloc tok rfl) ?_ | refine ro (st_buildSlice tok rfl rfl rfl rfl rfl rfl rfl) ?_); rintro _ _ _ ⟨_, rfl, rfl, rfl⟩))
  refine run_cut (fun σ' M' L' => σ' = [(5, .string (S2 ++ opB n (nB x.n))), (3, .pointer (some ⟨bn, 0, none⟩)), (1, .pointer (some ⟨bx, 0, none⟩))] ∧ M = M' ∧ L' = (bn, Obj.cells ⟨[.bool o, .bool au, .bool n, .bool g, .bool t, .bool y, .bool s]⟩ 59 (0, 0)) :: (bx, Obj.cells ⟨axC x⟩ 37 (0, 0)) :: L) ?_ ?_
  rotate_left
  · intro hnext
    refine run_cond rfl (fun h => ?_) (fun h => ?_)
    · refine run_region ?_
      repeat (first | refine rq (qt_pev tok rfl) ?_ | refine rg rfl rfl (qt_pev tok rfl) ?_ | refine rq (ql tok rfl) ?_ | refine rg rfl rfl (ql tok rfl) ?_ | (refine runL_op0 (sst tok rfl rfl rfl rfl rfl) ?_; rintro _ _ _ ⟨rfl, rfl, rfl⟩) | ((first | refine ro (st_box rfl) ?_ | refine ro (st_alloc tok rfl) ?_ | refine ro (st_buildSlice tok rfl rfl rfl rfl rfl rfl rfl) ?_); rintro _ _ _ ⟨_, rfl, rfl, rfl⟩) | refine runL_q (qt_callF rfl (fun _ => dnum1 _ _ _ _ x.n o3' List.mem_cons_self)) rfl rfl rfl ?_ | refine runL_q (qt_concat rfl rfl (by omega)) rfl rfl rfl ?_)
      refine runL_nil ?_
      refine run_mem (fun _ h => h.drop) ?_
      exact run_sub' (hnext _ _ _ ⟨rfl, rfl, rfl⟩) ⟨by rw [h]; rfl, rfl, rfl, trivial⟩
    · refine run_skip ?_
      exact run_sub' (hnext _ _ _ ⟨rfl, rfl, rfl⟩) ⟨by rw [h, opB_f]; rfl, rfl, rfl, trivial⟩
  rintro _ _ _ ⟨rfl, rfl, rfl⟩
  have hz3 : (S2 ++ opB n (nB x.n)).size ≤ S2.size + 9 := by rw [app_size]; have := opB_sz n (nB x.n); omega
  generalize hS3 : S2 ++ opB n (nB x.n) = S3 at hC hz3 ⊢
  repeat (first | with_reducible (first | refine cS ?_ | refine cR ?_ | refine cN ?_ | refine cK ?_ | refine cB ?_ | refine cI ?_) | refine cE rfl ?_ | refine rq (qt_pev tok rfl) ?_ | refine rg rfl rfl (qt_pev tok rfl) ?_ | refine rq (ql tok rfl) ?_ | refine rg rfl rfl (ql tok rfl) ?_ | (refine runL_op0 (sst tok rfl rfl rfl rfl rfl) ?_; rintro _ _ _ ⟨rfl, rfl, rfl⟩) | ((first | refine ro (st_box rfl) ?_ | refine ro (st_alloc tok rfl) ?_ | refine ro (st_buildSlice tok rfl rfl rfl rfl rfl rfl rfl) ?_); rintro _ _ _ ⟨_, rfl, rfl, rfl⟩))
  refine run_cut (fun σ' M' L' => σ' = [(5, .string (S3 ++ opB g (msB x.gives.xs))), (3, .pointer (some ⟨bn, 0, none⟩)), (1, .pointer (some ⟨bx, 0, none⟩))] ∧ M = M' ∧ L' = (bn, Obj.cells ⟨[.bool o, .bool au, .bool n, .bool g, .bool t, .bool y, .bool s]⟩ 59 (0, 0)) :: (bx, Obj.cells ⟨axC x⟩ 37 (0, 0)) :: L) ?_ ?_
  rotate_left
  · intro hcut
    have hcut := hcut
    refine run_cond rfl (fun h => ?_) (fun h => ?_)
    rotate_left
    · refine run_skip ?_
      exact run_sub' (hcut _ _ _ ⟨rfl, rfl, rfl⟩) ⟨by rw [h, opB_f]; rfl, rfl, rfl, trivial⟩
    have eg : S3 ++ opB g (msB x.gives.xs) = S3 ++ nB (x.gives.len : Int) ++ mbB x.gives.xs := by rw [h, opB_t, msB, l1, app_assoc]
    rw [eg] at hcut
    clear eg
    have zl := nB_size (n := (x.gives.len : Int)) (by omega)
    repeat (first | with_reducible (first | refine cS ?_ | refine cR ?_ | refine cN ?_ | refine cK ?_ | refine cB ?_ | refine cI ?_) | refine cE rfl ?_ | refine rq (qt_pev tok rfl) ?_ | refine rg rfl rfl (qt_pev tok rfl) ?_ | refine rq (ql tok rfl) ?_ | refine rg rfl rfl (ql tok rfl) ?_ | (refine runL_op0 (sst tok rfl rfl rfl rfl rfl) ?_; rintro _ _ _ ⟨rfl, rfl, rfl⟩) | ((first | refine ro (st_box rfl) ?_ | refine ro (st_alloc tok rfl) ?_ | refine ro (st_buildSlice tok rfl rfl rfl rfl rfl rfl rfl) ?_); rintro _ _ _ ⟨_, rfl, rfl, rfl⟩) | refine runL_q (qt_callF rfl (fun _ => dnum1 _ _ _ _ (x.gives.len : Int) (nm_len (by omega)) List.mem_cons_self)) rfl rfl rfl ?_ | refine runL_q (qt_concat rfl rfl (by omega)) rfl rfl rfl ?_)
    refine run_mem (fun _ h => h.drop) ?_
    have hzq : (S3 ++ nB (x.gives.len : Int)).size ≤ S3.size + 9 := by rw [app_size]; omega
    generalize S3 ++ nB (x.gives.len : Int) = Q at hzq hcut ⊢
    refine run_loopN (fun j σ1 M1 L1 => j ≤ x.gives.len ∧ M = M1 ∧ L1 = (bn, Obj.cells ⟨[.bool o, .bool au, .bool n, .bool g, .bool t, .bool y, .bool s]⟩ 59 (0, 0)) :: (bx, Obj.cells ⟨axC x⟩ 37 (0, 0)) :: L ∧ σ1 = [(6, .int .i64 (j : Int)), (5, .string (Q ++ mbB (x.gives.xs.take j))), (3, .pointer (some ⟨bn, 0, none⟩)), (1, .pointer (some ⟨bx, 0, none⟩))]) x.gives.len [(6, .int .i64 ((0 : Nat) : Int)), (5, .string Q), (3, .pointer (some ⟨bn, 0, none⟩)), (1, .pointer (some ⟨bx, 0, none⟩))] ?_ ⟨Nat.zero_le _, rfl, rfl, by rw [List.take_zero, mbB, app_bz']⟩ (fun j _ _ _ h => h.1) ?_
    · exact ⟨rfl, rfl, rfl, rfl, trivial⟩
    rintro j _ _ _ ⟨hj, rfl, rfl, rfl⟩ hnext
    repeat (first | with_reducible (first | refine cS ?_ | refine cR ?_ | refine cN ?_ | refine cK ?_ | refine cB ?_ | refine cI ?_) | refine cE rfl ?_ | refine rq (qt_pev tok rfl) ?_ | refine rg rfl rfl (qt_pev tok rfl) ?_ | refine rq (ql tok rfl) ?_ | refine rg rfl rfl (ql tok rfl) ?_ | (refine runL_op0 (sst tok rfl rfl rfl rfl rfl) ?_; rintro _ _ _ ⟨rfl, rfl, rfl⟩) | ((first | refine ro (st_box rfl) ?_ | refine ro (st_alloc tok rfl) ?_ | refine ro (st_buildSlice tok rfl rfl rfl rfl rfl rfl rfl) ?_); rintro _ _ _ ⟨_, rfl, rfl, rfl⟩))
    refine run_cond rfl (fun h => ?_) (fun h => ?_)
    · have hlt : j < x.gives.len := by simpa using h
      obtain ⟨b, off, m, hma, hm, hc⟩ := SMb.at_ hx.gives.1 hlt
      have hv : x.gives.v = .slice (some ⟨b, off, none⟩) x.gives.len x.gives.cap := by rw [← hma]; rfl
      obtain ⟨mo, md⟩ := g1 m (List.mem_of_getElem? hm)
      have hmn : nmW m.org = true := by simp [nmW]; omega
      have y1 := nB_size (n := m.org) (by omega)
      have y2 := textB_sz (t := m.digest) (by omega)
      have y3 := mbB_lim' (l := x.gives.xs.take j) fun t ht => g1 t (List.mem_of_mem_take ht)
      have y4 : (x.gives.xs.take j).length ≤ 6 := by rw [List.length_take]; omega
      have y5 : (Q ++ mbB (x.gives.xs.take j)).size ≤ 1000000 := by rw [app_size]; omega
      have y6 : (Q ++ mbB (x.gives.xs.take j)).size + (nB m.org).size < 4611686018427387904 := by omega
      have y7 : (Q ++ mbB (x.gives.xs.take j) ++ nB m.org).size + (textB m.digest).size < 4611686018427387904 := by rw [app_size]; omega
      repeat (first | with_reducible (first | refine cS ?_ | refine cR ?_ | refine cN ?_ | refine cK ?_ | refine cB ?_ | refine cI ?_) | refine cE rfl ?_ | refine rq (qt_pev tok rfl) ?_ | refine rg rfl rfl (qt_pev tok rfl) ?_ | refine rq (ql tok rfl) ?_ | refine rg rfl rfl (ql tok rfl) ?_ | (refine runL_op0 (sst tok rfl rfl rfl rfl rfl) ?_; rintro _ _ _ ⟨rfl, rfl, rfl⟩) | ((first | refine ro (st_box rfl) ?_ | refine ro (st_alloc tok rfl) ?_ | refine ro (st_buildSlice tok rfl rfl rfl rfl rfl rfl rfl) ?_); rintro _ _ _ ⟨_, rfl, rfl, rfl⟩))
      refine prn_start mixed ?_
      refine pr_q 0 (by decide +kernel) rfl (qt_pev tok rfl) rfl rfl rfl ?_
      refine pr_q 1 (by decide +kernel) rfl (qt_pev tok rfl) rfl rfl rfl ?_
      refine pr_q 2 (by decide +kernel) rfl (ql tok rfl) rfl rfl rfl ?_
      refine pr_as 61 (.slice (some ⟨b, off, none⟩) x.gives.len x.gives.cap) rfl hv ?_
      refine pr_q 3 (by decide +kernel) rfl (qt_pev tok rfl) rfl rfl rfl ?_
      refine pr_q 4 (by decide +kernel) rfl (qt_indexN tok rfl rfl rfl rfl (fun _ => by omega)) rfl rfl rfl ?_
      refine pr_q 5 (by decide +kernel) rfl (qt_pev tok rfl) rfl rfl rfl ?_
      refine pr_q 6 (by decide +kernel) rfl (qt_ldM tok rfl hc rfl) rfl rfl rfl ?_
      refine pr_q 10 (by decide +kernel) rfl (qt_pev tok rfl) rfl rfl rfl ?_
      refine pr_q 11 (by decide +kernel) rfl (ql tok rfl) rfl rfl rfl ?_
      refine pr_as 70 (.slice (some ⟨b, off, none⟩) x.gives.len x.gives.cap) rfl hv ?_
      refine pr_q 12 (by decide +kernel) rfl (qt_pev tok rfl) rfl rfl rfl ?_
      refine pr_q 13 (by decide +kernel) rfl (qt_indexN tok rfl rfl rfl rfl (fun _ => by omega)) rfl rfl rfl ?_
      refine pr_q 14 (by decide +kernel) rfl (qt_pev tok rfl) rfl rfl rfl ?_
      refine pr_q 15 (by decide +kernel) rfl (qt_ldM tok rfl hc rfl) rfl rfl rfl ?_
      refine pr_one 7 (by decide +kernel) (eff1 7 rfl (st_buildSlice tok rfl rfl rfl rfl rfl rfl rfl) (by decide +kernel) (qs := [15, 14, 13, 12, 11, 10, 0]) (by decide +kernel) rfl rfl rfl ?_)
      rintro _ _ _ ⟨_, rfl, rfl, rfl⟩
      refine ⟨by (repeat (first | exact trivial | refine And.intro (pend_q rfl rfl rfl (qt_pev tok rfl)) ?_ | refine And.intro (pend_q rfl rfl rfl (ql tok rfl)) ?_ | refine And.intro (pend_q rfl rfl rfl (Qt.as (v' := Value.slice (some ⟨b, off, none⟩) x.gives.len x.gives.cap) (ql tok rfl) hv)) ?_ | refine And.intro (pend_q rfl rfl rfl (qt_indexN tok rfl rfl rfl rfl (fun _ => by omega))) ?_ | refine And.intro (pend_q rfl rfl rfl (qt_ldM tok rfl hc rfl)) ?_ | refine And.intro (pend_q rfl rfl rfl (qt_ldM0 tok rfl hc rfl)) ?_)), ?_⟩
      refine pr_q 8 (by decide +kernel) rfl (qt_callF rfl (fun _ => dnum1 _ _ _ _ m.org hmn List.mem_cons_self)) rfl rfl rfl ?_
      refine pr_q 9 (by decide +kernel) rfl (qt_concat rfl rfl y6) rfl rfl rfl ?_
      refine pr_q 16 (by decide +kernel) rfl (qt_callF rfl (fun _ => dtext_ok _ _ m.digest (by omega))) rfl rfl rfl ?_
      refine pr_q 17 (by decide +kernel) rfl (qt_concat rfl rfl y7) rfl rfl rfl ?_
      refine pr_one 18 (by decide +kernel) (eff1 18 rfl (qt_pev tok rfl) (by decide +kernel) (qs := []) (by decide +kernel) rfl rfl rfl ?_)
      rintro _ _ _ ⟨rfl, rfl, rfl⟩
      refine ⟨by (repeat (first | exact trivial | refine And.intro (pend_q rfl rfl rfl (qt_pev tok rfl)) ?_ | refine And.intro (pend_q rfl rfl rfl (ql tok rfl)) ?_ | refine And.intro (pend_q rfl rfl rfl (Qt.as (v' := Value.slice (some ⟨b, off, none⟩) x.gives.len x.gives.cap) (ql tok rfl) hv)) ?_ | refine And.intro (pend_q rfl rfl rfl (qt_indexN tok rfl rfl rfl rfl (fun _ => by omega))) ?_ | refine And.intro (pend_q rfl rfl rfl (qt_ldM tok rfl hc rfl)) ?_ | refine And.intro (pend_q rfl rfl rfl (qt_ldM0 tok rfl hc rfl)) ?_)), ?_⟩
      refine pr_end (by decide +kernel) (by decide +kernel) ?_
      repeat (first | with_reducible (first | refine cS ?_ | refine cR ?_ | refine cN ?_ | refine cK ?_ | refine cB ?_ | refine cI ?_) | refine cE rfl ?_ | refine rq (qt_pev tok rfl) ?_ | refine rg rfl rfl (qt_pev tok rfl) ?_ | refine rq (ql tok rfl) ?_ | refine rg rfl rfl (ql tok rfl) ?_ | (refine runL_op0 (sst tok rfl rfl rfl rfl rfl) ?_; rintro _ _ _ ⟨rfl, rfl, rfl⟩) | ((first | refine ro (st_box rfl) ?_ | refine ro (st_alloc tok rfl) ?_ | refine ro (st_buildSlice tok rfl rfl rfl rfl rfl rfl rfl) ?_); rintro _ _ _ ⟨_, rfl, rfl, rfl⟩))
      refine run_mem (fun _ h => h.drop) ?_
      refine run_sub' (hnext _ _ _ ⟨hlt, rfl, rfl, rfl⟩) ⟨lk_succ rfl (by omega), ?_, rfl, rfl, trivial⟩
      rw [take_snoc hm, mbB_snoc]
      simp only [← app_assoc]
      rfl
    · have hge : j = x.gives.len := by simp at h; omega
      rw [hge, List.take_of_length_le (by omega)]
      refine run_exit rfl ?_
      exact run_sub' (hcut _ _ _ ⟨rfl, rfl, rfl⟩) ⟨rfl, rfl, rfl, trivial⟩
  rintro _ _ _ ⟨rfl, rfl, rfl⟩
  have hz4 : (S3 ++ opB g (msB x.gives.xs)).size ≤ S3.size + 120000 := by
    have y1 := opB_sz g (msB x.gives.xs)
    have y3 := mbB_lim' (l := x.gives.xs) g1
    have y4 : x.gives.xs.length ≤ 6 := by omega
    have y5 := nB_size (n := (x.gives.xs.length : Int)) (by omega)
    have y6 : (msB x.gives.xs).size ≤ 9 + (mbB x.gives.xs).size := by rw [msB, app_size]; omega
    rw [app_size]; omega
  generalize hS4 : S3 ++ opB g (msB x.gives.xs) = S4 at hC hz4 ⊢
  repeat (first | with_reducible (first | refine cS ?_ | refine cR ?_ | refine cN ?_ | refine cK ?_ | refine cB ?_ | refine cI ?_) | refine cE rfl ?_ | refine rq (qt_pev tok rfl) ?_ | refine rg rfl rfl (qt_pev tok rfl) ?_ | refine rq (ql tok rfl) ?_ | refine rg rfl rfl (ql tok rfl) ?_ | (refine runL_op0 (sst tok rfl rfl rfl rfl rfl) ?_; rintro _ _ _ ⟨rfl, rfl, rfl⟩) | ((first | refine ro (st_box rfl) ?_ | refine ro (st_alloc tok rfl) ?_ | refine ro (st_buildSlice tok rfl rfl rfl rfl rfl rfl rfl) ?_); rintro _ _ _ ⟨_, rfl, rfl, rfl⟩))
  refine run_cut (fun σ' M' L' => σ' = [(5, .string (S4 ++ opB t (txB x.txn))), (3, .pointer (some ⟨bn, 0, none⟩)), (1, .pointer (some ⟨bx, 0, none⟩))] ∧ M = M' ∧ L' = (bn, Obj.cells ⟨[.bool o, .bool au, .bool n, .bool g, .bool t, .bool y, .bool s]⟩ 59 (0, 0)) :: (bx, Obj.cells ⟨axC x⟩ 37 (0, 0)) :: L) ?_ ?_
  rotate_left
  · intro hnext
    refine run_cond rfl (fun h => ?_) (fun h => ?_)
    · obtain ⟨t1, t2, t3, t4⟩ := htx h
      refine run_region ?_
      repeat (first | refine rq (qt_pev tok rfl) ?_ | refine rg rfl rfl (qt_pev tok rfl) ?_ | refine rq (ql tok rfl) ?_ | refine rg rfl rfl (ql tok rfl) ?_ | (refine runL_op0 (sst tok rfl rfl rfl rfl rfl) ?_; rintro _ _ _ ⟨rfl, rfl, rfl⟩) | ((first | refine ro (st_box rfl) ?_ | refine ro (st_alloc tok rfl) ?_ | refine ro (st_buildSlice tok rfl rfl rfl rfl rfl rfl rfl) ?_); rintro _ _ _ ⟨_, rfl, rfl, rfl⟩) | refine runL_q (qt_callF rfl (fun _ => dnum3 _ _ _ _ x.txn t1 t2 t3 List.mem_cons_self)) rfl rfl rfl ?_ | refine runL_q (qt_concat rfl rfl (by omega)) rfl rfl rfl ?_)
      refine runL_nil ?_
      refine run_mem (fun _ h => h.drop) ?_
      exact run_sub' (hnext _ _ _ ⟨rfl, rfl, rfl⟩) ⟨by rw [h]; rfl, rfl, rfl, trivial⟩
    · refine run_skip ?_
      exact run_sub' (hnext _ _ _ ⟨rfl, rfl, rfl⟩) ⟨by rw [h, opB_f]; rfl, rfl, rfl, trivial⟩
  rintro _ _ _ ⟨rfl, rfl, rfl⟩
  have hz5 : (S4 ++ opB t (txB x.txn)).size ≤ S4.size + 27 := by
    rw [app_size]
    cases ht : t
    · rw [opB_f']; show S4.size + 0 ≤ _; omega
    · have := (htx ht).2.2.2; rw [opB_t]; omega
  generalize hS5 : S4 ++ opB t (txB x.txn) = S5 at hC hz5 ⊢
  have hyy : S5 ++ opB y (yB x.yes) = S5 ++ opB (y && x.yes) ⟨#[1]⟩ ++ opB (y && !x.yes) ⟨#[0]⟩ := (yes_two S5 y x.yes).symm
  rw [hyy] at hC
  clear hyy
  repeat (first | with_reducible (first | refine cS ?_ | refine cR ?_ | refine cN ?_ | refine cK ?_ | refine cB ?_ | refine cI ?_) | refine cE rfl ?_ | refine rq (qt_pev tok rfl) ?_ | refine rg rfl rfl (qt_pev tok rfl) ?_ | refine rq (ql tok rfl) ?_ | refine rg rfl rfl (ql tok rfl) ?_ | (refine runL_op0 (sst tok rfl rfl rfl rfl rfl) ?_; rintro _ _ _ ⟨rfl, rfl, rfl⟩) | ((first | refine ro (st_box rfl) ?_ | refine ro (st_alloc tok rfl) ?_ | refine ro (st_buildSlice tok rfl rfl rfl rfl rfl rfl rfl) ?_); rintro _ _ _ ⟨_, rfl, rfl, rfl⟩))
  refine run_cut (fun σ' M' L' => σ' = [(5, .string (S5 ++ opB (y && x.yes) ⟨#[1]⟩)), (3, .pointer (some ⟨bn, 0, none⟩)), (1, .pointer (some ⟨bx, 0, none⟩))] ∧ M = M' ∧ L' = (bn, Obj.cells ⟨[.bool o, .bool au, .bool n, .bool g, .bool t, .bool y, .bool s]⟩ 59 (0, 0)) :: (bx, Obj.cells ⟨axC x⟩ 37 (0, 0)) :: L) ?_ ?_
  rotate_left
  · intro hnext
    refine run_cond rfl (fun h => ?_) (fun h => ?_)
    · have h' : S5 ++ opB (y && x.yes) ⟨#[1]⟩ = S5 ++ ⟨#[1]⟩ := by rw [show (y && x.yes) = true from h, opB_t]
      rw [h'] at hnext
      refine run_region ?_
      repeat (first | refine rq (qt_pev tok rfl) ?_ | refine rg rfl rfl (qt_pev tok rfl) ?_ | refine rq (ql tok rfl) ?_ | refine rg rfl rfl (ql tok rfl) ?_ | (refine runL_op0 (sst tok rfl rfl rfl rfl rfl) ?_; rintro _ _ _ ⟨rfl, rfl, rfl⟩) | ((first | refine ro (st_box rfl) ?_ | refine ro (st_alloc tok rfl) ?_ | refine ro (st_buildSlice tok rfl rfl rfl rfl rfl rfl rfl) ?_); rintro _ _ _ ⟨_, rfl, rfl, rfl⟩) | refine runL_q (qt_concat rfl rfl (by show S5.size + 1 < _; omega)) rfl rfl rfl ?_)
      refine runL_nil ?_
      exact run_sub' (hnext _ _ _ ⟨rfl, rfl, rfl⟩) ⟨rfl, rfl, rfl, trivial⟩
    · have h' : S5 ++ opB (y && x.yes) ⟨#[1]⟩ = S5 := by rw [show (y && x.yes) = false from h, opB_f]
      rw [h'] at hnext
      refine run_skip ?_
      exact run_sub' (hnext _ _ _ ⟨rfl, rfl, rfl⟩) ⟨rfl, rfl, rfl, trivial⟩
  rintro _ _ _ ⟨rfl, rfl, rfl⟩
  have hz6 : (S5 ++ opB (y && x.yes) ⟨#[1]⟩).size ≤ S5.size + 1 := by rw [app_size]; have := opB_sz (y && x.yes) ⟨#[1]⟩; have e : (⟨#[1]⟩ : ByteArray).size = 1 := rfl; omega
  generalize hS6 : S5 ++ opB (y && x.yes) ⟨#[1]⟩ = S6 at hC hz6 ⊢
  repeat (first | with_reducible (first | refine cS ?_ | refine cR ?_ | refine cN ?_ | refine cK ?_ | refine cB ?_ | refine cI ?_) | refine cE rfl ?_ | refine rq (qt_pev tok rfl) ?_ | refine rg rfl rfl (qt_pev tok rfl) ?_ | refine rq (ql tok rfl) ?_ | refine rg rfl rfl (ql tok rfl) ?_ | (refine runL_op0 (sst tok rfl rfl rfl rfl rfl) ?_; rintro _ _ _ ⟨rfl, rfl, rfl⟩) | ((first | refine ro (st_box rfl) ?_ | refine ro (st_alloc tok rfl) ?_ | refine ro (st_buildSlice tok rfl rfl rfl rfl rfl rfl rfl) ?_); rintro _ _ _ ⟨_, rfl, rfl, rfl⟩))
  refine run_cut (fun σ' M' L' => σ' = [(5, .string (S6 ++ opB (y && !x.yes) ⟨#[0]⟩)), (3, .pointer (some ⟨bn, 0, none⟩)), (1, .pointer (some ⟨bx, 0, none⟩))] ∧ M = M' ∧ L' = (bn, Obj.cells ⟨[.bool o, .bool au, .bool n, .bool g, .bool t, .bool y, .bool s]⟩ 59 (0, 0)) :: (bx, Obj.cells ⟨axC x⟩ 37 (0, 0)) :: L) ?_ ?_
  rotate_left
  · intro hnext
    refine run_cond rfl (fun h => ?_) (fun h => ?_)
    · have h' : S6 ++ opB (y && !x.yes) ⟨#[0]⟩ = S6 ++ ⟨#[0]⟩ := by rw [show (y && !x.yes) = true from h, opB_t]
      rw [h'] at hnext
      refine run_region ?_
      repeat (first | refine rq (qt_pev tok rfl) ?_ | refine rg rfl rfl (qt_pev tok rfl) ?_ | refine rq (ql tok rfl) ?_ | refine rg rfl rfl (ql tok rfl) ?_ | (refine runL_op0 (sst tok rfl rfl rfl rfl rfl) ?_; rintro _ _ _ ⟨rfl, rfl, rfl⟩) | ((first | refine ro (st_box rfl) ?_ | refine ro (st_alloc tok rfl) ?_ | refine ro (st_buildSlice tok rfl rfl rfl rfl rfl rfl rfl) ?_); rintro _ _ _ ⟨_, rfl, rfl, rfl⟩) | refine runL_q (qt_concat rfl rfl (by show S6.size + 1 < _; omega)) rfl rfl rfl ?_)
      refine runL_nil ?_
      exact run_sub' (hnext _ _ _ ⟨rfl, rfl, rfl⟩) ⟨rfl, rfl, rfl, trivial⟩
    · have h' : S6 ++ opB (y && !x.yes) ⟨#[0]⟩ = S6 := by rw [show (y && !x.yes) = false from h, opB_f]
      rw [h'] at hnext
      refine run_skip ?_
      exact run_sub' (hnext _ _ _ ⟨rfl, rfl, rfl⟩) ⟨rfl, rfl, rfl, trivial⟩
  rintro _ _ _ ⟨rfl, rfl, rfl⟩
  have hz7 : (S6 ++ opB (y && !x.yes) ⟨#[0]⟩).size ≤ S6.size + 1 := by rw [app_size]; have := opB_sz (y && !x.yes) ⟨#[0]⟩; have e : (⟨#[0]⟩ : ByteArray).size = 1 := rfl; omega
  generalize hS7 : S6 ++ opB (y && !x.yes) ⟨#[0]⟩ = S7 at hC hz7 ⊢
  repeat (first | with_reducible (first | refine cS ?_ | refine cR ?_ | refine cN ?_ | refine cK ?_ | refine cB ?_ | refine cI ?_) | refine cE rfl ?_ | refine rq (qt_pev tok rfl) ?_ | refine rg rfl rfl (qt_pev tok rfl) ?_ | refine rq (ql tok rfl) ?_ | refine rg rfl rfl (ql tok rfl) ?_ | (refine runL_op0 (sst tok rfl rfl rfl rfl rfl) ?_; rintro _ _ _ ⟨rfl, rfl, rfl⟩) | ((first | refine ro (st_box rfl) ?_ | refine ro (st_alloc tok rfl) ?_ | refine ro (st_buildSlice tok rfl rfl rfl rfl rfl rfl rfl) ?_); rintro _ _ _ ⟨_, rfl, rfl, rfl⟩))
  refine run_cut (fun σ' M' L' => σ' = [(5, .string (S7 ++ opB s (stepsB x.aa.steps))), (3, .pointer (some ⟨bn, 0, none⟩)), (1, .pointer (some ⟨bx, 0, none⟩))] ∧ M = M' ∧ L' = (bn, Obj.cells ⟨[.bool o, .bool au, .bool n, .bool g, .bool t, .bool y, .bool s]⟩ 59 (0, 0)) :: (bx, Obj.cells ⟨axC x⟩ 37 (0, 0)) :: L) ?_ ?_
  rotate_left
  · intro hcut
    have hcut := hcut
    refine run_cond rfl (fun h => ?_) (fun h => ?_)
    rotate_left
    · refine run_skip ?_
      exact run_sub' (hcut _ _ _ ⟨rfl, rfl, rfl⟩) ⟨by rw [h, opB_f]; rfl, rfl, rfl, trivial⟩
    have e1 : x.aa.steps.length = x.steps.len := by show (x.steps.xs.map Sr.sp).length = _; rw [List.length_map, l3]
    have eg : S7 ++ opB s (stepsB x.aa.steps) = S7 ++ nB (x.steps.len : Int) ++ spsB x.aa.steps := by rw [h, opB_t, stepsB, e1, app_assoc]
    rw [eg] at hcut
    clear eg
    have zl := nB_size (n := (x.steps.len : Int)) (by omega)
    repeat (first | with_reducible (first | refine cS ?_ | refine cR ?_ | refine cN ?_ | refine cK ?_ | refine cB ?_ | refine cI ?_) | refine cE rfl ?_ | refine rq (qt_pev tok rfl) ?_ | refine rg rfl rfl (qt_pev tok rfl) ?_ | refine rq (ql tok rfl) ?_ | refine rg rfl rfl (ql tok rfl) ?_ | (refine runL_op0 (sst tok rfl rfl rfl rfl rfl) ?_; rintro _ _ _ ⟨rfl, rfl, rfl⟩) | ((first | refine ro (st_box rfl) ?_ | refine ro (st_alloc tok rfl) ?_ | refine ro (st_buildSlice tok rfl rfl rfl rfl rfl rfl rfl) ?_); rintro _ _ _ ⟨_, rfl, rfl, rfl⟩) | refine runL_q (qt_callF rfl (fun _ => dnum1 _ _ _ _ (x.steps.len : Int) (nm_len (by omega)) List.mem_cons_self)) rfl rfl rfl ?_ | refine runL_q (qt_concat rfl rfl (by omega)) rfl rfl rfl ?_)
    refine run_mem (fun _ h => h.drop) ?_
    have hzq : (S7 ++ nB (x.steps.len : Int)).size ≤ S7.size + 9 := by rw [app_size]; omega
    generalize S7 ++ nB (x.steps.len : Int) = Q at hzq hcut ⊢
    refine run_loopN (fun j σ1 M1 L1 => j ≤ x.steps.len ∧ M = M1 ∧ L1 = (bn, Obj.cells ⟨[.bool o, .bool au, .bool n, .bool g, .bool t, .bool y, .bool s]⟩ 59 (0, 0)) :: (bx, Obj.cells ⟨axC x⟩ 37 (0, 0)) :: L ∧ σ1 = [(7, .int .i64 (j : Int)), (5, .string (Q ++ spsB (x.aa.steps.take j))), (3, .pointer (some ⟨bn, 0, none⟩)), (1, .pointer (some ⟨bx, 0, none⟩))]) x.steps.len [(7, .int .i64 ((0 : Nat) : Int)), (5, .string Q), (3, .pointer (some ⟨bn, 0, none⟩)), (1, .pointer (some ⟨bx, 0, none⟩))] ?_ ⟨Nat.zero_le _, rfl, rfl, by rw [List.take_zero, spsB, app_bz']⟩ (fun j _ _ _ h => h.1) ?_
    · exact ⟨rfl, rfl, rfl, rfl, trivial⟩
    rintro j _ _ _ ⟨hj, rfl, rfl, rfl⟩ hnext
    repeat (first | with_reducible (first | refine cS ?_ | refine cR ?_ | refine cN ?_ | refine cK ?_ | refine cB ?_ | refine cI ?_) | refine cE rfl ?_ | refine rq (qt_pev tok rfl) ?_ | refine rg rfl rfl (qt_pev tok rfl) ?_ | refine rq (ql tok rfl) ?_ | refine rg rfl rfl (ql tok rfl) ?_ | (refine runL_op0 (sst tok rfl rfl rfl rfl rfl) ?_; rintro _ _ _ ⟨rfl, rfl, rfl⟩) | ((first | refine ro (st_box rfl) ?_ | refine ro (st_alloc tok rfl) ?_ | refine ro (st_buildSlice tok rfl rfl rfl rfl rfl rfl rfl) ?_); rintro _ _ _ ⟨_, rfl, rfl, rfl⟩))
    refine run_cond rfl (fun h => ?_) (fun h => ?_)
    · have hlt : j < x.steps.len := by simpa using h
      obtain ⟨b, off, m, hma, hm, hc⟩ := SSr.at_ hx.steps.sl hlt
      have hv : x.steps.v = .slice (some ⟨b, off, none⟩) x.steps.len x.steps.cap := by rw [← hma]; rfl
      have hmo := hx.steps.each m (List.mem_of_getElem? hm)
      have hms : x.aa.steps[j]? = some m.sp := by show (x.steps.xs.map Sr.sp)[j]? = _; rw [List.getElem?_map, hm]; rfl
      have hmp : SpP m.sp := s1 _ (List.mem_of_getElem? hms)
      have lm := hmo.list.len
      have u1 : nmW m.do_ = true := by have e : 1 ≤ m.do_ ∧ m.do_ ≤ 9 := hmp.do_; simp [nmW]; omega
      have u2 : nmW m.a = true := hmp.a
      have u3 : nmW m.b = true := hmp.b
      have u4 : nmW m.c = true := hmp.c
      have u5 : nmW m.n = true := hmp.n
      have u6 : m.text.size ≤ 1024 := hmp.text
      have u7 : m.list.xs.length ≤ 32 := hmp.len
      have u8' : ∀ v ∈ m.list.xs, nmW v = true := hmp.list
      have y0 := nB_size (n := m.do_) (by have := nm_r u1; omega)
      have y1 := nB_size (n := m.a) (by have := nm_r u2; omega)
      have y2 := nB_size (n := m.b) (by have := nm_r u3; omega)
      have y3 := nB_size (n := m.c) (by have := nm_r u4; omega)
      have y4 := nB_size (n := m.n) (by have := nm_r u5; omega)
      have y5 := textB_sz (t := m.text) (by omega)
      have y6 := nB_size (n := (m.list.len : Int)) (by omega)
      have y7 := nsB_sz u8'
      have y8 := spsB_sz (l := x.aa.steps.take j) fun t ht => s1 t (List.mem_of_mem_take ht)
      have y9 : (x.aa.steps.take j).length ≤ 64 := by rw [List.length_take]; omega
      have ya : (Q ++ spsB (x.aa.steps.take j)).size ≤ 1000000 := by rw [app_size]; omega
      generalize hQ2 : Q ++ spsB (x.aa.steps.take j) = Q2 at ya ⊢
      have yb : (nB m.do_ ++ (nB m.a ++ (nB m.b ++ (nB m.c ++ nB m.n)))).size ≤ 45 := by rw [app_size, app_size, app_size, app_size]; omega
      generalize hQ3 : nB m.do_ ++ (nB m.a ++ (nB m.b ++ (nB m.c ++ nB m.n))) = Q3 at yb
      have d5 : ∀ (b et : Nat) (L : HL), (b, Obj.cells ⟨[.int .i64 (IntKind.i64.wrap m.do_), .int .i64 m.a, .int .i64 m.b, .int .i64 m.c, .int .i64 m.n]⟩ et (0, 0)) ∈ L → TrQ Try.prog 36 [.slice (some ⟨b, 0, none⟩) 5 5] M L (.string Q3) := fun b et L hm => by rw [← hQ3]; exact dnum5 M L b et _ m.do_ m.a m.b m.c m.n (w64_nm u1) u1 u2 u3 u4 u5 hm
      have z1 : Q2.size + Q3.size < 4611686018427387904 := by omega
      have z2 : (Q2 ++ Q3).size + (textB m.text).size < 4611686018427387904 := by rw [app_size]; omega
      have z3 : (Q2 ++ Q3 ++ textB m.text).size + (nB (m.list.len : Int)).size < 4611686018427387904 := by rw [app_size, app_size]; omega
      have z4 : (Q2 ++ Q3 ++ textB m.text ++ nB (m.list.len : Int)).size + (nsB m.list.xs).size < 4611686018427387904 := by rw [app_size, app_size, app_size]; omega
      repeat (first | with_reducible (first | refine cS ?_ | refine cR ?_ | refine cN ?_ | refine cK ?_ | refine cB ?_ | refine cI ?_) | refine cE rfl ?_ | refine rq (qt_pev tok rfl) ?_ | refine rg rfl rfl (qt_pev tok rfl) ?_ | refine rq (ql tok rfl) ?_ | refine rg rfl rfl (ql tok rfl) ?_ | (refine runL_op0 (sst tok rfl rfl rfl rfl rfl) ?_; rintro _ _ _ ⟨rfl, rfl, rfl⟩) | ((first | refine ro (st_box rfl) ?_ | refine ro (st_alloc tok rfl) ?_ | refine ro (st_buildSlice tok rfl rfl rfl rfl rfl rfl rfl) ?_); rintro _ _ _ ⟨_, rfl, rfl, rfl⟩))
      refine runL_as 126 (.slice (some ⟨b, off, none⟩) x.steps.len x.steps.cap) rfl hv ?_
      repeat (first | with_reducible (first | refine cS ?_ | refine cR ?_ | refine cN ?_ | refine cK ?_ | refine cB ?_ | refine cI ?_) | refine cE rfl ?_ | refine rq (qt_pev tok rfl) ?_ | refine rg rfl rfl (qt_pev tok rfl) ?_ | refine rq (ql tok rfl) ?_ | refine rg rfl rfl (ql tok rfl) ?_ | (refine runL_op0 (sst tok rfl rfl rfl rfl rfl) ?_; rintro _ _ _ ⟨rfl, rfl, rfl⟩) | ((first | refine ro (st_box rfl) ?_ | refine ro (st_alloc tok rfl) ?_ | refine ro (st_buildSlice tok rfl rfl rfl rfl rfl rfl rfl) ?_); rintro _ _ _ ⟨_, rfl, rfl, rfl⟩) | refine runL_q (qt_indexN tok rfl rfl rfl rfl (fun _ => by omega)) rfl rfl rfl ?_ | refine runL_g rfl rfl (qt_indexN tok rfl rfl rfl rfl (fun _ => by omega)) rfl rfl rfl rfl rfl ?_ | refine runL_q (qt_ldM tok rfl hc rfl) rfl rfl rfl ?_ | refine runL_g rfl rfl (qt_ldM tok rfl hc rfl) rfl rfl rfl rfl rfl ?_ | refine runL_q (qt_ldM0 tok rfl hc rfl) rfl rfl rfl ?_ | refine runL_g rfl rfl (qt_ldM0 tok rfl hc rfl) rfl rfl rfl rfl rfl ?_)
      have hstr : Q2 ++ Q3 ++ textB m.text ++ nB (m.list.len : Int) ++ nsB m.list.xs = Q ++ spsB (x.aa.steps.take (j + 1)) := by
        rw [take_snoc hms, spsB_snoc, ← app_assoc, hQ2, spB, ← hQ3]
        simp only [app_assoc]
        rw [show m.sp.list = m.list.xs from rfl, lm]
        rfl
      have hstr : some (Value.string (Q2 ++ Q3 ++ textB m.text ++ nB (m.list.len : Int) ++ nsB m.list.xs)) = some (.string (Q ++ spsB (x.aa.steps.take (j + 1)))) := by rw [hstr]
      refine prn_start mixed ?_
      refine pr_q 0 (by decide +kernel) rfl (qt_pev tok rfl) rfl rfl rfl ?_
      refine pr_q 1 (by decide +kernel) rfl (qt_pev tok rfl) rfl rfl rfl ?_
      refine pr_q 2 (by decide +kernel) rfl (ql tok rfl) rfl rfl rfl ?_
      refine pr_q 3 (by decide +kernel) rfl (qt_pev tok rfl) rfl rfl rfl ?_
      refine pr_q 4 (by decide +kernel) rfl (qt_pev tok rfl) rfl rfl rfl ?_
      refine pr_q 5 (by decide +kernel) rfl (ql tok rfl) rfl rfl rfl ?_
      refine pr_q 6 (by decide +kernel) rfl (qt_pev tok rfl) rfl rfl rfl ?_
      refine pr_q 7 (by decide +kernel) rfl (ql tok rfl) rfl rfl rfl ?_
      refine pr_q 8 (by decide +kernel) rfl (qt_pev tok rfl) rfl rfl rfl ?_
      refine pr_q 9 (by decide +kernel) rfl (ql tok rfl) rfl rfl rfl ?_
      refine pr_q 10 (by decide +kernel) rfl (qt_pev tok rfl) rfl rfl rfl ?_
      refine pr_q 11 (by decide +kernel) rfl (ql tok rfl) rfl rfl rfl ?_
      refine pr_q 15 (by decide +kernel) rfl (qt_pev tok rfl) rfl rfl rfl ?_
      refine pr_q 16 (by decide +kernel) rfl (ql tok rfl) rfl rfl rfl ?_
      refine pr_q 19 (by decide +kernel) rfl (qt_pev tok rfl) rfl rfl rfl ?_
      refine pr_q 20 (by decide +kernel) rfl (ql tok rfl) rfl rfl rfl ?_
      refine pr_q 21 (by decide +kernel) rfl (qt_pev tok rfl) rfl rfl rfl ?_
      refine pr_q 25 (by decide +kernel) rfl (qt_pev tok rfl) rfl rfl rfl ?_
      refine pr_q 26 (by decide +kernel) rfl (ql tok rfl) rfl rfl rfl ?_
      refine pr_two 12 22 (by decide +kernel) ?_ ?_
      · refine eff1 12 rfl (st_buildSlice tok rfl rfl rfl rfl rfl rfl rfl) (by decide +kernel) (qs := [26, 25, 21, 20, 19, 16, 15, 0]) (by decide +kernel) rfl rfl rfl ?_
        rintro _ _ _ ⟨_, rfl, rfl, rfl⟩
        refine ⟨by (repeat (first | exact trivial | refine And.intro (pend_q rfl rfl rfl (qt_pev tok rfl)) ?_ | refine And.intro (pend_q rfl rfl rfl (ql tok rfl)) ?_ | refine And.intro (pend_q rfl rfl rfl (qt_callF rfl (fun _ => d5 _ _ _ (by first | exact List.mem_cons_self | exact List.mem_cons_of_mem _ List.mem_cons_self)))) ?_ | refine And.intro (pend_q rfl rfl rfl (qt_callF rfl (fun _ => dnum1 _ _ _ _ (m.list.len : Int) (nm_len (by omega)) (by first | exact List.mem_cons_self | exact List.mem_cons_of_mem _ List.mem_cons_self)))) ?_ | refine And.intro (pend_q rfl rfl rfl (qt_callF rfl (fun _ => dtext_ok _ _ m.text (by omega)))) ?_ | refine And.intro (pend_q rfl rfl rfl (qt_callF rfl (fun _ => dnums_ok _ _ m.list hmo.list u8'))) ?_ | refine And.intro (pend_q rfl rfl rfl (qt_concat rfl rfl z1)) ?_ | refine And.intro (pend_q rfl rfl rfl (qt_concat rfl rfl z2)) ?_ | refine And.intro (pend_q rfl rfl rfl (qt_concat rfl rfl z3)) ?_ | refine And.intro (pend_q rfl rfl rfl (qt_concat rfl rfl z4)) ?_)), ?_⟩
        refine pr_q 13 (by decide +kernel) rfl (qt_callF rfl (fun _ => d5 _ _ _ (by first | exact List.mem_cons_self | exact List.mem_cons_of_mem _ List.mem_cons_self))) rfl rfl rfl ?_
        refine pr_q 14 (by decide +kernel) rfl (qt_concat rfl rfl z1) rfl rfl rfl ?_
        refine pr_q 17 (by decide +kernel) rfl (qt_callF rfl (fun _ => dtext_ok _ _ m.text (by omega))) rfl rfl rfl ?_
        refine pr_q 18 (by decide +kernel) rfl (qt_concat rfl rfl z2) rfl rfl rfl ?_
        refine pr_one 22 (by decide +kernel) (eff1 22 rfl (st_buildSlice tok rfl rfl rfl rfl rfl rfl rfl) (by decide +kernel) (qs := [18, 17, 14, 13, 26, 25, 16, 15, 11, 10, 9, 8, 7, 6, 5, 4, 3, 2, 1, 0]) (by decide +kernel) rfl rfl rfl ?_)
        rintro _ _ _ ⟨_, rfl, rfl, rfl⟩
        refine ⟨by (repeat (first | exact trivial | refine And.intro (pend_q rfl rfl rfl (qt_pev tok rfl)) ?_ | refine And.intro (pend_q rfl rfl rfl (ql tok rfl)) ?_ | refine And.intro (pend_q rfl rfl rfl (qt_callF rfl (fun _ => d5 _ _ _ (by first | exact List.mem_cons_self | exact List.mem_cons_of_mem _ List.mem_cons_self)))) ?_ | refine And.intro (pend_q rfl rfl rfl (qt_callF rfl (fun _ => dnum1 _ _ _ _ (m.list.len : Int) (nm_len (by omega)) (by first | exact List.mem_cons_self | exact List.mem_cons_of_mem _ List.mem_cons_self)))) ?_ | refine And.intro (pend_q rfl rfl rfl (qt_callF rfl (fun _ => dtext_ok _ _ m.text (by omega)))) ?_ | refine And.intro (pend_q rfl rfl rfl (qt_callF rfl (fun _ => dnums_ok _ _ m.list hmo.list u8'))) ?_ | refine And.intro (pend_q rfl rfl rfl (qt_concat rfl rfl z1)) ?_ | refine And.intro (pend_q rfl rfl rfl (qt_concat rfl rfl z2)) ?_ | refine And.intro (pend_q rfl rfl rfl (qt_concat rfl rfl z3)) ?_ | refine And.intro (pend_q rfl rfl rfl (qt_concat rfl rfl z4)) ?_)), ?_⟩
        refine pr_q 23 (by decide +kernel) rfl (qt_callF rfl (fun _ => dnum1 _ _ _ _ (m.list.len : Int) (nm_len (by omega)) (by first | exact List.mem_cons_self | exact List.mem_cons_of_mem _ List.mem_cons_self))) rfl rfl rfl ?_
        refine pr_q 24 (by decide +kernel) rfl (qt_concat rfl rfl z3) rfl rfl rfl ?_
        refine pr_q 27 (by decide +kernel) rfl (qt_callF rfl (fun _ => dnums_ok _ _ m.list hmo.list u8')) rfl rfl rfl ?_
        refine pr_q 28 (by decide +kernel) rfl (qt_concat rfl rfl z4) rfl rfl rfl ?_
        refine pr_one 29 (by decide +kernel) (eff1 29 rfl (qt_pev tok rfl) (by decide +kernel) (qs := []) (by decide +kernel) rfl rfl rfl ?_)
        rintro _ _ _ ⟨rfl, rfl, rfl⟩
        refine ⟨by (repeat (first | exact trivial | refine And.intro (pend_q rfl rfl rfl (qt_pev tok rfl)) ?_ | refine And.intro (pend_q rfl rfl rfl (ql tok rfl)) ?_ | refine And.intro (pend_q rfl rfl rfl (qt_callF rfl (fun _ => d5 _ _ _ (by first | exact List.mem_cons_self | exact List.mem_cons_of_mem _ List.mem_cons_self)))) ?_ | refine And.intro (pend_q rfl rfl rfl (qt_callF rfl (fun _ => dnum1 _ _ _ _ (m.list.len : Int) (nm_len (by omega)) (by first | exact List.mem_cons_self | exact List.mem_cons_of_mem _ List.mem_cons_self)))) ?_ | refine And.intro (pend_q rfl rfl rfl (qt_callF rfl (fun _ => dtext_ok _ _ m.text (by omega)))) ?_ | refine And.intro (pend_q rfl rfl rfl (qt_callF rfl (fun _ => dnums_ok _ _ m.list hmo.list u8'))) ?_ | refine And.intro (pend_q rfl rfl rfl (qt_concat rfl rfl z1)) ?_ | refine And.intro (pend_q rfl rfl rfl (qt_concat rfl rfl z2)) ?_ | refine And.intro (pend_q rfl rfl rfl (qt_concat rfl rfl z3)) ?_ | refine And.intro (pend_q rfl rfl rfl (qt_concat rfl rfl z4)) ?_)), ?_⟩
        refine pr_end (by decide +kernel) (by decide +kernel) ?_
        repeat (first | with_reducible (first | refine cS ?_ | refine cR ?_ | refine cN ?_ | refine cK ?_ | refine cB ?_ | refine cI ?_) | refine cE rfl ?_ | refine rq (qt_pev tok rfl) ?_ | refine rg rfl rfl (qt_pev tok rfl) ?_ | refine rq (ql tok rfl) ?_ | refine rg rfl rfl (ql tok rfl) ?_ | (refine runL_op0 (sst tok rfl rfl rfl rfl rfl) ?_; rintro _ _ _ ⟨rfl, rfl, rfl⟩) | ((first | refine ro (st_box rfl) ?_ | refine ro (st_alloc tok rfl) ?_ | refine ro (st_buildSlice tok rfl rfl rfl rfl rfl rfl rfl) ?_); rintro _ _ _ ⟨_, rfl, rfl, rfl⟩))
        refine run_mem (fun _ h => h.drop.drop.drop) ?_
        refine run_sub' (hnext _ _ _ ⟨hlt, rfl, rfl, rfl⟩) ⟨lk_succ rfl (by omega), hstr, rfl, rfl, trivial⟩
      · refine eff1 22 rfl (st_buildSlice tok rfl rfl rfl rfl rfl rfl rfl) (by decide +kernel) (qs := [26, 25, 16, 15, 11, 10, 9, 8, 7, 6, 5, 4, 3, 2, 1, 0]) (by decide +kernel) rfl rfl rfl ?_
        rintro _ _ _ ⟨_, rfl, rfl, rfl⟩
        refine ⟨by (repeat (first | exact trivial | refine And.intro (pend_q rfl rfl rfl (qt_pev tok rfl)) ?_ | refine And.intro (pend_q rfl rfl rfl (ql tok rfl)) ?_ | refine And.intro (pend_q rfl rfl rfl (qt_callF rfl (fun _ => d5 _ _ _ (by first | exact List.mem_cons_self | exact List.mem_cons_of_mem _ List.mem_cons_self)))) ?_ | refine And.intro (pend_q rfl rfl rfl (qt_callF rfl (fun _ => dnum1 _ _ _ _ (m.list.len : Int) (nm_len (by omega)) (by first | exact List.mem_cons_self | exact List.mem_cons_of_mem _ List.mem_cons_self)))) ?_ | refine And.intro (pend_q rfl rfl rfl (qt_callF rfl (fun _ => dtext_ok _ _ m.text (by omega)))) ?_ | refine And.intro (pend_q rfl rfl rfl (qt_callF rfl (fun _ => dnums_ok _ _ m.list hmo.list u8'))) ?_ | refine And.intro (pend_q rfl rfl rfl (qt_concat rfl rfl z1)) ?_ | refine And.intro (pend_q rfl rfl rfl (qt_concat rfl rfl z2)) ?_ | refine And.intro (pend_q rfl rfl rfl (qt_concat rfl rfl z3)) ?_ | refine And.intro (pend_q rfl rfl rfl (qt_concat rfl rfl z4)) ?_)), ?_⟩
        refine pr_one 12 (by decide +kernel) (eff1 12 rfl (st_buildSlice tok rfl rfl rfl rfl rfl rfl rfl) (by decide +kernel) (qs := [26, 25, 21, 20, 19, 16, 15, 0]) (by decide +kernel) rfl rfl rfl ?_)
        rintro _ _ _ ⟨_, rfl, rfl, rfl⟩
        refine ⟨by (repeat (first | exact trivial | refine And.intro (pend_q rfl rfl rfl (qt_pev tok rfl)) ?_ | refine And.intro (pend_q rfl rfl rfl (ql tok rfl)) ?_ | refine And.intro (pend_q rfl rfl rfl (qt_callF rfl (fun _ => d5 _ _ _ (by first | exact List.mem_cons_self | exact List.mem_cons_of_mem _ List.mem_cons_self)))) ?_ | refine And.intro (pend_q rfl rfl rfl (qt_callF rfl (fun _ => dnum1 _ _ _ _ (m.list.len : Int) (nm_len (by omega)) (by first | exact List.mem_cons_self | exact List.mem_cons_of_mem _ List.mem_cons_self)))) ?_ | refine And.intro (pend_q rfl rfl rfl (qt_callF rfl (fun _ => dtext_ok _ _ m.text (by omega)))) ?_ | refine And.intro (pend_q rfl rfl rfl (qt_callF rfl (fun _ => dnums_ok _ _ m.list hmo.list u8'))) ?_ | refine And.intro (pend_q rfl rfl rfl (qt_concat rfl rfl z1)) ?_ | refine And.intro (pend_q rfl rfl rfl (qt_concat rfl rfl z2)) ?_ | refine And.intro (pend_q rfl rfl rfl (qt_concat rfl rfl z3)) ?_ | refine And.intro (pend_q rfl rfl rfl (qt_concat rfl rfl z4)) ?_)), ?_⟩
        refine pr_q 13 (by decide +kernel) rfl (qt_callF rfl (fun _ => d5 _ _ _ (by first | exact List.mem_cons_self | exact List.mem_cons_of_mem _ List.mem_cons_self))) rfl rfl rfl ?_
        refine pr_q 14 (by decide +kernel) rfl (qt_concat rfl rfl z1) rfl rfl rfl ?_
        refine pr_q 17 (by decide +kernel) rfl (qt_callF rfl (fun _ => dtext_ok _ _ m.text (by omega))) rfl rfl rfl ?_
        refine pr_q 18 (by decide +kernel) rfl (qt_concat rfl rfl z2) rfl rfl rfl ?_
        refine pr_q 23 (by decide +kernel) rfl (qt_callF rfl (fun _ => dnum1 _ _ _ _ (m.list.len : Int) (nm_len (by omega)) (by first | exact List.mem_cons_self | exact List.mem_cons_of_mem _ List.mem_cons_self))) rfl rfl rfl ?_
        refine pr_q 24 (by decide +kernel) rfl (qt_concat rfl rfl z3) rfl rfl rfl ?_
        refine pr_q 27 (by decide +kernel) rfl (qt_callF rfl (fun _ => dnums_ok _ _ m.list hmo.list u8')) rfl rfl rfl ?_
        refine pr_q 28 (by decide +kernel) rfl (qt_concat rfl rfl z4) rfl rfl rfl ?_
        refine pr_one 29 (by decide +kernel) (eff1 29 rfl (qt_pev tok rfl) (by decide +kernel) (qs := []) (by decide +kernel) rfl rfl rfl ?_)
        rintro _ _ _ ⟨rfl, rfl, rfl⟩
        refine ⟨by (repeat (first | exact trivial | refine And.intro (pend_q rfl rfl rfl (qt_pev tok rfl)) ?_ | refine And.intro (pend_q rfl rfl rfl (ql tok rfl)) ?_ | refine And.intro (pend_q rfl rfl rfl (qt_callF rfl (fun _ => d5 _ _ _ (by first | exact List.mem_cons_self | exact List.mem_cons_of_mem _ List.mem_cons_self)))) ?_ | refine And.intro (pend_q rfl rfl rfl (qt_callF rfl (fun _ => dnum1 _ _ _ _ (m.list.len : Int) (nm_len (by omega)) (by first | exact List.mem_cons_self | exact List.mem_cons_of_mem _ List.mem_cons_self)))) ?_ | refine And.intro (pend_q rfl rfl rfl (qt_callF rfl (fun _ => dtext_ok _ _ m.text (by omega)))) ?_ | refine And.intro (pend_q rfl rfl rfl (qt_callF rfl (fun _ => dnums_ok _ _ m.list hmo.list u8'))) ?_ | refine And.intro (pend_q rfl rfl rfl (qt_concat rfl rfl z1)) ?_ | refine And.intro (pend_q rfl rfl rfl (qt_concat rfl rfl z2)) ?_ | refine And.intro (pend_q rfl rfl rfl (qt_concat rfl rfl z3)) ?_ | refine And.intro (pend_q rfl rfl rfl (qt_concat rfl rfl z4)) ?_)), ?_⟩
        refine pr_end (by decide +kernel) (by decide +kernel) ?_
        repeat (first | with_reducible (first | refine cS ?_ | refine cR ?_ | refine cN ?_ | refine cK ?_ | refine cB ?_ | refine cI ?_) | refine cE rfl ?_ | refine rq (qt_pev tok rfl) ?_ | refine rg rfl rfl (qt_pev tok rfl) ?_ | refine rq (ql tok rfl) ?_ | refine rg rfl rfl (ql tok rfl) ?_ | (refine runL_op0 (sst tok rfl rfl rfl rfl rfl) ?_; rintro _ _ _ ⟨rfl, rfl, rfl⟩) | ((first | refine ro (st_box rfl) ?_ | refine ro (st_alloc tok rfl) ?_ | refine ro (st_buildSlice tok rfl rfl rfl rfl rfl rfl rfl) ?_); rintro _ _ _ ⟨_, rfl, rfl, rfl⟩))
        refine run_mem (fun _ h => h.drop.drop.drop) ?_
        refine run_sub' (hnext _ _ _ ⟨hlt, rfl, rfl, rfl⟩) ⟨lk_succ rfl (by omega), hstr, rfl, rfl, trivial⟩
    · have hge : j = x.steps.len := by simp at h; omega
      rw [hge, List.take_of_length_le (by omega)]
      refine run_exit rfl ?_
      exact run_sub' (hcut _ _ _ ⟨rfl, rfl, rfl⟩) ⟨rfl, rfl, rfl, trivial⟩
  rintro _ _ _ ⟨rfl, rfl, rfl⟩
  repeat (first | with_reducible (first | refine cS ?_ | refine cR ?_ | refine cN ?_ | refine cK ?_ | refine cB ?_ | refine cI ?_) | refine cE rfl ?_ | refine rq (qt_pev tok rfl) ?_ | refine rg rfl rfl (qt_pev tok rfl) ?_ | refine rq (ql tok rfl) ?_ | refine rg rfl rfl (ql tok rfl) ?_ | (refine runL_op0 (sst tok rfl rfl rfl rfl rfl) ?_; rintro _ _ _ ⟨rfl, rfl, rfl⟩) | ((first | refine ro (st_box rfl) ?_ | refine ro (st_alloc tok rfl) ?_ | refine ro (st_buildSlice tok rfl rfl rfl rfl rfl rfl rfl) ?_); rintro _ _ _ ⟨_, rfl, rfl, rfl⟩))
  exact run_ret hC (rs := [.tmp 2]) rfl (resT rfl resN) (fun _ h => h.drop.drop) ⟨rfl, rfl, rfl⟩
end Go.Proofs.Ytbpgiodfccijmaa
namespace Go.Proofs.Ytbpgiodfccijmaa
open Go.Chi

/-! ### what is too long; acts whose rows are their own; the chapter's examples -/
theorem rFlatOne {α : Type} {f : α → List Value} (h : ∀ r, ∀ u ∈ f r, u.oneCell' = true) (l : List α) : ∀ u ∈ (l.map f).flatten, u.oneCell' = true := by
  intro u hu
  obtain ⟨x, hx, hu⟩ := List.mem_flatten.1 hu
  obtain ⟨y, _, rfl⟩ := List.mem_map.1 hx
  exact h y u hu
/-- acts as they are handed over -/
structure AxIn (M : Mem) (x : Ax) : Prop where
  gives : x.gives.Ok M
  steps : SlM M 7 x.steps.a x.steps.len (x.steps.xs.map srC)
  each : ∀ y ∈ x.steps.xs, SlM M 1 y.list.a y.list.len (y.list.xs.map inC)
structure SaIn (M : Mem) (s : SAx) : Prop where
  sl : SlM M 10 s.a s.len (s.xs.map axC)
  each : ∀ x ∈ s.xs, AxIn M x
structure LimA (x : Ax) : Prop where
  g : x.gives.len ≤ 20
  s : x.steps.len ≤ 100
  pay : ∀ m ∈ x.gives.xs, m.digest.size ≤ 8192
  step : ∀ y ∈ x.steps.xs, y.text.size ≤ 4096 ∧ y.list.len ≤ 100
def LimL (s : SAx) : Prop := s.len ≤ 60 ∧ ∀ x ∈ s.xs, LimA x
theorem SaIn.ok {M : Mem} {s : SAx} (h : SaIn M s) (hl : LimL s) : SaOk M s := by
  refine ⟨h.sl, by have := hl.1; omega, fun x hx => ?_⟩
  have h1 := h.each x hx
  have h2 := hl.2 x hx
  refine ⟨⟨h1.gives, by have := h2.g; omega⟩, ⟨h1.steps, by have := h2.s; omega, fun y hy => ⟨⟨h1.each y hy, by have := (h2.step y hy).2; omega⟩, by have := (h2.step y hy).1; omega⟩⟩, fun m hm => by have := h2.pay m hm; omega⟩
theorem SaIn.le {M M' : Mem} {s : SAx} (hm : M.le M') (h : SaIn M s) : SaIn M' s := ⟨h.sl.le hm, fun x hx => ⟨(h.each x hx).gives.le hm, (h.each x hx).steps.le hm, fun y hy => ((h.each x hx).each y hy).le hm⟩⟩
theorem all_cons_snoc {α : Type} {xs : List α} {j : Nat} {x : α} {P : α → Prop} (hx : xs[j]? = some x) (h : ∀ y ∈ xs.take j, P y) (hp : P x) : ∀ y ∈ xs.take (j + 1), P y := by
  intro y hy
  rw [take_snoc hx] at hy
  rcases List.mem_append.1 hy with hy | hy
  · exact h y hy
  · rw [List.mem_singleton.1 hy]; exact hp
set_option maxRecDepth 10000 in
set_option maxHeartbeats 32000000 in
theorem slong_ok (M : Mem) (L : HL) (s : SAx) (hs : SaIn M s) : Tr Try.prog 7 [s.v] M L (fun v M' L' => M = M' ∧ L = L' ∧ ∃ b : Bool, v = .bool b ∧ (b = false → LimL s)) := by
  have hlen : s.xs.length = s.len := by have := hs.sl.1; simpa using this
  obtain ⟨la, ln, lc, xs⟩ := s
  simp only [SAx.v] at *
  refine Tr.intro 113 Try.func7 rfl rfl Try.call7 rfl ?_
  intro C hC hro
  repeat (first | with_reducible (first | refine cS ?_ | refine cR ?_ | refine cN ?_ | refine cK ?_ | refine cB ?_ | refine cI ?_) | refine cE rfl ?_ | refine rq (qt_pev tok rfl) ?_ | refine rg rfl rfl (qt_pev tok rfl) ?_ | refine rq (ql tok rfl) ?_ | refine rg rfl rfl (ql tok rfl) ?_ | (refine runL_op0 (sst tok rfl rfl rfl rfl rfl) ?_; rintro _ _ _ ⟨rfl, rfl, rfl⟩) | ((first | refine ro (st_box rfl) ?_ | refine ro (st_alloc tok rfl) ?_ | refine ro (st_buildSlice tok rfl rfl rfl rfl rfl rfl rfl) ?_); rintro _ _ _ ⟨_, rfl, rfl, rfl⟩))
  refine run_cond rfl (fun h => ?_) (fun h => ?_)
  · repeat (first | with_reducible (first | refine cS ?_ | refine cR ?_ | refine cN ?_ | refine cK ?_ | refine cB ?_ | refine cI ?_) | refine cE rfl ?_ | refine rq (qt_pev tok rfl) ?_ | refine rg rfl rfl (qt_pev tok rfl) ?_ | refine rq (ql tok rfl) ?_ | refine rg rfl rfl (ql tok rfl) ?_ | (refine runL_op0 (sst tok rfl rfl rfl rfl rfl) ?_; rintro _ _ _ ⟨rfl, rfl, rfl⟩) | ((first | refine ro (st_box rfl) ?_ | refine ro (st_alloc tok rfl) ?_ | refine ro (st_buildSlice tok rfl rfl rfl rfl rfl rfl rfl) ?_); rintro _ _ _ ⟨_, rfl, rfl, rfl⟩))
    exact run_ret hC (rs := [.tmp 2]) rfl (resT rfl resN) (fun _ h => h) ⟨rfl, rfl, true, rfl, fun e => by cases e⟩
  have h60 : ln ≤ 60 := by have := of_decide_eq_false h; omega
  clear h
  repeat (first | with_reducible (first | refine cS ?_ | refine cR ?_ | refine cN ?_ | refine cK ?_ | refine cB ?_ | refine cI ?_) | refine cE rfl ?_ | refine rq (qt_pev tok rfl) ?_ | refine rg rfl rfl (qt_pev tok rfl) ?_ | refine rq (ql tok rfl) ?_ | refine rg rfl rfl (ql tok rfl) ?_ | (refine runL_op0 (sst tok rfl rfl rfl rfl rfl) ?_; rintro _ _ _ ⟨rfl, rfl, rfl⟩) | ((first | refine ro (st_box rfl) ?_ | refine ro (st_alloc tok rfl) ?_ | refine ro (st_buildSlice tok rfl rfl rfl rfl rfl rfl rfl) ?_); rintro _ _ _ ⟨_, rfl, rfl, rfl⟩))
  refine run_loopN (fun j σ1 M1 L1 => j ≤ ln ∧ M = M1 ∧ L = L1 ∧ (∀ x ∈ xs.take j, LimA x) ∧ ∃ n : Int, σ1 = [(4, .int .i64 (j : Int)), (3, .int .i64 n), (0, .slice la ln lc)]) ln [(4, .int .i64 ((0 : Nat) : Int)), (3, .int .i64 0), (0, .slice la ln lc)] ?_ ⟨Nat.zero_le _, rfl, rfl, by simp, 0, rfl⟩ (fun j _ _ _ h => h.1) ?_
  · exact ⟨rfl, rfl, rfl, trivial⟩
  rintro j _ _ _ ⟨hj, rfl, rfl, hpre, n, rfl⟩ hnext
  repeat (first | with_reducible (first | refine cS ?_ | refine cR ?_ | refine cN ?_ | refine cK ?_ | refine cB ?_ | refine cI ?_) | refine cE rfl ?_ | refine rq (qt_pev tok rfl) ?_ | refine rg rfl rfl (qt_pev tok rfl) ?_ | refine rq (ql tok rfl) ?_ | refine rg rfl rfl (ql tok rfl) ?_ | (refine runL_op0 (sst tok rfl rfl rfl rfl rfl) ?_; rintro _ _ _ ⟨rfl, rfl, rfl⟩) | ((first | refine ro (st_box rfl) ?_ | refine ro (st_alloc tok rfl) ?_ | refine ro (st_buildSlice tok rfl rfl rfl rfl rfl rfl rfl) ?_); rintro _ _ _ ⟨_, rfl, rfl, rfl⟩))
  refine run_cond rfl (fun h => ?_) (fun h => ?_)
  rotate_left
  · have hge : j = ln := by simp at h; omega
    subst hge
    rw [List.take_of_length_le (by omega)] at hpre
    repeat (first | with_reducible (first | refine cS ?_ | refine cR ?_ | refine cN ?_ | refine cK ?_ | refine cB ?_ | refine cI ?_) | refine cE rfl ?_ | refine rq (qt_pev tok rfl) ?_ | refine rg rfl rfl (qt_pev tok rfl) ?_ | refine rq (ql tok rfl) ?_ | refine rg rfl rfl (ql tok rfl) ?_ | (refine runL_op0 (sst tok rfl rfl rfl rfl rfl) ?_; rintro _ _ _ ⟨rfl, rfl, rfl⟩) | ((first | refine ro (st_box rfl) ?_ | refine ro (st_alloc tok rfl) ?_ | refine ro (st_buildSlice tok rfl rfl rfl rfl rfl rfl rfl) ?_); rintro _ _ _ ⟨_, rfl, rfl, rfl⟩))
    exact run_ret hC (rs := [.tmp 2]) rfl (resT rfl resN) (fun _ h => h) ⟨rfl, rfl, _, rfl, fun _ => ⟨h60, hpre⟩⟩
  have hlt : j < ln := by simpa using h
  obtain ⟨b, off, x, rfl, hx, hc⟩ := SAx.at_ hs.sl hlt
  have hxi := hs.each x (List.mem_of_getElem? hx)
  have gl : x.gives.xs.length = x.gives.len := by have := hxi.gives.1; simpa using this
  have sl : x.steps.xs.length = x.steps.len := by have := hxi.steps.1; simpa using this
  repeat (first | with_reducible (first | refine cS ?_ | refine cR ?_ | refine cN ?_ | refine cK ?_ | refine cB ?_ | refine cI ?_) | refine cE rfl ?_ | refine rq (qt_pev tok rfl) ?_ | refine rg rfl rfl (qt_pev tok rfl) ?_ | refine rq (ql tok rfl) ?_ | refine rg rfl rfl (ql tok rfl) ?_ | (refine runL_op0 (sst tok rfl rfl rfl rfl rfl) ?_; rintro _ _ _ ⟨rfl, rfl, rfl⟩) | ((first | refine ro (st_box rfl) ?_ | refine ro (st_alloc tok rfl) ?_ | refine ro (st_buildSlice tok rfl rfl rfl rfl rfl rfl rfl) ?_); rintro _ _ _ ⟨_, rfl, rfl, rfl⟩) | refine runL_q (qt_indexN tok rfl rfl rfl rfl (fun _ => by omega)) rfl rfl rfl ?_ | refine runL_g rfl rfl (qt_indexN tok rfl rfl rfl rfl (fun _ => by omega)) rfl rfl rfl rfl rfl ?_ | refine runL_q (qt_ldM tok rfl hc rfl) rfl rfl rfl ?_ | refine runL_g rfl rfl (qt_ldM tok rfl hc rfl) rfl rfl rfl rfl rfl ?_ | refine runL_q (qt_ldM0 tok rfl hc rfl) rfl rfl rfl ?_ | refine runL_g rfl rfl (qt_ldM0 tok rfl hc rfl) rfl rfl rfl rfl rfl ?_)
  refine run_cond rfl (fun h => ?_) (fun h => ?_)
  · repeat (first | with_reducible (first | refine cS ?_ | refine cR ?_ | refine cN ?_ | refine cK ?_ | refine cB ?_ | refine cI ?_) | refine cE rfl ?_ | refine rq (qt_pev tok rfl) ?_ | refine rg rfl rfl (qt_pev tok rfl) ?_ | refine rq (ql tok rfl) ?_ | refine rg rfl rfl (ql tok rfl) ?_ | (refine runL_op0 (sst tok rfl rfl rfl rfl rfl) ?_; rintro _ _ _ ⟨rfl, rfl, rfl⟩) | ((first | refine ro (st_box rfl) ?_ | refine ro (st_alloc tok rfl) ?_ | refine ro (st_buildSlice tok rfl rfl rfl rfl rfl rfl rfl) ?_); rintro _ _ _ ⟨_, rfl, rfl, rfl⟩))
    exact run_ret hC (rs := [.tmp 2]) rfl (resT rfl resN) (fun _ h => h) ⟨rfl, rfl, true, rfl, fun e => by cases e⟩
  have h20 : x.gives.len ≤ 20 ∧ x.steps.len ≤ 100 := by
    have h' : (decide ((x.gives.len : Int) > 20) || decide ((x.steps.len : Int) > 100)) = false := h
    simp only [Bool.or_eq_false_iff, decide_eq_false_iff_not] at h'
    omega
  clear h
  repeat (first | with_reducible (first | refine cS ?_ | refine cR ?_ | refine cN ?_ | refine cK ?_ | refine cB ?_ | refine cI ?_) | refine cE rfl ?_ | refine rq (qt_pev tok rfl) ?_ | refine rg rfl rfl (qt_pev tok rfl) ?_ | refine rq (ql tok rfl) ?_ | refine rg rfl rfl (ql tok rfl) ?_ | (refine runL_op0 (sst tok rfl rfl rfl rfl rfl) ?_; rintro _ _ _ ⟨rfl, rfl, rfl⟩) | ((first | refine ro (st_box rfl) ?_ | refine ro (st_alloc tok rfl) ?_ | refine ro (st_buildSlice tok rfl rfl rfl rfl rfl rfl rfl) ?_); rintro _ _ _ ⟨_, rfl, rfl, rfl⟩))
  refine run_loopN (fun k σ1 M1 L1 => k ≤ x.gives.len ∧ M = M1 ∧ L = L1 ∧ (∀ m ∈ x.gives.xs.take k, m.digest.size ≤ 8192) ∧ ∃ n : Int, σ1 = [(5, .int .i64 (k : Int)), (4, .int .i64 (j : Int)), (3, .int .i64 n), (0, .slice (some ⟨b, off, none⟩) ln lc)]) x.gives.len [(5, .int .i64 ((0 : Nat) : Int)), (4, .int .i64 (j : Int)), (3, .int .i64 n), (0, .slice (some ⟨b, off, none⟩) ln lc)] ?_ ⟨Nat.zero_le _, rfl, rfl, by simp, n, rfl⟩ (fun k _ _ _ h => h.1) ?_
  · exact ⟨rfl, rfl, rfl, rfl, trivial⟩
  rintro k _ _ _ ⟨hk, rfl, rfl, hpreg, n1, rfl⟩ hnx
  repeat (first | with_reducible (first | refine cS ?_ | refine cR ?_ | refine cN ?_ | refine cK ?_ | refine cB ?_ | refine cI ?_) | refine cE rfl ?_ | refine rq (qt_pev tok rfl) ?_ | refine rg rfl rfl (qt_pev tok rfl) ?_ | refine rq (ql tok rfl) ?_ | refine rg rfl rfl (ql tok rfl) ?_ | (refine runL_op0 (sst tok rfl rfl rfl rfl rfl) ?_; rintro _ _ _ ⟨rfl, rfl, rfl⟩) | ((first | refine ro (st_box rfl) ?_ | refine ro (st_alloc tok rfl) ?_ | refine ro (st_buildSlice tok rfl rfl rfl rfl rfl rfl rfl) ?_); rintro _ _ _ ⟨_, rfl, rfl, rfl⟩) | refine runL_q (qt_indexN tok rfl rfl rfl rfl (fun _ => by omega)) rfl rfl rfl ?_ | refine runL_g rfl rfl (qt_indexN tok rfl rfl rfl rfl (fun _ => by omega)) rfl rfl rfl rfl rfl ?_ | refine runL_q (qt_ldM tok rfl hc rfl) rfl rfl rfl ?_ | refine runL_g rfl rfl (qt_ldM tok rfl hc rfl) rfl rfl rfl rfl rfl ?_ | refine runL_q (qt_ldM0 tok rfl hc rfl) rfl rfl rfl ?_ | refine runL_g rfl rfl (qt_ldM0 tok rfl hc rfl) rfl rfl rfl rfl rfl ?_)
  refine run_cond rfl (fun h => ?_) (fun h => ?_)
  · have hkt : k < x.gives.len := by simpa using h
    obtain ⟨b2, off2, m, hma, hm, hc2⟩ := SMb.at_ hxi.gives hkt
    have hv : x.gives.v = .slice (some ⟨b2, off2, none⟩) x.gives.len x.gives.cap := by rw [← hma]; rfl
    repeat (first | with_reducible (first | refine cS ?_ | refine cR ?_ | refine cN ?_ | refine cK ?_ | refine cB ?_ | refine cI ?_) | refine cE rfl ?_ | refine rq (qt_pev tok rfl) ?_ | refine rg rfl rfl (qt_pev tok rfl) ?_ | refine rq (ql tok rfl) ?_ | refine rg rfl rfl (ql tok rfl) ?_ | (refine runL_op0 (sst tok rfl rfl rfl rfl rfl) ?_; rintro _ _ _ ⟨rfl, rfl, rfl⟩) | ((first | refine ro (st_box rfl) ?_ | refine ro (st_alloc tok rfl) ?_ | refine ro (st_buildSlice tok rfl rfl rfl rfl rfl rfl rfl) ?_); rintro _ _ _ ⟨_, rfl, rfl, rfl⟩) | refine runL_q (qt_indexN tok rfl rfl rfl rfl (fun _ => by omega)) rfl rfl rfl ?_ | refine runL_g rfl rfl (qt_indexN tok rfl rfl rfl rfl (fun _ => by omega)) rfl rfl rfl rfl rfl ?_ | refine runL_q (qt_ldM tok rfl hc rfl) rfl rfl rfl ?_ | refine runL_g rfl rfl (qt_ldM tok rfl hc rfl) rfl rfl rfl rfl rfl ?_ | refine runL_q (qt_ldM0 tok rfl hc rfl) rfl rfl rfl ?_ | refine runL_g rfl rfl (qt_ldM0 tok rfl hc rfl) rfl rfl rfl rfl rfl ?_)
    refine runL_as 46 (.slice (some ⟨b2, off2, none⟩) x.gives.len x.gives.cap) rfl hv ?_
    repeat (first | with_reducible (first | refine cS ?_ | refine cR ?_ | refine cN ?_ | refine cK ?_ | refine cB ?_ | refine cI ?_) | refine cE rfl ?_ | refine rq (qt_pev tok rfl) ?_ | refine rg rfl rfl (qt_pev tok rfl) ?_ | refine rq (ql tok rfl) ?_ | refine rg rfl rfl (ql tok rfl) ?_ | (refine runL_op0 (sst tok rfl rfl rfl rfl rfl) ?_; rintro _ _ _ ⟨rfl, rfl, rfl⟩) | ((first | refine ro (st_box rfl) ?_ | refine ro (st_alloc tok rfl) ?_ | refine ro (st_buildSlice tok rfl rfl rfl rfl rfl rfl rfl) ?_); rintro _ _ _ ⟨_, rfl, rfl, rfl⟩) | refine runL_q (qt_indexN tok rfl rfl rfl rfl (fun _ => by omega)) rfl rfl rfl ?_ | refine runL_g rfl rfl (qt_indexN tok rfl rfl rfl rfl (fun _ => by omega)) rfl rfl rfl rfl rfl ?_ | refine runL_q (qt_ldM tok rfl hc2 rfl) rfl rfl rfl ?_ | refine runL_g rfl rfl (qt_ldM tok rfl hc2 rfl) rfl rfl rfl rfl rfl ?_ | refine runL_q (qt_ldM0 tok rfl hc2 rfl) rfl rfl rfl ?_ | refine runL_g rfl rfl (qt_ldM0 tok rfl hc2 rfl) rfl rfl rfl rfl rfl ?_)
    refine run_cond rfl (fun h => ?_) (fun h => ?_)
    · repeat (first | with_reducible (first | refine cS ?_ | refine cR ?_ | refine cN ?_ | refine cK ?_ | refine cB ?_ | refine cI ?_) | refine cE rfl ?_ | refine rq (qt_pev tok rfl) ?_ | refine rg rfl rfl (qt_pev tok rfl) ?_ | refine rq (ql tok rfl) ?_ | refine rg rfl rfl (ql tok rfl) ?_ | (refine runL_op0 (sst tok rfl rfl rfl rfl rfl) ?_; rintro _ _ _ ⟨rfl, rfl, rfl⟩) | ((first | refine ro (st_box rfl) ?_ | refine ro (st_alloc tok rfl) ?_ | refine ro (st_buildSlice tok rfl rfl rfl rfl rfl rfl rfl) ?_); rintro _ _ _ ⟨_, rfl, rfl, rfl⟩))
      exact run_ret hC (rs := [.tmp 2]) rfl (resT rfl resN) (fun _ h => h) ⟨rfl, rfl, true, rfl, fun e => by cases e⟩
    have h8 : m.digest.size ≤ 8192 := by have := of_decide_eq_false h; omega
    repeat (first | with_reducible (first | refine cS ?_ | refine cR ?_ | refine cN ?_ | refine cK ?_ | refine cB ?_ | refine cI ?_) | refine cE rfl ?_ | refine rq (qt_pev tok rfl) ?_ | refine rg rfl rfl (qt_pev tok rfl) ?_ | refine rq (ql tok rfl) ?_ | refine rg rfl rfl (ql tok rfl) ?_ | (refine runL_op0 (sst tok rfl rfl rfl rfl rfl) ?_; rintro _ _ _ ⟨rfl, rfl, rfl⟩) | ((first | refine ro (st_box rfl) ?_ | refine ro (st_alloc tok rfl) ?_ | refine ro (st_buildSlice tok rfl rfl rfl rfl rfl rfl rfl) ?_); rintro _ _ _ ⟨_, rfl, rfl, rfl⟩) | refine runL_q (qt_indexN tok rfl rfl rfl rfl (fun _ => by omega)) rfl rfl rfl ?_ | refine runL_g rfl rfl (qt_indexN tok rfl rfl rfl rfl (fun _ => by omega)) rfl rfl rfl rfl rfl ?_ | refine runL_q (qt_ldM tok rfl hc rfl) rfl rfl rfl ?_ | refine runL_g rfl rfl (qt_ldM tok rfl hc rfl) rfl rfl rfl rfl rfl ?_ | refine runL_q (qt_ldM0 tok rfl hc rfl) rfl rfl rfl ?_ | refine runL_g rfl rfl (qt_ldM0 tok rfl hc rfl) rfl rfl rfl rfl rfl ?_)
    refine runL_as 58 (.slice (some ⟨b2, off2, none⟩) x.gives.len x.gives.cap) rfl hv ?_
    repeat (first | with_reducible (first | refine cS ?_ | refine cR ?_ | refine cN ?_ | refine cK ?_ | refine cB ?_ | refine cI ?_) | refine cE rfl ?_ | refine rq (qt_pev tok rfl) ?_ | refine rg rfl rfl (qt_pev tok rfl) ?_ | refine rq (ql tok rfl) ?_ | refine rg rfl rfl (ql tok rfl) ?_ | (refine runL_op0 (sst tok rfl rfl rfl rfl rfl) ?_; rintro _ _ _ ⟨rfl, rfl, rfl⟩) | ((first | refine ro (st_box rfl) ?_ | refine ro (st_alloc tok rfl) ?_ | refine ro (st_buildSlice tok rfl rfl rfl rfl rfl rfl rfl) ?_); rintro _ _ _ ⟨_, rfl, rfl, rfl⟩) | refine runL_q (qt_indexN tok rfl rfl rfl rfl (fun _ => by omega)) rfl rfl rfl ?_ | refine runL_g rfl rfl (qt_indexN tok rfl rfl rfl rfl (fun _ => by omega)) rfl rfl rfl rfl rfl ?_ | refine runL_q (qt_ldM tok rfl hc2 rfl) rfl rfl rfl ?_ | refine runL_g rfl rfl (qt_ldM tok rfl hc2 rfl) rfl rfl rfl rfl rfl ?_ | refine runL_q (qt_ldM0 tok rfl hc2 rfl) rfl rfl rfl ?_ | refine runL_g rfl rfl (qt_ldM0 tok rfl hc2 rfl) rfl rfl rfl rfl rfl ?_)
    exact run_sub' (hnx _ _ _ ⟨hkt, rfl, rfl, all_cons_snoc hm hpreg h8, _, rfl⟩) ⟨lk_succ rfl (by omega), rfl, rfl, rfl, trivial⟩
  have hgeg : k = x.gives.len := by simp at h; omega
  rw [hgeg, List.take_of_length_le (by omega)] at hpreg
  clear hnx h
  repeat (first | with_reducible (first | refine cS ?_ | refine cR ?_ | refine cN ?_ | refine cK ?_ | refine cB ?_ | refine cI ?_) | refine cE rfl ?_ | refine rq (qt_pev tok rfl) ?_ | refine rg rfl rfl (qt_pev tok rfl) ?_ | refine rq (ql tok rfl) ?_ | refine rg rfl rfl (ql tok rfl) ?_ | (refine runL_op0 (sst tok rfl rfl rfl rfl rfl) ?_; rintro _ _ _ ⟨rfl, rfl, rfl⟩) | ((first | refine ro (st_box rfl) ?_ | refine ro (st_alloc tok rfl) ?_ | refine ro (st_buildSlice tok rfl rfl rfl rfl rfl rfl rfl) ?_); rintro _ _ _ ⟨_, rfl, rfl, rfl⟩))
  refine run_loopN (fun k σ1 M1 L1 => k ≤ x.steps.len ∧ M = M1 ∧ L = L1 ∧ (∀ y ∈ x.steps.xs.take k, y.text.size ≤ 4096 ∧ y.list.len ≤ 100) ∧ ∃ n : Int, σ1 = [(6, .int .i64 (k : Int)), (4, .int .i64 (j : Int)), (3, .int .i64 n), (0, .slice (some ⟨b, off, none⟩) ln lc)]) x.steps.len [(6, .int .i64 ((0 : Nat) : Int)), (4, .int .i64 (j : Int)), (3, .int .i64 n1), (0, .slice (some ⟨b, off, none⟩) ln lc)] ?_ ⟨Nat.zero_le _, rfl, rfl, by simp, n1, rfl⟩ (fun k _ _ _ h => h.1) ?_
  · exact ⟨rfl, rfl, rfl, rfl, trivial⟩
  rintro i _ _ _ ⟨hi, rfl, rfl, hpres, n2, rfl⟩ hnx
  repeat (first | with_reducible (first | refine cS ?_ | refine cR ?_ | refine cN ?_ | refine cK ?_ | refine cB ?_ | refine cI ?_) | refine cE rfl ?_ | refine rq (qt_pev tok rfl) ?_ | refine rg rfl rfl (qt_pev tok rfl) ?_ | refine rq (ql tok rfl) ?_ | refine rg rfl rfl (ql tok rfl) ?_ | (refine runL_op0 (sst tok rfl rfl rfl rfl rfl) ?_; rintro _ _ _ ⟨rfl, rfl, rfl⟩) | ((first | refine ro (st_box rfl) ?_ | refine ro (st_alloc tok rfl) ?_ | refine ro (st_buildSlice tok rfl rfl rfl rfl rfl rfl rfl) ?_); rintro _ _ _ ⟨_, rfl, rfl, rfl⟩) | refine runL_q (qt_indexN tok rfl rfl rfl rfl (fun _ => by omega)) rfl rfl rfl ?_ | refine runL_g rfl rfl (qt_indexN tok rfl rfl rfl rfl (fun _ => by omega)) rfl rfl rfl rfl rfl ?_ | refine runL_q (qt_ldM tok rfl hc rfl) rfl rfl rfl ?_ | refine runL_g rfl rfl (qt_ldM tok rfl hc rfl) rfl rfl rfl rfl rfl ?_ | refine runL_q (qt_ldM0 tok rfl hc rfl) rfl rfl rfl ?_ | refine runL_g rfl rfl (qt_ldM0 tok rfl hc rfl) rfl rfl rfl rfl rfl ?_)
  refine run_cond rfl (fun h => ?_) (fun h => ?_)
  · have hkt : i < x.steps.len := by simpa using h
    obtain ⟨b2, off2, y, hma, hm, hc2⟩ := SSr.at_ hxi.steps hkt
    have hv : x.steps.v = .slice (some ⟨b2, off2, none⟩) x.steps.len x.steps.cap := by rw [← hma]; rfl
    repeat (first | with_reducible (first | refine cS ?_ | refine cR ?_ | refine cN ?_ | refine cK ?_ | refine cB ?_ | refine cI ?_) | refine cE rfl ?_ | refine rq (qt_pev tok rfl) ?_ | refine rg rfl rfl (qt_pev tok rfl) ?_ | refine rq (ql tok rfl) ?_ | refine rg rfl rfl (ql tok rfl) ?_ | (refine runL_op0 (sst tok rfl rfl rfl rfl rfl) ?_; rintro _ _ _ ⟨rfl, rfl, rfl⟩) | ((first | refine ro (st_box rfl) ?_ | refine ro (st_alloc tok rfl) ?_ | refine ro (st_buildSlice tok rfl rfl rfl rfl rfl rfl rfl) ?_); rintro _ _ _ ⟨_, rfl, rfl, rfl⟩) | refine runL_q (qt_indexN tok rfl rfl rfl rfl (fun _ => by omega)) rfl rfl rfl ?_ | refine runL_g rfl rfl (qt_indexN tok rfl rfl rfl rfl (fun _ => by omega)) rfl rfl rfl rfl rfl ?_ | refine runL_q (qt_ldM tok rfl hc rfl) rfl rfl rfl ?_ | refine runL_g rfl rfl (qt_ldM tok rfl hc rfl) rfl rfl rfl rfl rfl ?_ | refine runL_q (qt_ldM0 tok rfl hc rfl) rfl rfl rfl ?_ | refine runL_g rfl rfl (qt_ldM0 tok rfl hc rfl) rfl rfl rfl rfl rfl ?_)
    refine runL_as 79 (.slice (some ⟨b2, off2, none⟩) x.steps.len x.steps.cap) rfl hv ?_
    repeat (first | with_reducible (first | refine cS ?_ | refine cR ?_ | refine cN ?_ | refine cK ?_ | refine cB ?_ | refine cI ?_) | refine cE rfl ?_ | refine rq (qt_pev tok rfl) ?_ | refine rg rfl rfl (qt_pev tok rfl) ?_ | refine rq (ql tok rfl) ?_ | refine rg rfl rfl (ql tok rfl) ?_ | (refine runL_op0 (sst tok rfl rfl rfl rfl rfl) ?_; rintro _ _ _ ⟨rfl, rfl, rfl⟩) | ((first | refine ro (st_box rfl) ?_ | refine ro (st_alloc tok rfl) ?_ | refine ro (st_buildSlice tok rfl rfl rfl rfl rfl rfl rfl) ?_); rintro _ _ _ ⟨_, rfl, rfl, rfl⟩) | refine runL_g rfl rfl (Qt.as (v' := Value.slice (some ⟨b2, off2, none⟩) x.steps.len x.steps.cap) (qt_ldM tok rfl hc rfl) hv) rfl rfl rfl rfl rfl ?_ | refine runL_q (qt_indexN tok rfl rfl rfl rfl (fun _ => by omega)) rfl rfl rfl ?_ | refine runL_g rfl rfl (qt_indexN tok rfl rfl rfl rfl (fun _ => by omega)) rfl rfl rfl rfl rfl ?_ | refine runL_q (qt_ldM tok rfl hc2 rfl) rfl rfl rfl ?_ | refine runL_g rfl rfl (qt_ldM tok rfl hc2 rfl) rfl rfl rfl rfl rfl ?_ | refine runL_q (qt_ldM0 tok rfl hc2 rfl) rfl rfl rfl ?_ | refine runL_g rfl rfl (qt_ldM0 tok rfl hc2 rfl) rfl rfl rfl rfl rfl ?_ | refine runL_q (qt_indexN tok rfl rfl rfl rfl (fun _ => by omega)) rfl rfl rfl ?_ | refine runL_g rfl rfl (qt_indexN tok rfl rfl rfl rfl (fun _ => by omega)) rfl rfl rfl rfl rfl ?_ | refine runL_q (qt_ldM tok rfl hc rfl) rfl rfl rfl ?_ | refine runL_g rfl rfl (qt_ldM tok rfl hc rfl) rfl rfl rfl rfl rfl ?_ | refine runL_q (qt_ldM0 tok rfl hc rfl) rfl rfl rfl ?_ | refine runL_g rfl rfl (qt_ldM0 tok rfl hc rfl) rfl rfl rfl rfl rfl ?_)
    refine run_cond rfl (fun h => ?_) (fun h => ?_)
    · repeat (first | with_reducible (first | refine cS ?_ | refine cR ?_ | refine cN ?_ | refine cK ?_ | refine cB ?_ | refine cI ?_) | refine cE rfl ?_ | refine rq (qt_pev tok rfl) ?_ | refine rg rfl rfl (qt_pev tok rfl) ?_ | refine rq (ql tok rfl) ?_ | refine rg rfl rfl (ql tok rfl) ?_ | (refine runL_op0 (sst tok rfl rfl rfl rfl rfl) ?_; rintro _ _ _ ⟨rfl, rfl, rfl⟩) | ((first | refine ro (st_box rfl) ?_ | refine ro (st_alloc tok rfl) ?_ | refine ro (st_buildSlice tok rfl rfl rfl rfl rfl rfl rfl) ?_); rintro _ _ _ ⟨_, rfl, rfl, rfl⟩))
      exact run_ret hC (rs := [.tmp 2]) rfl (resT rfl resN) (fun _ h => h) ⟨rfl, rfl, true, rfl, fun e => by cases e⟩
    have h8 : y.text.size ≤ 4096 ∧ y.list.len ≤ 100 := by
      have h' : (decide ((y.text.size : Int) > 4096) || decide ((y.list.len : Int) > 100)) = false := h
      simp only [Bool.or_eq_false_iff, decide_eq_false_iff_not] at h'
      omega
    repeat (first | with_reducible (first | refine cS ?_ | refine cR ?_ | refine cN ?_ | refine cK ?_ | refine cB ?_ | refine cI ?_) | refine cE rfl ?_ | refine rq (qt_pev tok rfl) ?_ | refine rg rfl rfl (qt_pev tok rfl) ?_ | refine rq (ql tok rfl) ?_ | refine rg rfl rfl (ql tok rfl) ?_ | (refine runL_op0 (sst tok rfl rfl rfl rfl rfl) ?_; rintro _ _ _ ⟨rfl, rfl, rfl⟩) | ((first | refine ro (st_box rfl) ?_ | refine ro (st_alloc tok rfl) ?_ | refine ro (st_buildSlice tok rfl rfl rfl rfl rfl rfl rfl) ?_); rintro _ _ _ ⟨_, rfl, rfl, rfl⟩) | refine runL_q (qt_indexN tok rfl rfl rfl rfl (fun _ => by omega)) rfl rfl rfl ?_ | refine runL_g rfl rfl (qt_indexN tok rfl rfl rfl rfl (fun _ => by omega)) rfl rfl rfl rfl rfl ?_ | refine runL_q (qt_ldM tok rfl hc rfl) rfl rfl rfl ?_ | refine runL_g rfl rfl (qt_ldM tok rfl hc rfl) rfl rfl rfl rfl rfl ?_ | refine runL_q (qt_ldM0 tok rfl hc rfl) rfl rfl rfl ?_ | refine runL_g rfl rfl (qt_ldM0 tok rfl hc rfl) rfl rfl rfl rfl rfl ?_)
    refine runL_as 104 (.slice (some ⟨b2, off2, none⟩) x.steps.len x.steps.cap) rfl hv ?_
    repeat (first | with_reducible (first | refine cS ?_ | refine cR ?_ | refine cN ?_ | refine cK ?_ | refine cB ?_ | refine cI ?_) | refine cE rfl ?_ | refine rq (qt_pev tok rfl) ?_ | refine rg rfl rfl (qt_pev tok rfl) ?_ | refine rq (ql tok rfl) ?_ | refine rg rfl rfl (ql tok rfl) ?_ | (refine runL_op0 (sst tok rfl rfl rfl rfl rfl) ?_; rintro _ _ _ ⟨rfl, rfl, rfl⟩) | ((first | refine ro (st_box rfl) ?_ | refine ro (st_alloc tok rfl) ?_ | refine ro (st_buildSlice tok rfl rfl rfl rfl rfl rfl rfl) ?_); rintro _ _ _ ⟨_, rfl, rfl, rfl⟩) | refine runL_q (qt_indexN tok rfl rfl rfl rfl (fun _ => by omega)) rfl rfl rfl ?_ | refine runL_g rfl rfl (qt_indexN tok rfl rfl rfl rfl (fun _ => by omega)) rfl rfl rfl rfl rfl ?_ | refine runL_q (qt_ldM tok rfl hc2 rfl) rfl rfl rfl ?_ | refine runL_g rfl rfl (qt_ldM tok rfl hc2 rfl) rfl rfl rfl rfl rfl ?_ | refine runL_q (qt_ldM0 tok rfl hc2 rfl) rfl rfl rfl ?_ | refine runL_g rfl rfl (qt_ldM0 tok rfl hc2 rfl) rfl rfl rfl rfl rfl ?_)
    exact run_sub' (hnx _ _ _ ⟨hkt, rfl, rfl, all_cons_snoc hm hpres h8, _, rfl⟩) ⟨lk_succ rfl (by omega), rfl, rfl, rfl, trivial⟩
  have hges : i = x.steps.len := by simp at h; omega
  rw [hges, List.take_of_length_le (by omega)] at hpres
  repeat (first | with_reducible (first | refine cS ?_ | refine cR ?_ | refine cN ?_ | refine cK ?_ | refine cB ?_ | refine cI ?_) | refine cE rfl ?_ | refine rq (qt_pev tok rfl) ?_ | refine rg rfl rfl (qt_pev tok rfl) ?_ | refine rq (ql tok rfl) ?_ | refine rg rfl rfl (ql tok rfl) ?_ | (refine runL_op0 (sst tok rfl rfl rfl rfl rfl) ?_; rintro _ _ _ ⟨rfl, rfl, rfl⟩) | ((first | refine ro (st_box rfl) ?_ | refine ro (st_alloc tok rfl) ?_ | refine ro (st_buildSlice tok rfl rfl rfl rfl rfl rfl rfl) ?_); rintro _ _ _ ⟨_, rfl, rfl, rfl⟩))
  exact run_sub' (hnext _ _ _ ⟨hlt, rfl, rfl, all_cons_snoc hx hpre ⟨h20.1, h20.2, hpreg, hpres⟩, _, rfl⟩) ⟨lk_succ rfl (by omega), rfl, rfl, trivial⟩
end Go.Proofs.Ytbpgiodfccijmaa
namespace Go.Proofs.Ytbpgiodfccijmaa
open Go.Chi

/-! ### acts whose rows are their own -/
/-- a copy of a list -/
theorem st_copyM {P : Program} {T : TT} {ro : Option Nat} {σ : Env} {δ : Den} {M : Mem} {L : HL} {d : Option Nat} {ty : TypeId} {pos : String} {aft : Array Edge} {g : Option (Nat × Bool)} {cur : Path} {x y : Operand} {t e sz by_ : Nat} {z : Value} {α : Type} {f : α → List Value} {xs : List α} {a : Option Addr} {n c : Nat}
    (hT : TOk P T) (hx : ev σ δ cur x = some (.slice none 0 0)) (hy : ev σ δ cur y = some (.slice a n c)) (ht : und T t = some (.slice e)) (hi : sizeT T e = some sz) (hz : zeroT T e = some z) (hzs : (cellsL z).length = sz) (hb : bytesT T e = some by_) (hby : Nat.ble 1 by_ = true)
    (hs : SlM M sz a n (xs.map f)) (hf : ∀ r, ∀ u ∈ f r, u.oneCell' = true) (hfl : ∀ l ∈ xs.map f, l.length = sz) (hroom : (2 * (0 + n) + 192) * by_ ≤ 281474976710656) (h63 : 0 + n < 9223372036854775808) :
    St P ro ⟨d, .call ⟨.builtin .append, #[x, y], #[t, t]⟩, ty, pos, aft, g⟩ σ δ cur M L (fun v M' L' => M.le M' ∧ L = L' ∧ ∃ a' c', v = .slice a' n c' ∧ SlM M' sz a' n (xs.map f)) := by
  refine St.frz (st_appendG (xs := []) (n := 0) (m := n) hT hx hy ht hi hz hzs hb hby (N := []) (List.Perm.refl _) (OS.nil _ _) (SrcG.ofSlM hs) (rFlatOne hf _) hroom h63) ?_
  rintro v M' L' w hw ⟨N', rfl, rfl, hO⟩
  rw [Nat.zero_add, List.nil_append] at hO
  obtain ⟨M2, a', c', h1, h2, h3, h4⟩ := hw.freezeOS hO hs.1 hfl
  exact ⟨M2, _, h2, h1, rfl, a', c', h3, h4⟩
theorem mbOne (r : Mb) : ∀ u ∈ mbC r, u.oneCell' = true := by intro u hu; simp [mbC] at hu; rcases hu with rfl | rfl <;> rfl
theorem srOne (r : Sr) : ∀ u ∈ srC r, u.oneCell' = true := by
  intro u hu
  simp only [srC, List.mem_cons, List.not_mem_nil, or_false] at hu
  rcases hu with rfl | rfl | rfl | rfl | rfl | rfl | rfl <;> rfl
theorem inOne' (r : Int) : ∀ u ∈ inC r, u.oneCell' = true := by intro u hu; simp [inC] at hu; subst hu; rfl
theorem axOne' (r : Ax) : ∀ u ∈ axC r, u.oneCell' = true := by
  intro u hu
  simp only [axC, List.mem_cons, List.not_mem_nil, or_false] at hu
  rcases hu with rfl | rfl | rfl | rfl | rfl | rfl | rfl | rfl | rfl | rfl <;> rfl
theorem sr_all' (xs : List Sr) : ∀ l ∈ xs.map srC, l.length = 7 := by intro l hl; obtain ⟨p, _, rfl⟩ := List.mem_map.1 hl; rfl
theorem in_all' (xs : List Int) : ∀ l ∈ xs.map inC, l.length = 1 := by intro l hl; obtain ⟨p, _, rfl⟩ := List.mem_map.1 hl; rfl
theorem ax_all' (xs : List Ax) : ∀ l ∈ xs.map axC, l.length = 10 := by intro l hl; obtain ⟨p, _, rfl⟩ := List.mem_map.1 hl; rfl
theorem axFlat' (l : List Ax) (x : Ax) : (l.map axC).flatten ++ axC x = ((l ++ [x]).map axC).flatten := by simp
abbrev axB' (b : Nat) (x : Ax) : Nat × Obj := (b, .cells ⟨axC x⟩ 37 (0, 0))
theorem osSl {e size n : Nat} {v : Value} {xs : List Value} {N : HL} (h : OS e size v n xs N) : ∃ a cap, v = .slice a n cap := by
  rcases h with ⟨rfl, rfl, _, _⟩ | ⟨b, cap, cs, rfl, _⟩
  · exact ⟨none, 0, rfl⟩
  · exact ⟨_, cap, rfl⟩
set_option maxRecDepth 10000 in
set_option maxHeartbeats 32000000 in
theorem sown_os (M : Mem) (L : HL) (s : SAx) (hs : SaOk M s) : Tr Try.prog 9 [s.v] M L (fun v M' L' => M.le M' ∧ ∃ (ys : List Ax) (N : HL), ys.length = s.len ∧ ys.map Ax.aa = s.xs.map Ax.aa ∧ (∀ y ∈ ys, AxW M' y) ∧ OS 37 10 v s.len (ys.map axC).flatten N ∧ L' = N ++ L) := by
  have hlen := hs.len
  have hlt0 := hs.lt
  obtain ⟨la, ln, lc, xs⟩ := s
  simp only [SAx.v] at *
  refine Tr.intro 49 Try.func9 rfl rfl Try.call9 rfl ?_
  intro C hC hro
  repeat (first | with_reducible (first | refine cS ?_ | refine cR ?_ | refine cN ?_ | refine cK ?_ | refine cB ?_ | refine cI ?_) | refine cE rfl ?_ | refine rq (qt_pev tok rfl) ?_ | refine rg rfl rfl (qt_pev tok rfl) ?_ | refine rq (ql tok rfl) ?_ | refine rg rfl rfl (ql tok rfl) ?_ | (refine runL_op0 (sst tok rfl rfl rfl rfl rfl) ?_; rintro _ _ _ ⟨rfl, rfl, rfl⟩) | ((first | refine ro (st_box rfl) ?_ | refine ro (st_alloc tok rfl) ?_ | refine ro (st_buildSlice tok rfl rfl rfl rfl rfl rfl rfl) ?_); rintro _ _ _ ⟨_, rfl, rfl, rfl⟩))
  refine run_loopN (fun j σ1 M1 L1 => j ≤ ln ∧ M.le M1 ∧ ∃ (ys : List Ax) (v : Value) (N : HL), ys.length = j ∧ ys.map Ax.aa = (xs.take j).map Ax.aa ∧ (∀ x ∈ ys, AxW M1 x) ∧ OS 37 10 v j (ys.map axC).flatten N ∧ L1 = N ++ L ∧ σ1 = [(4, .int .i64 (j : Int)), (3, v), (0, .slice la ln lc)]) ln [(4, .int .i64 ((0 : Nat) : Int)), (3, .slice none 0 0), (0, .slice la ln lc)] ?_ ⟨Nat.zero_le _, Mem.le_refl _, [], .slice none 0 0, [], rfl, by simp, (fun x hx => by cases hx), OS.nil _ _, rfl, rfl⟩ (fun j _ _ _ h => h.1) ?_
  · exact ⟨rfl, rfl, rfl, trivial⟩
  rintro j _ M1 _ ⟨hj, hM1, ys, v, N, hyl, hya, hyw, hO, rfl, rfl⟩ hnext
  repeat (first | with_reducible (first | refine cS ?_ | refine cR ?_ | refine cN ?_ | refine cK ?_ | refine cB ?_ | refine cI ?_) | refine cE rfl ?_ | refine rq (qt_pev tok rfl) ?_ | refine rg rfl rfl (qt_pev tok rfl) ?_ | refine rq (ql tok rfl) ?_ | refine rg rfl rfl (ql tok rfl) ?_ | (refine runL_op0 (sst tok rfl rfl rfl rfl rfl) ?_; rintro _ _ _ ⟨rfl, rfl, rfl⟩) | ((first | refine ro (st_box rfl) ?_ | refine ro (st_alloc tok rfl) ?_ | refine ro (st_buildSlice tok rfl rfl rfl rfl rfl rfl rfl) ?_); rintro _ _ _ ⟨_, rfl, rfl, rfl⟩))
  refine run_cond rfl (fun h => ?_) (fun h => ?_)
  rotate_left
  · have hge : j = ln := by simp at h; omega
    subst hge
    rw [List.take_of_length_le (by omega)] at hya
    clear hnext
    refine run_exit rfl ?_
    repeat (first | with_reducible (first | refine cS ?_ | refine cR ?_ | refine cN ?_ | refine cK ?_ | refine cB ?_ | refine cI ?_) | refine cE rfl ?_ | refine rq (qt_pev tok rfl) ?_ | refine rg rfl rfl (qt_pev tok rfl) ?_ | refine rq (ql tok rfl) ?_ | refine rg rfl rfl (ql tok rfl) ?_ | (refine runL_op0 (sst tok rfl rfl rfl rfl rfl) ?_; rintro _ _ _ ⟨rfl, rfl, rfl⟩) | ((first | refine ro (st_box rfl) ?_ | refine ro (st_alloc tok rfl) ?_ | refine ro (st_buildSlice tok rfl rfl rfl rfl rfl rfl rfl) ?_); rintro _ _ _ ⟨_, rfl, rfl, rfl⟩))
    exact run_ret hC (rs := [.tmp 2]) rfl (resT rfl resN) (fun _ h => h) ⟨hM1, ys, N, hyl, hya, hyw, hO, rfl⟩
  have hlt : j < ln := by simpa using h
  obtain ⟨b, off, x, rfl, hx, hc⟩ := SAx.at_ (hs.le hM1).sl hlt
  have hxo := (hs.le hM1).each x (List.mem_of_getElem? hx)
  have g6 := hxo.gives.2
  have s6 := hxo.steps.lt
  have sl6 := hxo.steps.len
  repeat (first | with_reducible (first | refine cS ?_ | refine cR ?_ | refine cN ?_ | refine cK ?_ | refine cB ?_ | refine cI ?_) | refine cE rfl ?_ | refine rq (qt_pev tok rfl) ?_ | refine rg rfl rfl (qt_pev tok rfl) ?_ | refine rq (ql tok rfl) ?_ | refine rg rfl rfl (ql tok rfl) ?_ | (refine runL_op0 (sst tok rfl rfl rfl rfl rfl) ?_; rintro _ _ _ ⟨rfl, rfl, rfl⟩) | ((first | refine ro (st_box rfl) ?_ | refine ro (st_alloc tok rfl) ?_ | refine ro (st_buildSlice tok rfl rfl rfl rfl rfl rfl rfl) ?_); rintro _ _ _ ⟨_, rfl, rfl, rfl⟩) | refine runL_q (qt_indexN tok rfl rfl rfl rfl (fun _ => by omega)) rfl rfl rfl ?_ | refine runL_g rfl rfl (qt_indexN tok rfl rfl rfl rfl (fun _ => by omega)) rfl rfl rfl rfl rfl ?_ | refine runL_q (qt_ldM tok rfl hc rfl) rfl rfl rfl ?_ | refine runL_g rfl rfl (qt_ldM tok rfl hc rfl) rfl rfl rfl rfl rfl ?_ | refine runL_q (qt_ldM0 tok rfl hc rfl) rfl rfl rfl ?_ | refine runL_g rfl rfl (qt_ldM0 tok rfl hc rfl) rfl rfl rfl rfl rfl ?_)
  rename_i b5
  refine runL_op (st_copyM (xs := x.gives.xs) (f := mbC) tok rfl rfl rfl rfl rfl rfl rfl rfl hxo.gives.1 mbOne (mb_all _) (by omega) (by omega)) rfl rfl rfl ?_
  rintro _ M2 _ ⟨hM2, rfl, a1, c1, rfl, hs1⟩
  repeat (first | with_reducible (first | refine cS ?_ | refine cR ?_ | refine cN ?_ | refine cK ?_ | refine cB ?_ | refine cI ?_) | refine cE rfl ?_ | refine rq (qt_pev tok rfl) ?_ | refine rg rfl rfl (qt_pev tok rfl) ?_ | refine rq (ql tok rfl) ?_ | refine rg rfl rfl (ql tok rfl) ?_ | (refine runL_op0 (sst tok rfl rfl rfl rfl rfl) ?_; rintro _ _ _ ⟨rfl, rfl, rfl⟩) | ((first | refine ro (st_box rfl) ?_ | refine ro (st_alloc tok rfl) ?_ | refine ro (st_buildSlice tok rfl rfl rfl rfl rfl rfl rfl) ?_); rintro _ _ _ ⟨_, rfl, rfl, rfl⟩))
  refine runL_op (st_appendG (xs := []) (n := 0) (m := x.steps.len) (news := (x.steps.xs.map srC).flatten) tok rfl rfl rfl rfl rfl rfl rfl rfl (N := []) (List.Perm.refl _) (OS.nil _ _) (SrcG.ofSlM (hxo.steps.le hM2).sl) (rFlatOne srOne _) (by omega) (by omega)) rfl rfl rfl ?_
  rintro v7 _ _ ⟨N1, rfl, rfl, hO1⟩
  rw [Nat.zero_add, List.nil_append] at hO1
  obtain ⟨a7, c7, rfl⟩ := osSl hO1
  repeat (first | with_reducible (first | refine cS ?_ | refine cR ?_ | refine cN ?_ | refine cK ?_ | refine cB ?_ | refine cI ?_) | refine cE rfl ?_ | refine rq (qt_pev tok rfl) ?_ | refine rg rfl rfl (qt_pev tok rfl) ?_ | refine rq (ql tok rfl) ?_ | refine rg rfl rfl (ql tok rfl) ?_ | (refine runL_op0 (sst tok rfl rfl rfl rfl rfl) ?_; rintro _ _ _ ⟨rfl, rfl, rfl⟩) | ((first | refine ro (st_box rfl) ?_ | refine ro (st_alloc tok rfl) ?_ | refine ro (st_buildSlice tok rfl rfl rfl rfl rfl rfl rfl) ?_); rintro _ _ _ ⟨_, rfl, rfl, rfl⟩))
  generalize hx1 : ({ x with gives := ⟨a1, x.gives.len, c1, x.gives.xs⟩, steps := ⟨a7, x.steps.len, c7, []⟩ } : Ax) = x1
  have hv1 : x1.steps.v = .slice a7 x.steps.len c7 := by rw [← hx1]; rfl
  have hl1 : x1.steps.len = x.steps.len := by rw [← hx1]
  refine run_mem (M' := M2) (L' := axB' b5 x1 :: (N1 ++ (N ++ L))) (fun w h => by rw [← hx1]; exact h.perm List.perm_middle) ?_
  refine run_loopN (fun i σ1 M4 L1 => i ≤ x.steps.len ∧ M2.le M4 ∧ ∃ (zs : List Sr) (N2 : HL), zs.length = x.steps.len ∧ zs.map Sr.sp = x.steps.xs.map Sr.sp ∧ (∀ z ∈ zs, SrOk M4 z) ∧ OS 51 7 (.slice a7 x.steps.len c7) x.steps.len (zs.map srC).flatten N2 ∧ L1 = axB' b5 x1 :: (N2 ++ (N ++ L)) ∧ σ1 = [(6, .int .i64 (i : Int)), (5, .pointer (some ⟨b5, 0, none⟩)), (4, .int .i64 (j : Int)), (3, v), (0, .slice (some ⟨b, off, none⟩) ln lc)]) x.steps.len [(6, .int .i64 ((0 : Nat) : Int)), (5, .pointer (some ⟨b5, 0, none⟩)), (4, .int .i64 (j : Int)), (3, v), (0, .slice (some ⟨b, off, none⟩) ln lc)] ?_ ⟨Nat.zero_le _, Mem.le_refl _, x.steps.xs, N1, sl6, rfl, (fun z hz => (hxo.steps.each z hz).le hM2), hO1, rfl, rfl⟩ (fun i _ _ _ h => h.1) ?_
  · exact ⟨rfl, rfl, rfl, rfl, rfl, trivial⟩
  rintro i _ M4 _ ⟨hi, hM4, zs, N2, hzl, hzs, hzo, hO2, rfl, rfl⟩ hnx
  repeat (first | with_reducible (first | refine cS ?_ | refine cR ?_ | refine cN ?_ | refine cK ?_ | refine cB ?_ | refine cI ?_) | refine cE rfl ?_ | refine rq (qt_pev tok rfl) ?_ | refine rg rfl rfl (qt_pev tok rfl) ?_ | refine rq (ql tok rfl) ?_ | refine rg rfl rfl (ql tok rfl) ?_ | (refine runL_op0 (sst tok rfl rfl rfl rfl rfl) ?_; rintro _ _ _ ⟨rfl, rfl, rfl⟩) | ((first | refine ro (st_box rfl) ?_ | refine ro (st_alloc tok rfl) ?_ | refine ro (st_buildSlice tok rfl rfl rfl rfl rfl rfl rfl) ?_); rintro _ _ _ ⟨_, rfl, rfl, rfl⟩))
  refine run_cond rfl (fun h => ?_) (fun h => ?_)
  · have hit : i < x.steps.len := by simpa [hl1] using h
    obtain ⟨z, hz⟩ : ∃ z, zs[i]? = some z := ⟨_, List.getElem?_eq_getElem (by omega)⟩
    have hzk : (zs.map srC)[i]? = some (srC z) := by rw [List.getElem?_map, hz]; rfl
    have hzz := hzo z (List.mem_of_getElem? hz)
    have z6 := hzz.list.2
    obtain ⟨b7, cap, pre, post, hv7, rfl, hpl, hset⟩ := hO2.mid (sr_all' zs) (by simpa using hzl) hzk
    obtain ⟨rfl, _, rfl⟩ := (Value.slice.injEq _ _ _ _ _ _).mp hv7
    have hseg : SegAt (pre ++ (srC z ++ post)) (0 + i * 7) (srC z) := by have := SegAt.mid pre (srC z) post; rwa [hpl, ← Nat.zero_add (i * 7)] at this
    refine run_mem (M' := M4) (L' := axB' b5 x1 :: (b7, .cells ⟨pre ++ (srC z ++ post)⟩ 51 (0, 0)) :: (N ++ L)) (fun _ h => h) ?_
    repeat (first | with_reducible (first | refine cS ?_ | refine cR ?_ | refine cN ?_ | refine cK ?_ | refine cB ?_ | refine cI ?_) | refine cE rfl ?_ | refine rq (qt_pev tok rfl) ?_ | refine rg rfl rfl (qt_pev tok rfl) ?_ | refine rq (ql tok rfl) ?_ | refine rg rfl rfl (ql tok rfl) ?_ | (refine runL_op0 (sst tok rfl rfl rfl rfl rfl) ?_; rintro _ _ _ ⟨rfl, rfl, rfl⟩) | ((first | refine ro (st_box rfl) ?_ | refine ro (st_alloc tok rfl) ?_ | refine ro (st_buildSlice tok rfl rfl rfl rfl rfl rfl rfl) ?_); rintro _ _ _ ⟨_, rfl, rfl, rfl⟩))
    repeat (first | with_reducible (first | refine cS ?_ | refine cR ?_ | refine cN ?_ | refine cK ?_ | refine cB ?_ | refine cI ?_) | refine cE rfl ?_ | refine rq (qt_pev tok rfl) ?_ | refine rg rfl rfl (qt_pev tok rfl) ?_ | refine rq (ql tok rfl) ?_ | refine rg rfl rfl (ql tok rfl) ?_ | (refine runL_op0 (sst tok rfl rfl rfl rfl rfl) ?_; rintro _ _ _ ⟨rfl, rfl, rfl⟩) | ((first | refine ro (st_box rfl) ?_ | refine ro (st_alloc tok rfl) ?_ | refine ro (st_buildSlice tok rfl rfl rfl rfl rfl rfl rfl) ?_); rintro _ _ _ ⟨_, rfl, rfl, rfl⟩) | refine prn_start mixed ?_ | refine prn_end (by decide +kernel) ?_ | refine pq rfl (qt_pev tok rfl) ?_ | refine pg rfl rfl rfl (qt_pev tok rfl) ?_ | refine pq rfl (ql tok rfl) ?_ | refine pg rfl rfl rfl (ql tok rfl) ?_ | (refine prn_e0 rfl (sst tok rfl rfl rfl rfl rfl) (by decide +kernel) ?_; rintro _ _ _ ⟨rfl, rfl, rfl⟩) | ((first | refine pe rfl (st_box rfl) ?_ | refine pe rfl (st_alloc tok rfl) ?_ | refine pe rfl (st_buildSlice tok rfl rfl rfl rfl rfl rfl rfl) ?_); rintro _ _ _ ⟨_, rfl, rfl, rfl⟩) | (refine prn_o0 rfl (sst tok rfl rfl rfl rfl rfl) (by decide +kernel) ?_; rintro _ _ _ ⟨rfl, rfl, rfl⟩; refine ⟨by (repeat (first | exact trivial | refine And.intro (pend_q rfl rfl rfl (qt_pev tok rfl)) ?_ | refine And.intro (pend_q rfl rfl rfl (ql tok rfl)) ?_)), ?_⟩) | ((first | refine po rfl (st_box rfl) ?_ | refine po rfl (st_alloc tok rfl) ?_ | refine po rfl (st_buildSlice tok rfl rfl rfl rfl rfl rfl rfl) ?_); rintro _ _ _ ⟨_, rfl, rfl, rfl⟩; refine ⟨by (repeat (first | exact trivial | refine And.intro (pend_q rfl rfl rfl (qt_pev tok rfl)) ?_ | refine And.intro (pend_q rfl rfl rfl (ql tok rfl)) ?_)), ?_⟩) | (refine pe rfl (qt_pev tok rfl) ?_; rintro _ _ _ ⟨rfl, rfl, rfl⟩))
    refine pr_as 36 (.slice (some ⟨b7, 0, none⟩) x.steps.len c7) rfl hv1 ?_
    refine pr_as 33 (.slice (some ⟨b7, 0, none⟩) x.steps.len c7) rfl hv1 ?_
    have hst : ∀ l : SIn, setE (pre ++ (srC z ++ post)) (0 + i * 7 + 6) [l.v] = some (pre ++ (srC { z with list := l } ++ post)) := fun l => by have := setE_mid (pre := pre) (post := post) (x := srC z) (x' := srC { z with list := l }) (vs := [l.v]) (j := 6) rfl; rwa [hpl, ← Nat.zero_add (i * 7)] at this
    repeat (first | with_reducible (first | refine cS ?_ | refine cR ?_ | refine cN ?_ | refine cK ?_ | refine cB ?_ | refine cI ?_) | refine cE rfl ?_ | refine rq (qt_pev tok rfl) ?_ | refine rg rfl rfl (qt_pev tok rfl) ?_ | refine rq (ql tok rfl) ?_ | refine rg rfl rfl (ql tok rfl) ?_ | (refine runL_op0 (sst tok rfl rfl rfl rfl rfl) ?_; rintro _ _ _ ⟨rfl, rfl, rfl⟩) | ((first | refine ro (st_box rfl) ?_ | refine ro (st_alloc tok rfl) ?_ | refine ro (st_buildSlice tok rfl rfl rfl rfl rfl rfl rfl) ?_); rintro _ _ _ ⟨_, rfl, rfl, rfl⟩) | refine prn_start mixed ?_ | refine prn_end (by decide +kernel) ?_ | refine pq rfl (qt_pev tok rfl) ?_ | refine pg rfl rfl rfl (qt_pev tok rfl) ?_ | refine pq rfl (ql tok rfl) ?_ | refine pg rfl rfl rfl (ql tok rfl) ?_ | (refine prn_e0 rfl (sst tok rfl rfl rfl rfl rfl) (by decide +kernel) ?_; rintro _ _ _ ⟨rfl, rfl, rfl⟩) | ((first | refine pe rfl (st_box rfl) ?_ | refine pe rfl (st_alloc tok rfl) ?_ | refine pe rfl (st_buildSlice tok rfl rfl rfl rfl rfl rfl rfl) ?_); rintro _ _ _ ⟨_, rfl, rfl, rfl⟩) | (refine prn_o0 rfl (sst tok rfl rfl rfl rfl rfl) (by decide +kernel) ?_; rintro _ _ _ ⟨rfl, rfl, rfl⟩; refine ⟨by (repeat (first | exact trivial | refine And.intro (pend_q rfl rfl rfl (qt_pev tok rfl)) ?_ | refine And.intro (pend_q rfl rfl rfl (ql tok rfl)) ?_)), ?_⟩) | ((first | refine po rfl (st_box rfl) ?_ | refine po rfl (st_alloc tok rfl) ?_ | refine po rfl (st_buildSlice tok rfl rfl rfl rfl rfl rfl rfl) ?_); rintro _ _ _ ⟨_, rfl, rfl, rfl⟩; refine ⟨by (repeat (first | exact trivial | refine And.intro (pend_q rfl rfl rfl (qt_pev tok rfl)) ?_ | refine And.intro (pend_q rfl rfl rfl (ql tok rfl)) ?_)), ?_⟩) | (refine pe rfl (qt_pev tok rfl) ?_; rintro _ _ _ ⟨rfl, rfl, rfl⟩) | refine prn_q rfl (qt_indexN tok rfl rfl rfl rfl (fun _ => by omega)) (by decide +kernel) rfl rfl rfl ?_ | refine prn_q rfl (qt_ldB (k := 6) tok rfl hseg (List.mem_cons_of_mem _ List.mem_cons_self) rfl) (by decide +kernel) rfl rfl rfl ?_)
    refine prn_o1 rfl (st_copyM (xs := z.list.xs) (f := inC) tok rfl rfl rfl rfl rfl rfl rfl rfl hzz.list.1 inOne' (in_all' _) (by omega) (by omega)) (by decide +kernel) rfl rfl rfl ?_
    rintro _ M5 _ ⟨hM5, rfl, a9, c9, rfl, hs9⟩
    refine ⟨by (repeat (first | exact trivial | refine And.intro (pend_q rfl rfl rfl (qt_pev tok rfl)) ?_ | refine And.intro (pend_q rfl rfl rfl (ql tok rfl)) ?_ | refine And.intro (pend_q rfl rfl rfl (Qt.as (v' := Value.slice (some ⟨b7, 0, none⟩) x.steps.len c7) (ql tok rfl) hv1)) ?_ | refine And.intro (pend_q rfl rfl rfl (qt_indexN tok rfl rfl rfl rfl (fun _ => by omega))) ?_ | refine And.intro (pend_q rfl rfl rfl (qt_ldB (k := 6) tok rfl hseg (List.mem_cons_of_mem _ List.mem_cons_self) rfl)) ?_)), ?_⟩
    repeat (first | with_reducible (first | refine cS ?_ | refine cR ?_ | refine cN ?_ | refine cK ?_ | refine cB ?_ | refine cI ?_) | refine cE rfl ?_ | refine rq (qt_pev tok rfl) ?_ | refine rg rfl rfl (qt_pev tok rfl) ?_ | refine rq (ql tok rfl) ?_ | refine rg rfl rfl (ql tok rfl) ?_ | (refine runL_op0 (sst tok rfl rfl rfl rfl rfl) ?_; rintro _ _ _ ⟨rfl, rfl, rfl⟩) | ((first | refine ro (st_box rfl) ?_ | refine ro (st_alloc tok rfl) ?_ | refine ro (st_buildSlice tok rfl rfl rfl rfl rfl rfl rfl) ?_); rintro _ _ _ ⟨_, rfl, rfl, rfl⟩) | refine prn_start mixed ?_ | refine prn_end (by decide +kernel) ?_ | refine pq rfl (qt_pev tok rfl) ?_ | refine pg rfl rfl rfl (qt_pev tok rfl) ?_ | refine pq rfl (ql tok rfl) ?_ | refine pg rfl rfl rfl (ql tok rfl) ?_ | (refine prn_e0 rfl (sst tok rfl rfl rfl rfl rfl) (by decide +kernel) ?_; rintro _ _ _ ⟨rfl, rfl, rfl⟩) | ((first | refine pe rfl (st_box rfl) ?_ | refine pe rfl (st_alloc tok rfl) ?_ | refine pe rfl (st_buildSlice tok rfl rfl rfl rfl rfl rfl rfl) ?_); rintro _ _ _ ⟨_, rfl, rfl, rfl⟩) | (refine prn_o0 rfl (sst tok rfl rfl rfl rfl rfl) (by decide +kernel) ?_; rintro _ _ _ ⟨rfl, rfl, rfl⟩; refine ⟨by (repeat (first | exact trivial | refine And.intro (pend_q rfl rfl rfl (qt_pev tok rfl)) ?_ | refine And.intro (pend_q rfl rfl rfl (ql tok rfl)) ?_)), ?_⟩) | ((first | refine po rfl (st_box rfl) ?_ | refine po rfl (st_alloc tok rfl) ?_ | refine po rfl (st_buildSlice tok rfl rfl rfl rfl rfl rfl rfl) ?_); rintro _ _ _ ⟨_, rfl, rfl, rfl⟩; refine ⟨by (repeat (first | exact trivial | refine And.intro (pend_q rfl rfl rfl (qt_pev tok rfl)) ?_ | refine And.intro (pend_q rfl rfl rfl (ql tok rfl)) ?_)), ?_⟩) | (refine pe rfl (qt_pev tok rfl) ?_; rintro _ _ _ ⟨rfl, rfl, rfl⟩) | refine prn_q rfl (qt_indexN tok rfl rfl rfl rfl (fun _ => by omega)) (by decide +kernel) rfl rfl rfl ?_)
    refine prn_o0 rfl (st_store tok rfl rfl rfl rfl rfl (by (repeat (first | with_reducible apply Upd.here | with_reducible apply Upd.there | with_reducible apply Upd.append_left))) (hst ⟨a9, z.list.len, c9, z.list.xs⟩)) (by decide +kernel) ?_
    rintro _ _ _ ⟨rfl, rfl, rfl⟩
    refine ⟨by (repeat (first | exact trivial | refine And.intro (pend_q rfl rfl rfl (qt_pev tok rfl)) ?_ | refine And.intro (pend_q rfl rfl rfl (ql tok rfl)) ?_)), ?_⟩
    repeat (first | with_reducible (first | refine cS ?_ | refine cR ?_ | refine cN ?_ | refine cK ?_ | refine cB ?_ | refine cI ?_) | refine cE rfl ?_ | refine rq (qt_pev tok rfl) ?_ | refine rg rfl rfl (qt_pev tok rfl) ?_ | refine rq (ql tok rfl) ?_ | refine rg rfl rfl (ql tok rfl) ?_ | (refine runL_op0 (sst tok rfl rfl rfl rfl rfl) ?_; rintro _ _ _ ⟨rfl, rfl, rfl⟩) | ((first | refine ro (st_box rfl) ?_ | refine ro (st_alloc tok rfl) ?_ | refine ro (st_buildSlice tok rfl rfl rfl rfl rfl rfl rfl) ?_); rintro _ _ _ ⟨_, rfl, rfl, rfl⟩) | refine prn_start mixed ?_ | refine prn_end (by decide +kernel) ?_ | refine pq rfl (qt_pev tok rfl) ?_ | refine pg rfl rfl rfl (qt_pev tok rfl) ?_ | refine pq rfl (ql tok rfl) ?_ | refine pg rfl rfl rfl (ql tok rfl) ?_ | (refine prn_e0 rfl (sst tok rfl rfl rfl rfl rfl) (by decide +kernel) ?_; rintro _ _ _ ⟨rfl, rfl, rfl⟩) | ((first | refine pe rfl (st_box rfl) ?_ | refine pe rfl (st_alloc tok rfl) ?_ | refine pe rfl (st_buildSlice tok rfl rfl rfl rfl rfl rfl rfl) ?_); rintro _ _ _ ⟨_, rfl, rfl, rfl⟩) | (refine prn_o0 rfl (sst tok rfl rfl rfl rfl rfl) (by decide +kernel) ?_; rintro _ _ _ ⟨rfl, rfl, rfl⟩; refine ⟨by (repeat (first | exact trivial | refine And.intro (pend_q rfl rfl rfl (qt_pev tok rfl)) ?_ | refine And.intro (pend_q rfl rfl rfl (ql tok rfl)) ?_)), ?_⟩) | ((first | refine po rfl (st_box rfl) ?_ | refine po rfl (st_alloc tok rfl) ?_ | refine po rfl (st_buildSlice tok rfl rfl rfl rfl rfl rfl rfl) ?_); rintro _ _ _ ⟨_, rfl, rfl, rfl⟩; refine ⟨by (repeat (first | exact trivial | refine And.intro (pend_q rfl rfl rfl (qt_pev tok rfl)) ?_ | refine And.intro (pend_q rfl rfl rfl (ql tok rfl)) ?_)), ?_⟩) | (refine pe rfl (qt_pev tok rfl) ?_; rintro _ _ _ ⟨rfl, rfl, rfl⟩))
    have hset' := hset (srC { z with list := ⟨a9, z.list.len, c9, z.list.xs⟩ }) rfl
    rw [show (zs.map srC).set i (srC { z with list := ⟨a9, z.list.len, c9, z.list.xs⟩ }) = (zs.set i { z with list := ⟨a9, z.list.len, c9, z.list.xs⟩ }).map srC by rw [List.map_set]] at hset'
    refine run_sub' (hnx _ _ _ ⟨hit, Mem.le_trans hM4 hM5, _, _, by rw [List.length_set]; exact hzl, ?_, ?_, hset', rfl, rfl⟩) ⟨lk_succ rfl (by omega), rfl, rfl, rfl, rfl, trivial⟩
    · rw [List.map_set, ← hzs]
      have e : (zs.map Sr.sp)[i]? = some z.sp := by rw [List.getElem?_map, hz]; rfl
      have e2 : Sr.sp { z with list := ⟨a9, z.list.len, c9, z.list.xs⟩ } = z.sp := rfl
      rw [e2]
      obtain ⟨hlt', hx'⟩ := List.getElem?_eq_some_iff.1 e
      rw [← hx', List.set_getElem_self]
    · intro y hy
      rcases List.mem_or_eq_of_mem_set hy with hy | rfl
      · exact (hzo y hy).le hM5
      · exact ⟨⟨hs9, z6⟩, hzz.text⟩
  have hge : i = x.steps.len := by simp [hl1] at h; omega
  subst hge
  clear hnx h
  refine run_exit rfl ?_
  refine run_memE (fun M' L' => M4.le M' ∧ SlZ M' 7 a7 x.steps.len (zs.map srC) ∧ L' = axB' b5 x1 :: (N ++ L)) (fun w hw => ?_) ?_
  · obtain ⟨M', a', c', h1, h2, h3, h4⟩ := (hw.perm (pm1 _ N2 _)).freezeOZ hO2 (by simpa using hzl) (sr_all' zs)
    obtain ⟨rfl, _, rfl⟩ := (Value.slice.injEq _ _ _ _ _ _).mp h3
    exact ⟨M', _, h2, h1, h4, rfl⟩
  rintro M5 _ ⟨hM5, hsz, rfl⟩
  have hM25 := Mem.le_trans hM4 hM5
  have hM15 := Mem.le_trans hM2 hM25
  generalize hx2 : ({ x with gives := ⟨a1, x.gives.len, c1, x.gives.xs⟩, steps := ⟨a7, x.steps.len, c7, zs⟩ } : Ax) = x2
  have hxc : axC x1 = axC x2 := by rw [← hx1, ← hx2]; rfl
  have hw2 : AxW M5 x2 := by
    rw [← hx2]
    exact ⟨⟨hs1.le hM25, g6⟩, ⟨hsz, s6, fun y hy => (hzo y hy).le hM5⟩, hxo.pay⟩
  have ha2 : x2.aa = x.aa := by rw [← hx2]; simp only [Ax.aa]; rw [hzs]
  refine run_mem (M' := M5) (L' := axB' b5 x2 :: (N ++ L)) (fun _ h => by rw [axB', ← hxc]; exact h) ?_
  clear hx2 hx1
  repeat (first | with_reducible (first | refine cS ?_ | refine cR ?_ | refine cN ?_ | refine cK ?_ | refine cB ?_ | refine cI ?_) | refine cE rfl ?_ | refine rq (qt_pev tok rfl) ?_ | refine rg rfl rfl (qt_pev tok rfl) ?_ | refine rq (ql tok rfl) ?_ | refine rg rfl rfl (ql tok rfl) ?_ | (refine runL_op0 (sst tok rfl rfl rfl rfl rfl) ?_; rintro _ _ _ ⟨rfl, rfl, rfl⟩) | ((first | refine ro (st_box rfl) ?_ | refine ro (st_alloc tok rfl) ?_ | refine ro (st_buildSlice tok rfl rfl rfl rfl rfl rfl rfl) ?_); rintro _ _ _ ⟨_, rfl, rfl, rfl⟩))
  refine runL_op (st_append (n := j) (m := 1) (news := axC x2) tok rfl rfl rfl rfl rfl rfl rfl rfl (pm2 _ _ N _) hO (.inr ⟨_, 0, 1, rfl, cellsAll List.mem_cons_self, rfl⟩) (axOne' x2) (by omega) (by omega)) rfl rfl rfl ?_
  rintro v2 _ _ ⟨N', rfl, rfl, hO'⟩
  repeat (first | with_reducible (first | refine cS ?_ | refine cR ?_ | refine cN ?_ | refine cK ?_ | refine cB ?_ | refine cI ?_) | refine cE rfl ?_ | refine rq (qt_pev tok rfl) ?_ | refine rg rfl rfl (qt_pev tok rfl) ?_ | refine rq (ql tok rfl) ?_ | refine rg rfl rfl (ql tok rfl) ?_ | (refine runL_op0 (sst tok rfl rfl rfl rfl rfl) ?_; rintro _ _ _ ⟨rfl, rfl, rfl⟩) | ((first | refine ro (st_box rfl) ?_ | refine ro (st_alloc tok rfl) ?_ | refine ro (st_buildSlice tok rfl rfl rfl rfl rfl rfl rfl) ?_); rintro _ _ _ ⟨_, rfl, rfl, rfl⟩))
  refine run_mem (fun _ h => (h.perm (pm2 _ _ N' _).symm).drop.drop) ?_
  refine run_sub' (hnext _ _ _ ⟨hlt, Mem.le_trans hM1 hM15, ys ++ [x2], v2, N', by simp [hyl], ?_, ?_, by rw [← axFlat']; exact hO', rfl, rfl⟩) ⟨lk_succ rfl (by omega), rfl, rfl, trivial⟩
  · rw [take_snoc hx, List.map_append, List.map_append, hya]
    simp [ha2]
  · intro y hy
    rcases List.mem_append.1 hy with hy | hy
    · exact (hyw y hy).le hM15
    · rw [List.mem_singleton.1 hy]; exact hw2
theorem sown_ok (M : Mem) (L : HL) (s : SAx) (hs : SaOk M s) : Tr Try.prog 9 [s.v] M L (fun v M' L' => M.le M' ∧ L' = L ∧ ∃ s' : SAx, v = s'.v ∧ s'.xs.map Ax.aa = s.xs.map Ax.aa ∧ SaW M' s') := by
  have h := sown_os M L s hs
  refine ⟨h.1, fun w hw => (h.2 w hw).mono fun v w' ⟨M', L', hp, hM, ys, N, hyl, hya, hyw, hO, hL⟩ => ?_⟩
  subst hL
  obtain ⟨M2, a', c', h1, h2, h3, h4⟩ := hp.freezeOS hO (by simpa using hyl) (ax_all' ys)
  exact ⟨M2, L, h2, Mem.le_trans hM h1, rfl, ⟨a', s.len, c', ys⟩, h3, hya, ⟨h4, hs.lt, fun y hy => (hyw y hy).le h1⟩⟩
/-- what is appended to acts of our own, and given up -/
theorem st_appFrz {P : Program} {T : TT} {ro : Option Nat} {σ : Env} {δ : Den} {M : Mem} {L L0 N : HL} {d : Option Nat} {ty : TypeId} {pos : String} {aft : Array Edge} {g : Option (Nat × Bool)} {cur : Path} {x y : Operand} {t e sz by_ : Nat} {z : Value} {α : Type} {f : α → List Value} {xs ys : List α} {a : Option Addr} {v0 : Value} {n m c : Nat}
    (hT : TOk P T) (hx : ev σ δ cur x = some v0) (hy : ev σ δ cur y = some (.slice a m c)) (ht : und T t = some (.slice e)) (hi : sizeT T e = some sz) (hz : zeroT T e = some z) (hzs : (cellsL z).length = sz) (hb : bytesT T e = some by_) (hby : Nat.ble 1 by_ = true)
    (hp : L.Perm (N ++ L0)) (hO : OS e sz v0 n (xs.map f).flatten N) (hxl : xs.length = n) (hs : SlM M sz a m (ys.map f)) (hf : ∀ r, ∀ u ∈ f r, u.oneCell' = true) (hfl : ∀ l : List α, ∀ q ∈ l.map f, q.length = sz) (hroom : (2 * (n + m) + 192) * by_ ≤ 281474976710656) (h63 : n + m < 9223372036854775808) :
    St P ro ⟨d, .call ⟨.builtin .append, #[x, y], #[t, t]⟩, ty, pos, aft, g⟩ σ δ cur M L (fun v M' L' => M.le M' ∧ L' = L0 ∧ ∃ a' c', v = .slice a' (n + m) c' ∧ SlM M' sz a' (n + m) ((xs ++ ys).map f)) := by
  refine St.frz (st_appendG (n := n) (m := m) hT hx hy ht hi hz hzs hb hby hp hO (SrcG.ofSlM hs) (rFlatOne hf _) hroom h63) ?_
  rintro v M' L' w hw ⟨N', rfl, rfl, hO'⟩
  have e : (xs.map f).flatten ++ (ys.map f).flatten = ((xs ++ ys).map f).flatten := by simp
  rw [e] at hO'
  have hl : ((xs ++ ys).map f).length = n + m := by have := hs.1; simp at this ⊢; omega
  obtain ⟨M2, a', c', h1, h2, h3, h4⟩ := hw.freezeOS hO' hl (hfl _)
  exact ⟨M2, _, h2, h1, rfl, a', c', h3, h4⟩
end Go.Proofs.Ytbpgiodfccijmaa
namespace Go.Proofs.Ytbpgiodfccijmaa
open Go.Chi

/-! ### the plain law of chapter 32 -/
theorem chkA_02 (x : Ax) : chkA x = 0 ∨ chkA x = 2 := by unfold chkA; split <;> simp
def IffA (l : List Ax) : Prop := ∀ x ∈ l, chkA x = 0 ↔ AcP x.aa
theorem SaOk.iffA {M : Mem} {s : SAx} (h : SaOk M s) : IffA s.xs := fun x hx => (h.each x hx).iff
theorem IffA.tail {x : Ax} {l : List Ax} (h : IffA (x :: l)) : IffA l := fun y hy => h y (List.mem_cons_of_mem _ hy)
theorem chkL_same : ∀ {xs ys : List Ax}, xs.map Ax.aa = ys.map Ax.aa → IffA xs → IffA ys → chkL xs = chkL ys
  | [], [], _, _, _ => rfl
  | [], _ :: _, h, _, _ => by cases h
  | _ :: _, [], h, _, _ => by cases h
  | x :: xs, y :: ys, h, hx, hy => by
    rw [List.map_cons, List.map_cons] at h
    injection h with h1 h2
    have e1 := hx x List.mem_cons_self
    have e2 := hy y List.mem_cons_self
    rw [h1] at e1
    have ih := chkL_same h2 hx.tail hy.tail
    rw [chkL, chkL]
    rcases chkA_02 x with q | q <;> rcases chkA_02 y with q' | q'
    · rw [if_pos q, if_pos q', ih]
    · have := e2.2 (e1.1 q); omega
    · have := e1.2 (e2.1 q'); omega
    · rw [if_neg (by omega), if_neg (by omega), q, q']
theorem encR_same : ∀ {xs ys : List Ax} (s : ByteArray), xs.map Ax.aa = ys.map Ax.aa → encR xs s = encR ys s
  | [], [], _, _ => rfl
  | [], _ :: _, _, h => by cases h
  | _ :: _, [], _, h => by cases h
  | x :: xs, y :: ys, s, h => by
    rw [List.map_cons, List.map_cons] at h
    injection h with h1 h2
    rw [encR, encR, h1, encR_same _ h2]
theorem encA_same {xs ys : List Ax} (h : xs.map Ax.aa = ys.map Ax.aa) (hx : IffA xs) (hy : IffA ys) : encA xs = encA ys := by
  unfold encA
  rw [chkL_same h hx hy, encR_same _ h]
theorem chkL_02 : ∀ l : List Ax, (chkL l = 0 ∧ ∀ x ∈ l, chkA x = 0) ∨ (chkL l = 2 ∧ ∃ x ∈ l, chkA x ≠ 0)
  | [] => .inl ⟨rfl, fun x hx => by cases hx⟩
  | x :: l => by
    rw [chkL]
    rcases chkA_02 x with q | q
    · rw [if_pos q]
      rcases chkL_02 l with ⟨h1, h2⟩ | ⟨h1, y, hy, h2⟩
      · exact .inl ⟨h1, fun y hy => by
          rcases List.mem_cons.1 hy with rfl | hy
          · exact q
          · exact h2 y hy⟩
      · exact .inr ⟨h1, y, List.mem_cons_of_mem _ hy, h2⟩
    · rw [if_neg (by omega)]
      exact .inr ⟨q, x, List.mem_cons_self, by omega⟩
theorem encR_eq : ∀ (l : List Ax) (s : ByteArray), s.size ≤ 65536 → encR l s = if (s ++ encB (l.map Ax.aa)).size ≤ 65536 then (s ++ encB (l.map Ax.aa), 0) else (⟨#[]⟩, 5)
  | [], s, hs => by
    rw [encR, List.map_nil, show encB [] = bz from rfl, app_bz', if_pos hs]
  | x :: l, s, hs => by
    rw [encR, List.map_cons, encB, ← app_assoc]
    by_cases h : 65536 < (s ++ actB x.aa).size
    · rw [if_pos h, if_neg]
      rw [app_size]; omega
    · rw [if_neg h, encR_eq l _ (by omega)]
/-- what script.Encode answers, in plain words -/
theorem encA_law {l : List Ax} (h : IffA l) : ((∃ a ∈ l.map Ax.aa, ¬ AcP a) ∧ encA l = (⟨#[]⟩, 2)) ∨ ((∀ a ∈ l.map Ax.aa, AcP a) ∧ (((encB (l.map Ax.aa)).size ≤ 65536 ∧ encA l = (encB (l.map Ax.aa), 0)) ∨ (65536 < (encB (l.map Ax.aa)).size ∧ encA l = (⟨#[]⟩, 5)))) := by
  rcases chkL_02 l with ⟨h1, h2⟩ | ⟨h1, x, hx, h2⟩
  · refine .inr ⟨fun a ha => ?_, ?_⟩
    · obtain ⟨x, hx, rfl⟩ := List.mem_map.1 ha
      exact (h x hx).1 (h2 x hx)
    · have e : encA l = encR l bz := by rw [encA, if_pos h1]
      rw [e, encR_eq l bz (by decide), bz_app']
      by_cases hq : (encB (l.map Ax.aa)).size ≤ 65536
      · exact .inl ⟨hq, by rw [if_pos hq]⟩
      · exact .inr ⟨by omega, by rw [if_neg hq]⟩
  · refine .inl ⟨⟨x.aa, List.mem_map_of_mem hx, fun hp => h2 ((h x hx).2 hp)⟩, ?_⟩
    rw [encA, if_neg (by omega), h1]
end Go.Proofs.Ytbpgiodfccijmaa
namespace Go.Proofs.Ytbpgiodfccijmaa
open Go.Chi

/-! ### the document's Encode -/
set_option maxRecDepth 10000 in
set_option maxHeartbeats 16000000 in
theorem dencode_ok (M : Mem) (L : HL) (s : SAx) (hs : SaOk M s) : TrQ Try.prog 11 [s.v] M L (.tuple ⟨[.string (encA s.xs).1, .int .i64 (encA s.xs).2]⟩) := by
  have hlen := hs.len
  have hlt0 := hs.lt
  obtain ⟨sa, len, cap, xs⟩ := s
  simp only [SAx.v] at *
  refine Tr.intro 41 Try.func11 rfl rfl Try.call11 rfl ?_
  intro C hC hro
  repeat (first | with_reducible (first | refine cS ?_ | refine cR ?_ | refine cN ?_ | refine cK ?_ | refine cB ?_ | refine cI ?_) | refine cE rfl ?_ | refine rq (qt_pev tok rfl) ?_ | refine rg rfl rfl (qt_pev tok rfl) ?_ | refine rq (ql tok rfl) ?_ | refine rg rfl rfl (ql tok rfl) ?_ | (refine runL_op0 (sst tok rfl rfl rfl rfl rfl) ?_; rintro _ _ _ ⟨rfl, rfl, rfl⟩) | ((first | refine ro (st_box rfl) ?_ | refine ro (st_alloc tok rfl) ?_ | refine ro (st_buildSlice tok rfl rfl rfl rfl rfl rfl rfl) ?_); rintro _ _ _ ⟨_, rfl, rfl, rfl⟩))
  refine run_loopN (fun j σ1 M2 L1 => j ≤ len ∧ M = M2 ∧ L = L1 ∧ (∀ y ∈ xs.take j, chkA y = 0) ∧ σ1 = [(4, .int .i64 (j : Int)), (0, .slice sa len cap)]) len [(4, .int .i64 ((0 : Nat) : Int)), (0, .slice sa len cap)] ?_ ⟨Nat.zero_le _, rfl, rfl, by simp, rfl⟩ (fun j _ _ _ h => h.1) ?_
  · exact ⟨rfl, rfl, trivial⟩
  rintro j _ _ _ ⟨hj, rfl, rfl, h0, rfl⟩ hnext
  repeat (first | with_reducible (first | refine cS ?_ | refine cR ?_ | refine cN ?_ | refine cK ?_ | refine cB ?_ | refine cI ?_) | refine cE rfl ?_ | refine rq (qt_pev tok rfl) ?_ | refine rg rfl rfl (qt_pev tok rfl) ?_ | refine rq (ql tok rfl) ?_ | refine rg rfl rfl (ql tok rfl) ?_ | (refine runL_op0 (sst tok rfl rfl rfl rfl rfl) ?_; rintro _ _ _ ⟨rfl, rfl, rfl⟩) | ((first | refine ro (st_box rfl) ?_ | refine ro (st_alloc tok rfl) ?_ | refine ro (st_buildSlice tok rfl rfl rfl rfl rfl rfl rfl) ?_); rintro _ _ _ ⟨_, rfl, rfl, rfl⟩))
  refine run_cond rfl (fun h => ?_) (fun h => ?_)
  · have hlt : j < len := by simpa using h
    obtain ⟨b, off, x, rfl, hx, hcells⟩ := SAx.at_ hs.sl hlt
    have hxo := hs.each x (List.mem_of_getElem? hx)
    obtain ⟨rm, hrm⟩ : ∃ rm : Bool, rm = true ↔ AcP x.aa := by
      by_cases hq : AcP x.aa
      · exact ⟨true, by simp [hq]⟩
      · exact ⟨false, by simp [hq]⟩
    repeat (first | with_reducible (first | refine cS ?_ | refine cR ?_ | refine cN ?_ | refine cK ?_ | refine cB ?_ | refine cI ?_) | refine cE rfl ?_ | refine rq (qt_pev tok rfl) ?_ | refine rg rfl rfl (qt_pev tok rfl) ?_ | refine rq (ql tok rfl) ?_ | refine rg rfl rfl (ql tok rfl) ?_ | (refine runL_op0 (sst tok rfl rfl rfl rfl rfl) ?_; rintro _ _ _ ⟨rfl, rfl, rfl⟩) | ((first | refine ro (st_box rfl) ?_ | refine ro (st_alloc tok rfl) ?_ | refine ro (st_buildSlice tok rfl rfl rfl rfl rfl rfl rfl) ?_); rintro _ _ _ ⟨_, rfl, rfl, rfl⟩) | refine runL_q (qt_indexN tok rfl rfl rfl rfl (fun _ => by omega)) rfl rfl rfl ?_ | refine runL_g rfl rfl (qt_indexN tok rfl rfl rfl rfl (fun _ => by omega)) rfl rfl rfl rfl rfl ?_ | refine runL_q (qt_ldM tok rfl hcells rfl) rfl rfl rfl ?_ | refine runL_g rfl rfl (qt_ldM tok rfl hcells rfl) rfl rfl rfl rfl rfl ?_ | refine runL_q (qt_ldM0 tok rfl hcells rfl) rfl rfl rfl ?_ | refine runL_g rfl rfl (qt_ldM0 tok rfl hcells rfl) rfl rfl rfl rfl rfl ?_ | refine runL_q (qt_callF rfl (fun _ => refMay_ok _ _ x hxo rm hrm)) rfl rfl rfl ?_)
    refine run_cond rfl (fun h => ?_) (fun h => ?_)
    · have hx0 : chkA x ≠ 0 := fun e => by
        have := hrm.2 (hxo.iff.1 e)
        rw [this] at h; cases h
      have hx2 : chkA x = 2 := (chkA_02 x).resolve_left hx0
      have hd := chkL_drop hx h0
      have hv : chkL xs = 2 := by rw [hd.1, hd.2, chkL, if_neg hx0, hx2]
      have hE : encA xs = (⟨#[]⟩, 2) := by rw [encA, hv, if_neg (by decide)]
      repeat (first | with_reducible (first | refine cS ?_ | refine cR ?_ | refine cN ?_ | refine cK ?_ | refine cB ?_ | refine cI ?_) | refine cE rfl ?_ | refine rq (qt_pev tok rfl) ?_ | refine rg rfl rfl (qt_pev tok rfl) ?_ | refine rq (ql tok rfl) ?_ | refine rg rfl rfl (ql tok rfl) ?_ | (refine runL_op0 (sst tok rfl rfl rfl rfl rfl) ?_; rintro _ _ _ ⟨rfl, rfl, rfl⟩) | ((first | refine ro (st_box rfl) ?_ | refine ro (st_alloc tok rfl) ?_ | refine ro (st_buildSlice tok rfl rfl rfl rfl rfl rfl rfl) ?_); rintro _ _ _ ⟨_, rfl, rfl, rfl⟩))
      exact run_ret hC (rs := [.tmp 2, .tmp 3]) rfl (resT rfl (resT rfl resN)) (fun _ h => h) ⟨by rw [hE]; rfl, rfl, rfl⟩
    · have hx0 : chkA x = 0 := hxo.iff.2 (hrm.1 (by simpa using h))
      repeat (first | with_reducible (first | refine cS ?_ | refine cR ?_ | refine cN ?_ | refine cK ?_ | refine cB ?_ | refine cI ?_) | refine cE rfl ?_ | refine rq (qt_pev tok rfl) ?_ | refine rg rfl rfl (qt_pev tok rfl) ?_ | refine rq (ql tok rfl) ?_ | refine rg rfl rfl (ql tok rfl) ?_ | (refine runL_op0 (sst tok rfl rfl rfl rfl rfl) ?_; rintro _ _ _ ⟨rfl, rfl, rfl⟩) | ((first | refine ro (st_box rfl) ?_ | refine ro (st_alloc tok rfl) ?_ | refine ro (st_buildSlice tok rfl rfl rfl rfl rfl rfl rfl) ?_); rintro _ _ _ ⟨_, rfl, rfl, rfl⟩))
      refine run_sub' (hnext _ _ _ ⟨hlt, rfl, rfl, ?_, rfl⟩) ⟨lk_succ rfl (by omega), rfl, trivial⟩
      intro y hy
      rw [take_snoc hx] at hy
      rcases List.mem_append.1 hy with hy | hy
      · exact h0 y hy
      · rw [List.mem_singleton.1 hy]; exact hx0
  · have hge : j = len := by simp at h; omega
    subst hge
    have hall : ∀ y ∈ xs, chkA y = 0 := by
      rw [List.take_of_length_le (Nat.le_of_eq hlen)] at h0
      exact h0
    have hEA : encA xs = encR xs bz := by rw [encA, if_pos (chkL_all hall)]
    clear h0 hnext
    repeat (first | with_reducible (first | refine cS ?_ | refine cR ?_ | refine cN ?_ | refine cK ?_ | refine cB ?_ | refine cI ?_) | refine cE rfl ?_ | refine rq (qt_pev tok rfl) ?_ | refine rg rfl rfl (qt_pev tok rfl) ?_ | refine rq (ql tok rfl) ?_ | refine rg rfl rfl (ql tok rfl) ?_ | (refine runL_op0 (sst tok rfl rfl rfl rfl rfl) ?_; rintro _ _ _ ⟨rfl, rfl, rfl⟩) | ((first | refine ro (st_box rfl) ?_ | refine ro (st_alloc tok rfl) ?_ | refine ro (st_buildSlice tok rfl rfl rfl rfl rfl rfl rfl) ?_); rintro _ _ _ ⟨_, rfl, rfl, rfl⟩))
    refine run_loopN (fun i σ1 M2 L1 => i ≤ j ∧ M = M2 ∧ L = L1 ∧ ∃ S : ByteArray, S.size ≤ 1000000 ∧ (S.size ≤ 65536 → encR xs bz = encR (xs.drop i) S) ∧ (65536 < S.size → encR xs bz = (⟨#[]⟩, 5)) ∧ σ1 = [(6, .int .i64 (i : Int)), (5, .string S), (0, .slice sa j cap)]) j [(6, .int .i64 ((0 : Nat) : Int)), (5, .string bz), (0, .slice sa j cap)] ?_ ⟨Nat.zero_le _, rfl, rfl, bz, by decide, fun _ => rfl, fun h => absurd h (by decide), rfl⟩ (fun j _ _ _ h => h.1) ?_
    · exact ⟨rfl, rfl, rfl, trivial⟩
    rintro i _ _ _ ⟨hi, rfl, rfl, S, hS, hE1, hE2, rfl⟩ hnext
    repeat (first | with_reducible (first | refine cS ?_ | refine cR ?_ | refine cN ?_ | refine cK ?_ | refine cB ?_ | refine cI ?_) | refine cE rfl ?_ | refine rq (qt_pev tok rfl) ?_ | refine rg rfl rfl (qt_pev tok rfl) ?_ | refine rq (ql tok rfl) ?_ | refine rg rfl rfl (ql tok rfl) ?_ | (refine runL_op0 (sst tok rfl rfl rfl rfl rfl) ?_; rintro _ _ _ ⟨rfl, rfl, rfl⟩) | ((first | refine ro (st_box rfl) ?_ | refine ro (st_alloc tok rfl) ?_ | refine ro (st_buildSlice tok rfl rfl rfl rfl rfl rfl rfl) ?_); rintro _ _ _ ⟨_, rfl, rfl, rfl⟩))
    refine run_cond rfl (fun h => ?_) (fun h => ?_)
    · have h' : (decide ((i : Int) < (j : Int)) && decide ((S.size : Int) ≤ 65536)) = true := h
      simp only [Bool.and_eq_true, decide_eq_true_eq] at h'
      have hlt : i < j := by omega
      have hS6 : S.size ≤ 65536 := by omega
      obtain ⟨b, off, x, rfl, hx, hcells⟩ := SAx.at_ hs.sl hlt
      have hxo := hs.each x (List.mem_of_getElem? hx)
      have hxp : AcP x.aa := hxo.iff.1 (hall x (List.mem_of_getElem? hx))
      have hal := actB_lim hxp (shortA hxp (fun m hm => by have := hxo.pay m hm; omega))
      have hcat : S.size + (actB x.aa).size < 4611686018427387904 := by omega
      repeat (first | with_reducible (first | refine cS ?_ | refine cR ?_ | refine cN ?_ | refine cK ?_ | refine cB ?_ | refine cI ?_) | refine cE rfl ?_ | refine rq (qt_pev tok rfl) ?_ | refine rg rfl rfl (qt_pev tok rfl) ?_ | refine rq (ql tok rfl) ?_ | refine rg rfl rfl (ql tok rfl) ?_ | (refine runL_op0 (sst tok rfl rfl rfl rfl rfl) ?_; rintro _ _ _ ⟨rfl, rfl, rfl⟩) | ((first | refine ro (st_box rfl) ?_ | refine ro (st_alloc tok rfl) ?_ | refine ro (st_buildSlice tok rfl rfl rfl rfl rfl rfl rfl) ?_); rintro _ _ _ ⟨_, rfl, rfl, rfl⟩) | refine runL_q (qt_indexN tok rfl rfl rfl rfl (fun _ => by omega)) rfl rfl rfl ?_ | refine runL_g rfl rfl (qt_indexN tok rfl rfl rfl rfl (fun _ => by omega)) rfl rfl rfl rfl rfl ?_ | refine runL_q (qt_ldM tok rfl hcells rfl) rfl rfl rfl ?_ | refine runL_g rfl rfl (qt_ldM tok rfl hcells rfl) rfl rfl rfl rfl rfl ?_ | refine runL_q (qt_ldM0 tok rfl hcells rfl) rfl rfl rfl ?_ | refine runL_g rfl rfl (qt_ldM0 tok rfl hcells rfl) rfl rfl rfl rfl rfl ?_ | refine runL_q (qt_callF rfl (fun _ => dOne_ok _ _ x hxo hxp)) rfl rfl rfl ?_ | refine runL_q (qt_concat rfl rfl hcat) rfl rfl rfl ?_)
      have hd : xs.drop i = x :: xs.drop (i + 1) := by
        obtain ⟨hlt', hx'⟩ := List.getElem?_eq_some_iff.1 hx
        rw [List.drop_eq_getElem_cons hlt', hx']
      have hE := hE1 hS6
      rw [hd, encR] at hE
      refine run_sub' (hnext _ _ _ ⟨hlt, rfl, rfl, S ++ actB x.aa, by rw [app_size]; omega, fun hq => ?_, fun hq => ?_, rfl⟩) ⟨lk_succ rfl (by omega), rfl, rfl, trivial⟩
      · rw [hE, if_neg (by omega)]
      · rw [hE, if_pos hq]
    · have h' : (decide ((i : Int) < (j : Int)) && decide ((S.size : Int) ≤ 65536)) = false := h
      simp only [Bool.and_eq_false_iff, decide_eq_false_iff_not] at h'
      repeat (first | with_reducible (first | refine cS ?_ | refine cR ?_ | refine cN ?_ | refine cK ?_ | refine cB ?_ | refine cI ?_) | refine cE rfl ?_ | refine rq (qt_pev tok rfl) ?_ | refine rg rfl rfl (qt_pev tok rfl) ?_ | refine rq (ql tok rfl) ?_ | refine rg rfl rfl (ql tok rfl) ?_ | (refine runL_op0 (sst tok rfl rfl rfl rfl rfl) ?_; rintro _ _ _ ⟨rfl, rfl, rfl⟩) | ((first | refine ro (st_box rfl) ?_ | refine ro (st_alloc tok rfl) ?_ | refine ro (st_buildSlice tok rfl rfl rfl rfl rfl rfl rfl) ?_); rintro _ _ _ ⟨_, rfl, rfl, rfl⟩))
      refine run_cond rfl (fun h => ?_) (fun h => ?_)
      · have hgt : 65536 < S.size := by have := of_decide_eq_true h; omega
        have hv : encA xs = (⟨#[]⟩, 5) := by rw [hEA, hE2 hgt]
        repeat (first | with_reducible (first | refine cS ?_ | refine cR ?_ | refine cN ?_ | refine cK ?_ | refine cB ?_ | refine cI ?_) | refine cE rfl ?_ | refine rq (qt_pev tok rfl) ?_ | refine rg rfl rfl (qt_pev tok rfl) ?_ | refine rq (ql tok rfl) ?_ | refine rg rfl rfl (ql tok rfl) ?_ | (refine runL_op0 (sst tok rfl rfl rfl rfl rfl) ?_; rintro _ _ _ ⟨rfl, rfl, rfl⟩) | ((first | refine ro (st_box rfl) ?_ | refine ro (st_alloc tok rfl) ?_ | refine ro (st_buildSlice tok rfl rfl rfl rfl rfl rfl rfl) ?_); rintro _ _ _ ⟨_, rfl, rfl, rfl⟩))
        exact run_ret hC (rs := [.tmp 2, .tmp 3]) rfl (resT rfl (resT rfl resN)) (fun _ h => h) ⟨by rw [hv]; rfl, rfl, rfl⟩
      · have hgt : S.size ≤ 65536 := by have := of_decide_eq_false h; omega
        have hge : i = j := by omega
        subst hge
        have hv : encA xs = (S, 0) := by rw [hEA, hE1 hgt, List.drop_eq_nil_of_le (Nat.le_of_eq hlen), encR]
        repeat (first | with_reducible (first | refine cS ?_ | refine cR ?_ | refine cN ?_ | refine cK ?_ | refine cB ?_ | refine cI ?_) | refine cE rfl ?_ | refine rq (qt_pev tok rfl) ?_ | refine rg rfl rfl (qt_pev tok rfl) ?_ | refine rq (ql tok rfl) ?_ | refine rg rfl rfl (ql tok rfl) ?_ | (refine runL_op0 (sst tok rfl rfl rfl rfl rfl) ?_; rintro _ _ _ ⟨rfl, rfl, rfl⟩) | ((first | refine ro (st_box rfl) ?_ | refine ro (st_alloc tok rfl) ?_ | refine ro (st_buildSlice tok rfl rfl rfl rfl rfl rfl rfl) ?_); rintro _ _ _ ⟨_, rfl, rfl, rfl⟩))
        exact run_ret hC (rs := [.tmp 2, .tmp 3]) rfl (resT rfl (resT rfl resN)) (fun _ h => h) ⟨by rw [hv]; rfl, rfl, rfl⟩
end Go.Proofs.Ytbpgiodfccijmaa
