import Derived.Test.YtbpgiodfccijmaaBTB
import Derived.Test.YtbpgiodfccijmaaBTE
import Derived.Test.YtbpgiodfccijmaaBTD
import Derived.KernelRfl
import Derived.ChangeMaps5
namespace Go.Proofs.Ytbpgiodfccijmaa
open Go.Chi

theorem sameSp_iff (x y : Sp) : sameSp x y = true ↔ x = y := by
  obtain ⟨d, a, b, c, n, t, l⟩ := x
  obtain ⟨d', a', b', c', n', t', l'⟩ := y
  unfold sameSp
  rw [bytes_beq]
  simp [and_assoc]
set_option maxRecDepth 10000 in
set_option maxHeartbeats 32000000 in
theorem refSameAct_ok (M : Mem) (L : HL) (x y : Ax) (hx : AxOk M x) (hy : AxOk M y) (r : Bool) (hr : r = true ↔ x.aa = y.aa) : TrQ Try.prog 21 [.agg ⟨axC x⟩, .agg ⟨axC y⟩] M L (.bool r) := by
  have l1 := hx.gives.len
  have l2 := hy.gives.len
  have l3 := hx.steps.len
  have l4 := hy.steps.len
  have n1 := hx.gives.2
  have n3 := hx.steps.lt
  refine Tr.intro 102 Try.func21 rfl rfl Try.call21 rfl ?_
  intro C hC hro
  repeat (first | with_reducible (first | refine cS ?_ | refine cR ?_ | refine cN ?_ | refine cK ?_ | refine cB ?_ | refine cI ?_) | refine cE rfl ?_ | refine rq (qt_pev tok rfl) ?_ | refine rg rfl rfl (qt_pev tok rfl) ?_ | refine rq (ql tok rfl) ?_ | refine rg rfl rfl (ql tok rfl) ?_ | (refine runL_op0 (sst tok rfl rfl rfl rfl rfl) ?_; rintro _ _ _ ⟨rfl, rfl, rfl⟩) | ((first | refine ro (st_box rfl) ?_ | refine ro (st_alloc tok rfl) ?_ | refine ro (st_buildSlice tok rfl rfl rfl rfl rfl rfl rfl) ?_); rintro _ _ _ ⟨_, rfl, rfl, rfl⟩))
  rename_i bx bY
  refine run_cond rfl (fun h => ?_) (fun h => ?_)
  · have hrf : r = false := by
      cases r with
      | false => rfl
      | true =>
        exfalso
        have he := hr.1 rfl
        simp only [Ax.aa, Aa.mk.injEq] at he
        obtain ⟨e1, e2, e3, e4, e5, e6, e7, e8⟩ := he
        have e9 : x.gives.len = y.gives.len := by rw [← l1, ← l2, e5]
        have e10 : x.steps.len = y.steps.len := by have := congrArg List.length e8; simpa [l3, l4] using this
        simp [e1, e2, e3, e4, e6, e7, e9, e10] at h
    subst hrf
    repeat (first | with_reducible (first | refine cS ?_ | refine cR ?_ | refine cN ?_ | refine cK ?_ | refine cB ?_ | refine cI ?_) | refine cE rfl ?_ | refine rq (qt_pev tok rfl) ?_ | refine rg rfl rfl (qt_pev tok rfl) ?_ | refine rq (ql tok rfl) ?_ | refine rg rfl rfl (ql tok rfl) ?_ | (refine runL_op0 (sst tok rfl rfl rfl rfl rfl) ?_; rintro _ _ _ ⟨rfl, rfl, rfl⟩) | ((first | refine ro (st_box rfl) ?_ | refine ro (st_alloc tok rfl) ?_ | refine ro (st_buildSlice tok rfl rfl rfl rfl rfl rfl rfl) ?_); rintro _ _ _ ⟨_, rfl, rfl, rfl⟩))
    exact run_ret hC (rs := [.tmp 4]) rfl (resT rfl resN) (fun _ h => h.drop.drop) ⟨rfl, rfl, rfl⟩
  have hall : x.do_ = y.do_ ∧ x.org = y.org ∧ x.auditor = y.auditor ∧ x.n = y.n ∧ x.txn = y.txn ∧ x.yes = y.yes ∧ x.gives.len = y.gives.len ∧ x.steps.len = y.steps.len := by
    simp only [Bool.or_eq_false_iff, bne_eq_false_iff_eq, Bool.not_eq_false', Bool.and_eq_true, beq_iff_eq, and_true] at h
    obtain ⟨⟨⟨⟨⟨⟨⟨e1, e2⟩, e3⟩, e4⟩, e5, e6, e7⟩, e8⟩, e9⟩, e10⟩ := h
    refine ⟨e1, e2, e3, e4, ?_, e8, by omega, by omega⟩
    cases hxt : x.txn
    cases hyt : y.txn
    rw [hxt, hyt] at e5 e6 e7
    simp only at e5 e6 e7
    rw [e5, e6, e7]
  obtain ⟨e1, e2, e3, e4, e6, e7, e9, e10⟩ := hall
  have hr2 : r = true ↔ x.gives.xs = y.gives.xs ∧ x.steps.xs.map Sr.sp = y.steps.xs.map Sr.sp := by
    rw [hr]
    simp only [Ax.aa, Aa.mk.injEq]
    exact ⟨fun q => ⟨q.2.2.2.2.1, q.2.2.2.2.2.2.2⟩, fun q => ⟨e1, e2, e3, e4, q.1, e6, e7, q.2⟩⟩
  repeat (first | with_reducible (first | refine cS ?_ | refine cR ?_ | refine cN ?_ | refine cK ?_ | refine cB ?_ | refine cI ?_) | refine cE rfl ?_ | refine rq (qt_pev tok rfl) ?_ | refine rg rfl rfl (qt_pev tok rfl) ?_ | refine rq (ql tok rfl) ?_ | refine rg rfl rfl (ql tok rfl) ?_ | (refine runL_op0 (sst tok rfl rfl rfl rfl rfl) ?_; rintro _ _ _ ⟨rfl, rfl, rfl⟩) | ((first | refine ro (st_box rfl) ?_ | refine ro (st_alloc tok rfl) ?_ | refine ro (st_buildSlice tok rfl rfl rfl rfl rfl rfl rfl) ?_); rintro _ _ _ ⟨_, rfl, rfl, rfl⟩))
  refine run_loopN (fun j σ1 M1 L1 => j ≤ x.gives.len ∧ M = M1 ∧ x.gives.xs.take j = y.gives.xs.take j ∧ L1 = (bY, .cells ⟨axC y⟩ 37 (0, 0)) :: (bx, .cells ⟨axC x⟩ 37 (0, 0)) :: L ∧ σ1 = [(5, .int .i64 (j : Int)), (2, .pointer (some ⟨bx, 0, none⟩)), (3, .pointer (some ⟨bY, 0, none⟩))]) x.gives.len [(5, .int .i64 ((0 : Nat) : Int)), (2, .pointer (some ⟨bx, 0, none⟩)), (3, .pointer (some ⟨bY, 0, none⟩))] ?_ ⟨Nat.zero_le _, rfl, by simp, rfl, rfl⟩ (fun j _ _ _ h => h.1) ?_
  · exact ⟨rfl, rfl, rfl, trivial⟩
  rintro j _ _ _ ⟨hj, rfl, heq, rfl, rfl⟩ hnext
  repeat (first | with_reducible (first | refine cS ?_ | refine cR ?_ | refine cN ?_ | refine cK ?_ | refine cB ?_ | refine cI ?_) | refine cE rfl ?_ | refine rq (qt_pev tok rfl) ?_ | refine rg rfl rfl (qt_pev tok rfl) ?_ | refine rq (ql tok rfl) ?_ | refine rg rfl rfl (ql tok rfl) ?_ | (refine runL_op0 (sst tok rfl rfl rfl rfl rfl) ?_; rintro _ _ _ ⟨rfl, rfl, rfl⟩) | ((first | refine ro (st_box rfl) ?_ | refine ro (st_alloc tok rfl) ?_ | refine ro (st_buildSlice tok rfl rfl rfl rfl rfl rfl rfl) ?_); rintro _ _ _ ⟨_, rfl, rfl, rfl⟩))
  refine run_cond rfl (fun h => ?_) (fun h => ?_)
  · have hlt : j < x.gives.len := by simpa using h
    obtain ⟨b, off, m, hma, hm, hc⟩ := SMb.at_ hx.gives.1 hlt
    have hv : x.gives.v = .slice (some ⟨b, off, none⟩) x.gives.len x.gives.cap := by rw [← hma]; rfl
    obtain ⟨b', off', m', hma', hm', hc'⟩ := SMb.at_ hy.gives.1 (show j < y.gives.len by omega)
    have hv' : y.gives.v = .slice (some ⟨b', off', none⟩) y.gives.len y.gives.cap := by rw [← hma']; rfl
    repeat (first | with_reducible (first | refine cS ?_ | refine cR ?_ | refine cN ?_ | refine cK ?_ | refine cB ?_ | refine cI ?_) | refine cE rfl ?_ | refine rq (qt_pev tok rfl) ?_ | refine rg rfl rfl (qt_pev tok rfl) ?_ | refine rq (ql tok rfl) ?_ | refine rg rfl rfl (ql tok rfl) ?_ | (refine runL_op0 (sst tok rfl rfl rfl rfl rfl) ?_; rintro _ _ _ ⟨rfl, rfl, rfl⟩) | ((first | refine ro (st_box rfl) ?_ | refine ro (st_alloc tok rfl) ?_ | refine ro (st_buildSlice tok rfl rfl rfl rfl rfl rfl rfl) ?_); rintro _ _ _ ⟨_, rfl, rfl, rfl⟩))
    repeat (first | with_reducible (first | refine cS ?_ | refine cR ?_ | refine cN ?_ | refine cK ?_ | refine cB ?_ | refine cI ?_) | refine cE rfl ?_ | refine rq (qt_pev tok rfl) ?_ | refine rg rfl rfl (qt_pev tok rfl) ?_ | refine rq (ql tok rfl) ?_ | refine rg rfl rfl (ql tok rfl) ?_ | (refine runL_op0 (sst tok rfl rfl rfl rfl rfl) ?_; rintro _ _ _ ⟨rfl, rfl, rfl⟩) | ((first | refine ro (st_box rfl) ?_ | refine ro (st_alloc tok rfl) ?_ | refine ro (st_buildSlice tok rfl rfl rfl rfl rfl rfl rfl) ?_); rintro _ _ _ ⟨_, rfl, rfl, rfl⟩) | refine prn_start mixed ?_ | refine prn_end (by decide +kernel) ?_ | refine pq rfl (qt_pev tok rfl) ?_ | refine pg rfl rfl rfl (qt_pev tok rfl) ?_ | refine pq rfl (ql tok rfl) ?_ | refine pg rfl rfl rfl (ql tok rfl) ?_ | (refine prn_e0 rfl (sst tok rfl rfl rfl rfl rfl) (by decide +kernel) ?_; rintro _ _ _ ⟨rfl, rfl, rfl⟩) | ((first | refine pe rfl (st_box rfl) ?_ | refine pe rfl (st_alloc tok rfl) ?_ | refine pe rfl (st_buildSlice tok rfl rfl rfl rfl rfl rfl rfl) ?_); rintro _ _ _ ⟨_, rfl, rfl, rfl⟩) | (refine prn_o0 rfl (sst tok rfl rfl rfl rfl rfl) (by decide +kernel) ?_; rintro _ _ _ ⟨rfl, rfl, rfl⟩; refine ⟨by (repeat (first | exact trivial | refine And.intro (pend_q rfl rfl rfl (qt_pev tok rfl)) ?_ | refine And.intro (pend_q rfl rfl rfl (ql tok rfl)) ?_)), ?_⟩) | ((first | refine po rfl (st_box rfl) ?_ | refine po rfl (st_alloc tok rfl) ?_ | refine po rfl (st_buildSlice tok rfl rfl rfl rfl rfl rfl rfl) ?_); rintro _ _ _ ⟨_, rfl, rfl, rfl⟩; refine ⟨by (repeat (first | exact trivial | refine And.intro (pend_q rfl rfl rfl (qt_pev tok rfl)) ?_ | refine And.intro (pend_q rfl rfl rfl (ql tok rfl)) ?_)), ?_⟩) | (refine pe rfl (qt_pev tok rfl) ?_; rintro _ _ _ ⟨rfl, rfl, rfl⟩))
    refine pr_as 73 (.slice (some ⟨b, off, none⟩) x.gives.len x.gives.cap) rfl hv ?_
    repeat (first | with_reducible (first | refine cS ?_ | refine cR ?_ | refine cN ?_ | refine cK ?_ | refine cB ?_ | refine cI ?_) | refine cE rfl ?_ | refine rq (qt_pev tok rfl) ?_ | refine rg rfl rfl (qt_pev tok rfl) ?_ | refine rq (ql tok rfl) ?_ | refine rg rfl rfl (ql tok rfl) ?_ | (refine runL_op0 (sst tok rfl rfl rfl rfl rfl) ?_; rintro _ _ _ ⟨rfl, rfl, rfl⟩) | ((first | refine ro (st_box rfl) ?_ | refine ro (st_alloc tok rfl) ?_ | refine ro (st_buildSlice tok rfl rfl rfl rfl rfl rfl rfl) ?_); rintro _ _ _ ⟨_, rfl, rfl, rfl⟩) | refine prn_start mixed ?_ | refine prn_end (by decide +kernel) ?_ | refine pq rfl (qt_pev tok rfl) ?_ | refine pg rfl rfl rfl (qt_pev tok rfl) ?_ | refine pq rfl (ql tok rfl) ?_ | refine pg rfl rfl rfl (ql tok rfl) ?_ | (refine prn_e0 rfl (sst tok rfl rfl rfl rfl rfl) (by decide +kernel) ?_; rintro _ _ _ ⟨rfl, rfl, rfl⟩) | ((first | refine pe rfl (st_box rfl) ?_ | refine pe rfl (st_alloc tok rfl) ?_ | refine pe rfl (st_buildSlice tok rfl rfl rfl rfl rfl rfl rfl) ?_); rintro _ _ _ ⟨_, rfl, rfl, rfl⟩) | (refine prn_o0 rfl (sst tok rfl rfl rfl rfl rfl) (by decide +kernel) ?_; rintro _ _ _ ⟨rfl, rfl, rfl⟩; refine ⟨by (repeat (first | exact trivial | refine And.intro (pend_q rfl rfl rfl (qt_pev tok rfl)) ?_ | refine And.intro (pend_q rfl rfl rfl (ql tok rfl)) ?_)), ?_⟩) | ((first | refine po rfl (st_box rfl) ?_ | refine po rfl (st_alloc tok rfl) ?_ | refine po rfl (st_buildSlice tok rfl rfl rfl rfl rfl rfl rfl) ?_); rintro _ _ _ ⟨_, rfl, rfl, rfl⟩; refine ⟨by (repeat (first | exact trivial | refine And.intro (pend_q rfl rfl rfl (qt_pev tok rfl)) ?_ | refine And.intro (pend_q rfl rfl rfl (ql tok rfl)) ?_)), ?_⟩) | (refine pe rfl (qt_pev tok rfl) ?_; rintro _ _ _ ⟨rfl, rfl, rfl⟩) | refine prn_q rfl (qt_indexN tok rfl rfl rfl rfl (fun _ => by omega)) (by decide +kernel) rfl rfl rfl ?_ | refine prn_g rfl rfl rfl (qt_indexN tok rfl rfl rfl rfl (fun _ => by omega)) (by decide +kernel) rfl rfl rfl rfl rfl ?_ | refine prn_q rfl (qt_ldM tok rfl hc rfl) (by decide +kernel) rfl rfl rfl ?_ | refine prn_g rfl rfl rfl (qt_ldM tok rfl hc rfl) (by decide +kernel) rfl rfl rfl rfl rfl ?_ | refine prn_q rfl (qt_ldM0 tok rfl hc rfl) (by decide +kernel) rfl rfl rfl ?_ | refine prn_g rfl rfl rfl (qt_ldM0 tok rfl hc rfl) (by decide +kernel) rfl rfl rfl rfl rfl ?_)
    refine pr_as 78 (.slice (some ⟨b', off', none⟩) y.gives.len y.gives.cap) rfl hv' ?_
    repeat (first | with_reducible (first | refine cS ?_ | refine cR ?_ | refine cN ?_ | refine cK ?_ | refine cB ?_ | refine cI ?_) | refine cE rfl ?_ | refine rq (qt_pev tok rfl) ?_ | refine rg rfl rfl (qt_pev tok rfl) ?_ | refine rq (ql tok rfl) ?_ | refine rg rfl rfl (ql tok rfl) ?_ | (refine runL_op0 (sst tok rfl rfl rfl rfl rfl) ?_; rintro _ _ _ ⟨rfl, rfl, rfl⟩) | ((first | refine ro (st_box rfl) ?_ | refine ro (st_alloc tok rfl) ?_ | refine ro (st_buildSlice tok rfl rfl rfl rfl rfl rfl rfl) ?_); rintro _ _ _ ⟨_, rfl, rfl, rfl⟩) | refine prn_start mixed ?_ | refine prn_end (by decide +kernel) ?_ | refine pq rfl (qt_pev tok rfl) ?_ | refine pg rfl rfl rfl (qt_pev tok rfl) ?_ | refine pq rfl (ql tok rfl) ?_ | refine pg rfl rfl rfl (ql tok rfl) ?_ | (refine prn_e0 rfl (sst tok rfl rfl rfl rfl rfl) (by decide +kernel) ?_; rintro _ _ _ ⟨rfl, rfl, rfl⟩) | ((first | refine pe rfl (st_box rfl) ?_ | refine pe rfl (st_alloc tok rfl) ?_ | refine pe rfl (st_buildSlice tok rfl rfl rfl rfl rfl rfl rfl) ?_); rintro _ _ _ ⟨_, rfl, rfl, rfl⟩) | (refine prn_o0 rfl (sst tok rfl rfl rfl rfl rfl) (by decide +kernel) ?_; rintro _ _ _ ⟨rfl, rfl, rfl⟩; refine ⟨by (repeat (first | exact trivial | refine And.intro (pend_q rfl rfl rfl (qt_pev tok rfl)) ?_ | refine And.intro (pend_q rfl rfl rfl (ql tok rfl)) ?_)), ?_⟩) | ((first | refine po rfl (st_box rfl) ?_ | refine po rfl (st_alloc tok rfl) ?_ | refine po rfl (st_buildSlice tok rfl rfl rfl rfl rfl rfl rfl) ?_); rintro _ _ _ ⟨_, rfl, rfl, rfl⟩; refine ⟨by (repeat (first | exact trivial | refine And.intro (pend_q rfl rfl rfl (qt_pev tok rfl)) ?_ | refine And.intro (pend_q rfl rfl rfl (ql tok rfl)) ?_)), ?_⟩) | (refine pe rfl (qt_pev tok rfl) ?_; rintro _ _ _ ⟨rfl, rfl, rfl⟩) | refine prn_q rfl (qt_indexN tok rfl rfl rfl rfl (fun _ => by omega)) (by decide +kernel) rfl rfl rfl ?_ | refine prn_g rfl rfl rfl (qt_indexN tok rfl rfl rfl rfl (fun _ => by omega)) (by decide +kernel) rfl rfl rfl rfl rfl ?_ | refine prn_q rfl (qt_ldM tok rfl hc' rfl) (by decide +kernel) rfl rfl rfl ?_ | refine prn_g rfl rfl rfl (qt_ldM tok rfl hc' rfl) (by decide +kernel) rfl rfl rfl rfl rfl ?_ | refine prn_q rfl (qt_ldM0 tok rfl hc' rfl) (by decide +kernel) rfl rfl rfl ?_ | refine prn_g rfl rfl rfl (qt_ldM0 tok rfl hc' rfl) (by decide +kernel) rfl rfl rfl rfl rfl ?_)
    have hmb : ∀ t : Bool, (!(m.org == m'.org && ((m.digest.toList == m'.digest.toList) && true))) = t → (t = true ↔ m ≠ m') := by
      rintro _ rfl
      obtain ⟨o, g⟩ := m
      obtain ⟨o', g'⟩ := m'
      rw [bytes_beq]
      simp
      exact ⟨fun h q1 q2 => h.elim (fun q => q q1) (fun q => q q2), fun h => by
        by_cases q : o = o'
        · exact .inr (h q)
        · exact .inl q⟩
    refine run_cond rfl (fun h => ?_) (fun h => ?_)
    · have hne := (hmb true h).1 rfl
      have hrf : r = false := by
        cases r with
        | false => rfl
        | true =>
          have he := (hr2.1 rfl).1
          rw [he, hm'] at hm
          cases hm
          exact absurd rfl hne
      subst hrf
      repeat (first | with_reducible (first | refine cS ?_ | refine cR ?_ | refine cN ?_ | refine cK ?_ | refine cB ?_ | refine cI ?_) | refine cE rfl ?_ | refine rq (qt_pev tok rfl) ?_ | refine rg rfl rfl (qt_pev tok rfl) ?_ | refine rq (ql tok rfl) ?_ | refine rg rfl rfl (ql tok rfl) ?_ | (refine runL_op0 (sst tok rfl rfl rfl rfl rfl) ?_; rintro _ _ _ ⟨rfl, rfl, rfl⟩) | ((first | refine ro (st_box rfl) ?_ | refine ro (st_alloc tok rfl) ?_ | refine ro (st_buildSlice tok rfl rfl rfl rfl rfl rfl rfl) ?_); rintro _ _ _ ⟨_, rfl, rfl, rfl⟩))
      exact run_ret hC (rs := [.tmp 4]) rfl (resT rfl resN) (fun _ h => h.drop.drop) ⟨rfl, rfl, rfl⟩
    · have hmm : m = m' := Classical.byContradiction fun hne => by have := (hmb false h).2 hne; cases this
      subst hmm
      repeat (first | with_reducible (first | refine cS ?_ | refine cR ?_ | refine cN ?_ | refine cK ?_ | refine cB ?_ | refine cI ?_) | refine cE rfl ?_ | refine rq (qt_pev tok rfl) ?_ | refine rg rfl rfl (qt_pev tok rfl) ?_ | refine rq (ql tok rfl) ?_ | refine rg rfl rfl (ql tok rfl) ?_ | (refine runL_op0 (sst tok rfl rfl rfl rfl rfl) ?_; rintro _ _ _ ⟨rfl, rfl, rfl⟩) | ((first | refine ro (st_box rfl) ?_ | refine ro (st_alloc tok rfl) ?_ | refine ro (st_buildSlice tok rfl rfl rfl rfl rfl rfl rfl) ?_); rintro _ _ _ ⟨_, rfl, rfl, rfl⟩))
      refine run_sub' (hnext _ _ _ ⟨hlt, rfl, ?_, rfl, rfl⟩) ⟨lk_succ rfl (by omega), rfl, rfl, trivial⟩
      rw [take_snoc hm, take_snoc hm', heq]
  have hge : j = x.gives.len := by simp at h; omega
  subst hge
  rw [List.take_of_length_le (by omega), List.take_of_length_le (by omega)] at heq
  clear hnext
  repeat (first | with_reducible (first | refine cS ?_ | refine cR ?_ | refine cN ?_ | refine cK ?_ | refine cB ?_ | refine cI ?_) | refine cE rfl ?_ | refine rq (qt_pev tok rfl) ?_ | refine rg rfl rfl (qt_pev tok rfl) ?_ | refine rq (ql tok rfl) ?_ | refine rg rfl rfl (ql tok rfl) ?_ | (refine runL_op0 (sst tok rfl rfl rfl rfl rfl) ?_; rintro _ _ _ ⟨rfl, rfl, rfl⟩) | ((first | refine ro (st_box rfl) ?_ | refine ro (st_alloc tok rfl) ?_ | refine ro (st_buildSlice tok rfl rfl rfl rfl rfl rfl rfl) ?_); rintro _ _ _ ⟨_, rfl, rfl, rfl⟩))
  refine run_loopN (fun j σ1 M1 L1 => j ≤ x.steps.len ∧ M = M1 ∧ (x.steps.xs.map Sr.sp).take j = (y.steps.xs.map Sr.sp).take j ∧ L1 = (bY, .cells ⟨axC y⟩ 37 (0, 0)) :: (bx, .cells ⟨axC x⟩ 37 (0, 0)) :: L ∧ σ1 = [(6, .int .i64 (j : Int)), (2, .pointer (some ⟨bx, 0, none⟩)), (3, .pointer (some ⟨bY, 0, none⟩))]) x.steps.len [(6, .int .i64 ((0 : Nat) : Int)), (2, .pointer (some ⟨bx, 0, none⟩)), (3, .pointer (some ⟨bY, 0, none⟩))] ?_ ⟨Nat.zero_le _, rfl, by simp, rfl, rfl⟩ (fun j _ _ _ h => h.1) ?_
  · exact ⟨rfl, rfl, rfl, trivial⟩
  rintro j _ _ _ ⟨hj, rfl, heqs, rfl, rfl⟩ hnext
  repeat (first | with_reducible (first | refine cS ?_ | refine cR ?_ | refine cN ?_ | refine cK ?_ | refine cB ?_ | refine cI ?_) | refine cE rfl ?_ | refine rq (qt_pev tok rfl) ?_ | refine rg rfl rfl (qt_pev tok rfl) ?_ | refine rq (ql tok rfl) ?_ | refine rg rfl rfl (ql tok rfl) ?_ | (refine runL_op0 (sst tok rfl rfl rfl rfl rfl) ?_; rintro _ _ _ ⟨rfl, rfl, rfl⟩) | ((first | refine ro (st_box rfl) ?_ | refine ro (st_alloc tok rfl) ?_ | refine ro (st_buildSlice tok rfl rfl rfl rfl rfl rfl rfl) ?_); rintro _ _ _ ⟨_, rfl, rfl, rfl⟩))
  refine run_cond rfl (fun h => ?_) (fun h => ?_)
  · have hlt : j < x.steps.len := by simpa using h
    obtain ⟨b, off, m, hma, hm, hc⟩ := SSr.at_ hx.steps.sl hlt
    have hv : x.steps.v = .slice (some ⟨b, off, none⟩) x.steps.len x.steps.cap := by rw [← hma]; rfl
    obtain ⟨b', off', m', hma', hm', hc'⟩ := SSr.at_ hy.steps.sl (show j < y.steps.len by omega)
    have hv' : y.steps.v = .slice (some ⟨b', off', none⟩) y.steps.len y.steps.cap := by rw [← hma']; rfl
    have hmo := hx.steps.each m (List.mem_of_getElem? hm)
    have hmo' := hy.steps.each m' (List.mem_of_getElem? hm')
    have hms : (x.steps.xs.map Sr.sp)[j]? = some m.sp := by rw [List.getElem?_map, hm]; rfl
    have hms' : (y.steps.xs.map Sr.sp)[j]? = some m'.sp := by rw [List.getElem?_map, hm']; rfl
    repeat (first | with_reducible (first | refine cS ?_ | refine cR ?_ | refine cN ?_ | refine cK ?_ | refine cB ?_ | refine cI ?_) | refine cE rfl ?_ | refine rq (qt_pev tok rfl) ?_ | refine rg rfl rfl (qt_pev tok rfl) ?_ | refine rq (ql tok rfl) ?_ | refine rg rfl rfl (ql tok rfl) ?_ | (refine runL_op0 (sst tok rfl rfl rfl rfl rfl) ?_; rintro _ _ _ ⟨rfl, rfl, rfl⟩) | ((first | refine ro (st_box rfl) ?_ | refine ro (st_alloc tok rfl) ?_ | refine ro (st_buildSlice tok rfl rfl rfl rfl rfl rfl rfl) ?_); rintro _ _ _ ⟨_, rfl, rfl, rfl⟩))
    repeat (first | with_reducible (first | refine cS ?_ | refine cR ?_ | refine cN ?_ | refine cK ?_ | refine cB ?_ | refine cI ?_) | refine cE rfl ?_ | refine rq (qt_pev tok rfl) ?_ | refine rg rfl rfl (qt_pev tok rfl) ?_ | refine rq (ql tok rfl) ?_ | refine rg rfl rfl (ql tok rfl) ?_ | (refine runL_op0 (sst tok rfl rfl rfl rfl rfl) ?_; rintro _ _ _ ⟨rfl, rfl, rfl⟩) | ((first | refine ro (st_box rfl) ?_ | refine ro (st_alloc tok rfl) ?_ | refine ro (st_buildSlice tok rfl rfl rfl rfl rfl rfl rfl) ?_); rintro _ _ _ ⟨_, rfl, rfl, rfl⟩) | refine prn_start mixed ?_ | refine prn_end (by decide +kernel) ?_ | refine pq rfl (qt_pev tok rfl) ?_ | refine pg rfl rfl rfl (qt_pev tok rfl) ?_ | refine pq rfl (ql tok rfl) ?_ | refine pg rfl rfl rfl (ql tok rfl) ?_ | (refine prn_e0 rfl (sst tok rfl rfl rfl rfl rfl) (by decide +kernel) ?_; rintro _ _ _ ⟨rfl, rfl, rfl⟩) | ((first | refine pe rfl (st_box rfl) ?_ | refine pe rfl (st_alloc tok rfl) ?_ | refine pe rfl (st_buildSlice tok rfl rfl rfl rfl rfl rfl rfl) ?_); rintro _ _ _ ⟨_, rfl, rfl, rfl⟩) | (refine prn_o0 rfl (sst tok rfl rfl rfl rfl rfl) (by decide +kernel) ?_; rintro _ _ _ ⟨rfl, rfl, rfl⟩; refine ⟨by (repeat (first | exact trivial | refine And.intro (pend_q rfl rfl rfl (qt_pev tok rfl)) ?_ | refine And.intro (pend_q rfl rfl rfl (ql tok rfl)) ?_)), ?_⟩) | ((first | refine po rfl (st_box rfl) ?_ | refine po rfl (st_alloc tok rfl) ?_ | refine po rfl (st_buildSlice tok rfl rfl rfl rfl rfl rfl rfl) ?_); rintro _ _ _ ⟨_, rfl, rfl, rfl⟩; refine ⟨by (repeat (first | exact trivial | refine And.intro (pend_q rfl rfl rfl (qt_pev tok rfl)) ?_ | refine And.intro (pend_q rfl rfl rfl (ql tok rfl)) ?_)), ?_⟩) | (refine pe rfl (qt_pev tok rfl) ?_; rintro _ _ _ ⟨rfl, rfl, rfl⟩))
    refine pr_as 91 (.slice (some ⟨b, off, none⟩) x.steps.len x.steps.cap) rfl hv ?_
    repeat (first | with_reducible (first | refine cS ?_ | refine cR ?_ | refine cN ?_ | refine cK ?_ | refine cB ?_ | refine cI ?_) | refine cE rfl ?_ | refine rq (qt_pev tok rfl) ?_ | refine rg rfl rfl (qt_pev tok rfl) ?_ | refine rq (ql tok rfl) ?_ | refine rg rfl rfl (ql tok rfl) ?_ | (refine runL_op0 (sst tok rfl rfl rfl rfl rfl) ?_; rintro _ _ _ ⟨rfl, rfl, rfl⟩) | ((first | refine ro (st_box rfl) ?_ | refine ro (st_alloc tok rfl) ?_ | refine ro (st_buildSlice tok rfl rfl rfl rfl rfl rfl rfl) ?_); rintro _ _ _ ⟨_, rfl, rfl, rfl⟩) | refine prn_start mixed ?_ | refine prn_end (by decide +kernel) ?_ | refine pq rfl (qt_pev tok rfl) ?_ | refine pg rfl rfl rfl (qt_pev tok rfl) ?_ | refine pq rfl (ql tok rfl) ?_ | refine pg rfl rfl rfl (ql tok rfl) ?_ | (refine prn_e0 rfl (sst tok rfl rfl rfl rfl rfl) (by decide +kernel) ?_; rintro _ _ _ ⟨rfl, rfl, rfl⟩) | ((first | refine pe rfl (st_box rfl) ?_ | refine pe rfl (st_alloc tok rfl) ?_ | refine pe rfl (st_buildSlice tok rfl rfl rfl rfl rfl rfl rfl) ?_); rintro _ _ _ ⟨_, rfl, rfl, rfl⟩) | (refine prn_o0 rfl (sst tok rfl rfl rfl rfl rfl) (by decide +kernel) ?_; rintro _ _ _ ⟨rfl, rfl, rfl⟩; refine ⟨by (repeat (first | exact trivial | refine And.intro (pend_q rfl rfl rfl (qt_pev tok rfl)) ?_ | refine And.intro (pend_q rfl rfl rfl (ql tok rfl)) ?_)), ?_⟩) | ((first | refine po rfl (st_box rfl) ?_ | refine po rfl (st_alloc tok rfl) ?_ | refine po rfl (st_buildSlice tok rfl rfl rfl rfl rfl rfl rfl) ?_); rintro _ _ _ ⟨_, rfl, rfl, rfl⟩; refine ⟨by (repeat (first | exact trivial | refine And.intro (pend_q rfl rfl rfl (qt_pev tok rfl)) ?_ | refine And.intro (pend_q rfl rfl rfl (ql tok rfl)) ?_)), ?_⟩) | (refine pe rfl (qt_pev tok rfl) ?_; rintro _ _ _ ⟨rfl, rfl, rfl⟩) | refine prn_q rfl (qt_indexN tok rfl rfl rfl rfl (fun _ => by omega)) (by decide +kernel) rfl rfl rfl ?_ | refine prn_g rfl rfl rfl (qt_indexN tok rfl rfl rfl rfl (fun _ => by omega)) (by decide +kernel) rfl rfl rfl rfl rfl ?_ | refine prn_q rfl (qt_ldM tok rfl hc rfl) (by decide +kernel) rfl rfl rfl ?_ | refine prn_g rfl rfl rfl (qt_ldM tok rfl hc rfl) (by decide +kernel) rfl rfl rfl rfl rfl ?_ | refine prn_q rfl (qt_ldM0 tok rfl hc rfl) (by decide +kernel) rfl rfl rfl ?_ | refine prn_g rfl rfl rfl (qt_ldM0 tok rfl hc rfl) (by decide +kernel) rfl rfl rfl rfl rfl ?_)
    refine pr_as 96 (.slice (some ⟨b', off', none⟩) y.steps.len y.steps.cap) rfl hv' ?_
    repeat (first | with_reducible (first | refine cS ?_ | refine cR ?_ | refine cN ?_ | refine cK ?_ | refine cB ?_ | refine cI ?_) | refine cE rfl ?_ | refine rq (qt_pev tok rfl) ?_ | refine rg rfl rfl (qt_pev tok rfl) ?_ | refine rq (ql tok rfl) ?_ | refine rg rfl rfl (ql tok rfl) ?_ | (refine runL_op0 (sst tok rfl rfl rfl rfl rfl) ?_; rintro _ _ _ ⟨rfl, rfl, rfl⟩) | ((first | refine ro (st_box rfl) ?_ | refine ro (st_alloc tok rfl) ?_ | refine ro (st_buildSlice tok rfl rfl rfl rfl rfl rfl rfl) ?_); rintro _ _ _ ⟨_, rfl, rfl, rfl⟩) | refine prn_start mixed ?_ | refine prn_end (by decide +kernel) ?_ | refine pq rfl (qt_pev tok rfl) ?_ | refine pg rfl rfl rfl (qt_pev tok rfl) ?_ | refine pq rfl (ql tok rfl) ?_ | refine pg rfl rfl rfl (ql tok rfl) ?_ | (refine prn_e0 rfl (sst tok rfl rfl rfl rfl rfl) (by decide +kernel) ?_; rintro _ _ _ ⟨rfl, rfl, rfl⟩) | ((first | refine pe rfl (st_box rfl) ?_ | refine pe rfl (st_alloc tok rfl) ?_ | refine pe rfl (st_buildSlice tok rfl rfl rfl rfl rfl rfl rfl) ?_); rintro _ _ _ ⟨_, rfl, rfl, rfl⟩) | (refine prn_o0 rfl (sst tok rfl rfl rfl rfl rfl) (by decide +kernel) ?_; rintro _ _ _ ⟨rfl, rfl, rfl⟩; refine ⟨by (repeat (first | exact trivial | refine And.intro (pend_q rfl rfl rfl (qt_pev tok rfl)) ?_ | refine And.intro (pend_q rfl rfl rfl (ql tok rfl)) ?_)), ?_⟩) | ((first | refine po rfl (st_box rfl) ?_ | refine po rfl (st_alloc tok rfl) ?_ | refine po rfl (st_buildSlice tok rfl rfl rfl rfl rfl rfl rfl) ?_); rintro _ _ _ ⟨_, rfl, rfl, rfl⟩; refine ⟨by (repeat (first | exact trivial | refine And.intro (pend_q rfl rfl rfl (qt_pev tok rfl)) ?_ | refine And.intro (pend_q rfl rfl rfl (ql tok rfl)) ?_)), ?_⟩) | (refine pe rfl (qt_pev tok rfl) ?_; rintro _ _ _ ⟨rfl, rfl, rfl⟩) | refine prn_q rfl (qt_indexN tok rfl rfl rfl rfl (fun _ => by omega)) (by decide +kernel) rfl rfl rfl ?_ | refine prn_g rfl rfl rfl (qt_indexN tok rfl rfl rfl rfl (fun _ => by omega)) (by decide +kernel) rfl rfl rfl rfl rfl ?_ | refine prn_q rfl (qt_ldM tok rfl hc' rfl) (by decide +kernel) rfl rfl rfl ?_ | refine prn_g rfl rfl rfl (qt_ldM tok rfl hc' rfl) (by decide +kernel) rfl rfl rfl rfl rfl ?_ | refine prn_q rfl (qt_ldM0 tok rfl hc' rfl) (by decide +kernel) rfl rfl rfl ?_ | refine prn_g rfl rfl rfl (qt_ldM0 tok rfl hc' rfl) (by decide +kernel) rfl rfl rfl rfl rfl ?_ | refine prn_q rfl (qt_callF rfl (fun _ => refSameStep_ok _ _ m m' hmo hmo')) (by decide +kernel) rfl rfl rfl ?_)
    refine run_cond rfl (fun h => ?_) (fun h => ?_)
    · have hrf : r = false := by
        cases r with
        | false => rfl
        | true =>
          have he := (hr2.1 rfl).2
          rw [he, hms'] at hms
          have hse : sameSp m.sp m'.sp = false := by simpa using h
          have : sameSp m.sp m'.sp = true := (sameSp_iff _ _).2 (Option.some.inj hms).symm
          rw [hse] at this; cases this
      subst hrf
      repeat (first | with_reducible (first | refine cS ?_ | refine cR ?_ | refine cN ?_ | refine cK ?_ | refine cB ?_ | refine cI ?_) | refine cE rfl ?_ | refine rq (qt_pev tok rfl) ?_ | refine rg rfl rfl (qt_pev tok rfl) ?_ | refine rq (ql tok rfl) ?_ | refine rg rfl rfl (ql tok rfl) ?_ | (refine runL_op0 (sst tok rfl rfl rfl rfl rfl) ?_; rintro _ _ _ ⟨rfl, rfl, rfl⟩) | ((first | refine ro (st_box rfl) ?_ | refine ro (st_alloc tok rfl) ?_ | refine ro (st_buildSlice tok rfl rfl rfl rfl rfl rfl rfl) ?_); rintro _ _ _ ⟨_, rfl, rfl, rfl⟩))
      exact run_ret hC (rs := [.tmp 4]) rfl (resT rfl resN) (fun _ h => h.drop.drop) ⟨rfl, rfl, rfl⟩
    · have hmm : m.sp = m'.sp := (sameSp_iff _ _).1 (by simpa using h)
      repeat (first | with_reducible (first | refine cS ?_ | refine cR ?_ | refine cN ?_ | refine cK ?_ | refine cB ?_ | refine cI ?_) | refine cE rfl ?_ | refine rq (qt_pev tok rfl) ?_ | refine rg rfl rfl (qt_pev tok rfl) ?_ | refine rq (ql tok rfl) ?_ | refine rg rfl rfl (ql tok rfl) ?_ | (refine runL_op0 (sst tok rfl rfl rfl rfl rfl) ?_; rintro _ _ _ ⟨rfl, rfl, rfl⟩) | ((first | refine ro (st_box rfl) ?_ | refine ro (st_alloc tok rfl) ?_ | refine ro (st_buildSlice tok rfl rfl rfl rfl rfl rfl rfl) ?_); rintro _ _ _ ⟨_, rfl, rfl, rfl⟩))
      refine run_sub' (hnext _ _ _ ⟨hlt, rfl, ?_, rfl, rfl⟩) ⟨lk_succ rfl (by omega), rfl, rfl, trivial⟩
      rw [take_snoc hms, take_snoc hms', heqs, hmm]
  have hge : j = x.steps.len := by simp at h; omega
  subst hge
  rw [List.take_of_length_le (by rw [List.length_map]; omega), List.take_of_length_le (by rw [List.length_map]; omega)] at heqs
  have hrt : r = true := hr2.2 ⟨heq, heqs⟩
  subst hrt
  repeat (first | with_reducible (first | refine cS ?_ | refine cR ?_ | refine cN ?_ | refine cK ?_ | refine cB ?_ | refine cI ?_) | refine cE rfl ?_ | refine rq (qt_pev tok rfl) ?_ | refine rg rfl rfl (qt_pev tok rfl) ?_ | refine rq (ql tok rfl) ?_ | refine rg rfl rfl (ql tok rfl) ?_ | (refine runL_op0 (sst tok rfl rfl rfl rfl rfl) ?_; rintro _ _ _ ⟨rfl, rfl, rfl⟩) | ((first | refine ro (st_box rfl) ?_ | refine ro (st_alloc tok rfl) ?_ | refine ro (st_buildSlice tok rfl rfl rfl rfl rfl rfl rfl) ?_); rintro _ _ _ ⟨_, rfl, rfl, rfl⟩))
  exact run_ret hC (rs := [.tmp 4]) rfl (resT rfl resN) (fun _ h => h.drop.drop) ⟨rfl, rfl, rfl⟩
end Go.Proofs.Ytbpgiodfccijmaa
namespace Go.Proofs.Ytbpgiodfccijmaa
open Go.Chi

set_option maxRecDepth 10000 in
set_option maxHeartbeats 16000000 in
theorem refSame_ok (M : Mem) (L : HL) (p q : SAx) (hp : SaOk M p) (hq : SaOk M q) (r : Bool) (hr : r = true ↔ p.xs.map Ax.aa = q.xs.map Ax.aa) : TrQ Try.prog 12 [p.v, q.v] M L (.bool r) := by
  have l1 := hp.len
  have l2 := hq.len
  have n1 := hp.lt
  have n2 := hq.lt
  obtain ⟨pa, pl, pc, px⟩ := p
  obtain ⟨qa, ql, qc, qx⟩ := q
  simp only [SAx.v] at *
  refine Tr.intro 27 Try.func12 rfl rfl Try.call12 rfl ?_
  intro C hC hro
  repeat (first | with_reducible (first | refine cS ?_ | refine cR ?_ | refine cN ?_ | refine cK ?_ | refine cB ?_ | refine cI ?_) | refine cE rfl ?_ | refine rq (qt_pev tok rfl) ?_ | refine rg rfl rfl (qt_pev tok rfl) ?_ | refine rq (ql tok rfl) ?_ | refine rg rfl rfl (ql tok rfl) ?_ | (refine runL_op0 (sst tok rfl rfl rfl rfl rfl) ?_; rintro _ _ _ ⟨rfl, rfl, rfl⟩) | ((first | refine ro (st_box rfl) ?_ | refine ro (st_alloc tok rfl) ?_ | refine ro (st_buildSlice tok rfl rfl rfl rfl rfl rfl rfl) ?_); rintro _ _ _ ⟨_, rfl, rfl, rfl⟩))
  refine run_cond rfl (fun h => ?_) (fun h => ?_)
  · have hrf : r = false := by
      cases r with
      | false => rfl
      | true =>
        have he := congrArg List.length (hr.1 rfl)
        simp only [List.length_map] at he
        simp at h
        omega
    subst hrf
    repeat (first | with_reducible (first | refine cS ?_ | refine cR ?_ | refine cN ?_ | refine cK ?_ | refine cB ?_ | refine cI ?_) | refine cE rfl ?_ | refine rq (qt_pev tok rfl) ?_ | refine rg rfl rfl (qt_pev tok rfl) ?_ | refine rq (ql tok rfl) ?_ | refine rg rfl rfl (ql tok rfl) ?_ | (refine runL_op0 (sst tok rfl rfl rfl rfl rfl) ?_; rintro _ _ _ ⟨rfl, rfl, rfl⟩) | ((first | refine ro (st_box rfl) ?_ | refine ro (st_alloc tok rfl) ?_ | refine ro (st_buildSlice tok rfl rfl rfl rfl rfl rfl rfl) ?_); rintro _ _ _ ⟨_, rfl, rfl, rfl⟩))
    exact run_ret hC (rs := [.tmp 4]) rfl (resT rfl resN) (fun _ h => h) ⟨rfl, rfl, rfl⟩
  have he : pl = ql := by simp at h; omega
  subst he
  repeat (first | with_reducible (first | refine cS ?_ | refine cR ?_ | refine cN ?_ | refine cK ?_ | refine cB ?_ | refine cI ?_) | refine cE rfl ?_ | refine rq (qt_pev tok rfl) ?_ | refine rg rfl rfl (qt_pev tok rfl) ?_ | refine rq (ql tok rfl) ?_ | refine rg rfl rfl (ql tok rfl) ?_ | (refine runL_op0 (sst tok rfl rfl rfl rfl rfl) ?_; rintro _ _ _ ⟨rfl, rfl, rfl⟩) | ((first | refine ro (st_box rfl) ?_ | refine ro (st_alloc tok rfl) ?_ | refine ro (st_buildSlice tok rfl rfl rfl rfl rfl rfl rfl) ?_); rintro _ _ _ ⟨_, rfl, rfl, rfl⟩))
  refine run_loopN (fun j σ1 M1 L1 => j ≤ pl ∧ M = M1 ∧ L = L1 ∧ (px.map Ax.aa).take j = (qx.map Ax.aa).take j ∧ σ1 = [(5, .int .i64 (j : Int)), (0, .slice pa pl pc), (1, .slice qa pl qc)]) pl [(5, .int .i64 ((0 : Nat) : Int)), (0, .slice pa pl pc), (1, .slice qa pl qc)] ?_ ⟨Nat.zero_le _, rfl, rfl, by simp, rfl⟩ (fun j _ _ _ h => h.1) ?_
  · exact ⟨rfl, rfl, rfl, trivial⟩
  rintro j _ _ _ ⟨hj, rfl, rfl, heq, rfl⟩ hnext
  repeat (first | with_reducible (first | refine cS ?_ | refine cR ?_ | refine cN ?_ | refine cK ?_ | refine cB ?_ | refine cI ?_) | refine cE rfl ?_ | refine rq (qt_pev tok rfl) ?_ | refine rg rfl rfl (qt_pev tok rfl) ?_ | refine rq (ql tok rfl) ?_ | refine rg rfl rfl (ql tok rfl) ?_ | (refine runL_op0 (sst tok rfl rfl rfl rfl rfl) ?_; rintro _ _ _ ⟨rfl, rfl, rfl⟩) | ((first | refine ro (st_box rfl) ?_ | refine ro (st_alloc tok rfl) ?_ | refine ro (st_buildSlice tok rfl rfl rfl rfl rfl rfl rfl) ?_); rintro _ _ _ ⟨_, rfl, rfl, rfl⟩))
  refine run_cond rfl (fun h => ?_) (fun h => ?_)
  · have hlt : j < pl := by simpa using h
    obtain ⟨b, off, m, rfl, hm, hc⟩ := SAx.at_ hp.sl hlt
    obtain ⟨b', off', m', rfl, hm', hc'⟩ := SAx.at_ hq.sl hlt
    have hmo := hp.each m (List.mem_of_getElem? hm)
    have hmo' := hq.each m' (List.mem_of_getElem? hm')
    have hms : (px.map Ax.aa)[j]? = some m.aa := by rw [List.getElem?_map, hm]; rfl
    have hms' : (qx.map Ax.aa)[j]? = some m'.aa := by rw [List.getElem?_map, hm']; rfl
    obtain ⟨r2, hr2⟩ : ∃ r2 : Bool, r2 = true ↔ m.aa = m'.aa := by
      by_cases e : m.aa = m'.aa
      · exact ⟨true, by simp [e]⟩
      · exact ⟨false, by simp [e]⟩
    repeat (first | with_reducible (first | refine cS ?_ | refine cR ?_ | refine cN ?_ | refine cK ?_ | refine cB ?_ | refine cI ?_) | refine cE rfl ?_ | refine rq (qt_pev tok rfl) ?_ | refine rg rfl rfl (qt_pev tok rfl) ?_ | refine rq (ql tok rfl) ?_ | refine rg rfl rfl (ql tok rfl) ?_ | (refine runL_op0 (sst tok rfl rfl rfl rfl rfl) ?_; rintro _ _ _ ⟨rfl, rfl, rfl⟩) | ((first | refine ro (st_box rfl) ?_ | refine ro (st_alloc tok rfl) ?_ | refine ro (st_buildSlice tok rfl rfl rfl rfl rfl rfl rfl) ?_); rintro _ _ _ ⟨_, rfl, rfl, rfl⟩) | refine prn_start mixed ?_ | refine prn_end (by decide +kernel) ?_ | refine pq rfl (qt_pev tok rfl) ?_ | refine pg rfl rfl rfl (qt_pev tok rfl) ?_ | refine pq rfl (ql tok rfl) ?_ | refine pg rfl rfl rfl (ql tok rfl) ?_ | (refine prn_e0 rfl (sst tok rfl rfl rfl rfl rfl) (by decide +kernel) ?_; rintro _ _ _ ⟨rfl, rfl, rfl⟩) | ((first | refine pe rfl (st_box rfl) ?_ | refine pe rfl (st_alloc tok rfl) ?_ | refine pe rfl (st_buildSlice tok rfl rfl rfl rfl rfl rfl rfl) ?_); rintro _ _ _ ⟨_, rfl, rfl, rfl⟩) | (refine prn_o0 rfl (sst tok rfl rfl rfl rfl rfl) (by decide +kernel) ?_; rintro _ _ _ ⟨rfl, rfl, rfl⟩; refine ⟨by (repeat (first | exact trivial | refine And.intro (pend_q rfl rfl rfl (qt_pev tok rfl)) ?_ | refine And.intro (pend_q rfl rfl rfl (ql tok rfl)) ?_)), ?_⟩) | ((first | refine po rfl (st_box rfl) ?_ | refine po rfl (st_alloc tok rfl) ?_ | refine po rfl (st_buildSlice tok rfl rfl rfl rfl rfl rfl rfl) ?_); rintro _ _ _ ⟨_, rfl, rfl, rfl⟩; refine ⟨by (repeat (first | exact trivial | refine And.intro (pend_q rfl rfl rfl (qt_pev tok rfl)) ?_ | refine And.intro (pend_q rfl rfl rfl (ql tok rfl)) ?_)), ?_⟩) | (refine pe rfl (qt_pev tok rfl) ?_; rintro _ _ _ ⟨rfl, rfl, rfl⟩) | refine prn_q rfl (qt_indexN tok rfl rfl rfl rfl (fun _ => by omega)) (by decide +kernel) rfl rfl rfl ?_ | refine prn_g rfl rfl rfl (qt_indexN tok rfl rfl rfl rfl (fun _ => by omega)) (by decide +kernel) rfl rfl rfl rfl rfl ?_ | refine prn_q rfl (qt_ldM tok rfl hc rfl) (by decide +kernel) rfl rfl rfl ?_ | refine prn_g rfl rfl rfl (qt_ldM tok rfl hc rfl) (by decide +kernel) rfl rfl rfl rfl rfl ?_ | refine prn_q rfl (qt_ldM0 tok rfl hc rfl) (by decide +kernel) rfl rfl rfl ?_ | refine prn_g rfl rfl rfl (qt_ldM0 tok rfl hc rfl) (by decide +kernel) rfl rfl rfl rfl rfl ?_ | refine prn_q rfl (qt_ldM tok rfl hc' rfl) (by decide +kernel) rfl rfl rfl ?_ | refine prn_g rfl rfl rfl (qt_ldM tok rfl hc' rfl) (by decide +kernel) rfl rfl rfl rfl rfl ?_ | refine prn_q rfl (qt_ldM0 tok rfl hc' rfl) (by decide +kernel) rfl rfl rfl ?_ | refine prn_g rfl rfl rfl (qt_ldM0 tok rfl hc' rfl) (by decide +kernel) rfl rfl rfl rfl rfl ?_ | refine prn_q rfl (qt_callF rfl (fun _ => refSameAct_ok _ _ m m' hmo hmo' r2 hr2)) (by decide +kernel) rfl rfl rfl ?_)
    refine run_cond rfl (fun h => ?_) (fun h => ?_)
    · have hrf : r = false := by
        cases r with
        | false => rfl
        | true =>
          have he := hr.1 rfl
          rw [he, hms'] at hms
          have h2 : r2 = true := hr2.2 (Option.some.inj hms).symm
          rw [h2] at h; cases h
      subst hrf
      repeat (first | with_reducible (first | refine cS ?_ | refine cR ?_ | refine cN ?_ | refine cK ?_ | refine cB ?_ | refine cI ?_) | refine cE rfl ?_ | refine rq (qt_pev tok rfl) ?_ | refine rg rfl rfl (qt_pev tok rfl) ?_ | refine rq (ql tok rfl) ?_ | refine rg rfl rfl (ql tok rfl) ?_ | (refine runL_op0 (sst tok rfl rfl rfl rfl rfl) ?_; rintro _ _ _ ⟨rfl, rfl, rfl⟩) | ((first | refine ro (st_box rfl) ?_ | refine ro (st_alloc tok rfl) ?_ | refine ro (st_buildSlice tok rfl rfl rfl rfl rfl rfl rfl) ?_); rintro _ _ _ ⟨_, rfl, rfl, rfl⟩))
      exact run_ret hC (rs := [.tmp 4]) rfl (resT rfl resN) (fun _ h => h) ⟨rfl, rfl, rfl⟩
    · have hmm : m.aa = m'.aa := hr2.1 (by simpa using h)
      repeat (first | with_reducible (first | refine cS ?_ | refine cR ?_ | refine cN ?_ | refine cK ?_ | refine cB ?_ | refine cI ?_) | refine cE rfl ?_ | refine rq (qt_pev tok rfl) ?_ | refine rg rfl rfl (qt_pev tok rfl) ?_ | refine rq (ql tok rfl) ?_ | refine rg rfl rfl (ql tok rfl) ?_ | (refine runL_op0 (sst tok rfl rfl rfl rfl rfl) ?_; rintro _ _ _ ⟨rfl, rfl, rfl⟩) | ((first | refine ro (st_box rfl) ?_ | refine ro (st_alloc tok rfl) ?_ | refine ro (st_buildSlice tok rfl rfl rfl rfl rfl rfl rfl) ?_); rintro _ _ _ ⟨_, rfl, rfl, rfl⟩))
      refine run_sub' (hnext _ _ _ ⟨hlt, rfl, rfl, ?_, rfl⟩) ⟨lk_succ rfl (by omega), rfl, rfl, trivial⟩
      rw [take_snoc hms, take_snoc hms', heq, hmm]
  · have hge : j = pl := by simp at h; omega
    subst hge
    rw [List.take_of_length_le (by rw [List.length_map]; omega), List.take_of_length_le (by rw [List.length_map]; omega)] at heq
    have hrt : r = true := hr.2 heq
    subst hrt
    repeat (first | with_reducible (first | refine cS ?_ | refine cR ?_ | refine cN ?_ | refine cK ?_ | refine cB ?_ | refine cI ?_) | refine cE rfl ?_ | refine rq (qt_pev tok rfl) ?_ | refine rg rfl rfl (qt_pev tok rfl) ?_ | refine rq (ql tok rfl) ?_ | refine rg rfl rfl (ql tok rfl) ?_ | (refine runL_op0 (sst tok rfl rfl rfl rfl rfl) ?_; rintro _ _ _ ⟨rfl, rfl, rfl⟩) | ((first | refine ro (st_box rfl) ?_ | refine ro (st_alloc tok rfl) ?_ | refine ro (st_buildSlice tok rfl rfl rfl rfl rfl rfl rfl) ?_); rintro _ _ _ ⟨_, rfl, rfl, rfl⟩))
    exact run_ret hC (rs := [.tmp 4]) rfl (resT rfl resN) (fun _ h => h) ⟨rfl, rfl, rfl⟩
end Go.Proofs.Ytbpgiodfccijmaa
namespace Go.Proofs.Ytbpgiodfccijmaa
open Go.Chi

/-! ### what is too long; acts whose rows are their own; the chapter's examples -/
theorem rFlatOne {α : Type} {f : α → List Value} (h : ∀ r, ∀ u ∈ f r, u.oneCell' = true) (l : List α) : ∀ u ∈ (l.map f).flatten, u.oneCell' = true := by
  intro u hu
  obtain ⟨x, hx, hu⟩ := List.mem_flatten.1 hu
  obtain ⟨y, _, rfl⟩ := List.mem_map.1 hx
  exact h y u hu
/-- acts as they are handed over -/
structure AxIn (M : Mem) (x : Ax) : Prop where
  gives : x.gives.Ok M
  steps : SlM M 7 x.steps.a x.steps.len (x.steps.xs.map srC)
  each : ∀ y ∈ x.steps.xs, SlM M 1 y.list.a y.list.len (y.list.xs.map inC)
structure SaIn (M : Mem) (s : SAx) : Prop where
  sl : SlM M 10 s.a s.len (s.xs.map axC)
  each : ∀ x ∈ s.xs, AxIn M x
structure LimA (x : Ax) : Prop where
  g : x.gives.len ≤ 20
  s : x.steps.len ≤ 100
  pay : ∀ m ∈ x.gives.xs, m.digest.size ≤ 8192
  step : ∀ y ∈ x.steps.xs, y.text.size ≤ 4096 ∧ y.list.len ≤ 100
def LimL (s : SAx) : Prop := s.len ≤ 60 ∧ ∀ x ∈ s.xs, LimA x
theorem SaIn.ok {M : Mem} {s : SAx} (h : SaIn M s) (hl : LimL s) : SaOk M s := by
  refine ⟨h.sl, by have := hl.1; omega, fun x hx => ?_⟩
  have h1 := h.each x hx
  have h2 := hl.2 x hx
  refine ⟨⟨h1.gives, by have := h2.g; omega⟩, ⟨h1.steps, by have := h2.s; omega, fun y hy => ⟨⟨h1.each y hy, by have := (h2.step y hy).2; omega⟩, by have := (h2.step y hy).1; omega⟩⟩, fun m hm => by have := h2.pay m hm; omega⟩
theorem SaIn.le {M M' : Mem} {s : SAx} (hm : M.le M') (h : SaIn M s) : SaIn M' s := ⟨h.sl.le hm, fun x hx => ⟨(h.each x hx).gives.le hm, (h.each x hx).steps.le hm, fun y hy => ((h.each x hx).each y hy).le hm⟩⟩
theorem all_cons_snoc {α : Type} {xs : List α} {j : Nat} {x : α} {P : α → Prop} (hx : xs[j]? = some x) (h : ∀ y ∈ xs.take j, P y) (hp : P x) : ∀ y ∈ xs.take (j + 1), P y := by
  intro y hy
  rw [take_snoc hx] at hy
  rcases List.mem_append.1 hy with hy | hy
  · exact h y hy
  · rw [List.mem_singleton.1 hy]; exact hp
set_option maxRecDepth 10000 in
set_option maxHeartbeats 32000000 in
theorem slong_ok (M : Mem) (L : HL) (s : SAx) (hs : SaIn M s) : Tr Try.prog 7 [s.v] M L (fun v M' L' => M = M' ∧ L = L' ∧ ∃ b : Bool, v = .bool b ∧ (b = false → LimL s)) := by
  have hlen : s.xs.length = s.len := by have := hs.sl.1; simpa using this
  obtain ⟨la, ln, lc, xs⟩ := s
  simp only [SAx.v] at *
  refine Tr.intro 113 Try.func7 rfl rfl Try.call7 rfl ?_
  intro C hC hro
  repeat (first | with_reducible (first | refine cS ?_ | refine cR ?_ | refine cN ?_ | refine cK ?_ | refine cB ?_ | refine cI ?_) | refine cE rfl ?_ | refine rq (qt_pev tok rfl) ?_ | refine rg rfl rfl (qt_pev tok rfl) ?_ | refine rq (ql tok rfl) ?_ | refine rg rfl rfl (ql tok rfl) ?_ | (refine runL_op0 (sst tok rfl rfl rfl rfl rfl) ?_; rintro _ _ _ ⟨rfl, rfl, rfl⟩) | ((first | refine ro (st_box rfl) ?_ | refine ro (st_alloc tok rfl) ?_ | refine ro (st_buildSlice tok rfl rfl rfl rfl rfl rfl rfl) ?_); rintro _ _ _ ⟨_, rfl, rfl, rfl⟩))
  refine run_cond rfl (fun h => ?_) (fun h => ?_)
  · repeat (first | with_reducible (first | refine cS ?_ | refine cR ?_ | refine cN ?_ | refine cK ?_ | refine cB ?_ | refine cI ?_) | refine cE rfl ?_ | refine rq (qt_pev tok rfl) ?_ | refine rg rfl rfl (qt_pev tok rfl) ?_ | refine rq (ql tok rfl) ?_ | refine rg rfl rfl (ql tok rfl) ?_ | (refine runL_op0 (sst tok rfl rfl rfl rfl rfl) ?_; rintro _ _ _ ⟨rfl, rfl, rfl⟩) | ((first | refine ro (st_box rfl) ?_ | refine ro (st_alloc tok rfl) ?_ | refine ro (st_buildSlice tok rfl rfl rfl rfl rfl rfl rfl) ?_); rintro _ _ _ ⟨_, rfl, rfl, rfl⟩))
    exact run_ret hC (rs := [.tmp 2]) rfl (resT rfl resN) (fun _ h => h) ⟨rfl, rfl, true, rfl, fun e => by cases e⟩
  have h60 : ln ≤ 60 := by have := of_decide_eq_false h; omega
  clear h
  repeat (first | with_reducible (first | refine cS ?_ | refine cR ?_ | refine cN ?_ | refine cK ?_ | refine cB ?_ | refine cI ?_) | refine cE rfl ?_ | refine rq (qt_pev tok rfl) ?_ | refine rg rfl rfl (qt_pev tok rfl) ?_ | refine rq (ql tok rfl) ?_ | refine rg rfl rfl (ql tok rfl) ?_ | (refine runL_op0 (sst tok rfl rfl rfl rfl rfl) ?_; rintro _ _ _ ⟨rfl, rfl, rfl⟩) | ((first | refine ro (st_box rfl) ?_ | refine ro (st_alloc tok rfl) ?_ | refine ro (st_buildSlice tok rfl rfl rfl rfl rfl rfl rfl) ?_); rintro _ _ _ ⟨_, rfl, rfl, rfl⟩))
  refine run_loopN (fun j σ1 M1 L1 => j ≤ ln ∧ M = M1 ∧ L = L1 ∧ (∀ x ∈ xs.take j, LimA x) ∧ ∃ n : Int, σ1 = [(4, .int .i64 (j : Int)), (3, .int .i64 n), (0, .slice la ln lc)]) ln [(4, .int .i64 ((0 : Nat) : Int)), (3, .int .i64 0), (0, .slice la ln lc)] ?_ ⟨Nat.zero_le _, rfl, rfl, by simp, 0, rfl⟩ (fun j _ _ _ h => h.1) ?_
  · exact ⟨rfl, rfl, rfl, trivial⟩
  rintro j _ _ _ ⟨hj, rfl, rfl, hpre, n, rfl⟩ hnext
  repeat (first | with_reducible (first | refine cS ?_ | refine cR ?_ | refine cN ?_ | refine cK ?_ | refine cB ?_ | refine cI ?_) | refine cE rfl ?_ | refine rq (qt_pev tok rfl) ?_ | refine rg rfl rfl (qt_pev tok rfl) ?_ | refine rq (ql tok rfl) ?_ | refine rg rfl rfl (ql tok rfl) ?_ | (refine runL_op0 (sst tok rfl rfl rfl rfl rfl) ?_; rintro _ _ _ ⟨rfl, rfl, rfl⟩) | ((first | refine ro (st_box rfl) ?_ | refine ro (st_alloc tok rfl) ?_ | refine ro (st_buildSlice tok rfl rfl rfl rfl rfl rfl rfl) ?_); rintro _ _ _ ⟨_, rfl, rfl, rfl⟩))
  refine run_cond rfl (fun h => ?_) (fun h => ?_)
  rotate_left
  · have hge : j = ln := by simp at h; omega
    subst hge
    rw [List.take_of_length_le (by omega)] at hpre
    repeat (first | with_reducible (first | refine cS ?_ | refine cR ?_ | refine cN ?_ | refine cK ?_ | refine cB ?_ | refine cI ?_) | refine cE rfl ?_ | refine rq (qt_pev tok rfl) ?_ | refine rg rfl rfl (qt_pev tok rfl) ?_ | refine rq (ql tok rfl) ?_ | refine rg rfl rfl (ql tok rfl) ?_ | (refine runL_op0 (sst tok rfl rfl rfl rfl rfl) ?_; rintro _ _ _ ⟨rfl, rfl, rfl⟩) | ((first | refine ro (st_box rfl) ?_ | refine ro (st_alloc tok rfl) ?_ | refine ro (st_buildSlice tok rfl rfl rfl rfl rfl rfl rfl) ?_); rintro _ _ _ ⟨_, rfl, rfl, rfl⟩))
    exact run_ret hC (rs := [.tmp 2]) rfl (resT rfl resN) (fun _ h => h) ⟨rfl, rfl, _, rfl, fun _ => ⟨h60, hpre⟩⟩
  have hlt : j < ln := by simpa using h
  obtain ⟨b, off, x, rfl, hx, hc⟩ := SAx.at_ hs.sl hlt
  have hxi := hs.each x (List.mem_of_getElem? hx)
  have gl : x.gives.xs.length = x.gives.len := by have := hxi.gives.1; simpa using this
  have sl : x.steps.xs.length = x.steps.len := by have := hxi.steps.1; simpa using this
  repeat (first | with_reducible (first | refine cS ?_ | refine cR ?_ | refine cN ?_ | refine cK ?_ | refine cB ?_ | refine cI ?_) | refine cE rfl ?_ | refine rq (qt_pev tok rfl) ?_ | refine rg rfl rfl (qt_pev tok rfl) ?_ | refine rq (ql tok rfl) ?_ | refine rg rfl rfl (ql tok rfl) ?_ | (refine runL_op0 (sst tok rfl rfl rfl rfl rfl) ?_; rintro _ _ _ ⟨rfl, rfl, rfl⟩) | ((first | refine ro (st_box rfl) ?_ | refine ro (st_alloc tok rfl) ?_ | refine ro (st_buildSlice tok rfl rfl rfl rfl rfl rfl rfl) ?_); rintro _ _ _ ⟨_, rfl, rfl, rfl⟩) | refine runL_q (qt_indexN tok rfl rfl rfl rfl (fun _ => by omega)) rfl rfl rfl ?_ | refine runL_g rfl rfl (qt_indexN tok rfl rfl rfl rfl (fun _ => by omega)) rfl rfl rfl rfl rfl ?_ | refine runL_q (qt_ldM tok rfl hc rfl) rfl rfl rfl ?_ | refine runL_g rfl rfl (qt_ldM tok rfl hc rfl) rfl rfl rfl rfl rfl ?_ | refine runL_q (qt_ldM0 tok rfl hc rfl) rfl rfl rfl ?_ | refine runL_g rfl rfl (qt_ldM0 tok rfl hc rfl) rfl rfl rfl rfl rfl ?_)
  refine run_cond rfl (fun h => ?_) (fun h => ?_)
  · repeat (first | with_reducible (first | refine cS ?_ | refine cR ?_ | refine cN ?_ | refine cK ?_ | refine cB ?_ | refine cI ?_) | refine cE rfl ?_ | refine rq (qt_pev tok rfl) ?_ | refine rg rfl rfl (qt_pev tok rfl) ?_ | refine rq (ql tok rfl) ?_ | refine rg rfl rfl (ql tok rfl) ?_ | (refine runL_op0 (sst tok rfl rfl rfl rfl rfl) ?_; rintro _ _ _ ⟨rfl, rfl, rfl⟩) | ((first | refine ro (st_box rfl) ?_ | refine ro (st_alloc tok rfl) ?_ | refine ro (st_buildSlice tok rfl rfl rfl rfl rfl rfl rfl) ?_); rintro _ _ _ ⟨_, rfl, rfl, rfl⟩))
    exact run_ret hC (rs := [.tmp 2]) rfl (resT rfl resN) (fun _ h => h) ⟨rfl, rfl, true, rfl, fun e => by cases e⟩
  have h20 : x.gives.len ≤ 20 ∧ x.steps.len ≤ 100 := by
    have h' : (decide ((x.gives.len : Int) > 20) || decide ((x.steps.len : Int) > 100)) = false := h
    simp only [Bool.or_eq_false_iff, decide_eq_false_iff_not] at h'
    omega
  clear h
  repeat (first | with_reducible (first | refine cS ?_ | refine cR ?_ | refine cN ?_ | refine cK ?_ | refine cB ?_ | refine cI ?_) | refine cE rfl ?_ | refine rq (qt_pev tok rfl) ?_ | refine rg rfl rfl (qt_pev tok rfl) ?_ | refine rq (ql tok rfl) ?_ | refine rg rfl rfl (ql tok rfl) ?_ | (refine runL_op0 (sst tok rfl rfl rfl rfl rfl) ?_; rintro _ _ _ ⟨rfl, rfl, rfl⟩) | ((first | refine ro (st_box rfl) ?_ | refine ro (st_alloc tok rfl) ?_ | refine ro (st_buildSlice tok rfl rfl rfl rfl rfl rfl rfl) ?_); rintro _ _ _ ⟨_, rfl, rfl, rfl⟩))
  refine run_loopN (fun k σ1 M1 L1 => k ≤ x.gives.len ∧ M = M1 ∧ L = L1 ∧ (∀ m ∈ x.gives.xs.take k, m.digest.size ≤ 8192) ∧ ∃ n : Int, σ1 = [(5, .int .i64 (k : Int)), (4, .int .i64 (j : Int)), (3, .int .i64 n), (0, .slice (some ⟨b, off, none⟩) ln lc)]) x.gives.len [(5, .int .i64 ((0 : Nat) : Int)), (4, .int .i64 (j : Int)), (3, .int .i64 n), (0, .slice (some ⟨b, off, none⟩) ln lc)] ?_ ⟨Nat.zero_le _, rfl, rfl, by simp, n, rfl⟩ (fun k _ _ _ h => h.1) ?_
  · exact ⟨rfl, rfl, rfl, rfl, trivial⟩
  rintro k _ _ _ ⟨hk, rfl, rfl, hpreg, n1, rfl⟩ hnx
  repeat (first | with_reducible (first | refine cS ?_ | refine cR ?_ | refine cN ?_ | refine cK ?_ | refine cB ?_ | refine cI ?_) | refine cE rfl ?_ | refine rq (qt_pev tok rfl) ?_ | refine rg rfl rfl (qt_pev tok rfl) ?_ | refine rq (ql tok rfl) ?_ | refine rg rfl rfl (ql tok rfl) ?_ | (refine runL_op0 (sst tok rfl rfl rfl rfl rfl) ?_; rintro _ _ _ ⟨rfl, rfl, rfl⟩) | ((first | refine ro (st_box rfl) ?_ | refine ro (st_alloc tok rfl) ?_ | refine ro (st_buildSlice tok rfl rfl rfl rfl rfl rfl rfl) ?_); rintro _ _ _ ⟨_, rfl, rfl, rfl⟩) | refine runL_q (qt_indexN tok rfl rfl rfl rfl (fun _ => by omega)) rfl rfl rfl ?_ | refine runL_g rfl rfl (qt_indexN tok rfl rfl rfl rfl (fun _ => by omega)) rfl rfl rfl rfl rfl ?_ | refine runL_q (qt_ldM tok rfl hc rfl) rfl rfl rfl ?_ | refine runL_g rfl rfl (qt_ldM tok rfl hc rfl) rfl rfl rfl rfl rfl ?_ | refine runL_q (qt_ldM0 tok rfl hc rfl) rfl rfl rfl ?_ | refine runL_g rfl rfl (qt_ldM0 tok rfl hc rfl) rfl rfl rfl rfl rfl ?_)
  refine run_cond rfl (fun h => ?_) (fun h => ?_)
  · have hkt : k < x.gives.len := by simpa using h
    obtain ⟨b2, off2, m, hma, hm, hc2⟩ := SMb.at_ hxi.gives hkt
    have hv : x.gives.v = .slice (some ⟨b2, off2, none⟩) x.gives.len x.gives.cap := by rw [← hma]; rfl
    repeat (first | with_reducible (first | refine cS ?_ | refine cR ?_ | refine cN ?_ | refine cK ?_ | refine cB ?_ | refine cI ?_) | refine cE rfl ?_ | refine rq (qt_pev tok rfl) ?_ | refine rg rfl rfl (qt_pev tok rfl) ?_ | refine rq (ql tok rfl) ?_ | refine rg rfl rfl (ql tok rfl) ?_ | (refine runL_op0 (sst tok rfl rfl rfl rfl rfl) ?_; rintro _ _ _ ⟨rfl, rfl, rfl⟩) | ((first | refine ro (st_box rfl) ?_ | refine ro (st_alloc tok rfl) ?_ | refine ro (st_buildSlice tok rfl rfl rfl rfl rfl rfl rfl) ?_); rintro _ _ _ ⟨_, rfl, rfl, rfl⟩) | refine runL_q (qt_indexN tok rfl rfl rfl rfl (fun _ => by omega)) rfl rfl rfl ?_ | refine runL_g rfl rfl (qt_indexN tok rfl rfl rfl rfl (fun _ => by omega)) rfl rfl rfl rfl rfl ?_ | refine runL_q (qt_ldM tok rfl hc rfl) rfl rfl rfl ?_ | refine runL_g rfl rfl (qt_ldM tok rfl hc rfl) rfl rfl rfl rfl rfl ?_ | refine runL_q (qt_ldM0 tok rfl hc rfl) rfl rfl rfl ?_ | refine runL_g rfl rfl (qt_ldM0 tok rfl hc rfl) rfl rfl rfl rfl rfl ?_)
    refine runL_as 46 (.slice (some ⟨b2, off2, none⟩) x.gives.len x.gives.cap) rfl hv ?_
    repeat (first | with_reducible (first | refine cS ?_ | refine cR ?_ | refine cN ?_ | refine cK ?_ | refine cB ?_ | refine cI ?_) | refine cE rfl ?_ | refine rq (qt_pev tok rfl) ?_ | refine rg rfl rfl (qt_pev tok rfl) ?_ | refine rq (ql tok rfl) ?_ | refine rg rfl rfl (ql tok rfl) ?_ | (refine runL_op0 (sst tok rfl rfl rfl rfl rfl) ?_; rintro _ _ _ ⟨rfl, rfl, rfl⟩) | ((first | refine ro (st_box rfl) ?_ | refine ro (st_alloc tok rfl) ?_ | refine ro (st_buildSlice tok rfl rfl rfl rfl rfl rfl rfl) ?_); rintro _ _ _ ⟨_, rfl, rfl, rfl⟩) | refine runL_q (qt_indexN tok rfl rfl rfl rfl (fun _ => by omega)) rfl rfl rfl ?_ | refine runL_g rfl rfl (qt_indexN tok rfl rfl rfl rfl (fun _ => by omega)) rfl rfl rfl rfl rfl ?_ | refine runL_q (qt_ldM tok rfl hc2 rfl) rfl rfl rfl ?_ | refine runL_g rfl rfl (qt_ldM tok rfl hc2 rfl) rfl rfl rfl rfl rfl ?_ | refine runL_q (qt_ldM0 tok rfl hc2 rfl) rfl rfl rfl ?_ | refine runL_g rfl rfl (qt_ldM0 tok rfl hc2 rfl) rfl rfl rfl rfl rfl ?_)
    refine run_cond rfl (fun h => ?_) (fun h => ?_)
    · repeat (first | with_reducible (first | refine cS ?_ | refine cR ?_ | refine cN ?_ | refine cK ?_ | refine cB ?_ | refine cI ?_) | refine cE rfl ?_ | refine rq (qt_pev tok rfl) ?_ | refine rg rfl rfl (qt_pev tok rfl) ?_ | refine rq (ql tok rfl) ?_ | refine rg rfl rfl (ql tok rfl) ?_ | (refine runL_op0 (sst tok rfl rfl rfl rfl rfl) ?_; rintro _ _ _ ⟨rfl, rfl, rfl⟩) | ((first | refine ro (st_box rfl) ?_ | refine ro (st_alloc tok rfl) ?_ | refine ro (st_buildSlice tok rfl rfl rfl rfl rfl rfl rfl) ?_); rintro _ _ _ ⟨_, rfl, rfl, rfl⟩))
      exact run_ret hC (rs := [.tmp 2]) rfl (resT rfl resN) (fun _ h => h) ⟨rfl, rfl, true, rfl, fun e => by cases e⟩
    have h8 : m.digest.size ≤ 8192 := by have := of_decide_eq_false h; omega
    repeat (first | with_reducible (first | refine cS ?_ | refine cR ?_ | refine cN ?_ | refine cK ?_ | refine cB ?_ | refine cI ?_) | refine cE rfl ?_ | refine rq (qt_pev tok rfl) ?_ | refine rg rfl rfl (qt_pev tok rfl) ?_ | refine rq (ql tok rfl) ?_ | refine rg rfl rfl (ql tok rfl) ?_ | (refine runL_op0 (sst tok rfl rfl rfl rfl rfl) ?_; rintro _ _ _ ⟨rfl, rfl, rfl⟩) | ((first | refine ro (st_box rfl) ?_ | refine ro (st_alloc tok rfl) ?_ | refine ro (st_buildSlice tok rfl rfl rfl rfl rfl rfl rfl) ?_); rintro _ _ _ ⟨_, rfl, rfl, rfl⟩) | refine runL_q (qt_indexN tok rfl rfl rfl rfl (fun _ => by omega)) rfl rfl rfl ?_ | refine runL_g rfl rfl (qt_indexN tok rfl rfl rfl rfl (fun _ => by omega)) rfl rfl rfl rfl rfl ?_ | refine runL_q (qt_ldM tok rfl hc rfl) rfl rfl rfl ?_ | refine runL_g rfl rfl (qt_ldM tok rfl hc rfl) rfl rfl rfl rfl rfl ?_ | refine runL_q (qt_ldM0 tok rfl hc rfl) rfl rfl rfl ?_ | refine runL_g rfl rfl (qt_ldM0 tok rfl hc rfl) rfl rfl rfl rfl rfl ?_)
    refine runL_as 58 (.slice (some ⟨b2, off2, none⟩) x.gives.len x.gives.cap) rfl hv ?_
    repeat (first | with_reducible (first | refine cS ?_ | refine cR ?_ | refine cN ?_ | refine cK ?_ | refine cB ?_ | refine cI ?_) | refine cE rfl ?_ | refine rq (qt_pev tok rfl) ?_ | refine rg rfl rfl (qt_pev tok rfl) ?_ | refine rq (ql tok rfl) ?_ | refine rg rfl rfl (ql tok rfl) ?_ | (refine runL_op0 (sst tok rfl rfl rfl rfl rfl) ?_; rintro _ _ _ ⟨rfl, rfl, rfl⟩) | ((first | refine ro (st_box rfl) ?_ | refine ro (st_alloc tok rfl) ?_ | refine ro (st_buildSlice tok rfl rfl rfl rfl rfl rfl rfl) ?_); rintro _ _ _ ⟨_, rfl, rfl, rfl⟩) | refine runL_q (qt_indexN tok rfl rfl rfl rfl (fun _ => by omega)) rfl rfl rfl ?_ | refine runL_g rfl rfl (qt_indexN tok rfl rfl rfl rfl (fun _ => by omega)) rfl rfl rfl rfl rfl ?_ | refine runL_q (qt_ldM tok rfl hc2 rfl) rfl rfl rfl ?_ | refine runL_g rfl rfl (qt_ldM tok rfl hc2 rfl) rfl rfl rfl rfl rfl ?_ | refine runL_q (qt_ldM0 tok rfl hc2 rfl) rfl rfl rfl ?_ | refine runL_g rfl rfl (qt_ldM0 tok rfl hc2 rfl) rfl rfl rfl rfl rfl ?_)
    exact run_sub' (hnx _ _ _ ⟨hkt, rfl, rfl, all_cons_snoc hm hpreg h8, _, rfl⟩) ⟨lk_succ rfl (by omega), rfl, rfl, rfl, trivial⟩
  have hgeg : k = x.gives.len := by simp at h; omega
  rw [hgeg, List.take_of_length_le (by omega)] at hpreg
  clear hnx h
  repeat (first | with_reducible (first | refine cS ?_ | refine cR ?_ | refine cN ?_ | refine cK ?_ | refine cB ?_ | refine cI ?_) | refine cE rfl ?_ | refine rq (qt_pev tok rfl) ?_ | refine rg rfl rfl (qt_pev tok rfl) ?_ | refine rq (ql tok rfl) ?_ | refine rg rfl rfl (ql tok rfl) ?_ | (refine runL_op0 (sst tok rfl rfl rfl rfl rfl) ?_; rintro _ _ _ ⟨rfl, rfl, rfl⟩) | ((first | refine ro (st_box rfl) ?_ | refine ro (st_alloc tok rfl) ?_ | refine ro (st_buildSlice tok rfl rfl rfl rfl rfl rfl rfl) ?_); rintro _ _ _ ⟨_, rfl, rfl, rfl⟩))
  refine run_loopN (fun k σ1 M1 L1 => k ≤ x.steps.len ∧ M = M1 ∧ L = L1 ∧ (∀ y ∈ x.steps.xs.take k, y.text.size ≤ 4096 ∧ y.list.len ≤ 100) ∧ ∃ n : Int, σ1 = [(6, .int .i64 (k : Int)), (4, .int .i64 (j : Int)), (3, .int .i64 n), (0, .slice (some ⟨b, off, none⟩) ln lc)]) x.steps.len [(6, .int .i64 ((0 : Nat) : Int)), (4, .int .i64 (j : Int)), (3, .int .i64 n1), (0, .slice (some ⟨b, off, none⟩) ln lc)] ?_ ⟨Nat.zero_le _, rfl, rfl, by simp, n1, rfl⟩ (fun k _ _ _ h => h.1) ?_
  · exact ⟨rfl, rfl, rfl, rfl, trivial⟩
  rintro i _ _ _ ⟨hi, rfl, rfl, hpres, n2, rfl⟩ hnx
  repeat (first | with_reducible (first | refine cS ?_ | refine cR ?_ | refine cN ?_ | refine cK ?_ | refine cB ?_ | refine cI ?_) | refine cE rfl ?_ | refine rq (qt_pev tok rfl) ?_ | refine rg rfl rfl (qt_pev tok rfl) ?_ | refine rq (ql tok rfl) ?_ | refine rg rfl rfl (ql tok rfl) ?_ | (refine runL_op0 (sst tok rfl rfl rfl rfl rfl) ?_; rintro _ _ _ ⟨rfl, rfl, rfl⟩) | ((first | refine ro (st_box rfl) ?_ | refine ro (st_alloc tok rfl) ?_ | refine ro (st_buildSlice tok rfl rfl rfl rfl rfl rfl rfl) ?_); rintro _ _ _ ⟨_, rfl, rfl, rfl⟩) | refine runL_q (qt_indexN tok rfl rfl rfl rfl (fun _ => by omega)) rfl rfl rfl ?_ | refine runL_g rfl rfl (qt_indexN tok rfl rfl rfl rfl (fun _ => by omega)) rfl rfl rfl rfl rfl ?_ | refine runL_q (qt_ldM tok rfl hc rfl) rfl rfl rfl ?_ | refine runL_g rfl rfl (qt_ldM tok rfl hc rfl) rfl rfl rfl rfl rfl ?_ | refine runL_q (qt_ldM0 tok rfl hc rfl) rfl rfl rfl ?_ | refine runL_g rfl rfl (qt_ldM0 tok rfl hc rfl) rfl rfl rfl rfl rfl ?_)
  refine run_cond rfl (fun h => ?_) (fun h => ?_)
  · have hkt : i < x.steps.len := by simpa using h
    obtain ⟨b2, off2, y, hma, hm, hc2⟩ := SSr.at_ hxi.steps hkt
    have hv : x.steps.v = .slice (some ⟨b2, off2, none⟩) x.steps.len x.steps.cap := by rw [← hma]; rfl
    repeat (first | with_reducible (first | refine cS ?_ | refine cR ?_ | refine cN ?_ | refine cK ?_ | refine cB ?_ | refine cI ?_) | refine cE rfl ?_ | refine rq (qt_pev tok rfl) ?_ | refine rg rfl rfl (qt_pev tok rfl) ?_ | refine rq (ql tok rfl) ?_ | refine rg rfl rfl (ql tok rfl) ?_ | (refine runL_op0 (sst tok rfl rfl rfl rfl rfl) ?_; rintro _ _ _ ⟨rfl, rfl, rfl⟩) | ((first | refine ro (st_box rfl) ?_ | refine ro (st_alloc tok rfl) ?_ | refine ro (st_buildSlice tok rfl rfl rfl rfl rfl rfl rfl) ?_); rintro _ _ _ ⟨_, rfl, rfl, rfl⟩) | refine runL_q (qt_indexN tok rfl rfl rfl rfl (fun _ => by omega)) rfl rfl rfl ?_ | refine runL_g rfl rfl (qt_indexN tok rfl rfl rfl rfl (fun _ => by omega)) rfl rfl rfl rfl rfl ?_ | refine runL_q (qt_ldM tok rfl hc rfl) rfl rfl rfl ?_ | refine runL_g rfl rfl (qt_ldM tok rfl hc rfl) rfl rfl rfl rfl rfl ?_ | refine runL_q (qt_ldM0 tok rfl hc rfl) rfl rfl rfl ?_ | refine runL_g rfl rfl (qt_ldM0 tok rfl hc rfl) rfl rfl rfl rfl rfl ?_)
    refine runL_as 79 (.slice (some ⟨b2, off2, none⟩) x.steps.len x.steps.cap) rfl hv ?_
    repeat (first | with_reducible (first | refine cS ?_ | refine cR ?_ | refine cN ?_ | refine cK ?_ | refine cB ?_ | refine cI ?_) | refine cE rfl ?_ | refine rq (qt_pev tok rfl) ?_ | refine rg rfl rfl (qt_pev tok rfl) ?_ | refine rq (ql tok rfl) ?_ | refine rg rfl rfl (ql tok rfl) ?_ | (refine runL_op0 (sst tok rfl rfl rfl rfl rfl) ?_; rintro _ _ _ ⟨rfl, rfl, rfl⟩) | ((first | refine ro (st_box rfl) ?_ | refine ro (st_alloc tok rfl) ?_ | refine ro (st_buildSlice tok rfl rfl rfl rfl rfl rfl rfl) ?_); rintro _ _ _ ⟨_, rfl, rfl, rfl⟩) | refine runL_g rfl rfl (Qt.as (v' := Value.slice (some ⟨b2, off2, none⟩) x.steps.len x.steps.cap) (qt_ldM tok rfl hc rfl) hv) rfl rfl rfl rfl rfl ?_ | refine runL_q (qt_indexN tok rfl rfl rfl rfl (fun _ => by omega)) rfl rfl rfl ?_ | refine runL_g rfl rfl (qt_indexN tok rfl rfl rfl rfl (fun _ => by omega)) rfl rfl rfl rfl rfl ?_ | refine runL_q (qt_ldM tok rfl hc2 rfl) rfl rfl rfl ?_ | refine runL_g rfl rfl (qt_ldM tok rfl hc2 rfl) rfl rfl rfl rfl rfl ?_ | refine runL_q (qt_ldM0 tok rfl hc2 rfl) rfl rfl rfl ?_ | refine runL_g rfl rfl (qt_ldM0 tok rfl hc2 rfl) rfl rfl rfl rfl rfl ?_ | refine runL_q (qt_indexN tok rfl rfl rfl rfl (fun _ => by omega)) rfl rfl rfl ?_ | refine runL_g rfl rfl (qt_indexN tok rfl rfl rfl rfl (fun _ => by omega)) rfl rfl rfl rfl rfl ?_ | refine runL_q (qt_ldM tok rfl hc rfl) rfl rfl rfl ?_ | refine runL_g rfl rfl (qt_ldM tok rfl hc rfl) rfl rfl rfl rfl rfl ?_ | refine runL_q (qt_ldM0 tok rfl hc rfl) rfl rfl rfl ?_ | refine runL_g rfl rfl (qt_ldM0 tok rfl hc rfl) rfl rfl rfl rfl rfl ?_)
    refine run_cond rfl (fun h => ?_) (fun h => ?_)
    · repeat (first | with_reducible (first | refine cS ?_ | refine cR ?_ | refine cN ?_ | refine cK ?_ | refine cB ?_ | refine cI ?_) | refine cE rfl ?_ | refine rq (qt_pev tok rfl) ?_ | refine rg rfl rfl (qt_pev tok rfl) ?_ | refine rq (ql tok rfl) ?_ | refine rg rfl rfl (ql tok rfl) ?_ | (refine runL_op0 (sst tok rfl rfl rfl rfl rfl) ?_; rintro _ _ _ ⟨rfl, rfl, rfl⟩) | ((first | refine ro (st_box rfl) ?_ | refine ro (st_alloc tok rfl) ?_ | refine ro (st_buildSlice tok rfl rfl rfl rfl rfl rfl rfl) ?_); rintro _ _ _ ⟨_, rfl, rfl, rfl⟩))
      exact run_ret hC (rs := [.tmp 2]) rfl (resT rfl resN) (fun _ h => h) ⟨rfl, rfl, true, rfl, fun e => by cases e⟩
    have h8 : y.text.size ≤ 4096 ∧ y.list.len ≤ 100 := by
      have h' : (decide ((y.text.size : Int) > 4096) || decide ((y.list.len : Int) > 100)) = false := h
      simp only [Bool.or_eq_false_iff, decide_eq_false_iff_not] at h'
      omega
    repeat (first | with_reducible (first | refine cS ?_ | refine cR ?_ | refine cN ?_ | refine cK ?_ | refine cB ?_ | refine cI ?_) | refine cE rfl ?_ | refine rq (qt_pev tok rfl) ?_ | refine rg rfl rfl (qt_pev tok rfl) ?_ | refine rq (ql tok rfl) ?_ | refine rg rfl rfl (ql tok rfl) ?_ | (refine runL_op0 (sst tok rfl rfl rfl rfl rfl) ?_; rintro _ _ _ ⟨rfl, rfl, rfl⟩) | ((first | refine ro (st_box rfl) ?_ | refine ro (st_alloc tok rfl) ?_ | refine ro (st_buildSlice tok rfl rfl rfl rfl rfl rfl rfl) ?_); rintro _ _ _ ⟨_, rfl, rfl, rfl⟩) | refine runL_q (qt_indexN tok rfl rfl rfl rfl (fun _ => by omega)) rfl rfl rfl ?_ | refine runL_g rfl rfl (qt_indexN tok rfl rfl rfl rfl (fun _ => by omega)) rfl rfl rfl rfl rfl ?_ | refine runL_q (qt_ldM tok rfl hc rfl) rfl rfl rfl ?_ | refine runL_g rfl rfl (qt_ldM tok rfl hc rfl) rfl rfl rfl rfl rfl ?_ | refine runL_q (qt_ldM0 tok rfl hc rfl) rfl rfl rfl ?_ | refine runL_g rfl rfl (qt_ldM0 tok rfl hc rfl) rfl rfl rfl rfl rfl ?_)
    refine runL_as 104 (.slice (some ⟨b2, off2, none⟩) x.steps.len x.steps.cap) rfl hv ?_
    repeat (first | with_reducible (first | refine cS ?_ | refine cR ?_ | refine cN ?_ | refine cK ?_ | refine cB ?_ | refine cI ?_) | refine cE rfl ?_ | refine rq (qt_pev tok rfl) ?_ | refine rg rfl rfl (qt_pev tok rfl) ?_ | refine rq (ql tok rfl) ?_ | refine rg rfl rfl (ql tok rfl) ?_ | (refine runL_op0 (sst tok rfl rfl rfl rfl rfl) ?_; rintro _ _ _ ⟨rfl, rfl, rfl⟩) | ((first | refine ro (st_box rfl) ?_ | refine ro (st_alloc tok rfl) ?_ | refine ro (st_buildSlice tok rfl rfl rfl rfl rfl rfl rfl) ?_); rintro _ _ _ ⟨_, rfl, rfl, rfl⟩) | refine runL_q (qt_indexN tok rfl rfl rfl rfl (fun _ => by omega)) rfl rfl rfl ?_ | refine runL_g rfl rfl (qt_indexN tok rfl rfl rfl rfl (fun _ => by omega)) rfl rfl rfl rfl rfl ?_ | refine runL_q (qt_ldM tok rfl hc2 rfl) rfl rfl rfl ?_ | refine runL_g rfl rfl (qt_ldM tok rfl hc2 rfl) rfl rfl rfl rfl rfl ?_ | refine runL_q (qt_ldM0 tok rfl hc2 rfl) rfl rfl rfl ?_ | refine runL_g rfl rfl (qt_ldM0 tok rfl hc2 rfl) rfl rfl rfl rfl rfl ?_)
    exact run_sub' (hnx _ _ _ ⟨hkt, rfl, rfl, all_cons_snoc hm hpres h8, _, rfl⟩) ⟨lk_succ rfl (by omega), rfl, rfl, rfl, trivial⟩
  have hges : i = x.steps.len := by simp at h; omega
  rw [hges, List.take_of_length_le (by omega)] at hpres
  repeat (first | with_reducible (first | refine cS ?_ | refine cR ?_ | refine cN ?_ | refine cK ?_ | refine cB ?_ | refine cI ?_) | refine cE rfl ?_ | refine rq (qt_pev tok rfl) ?_ | refine rg rfl rfl (qt_pev tok rfl) ?_ | refine rq (ql tok rfl) ?_ | refine rg rfl rfl (ql tok rfl) ?_ | (refine runL_op0 (sst tok rfl rfl rfl rfl rfl) ?_; rintro _ _ _ ⟨rfl, rfl, rfl⟩) | ((first | refine ro (st_box rfl) ?_ | refine ro (st_alloc tok rfl) ?_ | refine ro (st_buildSlice tok rfl rfl rfl rfl rfl rfl rfl) ?_); rintro _ _ _ ⟨_, rfl, rfl, rfl⟩))
  exact run_sub' (hnext _ _ _ ⟨hlt, rfl, rfl, all_cons_snoc hx hpre ⟨h20.1, h20.2, hpreg, hpres⟩, _, rfl⟩) ⟨lk_succ rfl (by omega), rfl, rfl, trivial⟩
end Go.Proofs.Ytbpgiodfccijmaa
namespace Go.Proofs.Ytbpgiodfccijmaa
open Go.Chi

/-! ### acts whose rows are their own -/
/-- a copy of a list -/
theorem st_copyM {P : Program} {T : TT} {ro : Option Nat} {σ : Env} {δ : Den} {M : Mem} {L : HL} {d : Option Nat} {ty : TypeId} {pos : String} {aft : Array Edge} {g : Option (Nat × Bool)} {cur : Path} {x y : Operand} {t e sz by_ : Nat} {z : Value} {α : Type} {f : α → List Value} {xs : List α} {a : Option Addr} {n c : Nat}
    (hT : TOk P T) (hx : ev σ δ cur x = some (.slice none 0 0)) (hy : ev σ δ cur y = some (.slice a n c)) (ht : und T t = some (.slice e)) (hi : sizeT T e = some sz) (hz : zeroT T e = some z) (hzs : (cellsL z).length = sz) (hb : bytesT T e = some by_) (hby : Nat.ble 1 by_ = true)
    (hs : SlM M sz a n (xs.map f)) (hf : ∀ r, ∀ u ∈ f r, u.oneCell' = true) (hfl : ∀ l ∈ xs.map f, l.length = sz) (hroom : (2 * (0 + n) + 192) * by_ ≤ 281474976710656) (h63 : 0 + n < 9223372036854775808) :
    St P ro ⟨d, .call ⟨.builtin .append, #[x, y], #[t, t]⟩, ty, pos, aft, g⟩ σ δ cur M L (fun v M' L' => M.le M' ∧ L = L' ∧ ∃ a' c', v = .slice a' n c' ∧ SlM M' sz a' n (xs.map f)) := by
  refine St.frz (st_appendG (xs := []) (n := 0) (m := n) hT hx hy ht hi hz hzs hb hby (N := []) (List.Perm.refl _) (OS.nil _ _) (SrcG.ofSlM hs) (rFlatOne hf _) hroom h63) ?_
  rintro v M' L' w hw ⟨N', rfl, rfl, hO⟩
  rw [Nat.zero_add, List.nil_append] at hO
  obtain ⟨M2, a', c', h1, h2, h3, h4⟩ := hw.freezeOS hO hs.1 hfl
  exact ⟨M2, _, h2, h1, rfl, a', c', h3, h4⟩
theorem mbOne (r : Mb) : ∀ u ∈ mbC r, u.oneCell' = true := by intro u hu; simp [mbC] at hu; rcases hu with rfl | rfl <;> rfl
theorem srOne (r : Sr) : ∀ u ∈ srC r, u.oneCell' = true := by
  intro u hu
  simp only [srC, List.mem_cons, List.not_mem_nil, or_false] at hu
  rcases hu with rfl | rfl | rfl | rfl | rfl | rfl | rfl <;> rfl
theorem inOne' (r : Int) : ∀ u ∈ inC r, u.oneCell' = true := by intro u hu; simp [inC] at hu; subst hu; rfl
theorem axOne' (r : Ax) : ∀ u ∈ axC r, u.oneCell' = true := by
  intro u hu
  simp only [axC, List.mem_cons, List.not_mem_nil, or_false] at hu
  rcases hu with rfl | rfl | rfl | rfl | rfl | rfl | rfl | rfl | rfl | rfl <;> rfl
theorem sr_all' (xs : List Sr) : ∀ l ∈ xs.map srC, l.length = 7 := by intro l hl; obtain ⟨p, _, rfl⟩ := List.mem_map.1 hl; rfl
theorem in_all' (xs : List Int) : ∀ l ∈ xs.map inC, l.length = 1 := by intro l hl; obtain ⟨p, _, rfl⟩ := List.mem_map.1 hl; rfl
theorem ax_all' (xs : List Ax) : ∀ l ∈ xs.map axC, l.length = 10 := by intro l hl; obtain ⟨p, _, rfl⟩ := List.mem_map.1 hl; rfl
theorem axFlat' (l : List Ax) (x : Ax) : (l.map axC).flatten ++ axC x = ((l ++ [x]).map axC).flatten := by simp
abbrev axB' (b : Nat) (x : Ax) : Nat × Obj := (b, .cells ⟨axC x⟩ 37 (0, 0))
theorem osSl {e size n : Nat} {v : Value} {xs : List Value} {N : HL} (h : OS e size v n xs N) : ∃ a cap, v = .slice a n cap := by
  rcases h with ⟨rfl, rfl, _, _⟩ | ⟨b, cap, cs, rfl, _⟩
  · exact ⟨none, 0, rfl⟩
  · exact ⟨_, cap, rfl⟩
set_option maxRecDepth 10000 in
set_option maxHeartbeats 32000000 in
theorem sown_os (M : Mem) (L : HL) (s : SAx) (hs : SaOk M s) : Tr Try.prog 9 [s.v] M L (fun v M' L' => M.le M' ∧ ∃ (ys : List Ax) (N : HL), ys.length = s.len ∧ ys.map Ax.aa = s.xs.map Ax.aa ∧ (∀ y ∈ ys, AxW M' y) ∧ OS 37 10 v s.len (ys.map axC).flatten N ∧ L' = N ++ L) := by
  have hlen := hs.len
  have hlt0 := hs.lt
  obtain ⟨la, ln, lc, xs⟩ := s
  simp only [SAx.v] at *
  refine Tr.intro 49 Try.func9 rfl rfl Try.call9 rfl ?_
  intro C hC hro
  repeat (first | with_reducible (first | refine cS ?_ | refine cR ?_ | refine cN ?_ | refine cK ?_ | refine cB ?_ | refine cI ?_) | refine cE rfl ?_ | refine rq (qt_pev tok rfl) ?_ | refine rg rfl rfl (qt_pev tok rfl) ?_ | refine rq (ql tok rfl) ?_ | refine rg rfl rfl (ql tok rfl) ?_ | (refine runL_op0 (sst tok rfl rfl rfl rfl rfl) ?_; rintro _ _ _ ⟨rfl, rfl, rfl⟩) | ((first | refine ro (st_box rfl) ?_ | refine ro (st_alloc tok rfl) ?_ | refine ro (st_buildSlice tok rfl rfl rfl rfl rfl rfl rfl) ?_); rintro _ _ _ ⟨_, rfl, rfl, rfl⟩))
  refine run_loopN (fun j σ1 M1 L1 => j ≤ ln ∧ M.le M1 ∧ ∃ (ys : List Ax) (v : Value) (N : HL), ys.length = j ∧ ys.map Ax.aa = (xs.take j).map Ax.aa ∧ (∀ x ∈ ys, AxW M1 x) ∧ OS 37 10 v j (ys.map axC).flatten N ∧ L1 = N ++ L ∧ σ1 = [(4, .int .i64 (j : Int)), (3, v), (0, .slice la ln lc)]) ln [(4, .int .i64 ((0 : Nat) : Int)), (3, .slice none 0 0), (0, .slice la ln lc)] ?_ ⟨Nat.zero_le _, Mem.le_refl _, [], .slice none 0 0, [], rfl, by simp, (fun x hx => by cases hx), OS.nil _ _, rfl, rfl⟩ (fun j _ _ _ h => h.1) ?_
  · exact ⟨rfl, rfl, rfl, trivial⟩
  rintro j _ M1 _ ⟨hj, hM1, ys, v, N, hyl, hya, hyw, hO, rfl, rfl⟩ hnext
  repeat (first | with_reducible (first | refine cS ?_ | refine cR ?_ | refine cN ?_ | refine cK ?_ | refine cB ?_ | refine cI ?_) | refine cE rfl ?_ | refine rq (qt_pev tok rfl) ?_ | refine rg rfl rfl (qt_pev tok rfl) ?_ | refine rq (ql tok rfl) ?_ | refine rg rfl rfl (ql tok rfl) ?_ | (refine runL_op0 (sst tok rfl rfl rfl rfl rfl) ?_; rintro _ _ _ ⟨rfl, rfl, rfl⟩) | ((first | refine ro (st_box rfl) ?_ | refine ro (st_alloc tok rfl) ?_ | refine ro (st_buildSlice tok rfl rfl rfl rfl rfl rfl rfl) ?_); rintro _ _ _ ⟨_, rfl, rfl, rfl⟩))
  refine run_cond rfl (fun h => ?_) (fun h => ?_)
  rotate_left
  · have hge : j = ln := by simp at h; omega
    subst hge
    rw [List.take_of_length_le (by omega)] at hya
    clear hnext
    refine run_exit rfl ?_
    repeat (first | with_reducible (first | refine cS ?_ | refine cR ?_ | refine cN ?_ | refine cK ?_ | refine cB ?_ | refine cI ?_) | refine cE rfl ?_ | refine rq (qt_pev tok rfl) ?_ | refine rg rfl rfl (qt_pev tok rfl) ?_ | refine rq (ql tok rfl) ?_ | refine rg rfl rfl (ql tok rfl) ?_ | (refine runL_op0 (sst tok rfl rfl rfl rfl rfl) ?_; rintro _ _ _ ⟨rfl, rfl, rfl⟩) | ((first | refine ro (st_box rfl) ?_ | refine ro (st_alloc tok rfl) ?_ | refine ro (st_buildSlice tok rfl rfl rfl rfl rfl rfl rfl) ?_); rintro _ _ _ ⟨_, rfl, rfl, rfl⟩))
    exact run_ret hC (rs := [.tmp 2]) rfl (resT rfl resN) (fun _ h => h) ⟨hM1, ys, N, hyl, hya, hyw, hO, rfl⟩
  have hlt : j < ln := by simpa using h
  obtain ⟨b, off, x, rfl, hx, hc⟩ := SAx.at_ (hs.le hM1).sl hlt
  have hxo := (hs.le hM1).each x (List.mem_of_getElem? hx)
  have g6 := hxo.gives.2
  have s6 := hxo.steps.lt
  have sl6 := hxo.steps.len
  repeat (first | with_reducible (first | refine cS ?_ | refine cR ?_ | refine cN ?_ | refine cK ?_ | refine cB ?_ | refine cI ?_) | refine cE rfl ?_ | refine rq (qt_pev tok rfl) ?_ | refine rg rfl rfl (qt_pev tok rfl) ?_ | refine rq (ql tok rfl) ?_ | refine rg rfl rfl (ql tok rfl) ?_ | (refine runL_op0 (sst tok rfl rfl rfl rfl rfl) ?_; rintro _ _ _ ⟨rfl, rfl, rfl⟩) | ((first | refine ro (st_box rfl) ?_ | refine ro (st_alloc tok rfl) ?_ | refine ro (st_buildSlice tok rfl rfl rfl rfl rfl rfl rfl) ?_); rintro _ _ _ ⟨_, rfl, rfl, rfl⟩) | refine runL_q (qt_indexN tok rfl rfl rfl rfl (fun _ => by omega)) rfl rfl rfl ?_ | refine runL_g rfl rfl (qt_indexN tok rfl rfl rfl rfl (fun _ => by omega)) rfl rfl rfl rfl rfl ?_ | refine runL_q (qt_ldM tok rfl hc rfl) rfl rfl rfl ?_ | refine runL_g rfl rfl (qt_ldM tok rfl hc rfl) rfl rfl rfl rfl rfl ?_ | refine runL_q (qt_ldM0 tok rfl hc rfl) rfl rfl rfl ?_ | refine runL_g rfl rfl (qt_ldM0 tok rfl hc rfl) rfl rfl rfl rfl rfl ?_)
  rename_i b5
  refine runL_op (st_copyM (xs := x.gives.xs) (f := mbC) tok rfl rfl rfl rfl rfl rfl rfl rfl hxo.gives.1 mbOne (mb_all _) (by omega) (by omega)) rfl rfl rfl ?_
  rintro _ M2 _ ⟨hM2, rfl, a1, c1, rfl, hs1⟩
  repeat (first | with_reducible (first | refine cS ?_ | refine cR ?_ | refine cN ?_ | refine cK ?_ | refine cB ?_ | refine cI ?_) | refine cE rfl ?_ | refine rq (qt_pev tok rfl) ?_ | refine rg rfl rfl (qt_pev tok rfl) ?_ | refine rq (ql tok rfl) ?_ | refine rg rfl rfl (ql tok rfl) ?_ | (refine runL_op0 (sst tok rfl rfl rfl rfl rfl) ?_; rintro _ _ _ ⟨rfl, rfl, rfl⟩) | ((first | refine ro (st_box rfl) ?_ | refine ro (st_alloc tok rfl) ?_ | refine ro (st_buildSlice tok rfl rfl rfl rfl rfl rfl rfl) ?_); rintro _ _ _ ⟨_, rfl, rfl, rfl⟩))
  refine runL_op (st_appendG (xs := []) (n := 0) (m := x.steps.len) (news := (x.steps.xs.map srC).flatten) tok rfl rfl rfl rfl rfl rfl rfl rfl (N := []) (List.Perm.refl _) (OS.nil _ _) (SrcG.ofSlM (hxo.steps.le hM2).sl) (rFlatOne srOne _) (by omega) (by omega)) rfl rfl rfl ?_
  rintro v7 _ _ ⟨N1, rfl, rfl, hO1⟩
  rw [Nat.zero_add, List.nil_append] at hO1
  obtain ⟨a7, c7, rfl⟩ := osSl hO1
  repeat (first | with_reducible (first | refine cS ?_ | refine cR ?_ | refine cN ?_ | refine cK ?_ | refine cB ?_ | refine cI ?_) | refine cE rfl ?_ | refine rq (qt_pev tok rfl) ?_ | refine rg rfl rfl (qt_pev tok rfl) ?_ | refine rq (ql tok rfl) ?_ | refine rg rfl rfl (ql tok rfl) ?_ | (refine runL_op0 (sst tok rfl rfl rfl rfl rfl) ?_; rintro _ _ _ ⟨rfl, rfl, rfl⟩) | ((first | refine ro (st_box rfl) ?_ | refine ro (st_alloc tok rfl) ?_ | refine ro (st_buildSlice tok rfl rfl rfl rfl rfl rfl rfl) ?_); rintro _ _ _ ⟨_, rfl, rfl, rfl⟩))
  generalize hx1 : ({ x with gives := ⟨a1, x.gives.len, c1, x.gives.xs⟩, steps := ⟨a7, x.steps.len, c7, []⟩ } : Ax) = x1
  have hv1 : x1.steps.v = .slice a7 x.steps.len c7 := by rw [← hx1]; rfl
  have hl1 : x1.steps.len = x.steps.len := by rw [← hx1]
  refine run_mem (M' := M2) (L' := axB' b5 x1 :: (N1 ++ (N ++ L))) (fun w h => by rw [← hx1]; exact h.perm List.perm_middle) ?_
  refine run_loopN (fun i σ1 M4 L1 => i ≤ x.steps.len ∧ M2.le M4 ∧ ∃ (zs : List Sr) (N2 : HL), zs.length = x.steps.len ∧ zs.map Sr.sp = x.steps.xs.map Sr.sp ∧ (∀ z ∈ zs, SrOk M4 z) ∧ OS 51 7 (.slice a7 x.steps.len c7) x.steps.len (zs.map srC).flatten N2 ∧ L1 = axB' b5 x1 :: (N2 ++ (N ++ L)) ∧ σ1 = [(6, .int .i64 (i : Int)), (5, .pointer (some ⟨b5, 0, none⟩)), (4, .int .i64 (j : Int)), (3, v), (0, .slice (some ⟨b, off, none⟩) ln lc)]) x.steps.len [(6, .int .i64 ((0 : Nat) : Int)), (5, .pointer (some ⟨b5, 0, none⟩)), (4, .int .i64 (j : Int)), (3, v), (0, .slice (some ⟨b, off, none⟩) ln lc)] ?_ ⟨Nat.zero_le _, Mem.le_refl _, x.steps.xs, N1, sl6, rfl, (fun z hz => (hxo.steps.each z hz).le hM2), hO1, rfl, rfl⟩ (fun i _ _ _ h => h.1) ?_
  · exact ⟨rfl, rfl, rfl, rfl, rfl, trivial⟩
  rintro i _ M4 _ ⟨hi, hM4, zs, N2, hzl, hzs, hzo, hO2, rfl, rfl⟩ hnx
  repeat (first | with_reducible (first | refine cS ?_ | refine cR ?_ | refine cN ?_ | refine cK ?_ | refine cB ?_ | refine cI ?_) | refine cE rfl ?_ | refine rq (qt_pev tok rfl) ?_ | refine rg rfl rfl (qt_pev tok rfl) ?_ | refine rq (ql tok rfl) ?_ | refine rg rfl rfl (ql tok rfl) ?_ | (refine runL_op0 (sst tok rfl rfl rfl rfl rfl) ?_; rintro _ _ _ ⟨rfl, rfl, rfl⟩) | ((first | refine ro (st_box rfl) ?_ | refine ro (st_alloc tok rfl) ?_ | refine ro (st_buildSlice tok rfl rfl rfl rfl rfl rfl rfl) ?_); rintro _ _ _ ⟨_, rfl, rfl, rfl⟩))
  refine run_cond rfl (fun h => ?_) (fun h => ?_)
  · have hit : i < x.steps.len := by simpa [hl1] using h
    obtain ⟨z, hz⟩ : ∃ z, zs[i]? = some z := ⟨_, List.getElem?_eq_getElem (by omega)⟩
    have hzk : (zs.map srC)[i]? = some (srC z) := by rw [List.getElem?_map, hz]; rfl
    have hzz := hzo z (List.mem_of_getElem? hz)
    have z6 := hzz.list.2
    obtain ⟨b7, cap, pre, post, hv7, rfl, hpl, hset⟩ := hO2.mid (sr_all' zs) (by simpa using hzl) hzk
    obtain ⟨rfl, _, rfl⟩ := (Value.slice.injEq _ _ _ _ _ _).mp hv7
    have hseg : SegAt (pre ++ (srC z ++ post)) (0 + i * 7) (srC z) := by have := SegAt.mid pre (srC z) post; rwa [hpl, ← Nat.zero_add (i * 7)] at this
    refine run_mem (M' := M4) (L' := axB' b5 x1 :: (b7, .cells ⟨pre ++ (srC z ++ post)⟩ 51 (0, 0)) :: (N ++ L)) (fun _ h => h) ?_
    repeat (first | with_reducible (first | refine cS ?_ | refine cR ?_ | refine cN ?_ | refine cK ?_ | refine cB ?_ | refine cI ?_) | refine cE rfl ?_ | refine rq (qt_pev tok rfl) ?_ | refine rg rfl rfl (qt_pev tok rfl) ?_ | refine rq (ql tok rfl) ?_ | refine rg rfl rfl (ql tok rfl) ?_ | (refine runL_op0 (sst tok rfl rfl rfl rfl rfl) ?_; rintro _ _ _ ⟨rfl, rfl, rfl⟩) | ((first | refine ro (st_box rfl) ?_ | refine ro (st_alloc tok rfl) ?_ | refine ro (st_buildSlice tok rfl rfl rfl rfl rfl rfl rfl) ?_); rintro _ _ _ ⟨_, rfl, rfl, rfl⟩))
    repeat (first | with_reducible (first | refine cS ?_ | refine cR ?_ | refine cN ?_ | refine cK ?_ | refine cB ?_ | refine cI ?_) | refine cE rfl ?_ | refine rq (qt_pev tok rfl) ?_ | refine rg rfl rfl (qt_pev tok rfl) ?_ | refine rq (ql tok rfl) ?_ | refine rg rfl rfl (ql tok rfl) ?_ | (refine runL_op0 (sst tok rfl rfl rfl rfl rfl) ?_; rintro _ _ _ ⟨rfl, rfl, rfl⟩) | ((first | refine ro (st_box rfl) ?_ | refine ro (st_alloc tok rfl) ?_ | refine ro (st_buildSlice tok rfl rfl rfl rfl rfl rfl rfl) ?_); rintro _ _ _ ⟨_, rfl, rfl, rfl⟩) | refine prn_start mixed ?_ | refine prn_end (by decide +kernel) ?_ | refine pq rfl (qt_pev tok rfl) ?_ | refine pg rfl rfl rfl (qt_pev tok rfl) ?_ | refine pq rfl (ql tok rfl) ?_ | refine pg rfl rfl rfl (ql tok rfl) ?_ | (refine prn_e0 rfl (sst tok rfl rfl rfl rfl rfl) (by decide +kernel) ?_; rintro _ _ _ ⟨rfl, rfl, rfl⟩) | ((first | refine pe rfl (st_box rfl) ?_ | refine pe rfl (st_alloc tok rfl) ?_ | refine pe rfl (st_buildSlice tok rfl rfl rfl rfl rfl rfl rfl) ?_); rintro _ _ _ ⟨_, rfl, rfl, rfl⟩) | (refine prn_o0 rfl (sst tok rfl rfl rfl rfl rfl) (by decide +kernel) ?_; rintro _ _ _ ⟨rfl, rfl, rfl⟩; refine ⟨by (repeat (first | exact trivial | refine And.intro (pend_q rfl rfl rfl (qt_pev tok rfl)) ?_ | refine And.intro (pend_q rfl rfl rfl (ql tok rfl)) ?_)), ?_⟩) | ((first | refine po rfl (st_box rfl) ?_ | refine po rfl (st_alloc tok rfl) ?_ | refine po rfl (st_buildSlice tok rfl rfl rfl rfl rfl rfl rfl) ?_); rintro _ _ _ ⟨_, rfl, rfl, rfl⟩; refine ⟨by (repeat (first | exact trivial | refine And.intro (pend_q rfl rfl rfl (qt_pev tok rfl)) ?_ | refine And.intro (pend_q rfl rfl rfl (ql tok rfl)) ?_)), ?_⟩) | (refine pe rfl (qt_pev tok rfl) ?_; rintro _ _ _ ⟨rfl, rfl, rfl⟩))
    refine pr_as 36 (.slice (some ⟨b7, 0, none⟩) x.steps.len c7) rfl hv1 ?_
    refine pr_as 33 (.slice (some ⟨b7, 0, none⟩) x.steps.len c7) rfl hv1 ?_
    have hst : ∀ l : SIn, setE (pre ++ (srC z ++ post)) (0 + i * 7 + 6) [l.v] = some (pre ++ (srC { z with list := l } ++ post)) := fun l => by have := setE_mid (pre := pre) (post := post) (x := srC z) (x' := srC { z with list := l }) (vs := [l.v]) (j := 6) rfl; rwa [hpl, ← Nat.zero_add (i * 7)] at this
    repeat (first | with_reducible (first | refine cS ?_ | refine cR ?_ | refine cN ?_ | refine cK ?_ | refine cB ?_ | refine cI ?_) | refine cE rfl ?_ | refine rq (qt_pev tok rfl) ?_ | refine rg rfl rfl (qt_pev tok rfl) ?_ | refine rq (ql tok rfl) ?_ | refine rg rfl rfl (ql tok rfl) ?_ | (refine runL_op0 (sst tok rfl rfl rfl rfl rfl) ?_; rintro _ _ _ ⟨rfl, rfl, rfl⟩) | ((first | refine ro (st_box rfl) ?_ | refine ro (st_alloc tok rfl) ?_ | refine ro (st_buildSlice tok rfl rfl rfl rfl rfl rfl rfl) ?_); rintro _ _ _ ⟨_, rfl, rfl, rfl⟩) | refine prn_start mixed ?_ | refine prn_end (by decide +kernel) ?_ | refine pq rfl (qt_pev tok rfl) ?_ | refine pg rfl rfl rfl (qt_pev tok rfl) ?_ | refine pq rfl (ql tok rfl) ?_ | refine pg rfl rfl rfl (ql tok rfl) ?_ | (refine prn_e0 rfl (sst tok rfl rfl rfl rfl rfl) (by decide +kernel) ?_; rintro _ _ _ ⟨rfl, rfl, rfl⟩) | ((first | refine pe rfl (st_box rfl) ?_ | refine pe rfl (st_alloc tok rfl) ?_ | refine pe rfl (st_buildSlice tok rfl rfl rfl rfl rfl rfl rfl) ?_); rintro _ _ _ ⟨_, rfl, rfl, rfl⟩) | (refine prn_o0 rfl (sst tok rfl rfl rfl rfl rfl) (by decide +kernel) ?_; rintro _ _ _ ⟨rfl, rfl, rfl⟩; refine ⟨by (repeat (first | exact trivial | refine And.intro (pend_q rfl rfl rfl (qt_pev tok rfl)) ?_ | refine And.intro (pend_q rfl rfl rfl (ql tok rfl)) ?_)), ?_⟩) | ((first | refine po rfl (st_box rfl) ?_ | refine po rfl (st_alloc tok rfl) ?_ | refine po rfl (st_buildSlice tok rfl rfl rfl rfl rfl rfl rfl) ?_); rintro _ _ _ ⟨_, rfl, rfl, rfl⟩; refine ⟨by (repeat (first | exact trivial | refine And.intro (pend_q rfl rfl rfl (qt_pev tok rfl)) ?_ | refine And.intro (pend_q rfl rfl rfl (ql tok rfl)) ?_)), ?_⟩) | (refine pe rfl (qt_pev tok rfl) ?_; rintro _ _ _ ⟨rfl, rfl, rfl⟩) | refine prn_q rfl (qt_indexN tok rfl rfl rfl rfl (fun _ => by omega)) (by decide +kernel) rfl rfl rfl ?_ | refine prn_q rfl (qt_ldB (k := 6) tok rfl hseg (List.mem_cons_of_mem _ List.mem_cons_self) rfl) (by decide +kernel) rfl rfl rfl ?_)
    refine prn_o1 rfl (st_copyM (xs := z.list.xs) (f := inC) tok rfl rfl rfl rfl rfl rfl rfl rfl hzz.list.1 inOne' (in_all' _) (by omega) (by omega)) (by decide +kernel) rfl rfl rfl ?_
    rintro _ M5 _ ⟨hM5, rfl, a9, c9, rfl, hs9⟩
    refine ⟨by (repeat (first | exact trivial | refine And.intro (pend_q rfl rfl rfl (qt_pev tok rfl)) ?_ | refine And.intro (pend_q rfl rfl rfl (ql tok rfl)) ?_ | refine And.intro (pend_q rfl rfl rfl (Qt.as (v' := Value.slice (some ⟨b7, 0, none⟩) x.steps.len c7) (ql tok rfl) hv1)) ?_ | refine And.intro (pend_q rfl rfl rfl (qt_indexN tok rfl rfl rfl rfl (fun _ => by omega))) ?_ | refine And.intro (pend_q rfl rfl rfl (qt_ldB (k := 6) tok rfl hseg (List.mem_cons_of_mem _ List.mem_cons_self) rfl)) ?_)), ?_⟩
    repeat (first | with_reducible (first | refine cS ?_ | refine cR ?_ | refine cN ?_ | refine cK ?_ | refine cB ?_ | refine cI ?_) | refine cE rfl ?_ | refine rq (qt_pev tok rfl) ?_ | refine rg rfl rfl (qt_pev tok rfl) ?_ | refine rq (ql tok rfl) ?_ | refine rg rfl rfl (ql tok rfl) ?_ | (refine runL_op0 (sst tok rfl rfl rfl rfl rfl) ?_; rintro _ _ _ ⟨rfl, rfl, rfl⟩) | ((first | refine ro (st_box rfl) ?_ | refine ro (st_alloc tok rfl) ?_ | refine ro (st_buildSlice tok rfl rfl rfl rfl rfl rfl rfl) ?_); rintro _ _ _ ⟨_, rfl, rfl, rfl⟩) | refine prn_start mixed ?_ | refine prn_end (by decide +kernel) ?_ | refine pq rfl (qt_pev tok rfl) ?_ | refine pg rfl rfl rfl (qt_pev tok rfl) ?_ | refine pq rfl (ql tok rfl) ?_ | refine pg rfl rfl rfl (ql tok rfl) ?_ | (refine prn_e0 rfl (sst tok rfl rfl rfl rfl rfl) (by decide +kernel) ?_; rintro _ _ _ ⟨rfl, rfl, rfl⟩) | ((first | refine pe rfl (st_box rfl) ?_ | refine pe rfl (st_alloc tok rfl) ?_ | refine pe rfl (st_buildSlice tok rfl rfl rfl rfl rfl rfl rfl) ?_); rintro _ _ _ ⟨_, rfl, rfl, rfl⟩) | (refine prn_o0 rfl (sst tok rfl rfl rfl rfl rfl) (by decide +kernel) ?_; rintro _ _ _ ⟨rfl, rfl, rfl⟩; refine ⟨by (repeat (first | exact trivial | refine And.intro (pend_q rfl rfl rfl (qt_pev tok rfl)) ?_ | refine And.intro (pend_q rfl rfl rfl (ql tok rfl)) ?_)), ?_⟩) | ((first | refine po rfl (st_box rfl) ?_ | refine po rfl (st_alloc tok rfl) ?_ | refine po rfl (st_buildSlice tok rfl rfl rfl rfl rfl rfl rfl) ?_); rintro _ _ _ ⟨_, rfl, rfl, rfl⟩; refine ⟨by (repeat (first | exact trivial | refine And.intro (pend_q rfl rfl rfl (qt_pev tok rfl)) ?_ | refine And.intro (pend_q rfl rfl rfl (ql tok rfl)) ?_)), ?_⟩) | (refine pe rfl (qt_pev tok rfl) ?_; rintro _ _ _ ⟨rfl, rfl, rfl⟩) | refine prn_q rfl (qt_indexN tok rfl rfl rfl rfl (fun _ => by omega)) (by decide +kernel) rfl rfl rfl ?_)
    refine prn_o0 rfl (st_store tok rfl rfl rfl rfl rfl (by (repeat (first | with_reducible apply Upd.here | with_reducible apply Upd.there | with_reducible apply Upd.append_left))) (hst ⟨a9, z.list.len, c9, z.list.xs⟩)) (by decide +kernel) ?_
    rintro _ _ _ ⟨rfl, rfl, rfl⟩
    refine ⟨by (repeat (first | exact trivial | refine And.intro (pend_q rfl rfl rfl (qt_pev tok rfl)) ?_ | refine And.intro (pend_q rfl rfl rfl (ql tok rfl)) ?_)), ?_⟩
    repeat (first | with_reducible (first | refine cS ?_ | refine cR ?_ | refine cN ?_ | refine cK ?_ | refine cB ?_ | refine cI ?_) | refine cE rfl ?_ | refine rq (qt_pev tok rfl) ?_ | refine rg rfl rfl (qt_pev tok rfl) ?_ | refine rq (ql tok rfl) ?_ | refine rg rfl rfl (ql tok rfl) ?_ | (refine runL_op0 (sst tok rfl rfl rfl rfl rfl) ?_; rintro _ _ _ ⟨rfl, rfl, rfl⟩) | ((first | refine ro (st_box rfl) ?_ | refine ro (st_alloc tok rfl) ?_ | refine ro (st_buildSlice tok rfl rfl rfl rfl rfl rfl rfl) ?_); rintro _ _ _ ⟨_, rfl, rfl, rfl⟩) | refine prn_start mixed ?_ | refine prn_end (by decide +kernel) ?_ | refine pq rfl (qt_pev tok rfl) ?_ | refine pg rfl rfl rfl (qt_pev tok rfl) ?_ | refine pq rfl (ql tok rfl) ?_ | refine pg rfl rfl rfl (ql tok rfl) ?_ | (refine prn_e0 rfl (sst tok rfl rfl rfl rfl rfl) (by decide +kernel) ?_; rintro _ _ _ ⟨rfl, rfl, rfl⟩) | ((first | refine pe rfl (st_box rfl) ?_ | refine pe rfl (st_alloc tok rfl) ?_ | refine pe rfl (st_buildSlice tok rfl rfl rfl rfl rfl rfl rfl) ?_); rintro _ _ _ ⟨_, rfl, rfl, rfl⟩) | (refine prn_o0 rfl (sst tok rfl rfl rfl rfl rfl) (by decide +kernel) ?_; rintro _ _ _ ⟨rfl, rfl, rfl⟩; refine ⟨by (repeat (first | exact trivial | refine And.intro (pend_q rfl rfl rfl (qt_pev tok rfl)) ?_ | refine And.intro (pend_q rfl rfl rfl (ql tok rfl)) ?_)), ?_⟩) | ((first | refine po rfl (st_box rfl) ?_ | refine po rfl (st_alloc tok rfl) ?_ | refine po rfl (st_buildSlice tok rfl rfl rfl rfl rfl rfl rfl) ?_); rintro _ _ _ ⟨_, rfl, rfl, rfl⟩; refine ⟨by (repeat (first | exact trivial | refine And.intro (pend_q rfl rfl rfl (qt_pev tok rfl)) ?_ | refine And.intro (pend_q rfl rfl rfl (ql tok rfl)) ?_)), ?_⟩) | (refine pe rfl (qt_pev tok rfl) ?_; rintro _ _ _ ⟨rfl, rfl, rfl⟩))
    have hset' := hset (srC { z with list := ⟨a9, z.list.len, c9, z.list.xs⟩ }) rfl
    rw [show (zs.map srC).set i (srC { z with list := ⟨a9, z.list.len, c9, z.list.xs⟩ }) = (zs.set i { z with list := ⟨a9, z.list.len, c9, z.list.xs⟩ }).map srC by rw [List.map_set]] at hset'
    refine run_sub' (hnx _ _ _ ⟨hit, Mem.le_trans hM4 hM5, _, _, by rw [List.length_set]; exact hzl, ?_, ?_, hset', rfl, rfl⟩) ⟨lk_succ rfl (by omega), rfl, rfl, rfl, rfl, trivial⟩
    · rw [List.map_set, ← hzs]
      have e : (zs.map Sr.sp)[i]? = some z.sp := by rw [List.getElem?_map, hz]; rfl
      have e2 : Sr.sp { z with list := ⟨a9, z.list.len, c9, z.list.xs⟩ } = z.sp := rfl
      rw [e2]
      obtain ⟨hlt', hx'⟩ := List.getElem?_eq_some_iff.1 e
      rw [← hx', List.set_getElem_self]
    · intro y hy
      rcases List.mem_or_eq_of_mem_set hy with hy | rfl
      · exact (hzo y hy).le hM5
      · exact ⟨⟨hs9, z6⟩, hzz.text⟩
  have hge : i = x.steps.len := by simp [hl1] at h; omega
  subst hge
  clear hnx h
  refine run_exit rfl ?_
  refine run_memE (fun M' L' => M4.le M' ∧ SlZ M' 7 a7 x.steps.len (zs.map srC) ∧ L' = axB' b5 x1 :: (N ++ L)) (fun w hw => ?_) ?_
  · obtain ⟨M', a', c', h1, h2, h3, h4⟩ := (hw.perm (pm1 _ N2 _)).freezeOZ hO2 (by simpa using hzl) (sr_all' zs)
    obtain ⟨rfl, _, rfl⟩ := (Value.slice.injEq _ _ _ _ _ _).mp h3
    exact ⟨M', _, h2, h1, h4, rfl⟩
  rintro M5 _ ⟨hM5, hsz, rfl⟩
  have hM25 := Mem.le_trans hM4 hM5
  have hM15 := Mem.le_trans hM2 hM25
  generalize hx2 : ({ x with gives := ⟨a1, x.gives.len, c1, x.gives.xs⟩, steps := ⟨a7, x.steps.len, c7, zs⟩ } : Ax) = x2
  have hxc : axC x1 = axC x2 := by rw [← hx1, ← hx2]; rfl
  have hw2 : AxW M5 x2 := by
    rw [← hx2]
    exact ⟨⟨hs1.le hM25, g6⟩, ⟨hsz, s6, fun y hy => (hzo y hy).le hM5⟩, hxo.pay⟩
  have ha2 : x2.aa = x.aa := by rw [← hx2]; simp only [Ax.aa]; rw [hzs]
  refine run_mem (M' := M5) (L' := axB' b5 x2 :: (N ++ L)) (fun _ h => by rw [axB', ← hxc]; exact h) ?_
  clear hx2 hx1
  repeat (first | with_reducible (first | refine cS ?_ | refine cR ?_ | refine cN ?_ | refine cK ?_ | refine cB ?_ | refine cI ?_) | refine cE rfl ?_ | refine rq (qt_pev tok rfl) ?_ | refine rg rfl rfl (qt_pev tok rfl) ?_ | refine rq (ql tok rfl) ?_ | refine rg rfl rfl (ql tok rfl) ?_ | (refine runL_op0 (sst tok rfl rfl rfl rfl rfl) ?_; rintro _ _ _ ⟨rfl, rfl, rfl⟩) | ((first | refine ro (st_box rfl) ?_ | refine ro (st_alloc tok rfl) ?_ | refine ro (st_buildSlice tok rfl rfl rfl rfl rfl rfl rfl) ?_); rintro _ _ _ ⟨_, rfl, rfl, rfl⟩))
  refine runL_op (st_append (n := j) (m := 1) (news := axC x2) tok rfl rfl rfl rfl rfl rfl rfl rfl (pm2 _ _ N _) hO (.inr ⟨_, 0, 1, rfl, cellsAll List.mem_cons_self, rfl⟩) (axOne' x2) (by omega) (by omega)) rfl rfl rfl ?_
  rintro v2 _ _ ⟨N', rfl, rfl, hO'⟩
  repeat (first | with_reducible (first | refine cS ?_ | refine cR ?_ | refine cN ?_ | refine cK ?_ | refine cB ?_ | refine cI ?_) | refine cE rfl ?_ | refine rq (qt_pev tok rfl) ?_ | refine rg rfl rfl (qt_pev tok rfl) ?_ | refine rq (ql tok rfl) ?_ | refine rg rfl rfl (ql tok rfl) ?_ | (refine runL_op0 (sst tok rfl rfl rfl rfl rfl) ?_; rintro _ _ _ ⟨rfl, rfl, rfl⟩) | ((first | refine ro (st_box rfl) ?_ | refine ro (st_alloc tok rfl) ?_ | refine ro (st_buildSlice tok rfl rfl rfl rfl rfl rfl rfl) ?_); rintro _ _ _ ⟨_, rfl, rfl, rfl⟩))
  refine run_mem (fun _ h => (h.perm (pm2 _ _ N' _).symm).drop.drop) ?_
  refine run_sub' (hnext _ _ _ ⟨hlt, Mem.le_trans hM1 hM15, ys ++ [x2], v2, N', by simp [hyl], ?_, ?_, by rw [← axFlat']; exact hO', rfl, rfl⟩) ⟨lk_succ rfl (by omega), rfl, rfl, trivial⟩
  · rw [take_snoc hx, List.map_append, List.map_append, hya]
    simp [ha2]
  · intro y hy
    rcases List.mem_append.1 hy with hy | hy
    · exact (hyw y hy).le hM15
    · rw [List.mem_singleton.1 hy]; exact hw2
theorem sown_ok (M : Mem) (L : HL) (s : SAx) (hs : SaOk M s) : Tr Try.prog 9 [s.v] M L (fun v M' L' => M.le M' ∧ L' = L ∧ ∃ s' : SAx, v = s'.v ∧ s'.xs.map Ax.aa = s.xs.map Ax.aa ∧ SaW M' s') := by
  have h := sown_os M L s hs
  refine ⟨h.1, fun w hw => (h.2 w hw).mono fun v w' ⟨M', L', hp, hM, ys, N, hyl, hya, hyw, hO, hL⟩ => ?_⟩
  subst hL
  obtain ⟨M2, a', c', h1, h2, h3, h4⟩ := hp.freezeOS hO (by simpa using hyl) (ax_all' ys)
  exact ⟨M2, L, h2, Mem.le_trans hM h1, rfl, ⟨a', s.len, c', ys⟩, h3, hya, ⟨h4, hs.lt, fun y hy => (hyw y hy).le h1⟩⟩
/-- what is appended to acts of our own, and given up -/
theorem st_appFrz {P : Program} {T : TT} {ro : Option Nat} {σ : Env} {δ : Den} {M : Mem} {L L0 N : HL} {d : Option Nat} {ty : TypeId} {pos : String} {aft : Array Edge} {g : Option (Nat × Bool)} {cur : Path} {x y : Operand} {t e sz by_ : Nat} {z : Value} {α : Type} {f : α → List Value} {xs ys : List α} {a : Option Addr} {v0 : Value} {n m c : Nat}
    (hT : TOk P T) (hx : ev σ δ cur x = some v0) (hy : ev σ δ cur y = some (.slice a m c)) (ht : und T t = some (.slice e)) (hi : sizeT T e = some sz) (hz : zeroT T e = some z) (hzs : (cellsL z).length = sz) (hb : bytesT T e = some by_) (hby : Nat.ble 1 by_ = true)
    (hp : L.Perm (N ++ L0)) (hO : OS e sz v0 n (xs.map f).flatten N) (hxl : xs.length = n) (hs : SlM M sz a m (ys.map f)) (hf : ∀ r, ∀ u ∈ f r, u.oneCell' = true) (hfl : ∀ l : List α, ∀ q ∈ l.map f, q.length = sz) (hroom : (2 * (n + m) + 192) * by_ ≤ 281474976710656) (h63 : n + m < 9223372036854775808) :
    St P ro ⟨d, .call ⟨.builtin .append, #[x, y], #[t, t]⟩, ty, pos, aft, g⟩ σ δ cur M L (fun v M' L' => M.le M' ∧ L' = L0 ∧ ∃ a' c', v = .slice a' (n + m) c' ∧ SlM M' sz a' (n + m) ((xs ++ ys).map f)) := by
  refine St.frz (st_appendG (n := n) (m := m) hT hx hy ht hi hz hzs hb hby hp hO (SrcG.ofSlM hs) (rFlatOne hf _) hroom h63) ?_
  rintro v M' L' w hw ⟨N', rfl, rfl, hO'⟩
  have e : (xs.map f).flatten ++ (ys.map f).flatten = ((xs ++ ys).map f).flatten := by simp
  rw [e] at hO'
  have hl : ((xs ++ ys).map f).length = n + m := by have := hs.1; simp at this ⊢; omega
  obtain ⟨M2, a', c', h1, h2, h3, h4⟩ := hw.freezeOS hO' hl (hfl _)
  exact ⟨M2, _, h2, h1, rfl, a', c', h3, h4⟩
end Go.Proofs.Ytbpgiodfccijmaa
namespace Go.Proofs.Ytbpgiodfccijmaa
open Go.Chi

/-! ### the plain law of chapter 32 -/
theorem chkA_02 (x : Ax) : chkA x = 0 ∨ chkA x = 2 := by unfold chkA; split <;> simp
def IffA (l : List Ax) : Prop := ∀ x ∈ l, chkA x = 0 ↔ AcP x.aa
theorem SaOk.iffA {M : Mem} {s : SAx} (h : SaOk M s) : IffA s.xs := fun x hx => (h.each x hx).iff
theorem IffA.tail {x : Ax} {l : List Ax} (h : IffA (x :: l)) : IffA l := fun y hy => h y (List.mem_cons_of_mem _ hy)
theorem chkL_same : ∀ {xs ys : List Ax}, xs.map Ax.aa = ys.map Ax.aa → IffA xs → IffA ys → chkL xs = chkL ys
  | [], [], _, _, _ => rfl
  | [], _ :: _, h, _, _ => by cases h
  | _ :: _, [], h, _, _ => by cases h
  | x :: xs, y :: ys, h, hx, hy => by
    rw [List.map_cons, List.map_cons] at h
    injection h with h1 h2
    have e1 := hx x List.mem_cons_self
    have e2 := hy y List.mem_cons_self
    rw [h1] at e1
    have ih := chkL_same h2 hx.tail hy.tail
    rw [chkL, chkL]
    rcases chkA_02 x with q | q <;> rcases chkA_02 y with q' | q'
    · rw [if_pos q, if_pos q', ih]
    · have := e2.2 (e1.1 q); omega
    · have := e1.2 (e2.1 q'); omega
    · rw [if_neg (by omega), if_neg (by omega), q, q']
theorem encR_same : ∀ {xs ys : List Ax} (s : ByteArray), xs.map Ax.aa = ys.map Ax.aa → encR xs s = encR ys s
  | [], [], _, _ => rfl
  | [], _ :: _, _, h => by cases h
  | _ :: _, [], _, h => by cases h
  | x :: xs, y :: ys, s, h => by
    rw [List.map_cons, List.map_cons] at h
    injection h with h1 h2
    rw [encR, encR, h1, encR_same _ h2]
theorem encA_same {xs ys : List Ax} (h : xs.map Ax.aa = ys.map Ax.aa) (hx : IffA xs) (hy : IffA ys) : encA xs = encA ys := by
  unfold encA
  rw [chkL_same h hx hy, encR_same _ h]
theorem chkL_02 : ∀ l : List Ax, (chkL l = 0 ∧ ∀ x ∈ l, chkA x = 0) ∨ (chkL l = 2 ∧ ∃ x ∈ l, chkA x ≠ 0)
  | [] => .inl ⟨rfl, fun x hx => by cases hx⟩
  | x :: l => by
    rw [chkL]
    rcases chkA_02 x with q | q
    · rw [if_pos q]
      rcases chkL_02 l with ⟨h1, h2⟩ | ⟨h1, y, hy, h2⟩
      · exact .inl ⟨h1, fun y hy => by
          rcases List.mem_cons.1 hy with rfl | hy
          · exact q
          · exact h2 y hy⟩
      · exact .inr ⟨h1, y, List.mem_cons_of_mem _ hy, h2⟩
    · rw [if_neg (by omega)]
      exact .inr ⟨q, x, List.mem_cons_self, by omega⟩
theorem encR_eq : ∀ (l : List Ax) (s : ByteArray), s.size ≤ 65536 → encR l s = if (s ++ encB (l.map Ax.aa)).size ≤ 65536 then (s ++ encB (l.map Ax.aa), 0) else (⟨#[]⟩, 5)
  | [], s, hs => by
    rw [encR, List.map_nil, show encB [] = bz from rfl, app_bz', if_pos hs]
  | x :: l, s, hs => by
    rw [encR, List.map_cons, encB, ← app_assoc]
    by_cases h : 65536 < (s ++ actB x.aa).size
    · rw [if_pos h, if_neg]
      rw [app_size]; omega
    · rw [if_neg h, encR_eq l _ (by omega)]
/-- what script.Encode answers, in plain words -/
theorem encA_law {l : List Ax} (h : IffA l) : ((∃ a ∈ l.map Ax.aa, ¬ AcP a) ∧ encA l = (⟨#[]⟩, 2)) ∨ ((∀ a ∈ l.map Ax.aa, AcP a) ∧ (((encB (l.map Ax.aa)).size ≤ 65536 ∧ encA l = (encB (l.map Ax.aa), 0)) ∨ (65536 < (encB (l.map Ax.aa)).size ∧ encA l = (⟨#[]⟩, 5)))) := by
  rcases chkL_02 l with ⟨h1, h2⟩ | ⟨h1, x, hx, h2⟩
  · refine .inr ⟨fun a ha => ?_, ?_⟩
    · obtain ⟨x, hx, rfl⟩ := List.mem_map.1 ha
      exact (h x hx).1 (h2 x hx)
    · have e : encA l = encR l bz := by rw [encA, if_pos h1]
      rw [e, encR_eq l bz (by decide), bz_app']
      by_cases hq : (encB (l.map Ax.aa)).size ≤ 65536
      · exact .inl ⟨hq, by rw [if_pos hq]⟩
      · exact .inr ⟨by omega, by rw [if_neg hq]⟩
  · refine .inl ⟨⟨x.aa, List.mem_map_of_mem hx, fun hp => h2 ((h x hx).2 hp)⟩, ?_⟩
    rw [encA, if_neg (by omega), h1]
end Go.Proofs.Ytbpgiodfccijmaa
namespace Go.Proofs.Ytbpgiodfccijmaa
open Go.Chi

/-! ### the chapter's examples -/
def al1 : Ax := ⟨3, 2, 0, 0, ⟨none, 0, 0, []⟩, ⟨0, 0, 0⟩, false, ⟨none, 0, 0, []⟩⟩
def al2 : Ax := ⟨4, 0, 0, 300, ⟨none, 0, 0, []⟩, ⟨0, 0, 0⟩, false, ⟨none, 0, 0, []⟩⟩
def al3 : Ax := ⟨7, 1, 0, 0, ⟨none, 0, 0, []⟩, ⟨0, 0, 0⟩, false, ⟨none, 0, 0, []⟩⟩
def al4 : Ax := ⟨3, 0, 0, 1, ⟨none, 0, 0, []⟩, ⟨0, 0, 0⟩, false, ⟨none, 0, 0, []⟩⟩
theorem al_ok (M : Mem) (k o n : Int) : AxW M ⟨k, o, 0, n, ⟨none, 0, 0, []⟩, ⟨0, 0, 0⟩, false, ⟨none, 0, 0, []⟩⟩ := ⟨⟨SlM.nil _ _ _, by show 0 < 1000000; decide⟩, ⟨SlZ.nil _ _ _, by show 0 < 1000000; decide, (fun x hx => by cases hx)⟩, (fun m hm => by cases hm)⟩
theorem numB_small {v : Nat} (h : v < 248) : numB v = bytesI [IntKind.u8.wrap (v : Int)] := by rw [numB, if_pos h]
theorem dig300 : digN 300 = ⟨#[1, 44]⟩ := by
  rw [digN, if_neg (by decide), show 300 / 256 = 1 from rfl, digN, if_neg (by decide), show 1 / 256 = 0 from rfl, digN_zero]
  rfl
def alS : ByteArray := ⟨#[3, 2, 4, 249, 1, 44, 7, 1, 0]⟩
theorem al_B : encB [al1.aa, al2.aa, al3.aa] = alS := by
  have e : encB [al1.aa, al2.aa, al3.aa] = (bytesI [3] ++ numB 2) ++ ((bytesI [4] ++ numB 300) ++ ((bytesI [7] ++ (numB 1 ++ numB 0)) ++ bz)) := rfl
  rw [e, numB_small (v := 2) (by decide), numB_small (v := 1) (by decide), numB_small (v := 0) (by decide), numB, if_neg (by decide), dig300]
  rfl
theorem al_chk : chkA al1 = 0 ∧ chkA al2 = 0 ∧ chkA al3 = 0 ∧ chkA al4 = 2 := ⟨by kernel_rfl, by kernel_rfl, by kernel_rfl, by kernel_rfl⟩
theorem al_iff : IffA [al1, al2, al3] := by
  intro x hx
  simp only [List.mem_cons, List.not_mem_nil, or_false] at hx
  rcases hx with rfl | rfl | rfl
  · exact chkA_iff rfl rfl (fun y hy => by cases hy)
  · exact chkA_iff rfl rfl (fun y hy => by cases hy)
  · exact chkA_iff rfl rfl (fun y hy => by cases hy)
theorem al_enc : encA [al1, al2, al3] = (alS, 0) := by
  rcases encA_law al_iff with ⟨⟨a, ha, hn⟩, _⟩ | ⟨_, ⟨_, h2⟩ | ⟨h1, _⟩⟩
  · exfalso
    obtain ⟨x, hx, rfl⟩ := List.mem_map.1 ha
    refine hn ((al_iff x hx).1 ?_)
    simp only [List.mem_cons, List.not_mem_nil, or_false] at hx
    rcases hx with rfl | rfl | rfl
    · exact al_chk.1
    · exact al_chk.2.1
    · exact al_chk.2.2.1
  · rw [h2]
    exact congrArg (fun z => (z, (0 : Int))) al_B
  · have e : encB ([al1, al2, al3].map Ax.aa) = alS := al_B
    rw [e] at h1
    exact absurd h1 (by decide)
theorem al_fr : Fr alS ([al1, al2, al3].map Ax.aa) bz := by
  have h : ∀ a ∈ [al1, al2, al3].map Ax.aa, AcP a ∧ ShortA a := by
    intro a ha
    obtain ⟨x, hx, rfl⟩ := List.mem_map.1 ha
    refine ⟨(al_iff x hx).1 ?_, ?_⟩
    · simp only [List.mem_cons, List.not_mem_nil, or_false] at hx
      rcases hx with rfl | rfl | rfl
      · exact al_chk.1
      · exact al_chk.2.1
      · exact al_chk.2.2.1
    · simp only [List.mem_cons, List.not_mem_nil, or_false] at hx
      rcases hx with rfl | rfl | rfl <;> exact fun m hm => by cases hm
  have := fr_of h one_bz
  rwa [app_bz', show encB ([al1, al2, al3].map Ax.aa) = alS from al_B] at this
set_option maxRecDepth 10000 in
set_option maxHeartbeats 8000000 in
theorem salive_ok (M : Mem) (L : HL) : Tr Try.prog 8 [] M L (fun v M' L' => v = .bool true ∧ M.le M' ∧ L' = L) := by
  have hsz : alS.size = 9 := rfl
  refine Tr.intro 38 Try.func8 rfl rfl Try.call8 rfl ?_
  intro C hC hro
  repeat (first | with_reducible (first | refine cS ?_ | refine cR ?_ | refine cN ?_ | refine cK ?_ | refine cB ?_ | refine cI ?_) | refine cE rfl ?_ | refine rq (qt_pev tok rfl) ?_ | refine rg rfl rfl (qt_pev tok rfl) ?_ | refine rq (ql tok rfl) ?_ | refine rg rfl rfl (ql tok rfl) ?_ | (refine runL_op0 (sst tok rfl rfl rfl rfl rfl) ?_; rintro _ _ _ ⟨rfl, rfl, rfl⟩) | ((first | refine ro (st_box rfl) ?_ | refine ro (st_alloc tok rfl) ?_ | refine ro (st_buildSlice tok rfl rfl rfl rfl rfl rfl rfl) ?_); rintro _ _ _ ⟨_, rfl, rfl, rfl⟩))
  rename_i b3
  refine runL_frz 0 rfl ?_
  intro M1 hM1 hb
  have hsa : SaW M1 ⟨some ⟨b3, 0, none⟩, 3, 3, [al1, al2, al3]⟩ := ⟨SlM.ofBlk (ls := [al1, al2, al3].map axC) hb rfl (ax_all _), by show (3 : Nat) < 1000000; decide, fun x hx => by
    simp only [List.mem_cons, List.not_mem_nil, or_false] at hx
    rcases hx with rfl | rfl | rfl
    · exact al_ok _ 3 2 0
    · exact al_ok _ 4 0 300
    · exact al_ok _ 7 1 0⟩
  have henc := fun L => sencode_ok M1 L ⟨some ⟨b3, 0, none⟩, 3, 3, [al1, al2, al3]⟩ hsa
  simp only [al_enc] at henc
  refine runL_op (st_callF rfl (fun _ => henc _)) rfl rfl rfl ?_
  rintro _ M2 _ ⟨rfl, hM2, rfl⟩
  repeat (first | with_reducible (first | refine cS ?_ | refine cR ?_ | refine cN ?_ | refine cK ?_ | refine cB ?_ | refine cI ?_) | refine cE rfl ?_ | refine rq (qt_pev tok rfl) ?_ | refine rg rfl rfl (qt_pev tok rfl) ?_ | refine rq (ql tok rfl) ?_ | refine rg rfl rfl (ql tok rfl) ?_ | (refine runL_op0 (sst tok rfl rfl rfl rfl rfl) ?_; rintro _ _ _ ⟨rfl, rfl, rfl⟩) | ((first | refine ro (st_box rfl) ?_ | refine ro (st_alloc tok rfl) ?_ | refine ro (st_buildSlice tok rfl rfl rfl rfl rfl rfl rfl) ?_); rintro _ _ _ ⟨_, rfl, rfl, rfl⟩) | refine runL_op (st_callF rfl (fun _ => sdecode_ok M2 _ alS (by rw [hsz]; decide))) rfl rfl rfl ?_; rintro _ M3 _ ⟨hM3, rfl, sx, e, rfl, hsx, hd⟩)
  have hde : e = 0 ∧ sx.len = 3 := by
    rcases hd with ⟨_, _, h⟩ | ⟨_, l, y, hf, h⟩
    · rw [hsz] at h; omega
    · obtain ⟨h1, rfl⟩ := hf.uniq al_fr
      rcases h with ⟨_, _, h⟩ | ⟨h2, _, h3⟩
      · exact absurd rfl h
      · refine ⟨h2, ?_⟩
        rw [← hsx.ok.len]
        have := congrArg List.length (h3.trans h1)
        simpa using this
  obtain ⟨rfl, hlen⟩ := hde
  repeat (first | with_reducible (first | refine cS ?_ | refine cR ?_ | refine cN ?_ | refine cK ?_ | refine cB ?_ | refine cI ?_) | refine cE rfl ?_ | refine rq (qt_pev tok rfl) ?_ | refine rg rfl rfl (qt_pev tok rfl) ?_ | refine rq (ql tok rfl) ?_ | refine rg rfl rfl (ql tok rfl) ?_ | (refine runL_op0 (sst tok rfl rfl rfl rfl rfl) ?_; rintro _ _ _ ⟨rfl, rfl, rfl⟩) | ((first | refine ro (st_box rfl) ?_ | refine ro (st_alloc tok rfl) ?_ | refine ro (st_buildSlice tok rfl rfl rfl rfl rfl rfl rfl) ?_); rintro _ _ _ ⟨_, rfl, rfl, rfl⟩) | refine runL_g rfl rfl (qt_callF rfl (fun _ => scheck_ok _ _ al4 (al_ok _ 3 0 1).ok)) rfl rfl rfl rfl rfl ?_)
  refine run_ret hC (rs := [.tmp 0]) rfl (resT rfl resN) (fun _ h => h) ⟨?_, Mem.le_trans hM1 (Mem.le_trans hM2 hM3), rfl⟩
  show Value.bool (((((alS.toList == (⟨#[3, 2, 4, 249, 1, 44, 7, 1, 0]⟩ : ByteArray).toList) && ((0 : Int) == 0)) && ((sx.len : Int) == 3)) && ((0 : Int) == 0)) && (chkA al4 == 2)) = _
  rw [hlen, al_chk.2.2.2, bytes_beq]
  rfl
theorem shortL {M : Mem} {s : SAx} (h : SaW M s) (hp : ∀ a ∈ s.xs.map Ax.aa, AcP a) : ∀ a ∈ s.xs.map Ax.aa, AcP a ∧ ShortA a := fun a ha => by
  obtain ⟨x, hx, rfl⟩ := List.mem_map.1 ha
  exact ⟨hp _ ha, (h.each x hx).short (hp _ ha)⟩
end Go.Proofs.Ytbpgiodfccijmaa
namespace Go.Proofs.Ytbpgiodfccijmaa
open Go.Chi

/-! ### ScriptBack: the walk -/
/-- what was encoded is decoded -/
theorem dec_back {M : Mem} {s : SAx} (h : SaW M s) (he : (encA s.xs).2 = 0) {sx : SAx} {e : Int} (hd : ((e = 5 ∧ sx.xs = [] ∧ 65536 < (encA s.xs).1.size) ∨ ((encA s.xs).1.size ≤ 65536 ∧ ∃ l y, Fr (encA s.xs).1 l y ∧ ((e = 7 ∧ sx.xs = [] ∧ y.size ≠ 0) ∨ (e = 0 ∧ y.size = 0 ∧ sx.xs.map Ax.aa = l))))) : e = 0 ∧ sx.xs.map Ax.aa = s.xs.map Ax.aa := by
  rcases encA_law h.ok.iffA with ⟨_, q⟩ | ⟨hp, ⟨hz, q⟩ | ⟨_, q⟩⟩
  · rw [q] at he; cases he
  · rw [q] at hd
    have hf := fr_of (shortL h hp) one_bz
    rw [app_bz'] at hf
    rcases hd with ⟨_, _, r⟩ | ⟨_, l, y, hf', r⟩
    · simp only at r; omega
    · obtain ⟨rfl, rfl⟩ := hf'.uniq hf
      rcases r with ⟨_, _, r⟩ | ⟨r1, _, r2⟩
      · exact absurd rfl r
      · exact ⟨r1, r2⟩
  · rw [q] at he; cases he
/-- what was decoded is encoded as it was -/
theorem enc_back {M : Mem} {t : ByteArray} {sx : SAx} (h : SaW M sx) (ht : t.size ≤ 65536) {y : ByteArray} (hf : Fr t (sx.xs.map Ax.aa) y) (hy : y.size = 0) : encA sx.xs = (t, 0) := by
  obtain ⟨h1, h2, _⟩ := hf.bytes
  have hb : encB (sx.xs.map Ax.aa) = t := by
    have e : y = bz := by
      obtain ⟨⟨l⟩⟩ := y
      have : l = [] := List.length_eq_zero_iff.1 hy
      rw [this]; rfl
    rw [e, app_bz'] at h1
    exact h1.symm
  rcases encA_law h.ok.iffA with ⟨⟨a, ha, hn⟩, _⟩ | ⟨_, ⟨_, q⟩ | ⟨hz, _⟩⟩
  · exact absurd (h2 a ha).1 hn
  · rw [q, hb]
  · rw [hb] at hz; omega
theorem join_law {xs ys zs : List Ax} (hx : IffA xs) (hy : IffA ys) (hz : IffA zs) (he : zs.map Ax.aa = xs.map Ax.aa ++ ys.map Ax.aa) :
    ((encA xs).2 = 0 ∧ (encA ys).2 = 0 → ((encA zs).2 = 0 ∧ (encA zs).1 = (encA xs).1 ++ (encA ys).1) ∨ ((encA zs).2 = 5 ∧ 65536 < (encA xs).1.size + (encA ys).1.size)) ∧ ((encA xs).2 = 2 ∨ (encA ys).2 = 2 → (encA zs).2 = 2) := by
  have lx := encA_law hx
  have ly := encA_law hy
  have lz := encA_law hz
  rw [he] at lz
  have hb : encB (xs.map Ax.aa ++ ys.map Ax.aa) = encB (xs.map Ax.aa) ++ encB (ys.map Ax.aa) := encB_app _ _
  constructor
  · rintro ⟨h1, h2⟩
    rcases lx with ⟨_, q⟩ | ⟨px, ⟨_, q⟩ | ⟨_, q⟩⟩
    · rw [q] at h1; cases h1
    · rcases ly with ⟨_, q'⟩ | ⟨py, ⟨_, q'⟩ | ⟨_, q'⟩⟩
      · rw [q'] at h2; cases h2
      · rcases lz with ⟨⟨a, ha, hn⟩, _⟩ | ⟨_, ⟨_, r⟩ | ⟨hz, r⟩⟩
        · rcases List.mem_append.1 ha with ha | ha
          · exact absurd (px a ha) hn
          · exact absurd (py a ha) hn
        · left
          rw [r, q, q']
          exact ⟨rfl, hb⟩
        · right
          rw [r, q, q']
          rw [hb, app_size] at hz
          exact ⟨rfl, hz⟩
      · rw [q'] at h2; cases h2
    · rw [q] at h1; cases h1
  · intro h
    have hbad : ∃ a ∈ xs.map Ax.aa ++ ys.map Ax.aa, ¬ AcP a := by
      rcases h with h | h
      · rcases lx with ⟨⟨a, ha, hn⟩, _⟩ | ⟨_, ⟨_, q⟩ | ⟨_, q⟩⟩
        · exact ⟨a, List.mem_append_left _ ha, hn⟩
        · rw [q] at h; cases h
        · rw [q] at h; cases h
      · rcases ly with ⟨⟨a, ha, hn⟩, _⟩ | ⟨_, ⟨_, q⟩ | ⟨_, q⟩⟩
        · exact ⟨a, List.mem_append_right _ ha, hn⟩
        · rw [q] at h; cases h
        · rw [q] at h; cases h
    rcases lz with ⟨_, r⟩ | ⟨hp, _⟩
    · rw [r]
    · obtain ⟨a, ha, hn⟩ := hbad
      exact absurd (hp a ha) hn
theorem enc_sz {l : List Ax} (h : IffA l) : (encA l).1.size ≤ 65536 := by
  rcases encA_law h with ⟨_, q⟩ | ⟨_, ⟨hz, q⟩ | ⟨_, q⟩⟩
  · rw [q]; exact Nat.zero_le _
  · rw [q]; exact hz
  · rw [q]; exact Nat.zero_le _
set_option maxRecDepth 10000 in
set_option maxHeartbeats 32000000 in
theorem scriptBack_ok (M : Mem) (L : HL) (s0 s1 : SAx) (hi0 : SaIn M s0) (hi1 : SaIn M s1) (t : ByteArray) : Tr Try.prog 5 [s0.v, s1.v, .string t] M L (fun v M' L' => v = .bool true ∧ M.le M' ∧ L = L') := by
  refine Tr.intro 142 Try.func5 rfl rfl Try.call5 rfl ?_
  intro C hC hro
  repeat (first | with_reducible (first | refine cS ?_ | refine cR ?_ | refine cN ?_ | refine cK ?_ | refine cB ?_ | refine cI ?_) | refine cE rfl ?_ | refine rq (qt_pev tok rfl) ?_ | refine rg rfl rfl (qt_pev tok rfl) ?_ | refine rq (ql tok rfl) ?_ | refine rg rfl rfl (ql tok rfl) ?_ | (refine runL_op0 (sst tok rfl rfl rfl rfl rfl) ?_; rintro _ _ _ ⟨rfl, rfl, rfl⟩) | ((first | refine ro (st_box rfl) ?_ | refine ro (st_alloc tok rfl) ?_ | refine ro (st_buildSlice tok rfl rfl rfl rfl rfl rfl rfl) ?_); rintro _ _ _ ⟨_, rfl, rfl, rfl⟩) | refine runL_op (st_callF rfl (fun _ => slong_ok _ _ s0 hi0)) rfl rfl rfl ?_; rintro _ _ _ ⟨rfl, hLa, lg0, rfl, hlg0⟩)
  subst hLa
  have hal : ∀ (L : HL), Tr Try.prog 8 [] M L (fun v M' L' => v = .bool true ∧ M.le M' ∧ L' = L) := fun L => salive_ok M L
  cases lg0
  rotate_left
  · repeat (first | with_reducible (first | refine cS ?_ | refine cR ?_ | refine cN ?_ | refine cK ?_ | refine cB ?_ | refine cI ?_) | refine cE rfl ?_ | refine runL_q (qt_pev tok rfl) rfl rfl rfl ?_ | refine runL_gK rfl rfl (qt_pev tok rfl) rfl rfl rfl ?_ | refine runL_gF rfl rfl rfl rfl rfl ?_ | refine runL_g rfl rfl (qt_pev tok rfl) rfl rfl rfl rfl rfl ?_ | refine runL_q (ql tok rfl) rfl rfl rfl ?_ | refine runL_gK rfl rfl (ql tok rfl) rfl rfl rfl ?_ | refine runL_gF rfl rfl rfl rfl rfl ?_ | refine runL_g rfl rfl (ql tok rfl) rfl rfl rfl rfl rfl ?_ | (refine runL_op0 (sst tok rfl rfl rfl rfl rfl) ?_; rintro _ _ _ ⟨rfl, rfl, rfl⟩) | ((first | refine ro (st_box rfl) ?_ | refine ro (st_alloc tok rfl) ?_ | refine ro (st_buildSlice tok rfl rfl rfl rfl rfl rfl rfl) ?_); rintro _ _ _ ⟨_, rfl, rfl, rfl⟩))
    refine run_cond rfl (fun _ => ?_) (fun h => by cases h)
    repeat (first | with_reducible (first | refine cS ?_ | refine cR ?_ | refine cN ?_ | refine cK ?_ | refine cB ?_ | refine cI ?_) | refine cE rfl ?_ | refine rq (qt_pev tok rfl) ?_ | refine rg rfl rfl (qt_pev tok rfl) ?_ | refine rq (ql tok rfl) ?_ | refine rg rfl rfl (ql tok rfl) ?_ | (refine runL_op0 (sst tok rfl rfl rfl rfl rfl) ?_; rintro _ _ _ ⟨rfl, rfl, rfl⟩) | ((first | refine ro (st_box rfl) ?_ | refine ro (st_alloc tok rfl) ?_ | refine ro (st_buildSlice tok rfl rfl rfl rfl rfl rfl rfl) ?_); rintro _ _ _ ⟨_, rfl, rfl, rfl⟩) | refine runL_op (st_callF rfl (fun _ => hal _)) rfl rfl rfl ?_; rintro _ M1 L1 ⟨rfl, hM1, hL1⟩)
    exact run_ret hC (rs := [.tmp 6]) rfl (resT rfl resN) (fun _ h => h) ⟨rfl, hM1, hL1.symm⟩
  have lim0 := hlg0 rfl
  have ok0 := hi0.ok lim0
  repeat (first | with_reducible (first | refine cS ?_ | refine cR ?_ | refine cN ?_ | refine cK ?_ | refine cB ?_ | refine cI ?_) | refine cE rfl ?_ | refine runL_q (qt_pev tok rfl) rfl rfl rfl ?_ | refine runL_gK rfl rfl (qt_pev tok rfl) rfl rfl rfl ?_ | refine runL_gF rfl rfl rfl rfl rfl ?_ | refine runL_g rfl rfl (qt_pev tok rfl) rfl rfl rfl rfl rfl ?_ | refine runL_q (ql tok rfl) rfl rfl rfl ?_ | refine runL_gK rfl rfl (ql tok rfl) rfl rfl rfl ?_ | refine runL_gF rfl rfl rfl rfl rfl ?_ | refine runL_g rfl rfl (ql tok rfl) rfl rfl rfl rfl rfl ?_ | (refine runL_op0 (sst tok rfl rfl rfl rfl rfl) ?_; rintro _ _ _ ⟨rfl, rfl, rfl⟩) | ((first | refine ro (st_box rfl) ?_ | refine ro (st_alloc tok rfl) ?_ | refine ro (st_buildSlice tok rfl rfl rfl rfl rfl rfl rfl) ?_); rintro _ _ _ ⟨_, rfl, rfl, rfl⟩) | refine runL_gT rfl rfl (st_callF rfl (fun _ => slong_ok _ _ s1 hi1)) rfl rfl rfl ?_; rintro _ _ _ ⟨rfl, hLa, lg1, rfl, hlg1⟩)
  refine run_cond rfl (fun h => ?_) (fun h => ?_)
  · repeat (first | with_reducible (first | refine cS ?_ | refine cR ?_ | refine cN ?_ | refine cK ?_ | refine cB ?_ | refine cI ?_) | refine cE rfl ?_ | refine rq (qt_pev tok rfl) ?_ | refine rg rfl rfl (qt_pev tok rfl) ?_ | refine rq (ql tok rfl) ?_ | refine rg rfl rfl (ql tok rfl) ?_ | (refine runL_op0 (sst tok rfl rfl rfl rfl rfl) ?_; rintro _ _ _ ⟨rfl, rfl, rfl⟩) | ((first | refine ro (st_box rfl) ?_ | refine ro (st_alloc tok rfl) ?_ | refine ro (st_buildSlice tok rfl rfl rfl rfl rfl rfl rfl) ?_); rintro _ _ _ ⟨_, rfl, rfl, rfl⟩) | refine runL_op (st_callF rfl (fun _ => hal _)) rfl rfl rfl ?_; rintro _ M1 L1 ⟨rfl, hM1, hL1⟩)
    exact run_ret hC (rs := [.tmp 6]) rfl (resT rfl resN) (fun _ h => h) ⟨rfl, hM1, (hLa.trans hL1.symm)⟩
  have h' : ((false || lg1) || decide ((t.size : Int) > 16384)) = false := h
  simp only [Bool.false_or, Bool.or_eq_false_iff, decide_eq_false_iff_not] at h'
  obtain ⟨hl1, ht1⟩ := h'
  have ht : t.size ≤ 16384 := by omega
  have lim1 := hlg1 hl1
  have ok1 := hi1.ok lim1
  have n0 := lim0.1
  have n1 := lim1.1
  clear h hlg0 hlg1 hal
  subst hLa
  refine run_skip ?_
  repeat (first | with_reducible (first | refine cS ?_ | refine cR ?_ | refine cN ?_ | refine cK ?_ | refine cB ?_ | refine cI ?_) | refine cE rfl ?_ | refine rq (qt_pev tok rfl) ?_ | refine rg rfl rfl (qt_pev tok rfl) ?_ | refine rq (ql tok rfl) ?_ | refine rg rfl rfl (ql tok rfl) ?_ | (refine runL_op0 (sst tok rfl rfl rfl rfl rfl) ?_; rintro _ _ _ ⟨rfl, rfl, rfl⟩) | ((first | refine ro (st_box rfl) ?_ | refine ro (st_alloc tok rfl) ?_ | refine ro (st_buildSlice tok rfl rfl rfl rfl rfl rfl rfl) ?_); rintro _ _ _ ⟨_, rfl, rfl, rfl⟩) | refine runL_op (st_callF rfl (fun _ => sown_ok _ _ s0 ok0)) rfl rfl rfl ?_; rintro _ M1 _ ⟨hM1, rfl, a0, rfl, ha0, hw0⟩ | refine runL_op (st_callF rfl (fun _ => sencode_ok _ _ a0 hw0)) rfl rfl rfl ?_; rintro _ M2 _ ⟨rfl, hM2, rfl⟩)
  have ok1' := ok1.le (Mem.le_trans hM1 hM2)
  repeat (first | with_reducible (first | refine cS ?_ | refine cR ?_ | refine cN ?_ | refine cK ?_ | refine cB ?_ | refine cI ?_) | refine cE rfl ?_ | refine rq (qt_pev tok rfl) ?_ | refine rg rfl rfl (qt_pev tok rfl) ?_ | refine rq (ql tok rfl) ?_ | refine rg rfl rfl (ql tok rfl) ?_ | (refine runL_op0 (sst tok rfl rfl rfl rfl rfl) ?_; rintro _ _ _ ⟨rfl, rfl, rfl⟩) | ((first | refine ro (st_box rfl) ?_ | refine ro (st_alloc tok rfl) ?_ | refine ro (st_buildSlice tok rfl rfl rfl rfl rfl rfl rfl) ?_); rintro _ _ _ ⟨_, rfl, rfl, rfl⟩) | refine runL_op (st_callF rfl (fun _ => sown_ok _ _ s1 ok1')) rfl rfl rfl ?_; rintro _ M3 _ ⟨hM3, rfl, a1, rfl, ha1, hw1⟩ | refine runL_op (st_callF rfl (fun _ => sencode_ok _ _ a1 hw1)) rfl rfl rfl ?_; rintro _ M4 _ ⟨rfl, hM4, rfl⟩)
  have hM04 := Mem.le_trans (Mem.le_trans hM1 hM2) (Mem.le_trans hM3 hM4)
  have ok04 := ok0.le hM04
  have ok14 := ok1.le hM04
  repeat (first | with_reducible (first | refine cS ?_ | refine cR ?_ | refine cN ?_ | refine cK ?_ | refine cB ?_ | refine cI ?_) | refine cE rfl ?_ | refine rq (qt_pev tok rfl) ?_ | refine rg rfl rfl (qt_pev tok rfl) ?_ | refine rq (ql tok rfl) ?_ | refine rg rfl rfl (ql tok rfl) ?_ | (refine runL_op0 (sst tok rfl rfl rfl rfl rfl) ?_; rintro _ _ _ ⟨rfl, rfl, rfl⟩) | ((first | refine ro (st_box rfl) ?_ | refine ro (st_alloc tok rfl) ?_ | refine ro (st_buildSlice tok rfl rfl rfl rfl rfl rfl rfl) ?_); rintro _ _ _ ⟨_, rfl, rfl, rfl⟩) | refine runL_op (st_callF rfl (fun _ => sown_os _ _ s0 ok04)) rfl rfl rfl ?_; rintro v2 M5 _ ⟨hM5, y0, N0, hy0, hya0, hyw0, hO0, rfl⟩)
  have ok15 := ok14.le hM5
  repeat (first | with_reducible (first | refine cS ?_ | refine cR ?_ | refine cN ?_ | refine cK ?_ | refine cB ?_ | refine cI ?_) | refine cE rfl ?_ | refine rq (qt_pev tok rfl) ?_ | refine rg rfl rfl (qt_pev tok rfl) ?_ | refine rq (ql tok rfl) ?_ | refine rg rfl rfl (ql tok rfl) ?_ | (refine runL_op0 (sst tok rfl rfl rfl rfl rfl) ?_; rintro _ _ _ ⟨rfl, rfl, rfl⟩) | ((first | refine ro (st_box rfl) ?_ | refine ro (st_alloc tok rfl) ?_ | refine ro (st_buildSlice tok rfl rfl rfl rfl rfl rfl rfl) ?_); rintro _ _ _ ⟨_, rfl, rfl, rfl⟩) | refine runL_op (st_callF rfl (fun _ => sown_ok _ _ s1 ok15)) rfl rfl rfl ?_; rintro _ M6 _ ⟨hM6, rfl, b1, rfl, hb1, hw1b⟩)
  have hlb := hw1b.ok.len
  have hlb2 : b1.len = s1.len := by
    have h1 := congrArg List.length hb1
    simp only [List.length_map] at h1
    have h2 := ok1.len
    omega
  refine runL_op (st_appFrz (n := s0.len) (m := b1.len) (xs := y0) (ys := b1.xs) (f := axC) tok rfl rfl rfl rfl rfl rfl rfl rfl (List.Perm.refl _) hO0 hy0 hw1b.sl axOne' ax_all' (by omega) (by omega)) rfl rfl rfl ?_
  rintro _ M7 _ ⟨hM7, rfl, a9, c9, rfl, hs9⟩
  have hw2 : SaW M7 ⟨a9, s0.len + b1.len, c9, y0 ++ b1.xs⟩ := ⟨hs9, by show s0.len + b1.len < 1000000; omega, fun x hx => by
    rcases List.mem_append.1 hx with hx | hx
    · exact (hyw0 x hx).le (Mem.le_trans hM6 hM7)
    · exact (hw1b.each x hx).le hM7⟩
  repeat (first | with_reducible (first | refine cS ?_ | refine cR ?_ | refine cN ?_ | refine cK ?_ | refine cB ?_ | refine cI ?_) | refine cE rfl ?_ | refine rq (qt_pev tok rfl) ?_ | refine rg rfl rfl (qt_pev tok rfl) ?_ | refine rq (ql tok rfl) ?_ | refine rg rfl rfl (ql tok rfl) ?_ | (refine runL_op0 (sst tok rfl rfl rfl rfl rfl) ?_; rintro _ _ _ ⟨rfl, rfl, rfl⟩) | ((first | refine ro (st_box rfl) ?_ | refine ro (st_alloc tok rfl) ?_ | refine ro (st_buildSlice tok rfl rfl rfl rfl rfl rfl rfl) ?_); rintro _ _ _ ⟨_, rfl, rfl, rfl⟩) | refine runL_op (st_callF rfl (fun _ => sencode_ok _ _ _ hw2)) rfl rfl rfl ?_; rintro _ M8 L8 ⟨rfl, hM8, rfl⟩)
  have hM48 := Mem.le_trans (Mem.le_trans hM5 hM6) (Mem.le_trans hM7 hM8)
  have hM08 := Mem.le_trans hM04 hM48
  have hje : (y0 ++ b1.xs).map Ax.aa = a0.xs.map Ax.aa ++ a1.xs.map Ax.aa := by rw [List.map_append, hya0, hb1, ha0, ha1]
  obtain ⟨hj1, hj2⟩ := join_law hw0.ok.iffA hw1.ok.iffA hw2.ok.iffA hje
  have z0 : (encA a0.xs).1.size ≤ 65536 := enc_sz hw0.ok.iffA
  have z1 : (encA a1.xs).1.size ≤ 65536 := enc_sz hw1.ok.iffA
  have back0 := fun (he : (encA a0.xs).2 = 0) (sx : SAx) (e : Int) => dec_back hw0 he (sx := sx) (e := e)
  generalize encA (y0 ++ b1.xs) = E2 at hj1 hj2 ⊢
  generalize encA a1.xs = E1 at hj1 hj2 z1 ⊢
  generalize encA a0.xs = E0 at hj1 hj2 z0 back0 ⊢
  have ok08 := ok0.le hM08
  refine run_cut (fun σ' M' L' => σ' = [(8, .int .i64 E0.2), (7, .string E0.1), (10, .int .i64 E1.2), (9, .string E1.1), (12, .int .i64 E2.2), (11, .string E2.1), (2, .string t)] ∧ M8.le M' ∧ L8 = L') ?_ ?_
  rotate_left
  · intro hnext
    refine run_cond rfl (fun h => ?_) (fun h => ?_)
    rotate_left
    · refine run_skip ?_
      exact run_sub' (hnext _ _ _ ⟨rfl, Mem.le_refl _, rfl⟩) ⟨rfl, rfl, rfl, rfl, rfl, rfl, rfl, trivial⟩
    have he : E0.2 = 0 := by simpa using h
    repeat (first | with_reducible (first | refine cS ?_ | refine cR ?_ | refine cN ?_ | refine cK ?_ | refine cB ?_ | refine cI ?_) | refine cE rfl ?_ | refine rq (qt_pev tok rfl) ?_ | refine rg rfl rfl (qt_pev tok rfl) ?_ | refine rq (ql tok rfl) ?_ | refine rg rfl rfl (ql tok rfl) ?_ | (refine runL_op0 (sst tok rfl rfl rfl rfl rfl) ?_; rintro _ _ _ ⟨rfl, rfl, rfl⟩) | ((first | refine ro (st_box rfl) ?_ | refine ro (st_alloc tok rfl) ?_ | refine ro (st_buildSlice tok rfl rfl rfl rfl rfl rfl rfl) ?_); rintro _ _ _ ⟨_, rfl, rfl, rfl⟩) | refine runL_op (st_callF rfl (fun _ => sdecode_ok _ _ E0.1 (by omega))) rfl rfl rfl ?_; rintro _ M9 L9 ⟨hM9, rfl, m, e, rfl, hm, hd⟩)
    obtain ⟨rfl, hma⟩ := back0 he _ _ hd
    have ok09 := ok08.le hM9
    repeat (first | with_reducible (first | refine cS ?_ | refine cR ?_ | refine cN ?_ | refine cK ?_ | refine cB ?_ | refine cI ?_) | refine cE rfl ?_ | refine runL_q (qt_pev tok rfl) rfl rfl rfl ?_ | refine runL_gK rfl rfl (qt_pev tok rfl) rfl rfl rfl ?_ | refine runL_gF rfl rfl rfl rfl rfl ?_ | refine runL_g rfl rfl (qt_pev tok rfl) rfl rfl rfl rfl rfl ?_ | refine runL_q (ql tok rfl) rfl rfl rfl ?_ | refine runL_gK rfl rfl (ql tok rfl) rfl rfl rfl ?_ | refine runL_gF rfl rfl rfl rfl rfl ?_ | refine runL_g rfl rfl (ql tok rfl) rfl rfl rfl rfl rfl ?_ | (refine runL_op0 (sst tok rfl rfl rfl rfl rfl) ?_; rintro _ _ _ ⟨rfl, rfl, rfl⟩) | ((first | refine ro (st_box rfl) ?_ | refine ro (st_alloc tok rfl) ?_ | refine ro (st_buildSlice tok rfl rfl rfl rfl rfl rfl rfl) ?_); rintro _ _ _ ⟨_, rfl, rfl, rfl⟩) | refine runL_gK rfl rfl (qt_callF rfl (fun _ => refSame_ok _ _ m s0 hm.ok ok09 true (by simp [hma, ha0]))) rfl rfl rfl ?_)
    refine run_cond rfl (fun h => by cases h) (fun _ => ?_)
    refine run_skip ?_
    exact run_sub' (hnext _ _ _ ⟨rfl, hM9, rfl⟩) ⟨rfl, rfl, rfl, rfl, rfl, rfl, rfl, trivial⟩
  rintro _ M9 _ ⟨rfl, hM9, rfl⟩
  have hcat : E0.1.size + E1.1.size < 4611686018427387904 := by omega
  repeat (first | with_reducible (first | refine cS ?_ | refine cR ?_ | refine cN ?_ | refine cK ?_ | refine cB ?_ | refine cI ?_) | refine cE rfl ?_ | refine rq (qt_pev tok rfl) ?_ | refine rg rfl rfl (qt_pev tok rfl) ?_ | refine rq (ql tok rfl) ?_ | refine rg rfl rfl (ql tok rfl) ?_ | (refine runL_op0 (sst tok rfl rfl rfl rfl rfl) ?_; rintro _ _ _ ⟨rfl, rfl, rfl⟩) | ((first | refine ro (st_box rfl) ?_ | refine ro (st_alloc tok rfl) ?_ | refine ro (st_buildSlice tok rfl rfl rfl rfl rfl rfl rfl) ?_); rintro _ _ _ ⟨_, rfl, rfl, rfl⟩) | refine runL_g rfl rfl (qt_concat rfl rfl hcat) rfl rfl rfl rfl rfl ?_)
  have hwr : IntKind.i64.wrap ((E0.1.size : Int) + (E1.1.size : Int)) = ((E0.1.size + E1.1.size : Nat) : Int) := by
    rw [show (E0.1.size : Int) + (E1.1.size : Int) = ((E0.1.size + E1.1.size : Nat) : Int) by omega, wrap64_nat (by omega)]
  have hfin : (((E0.2 == 0) && (E1.2 == 0)) && (((E2.2 == 0) && (!(E2.1.toList == (E0.1 ++ E1.1).toList))) || ((E2.2 != 0) && ((E2.2 != 5) || decide (IntKind.i64.wrap ((E0.1.size : Int) + (E1.1.size : Int)) ≤ 65536))))) = false := by
    rw [hwr]
    by_cases h0 : E0.2 = 0
    · by_cases h1 : E1.2 = 0
      · rcases hj1 ⟨h0, h1⟩ with ⟨q1, q2⟩ | ⟨q1, q2⟩
        · simp [h0, h1, q1, q2]
        · simp [h0, h1, q1]; omega
      · simp [h1]
    · simp [h0]
  refine run_cond rfl (fun h => ?_) (fun _ => ?_)
  · exact absurd ((show _ = true from h).symm.trans hfin) (by decide)
  refine run_skip ?_
  repeat (first | with_reducible (first | refine cS ?_ | refine cR ?_ | refine cN ?_ | refine cK ?_ | refine cB ?_ | refine cI ?_) | refine cE rfl ?_ | refine rq (qt_pev tok rfl) ?_ | refine rg rfl rfl (qt_pev tok rfl) ?_ | refine rq (ql tok rfl) ?_ | refine rg rfl rfl (ql tok rfl) ?_ | (refine runL_op0 (sst tok rfl rfl rfl rfl rfl) ?_; rintro _ _ _ ⟨rfl, rfl, rfl⟩) | ((first | refine ro (st_box rfl) ?_ | refine ro (st_alloc tok rfl) ?_ | refine ro (st_buildSlice tok rfl rfl rfl rfl rfl rfl rfl) ?_); rintro _ _ _ ⟨_, rfl, rfl, rfl⟩))
  have hfin2 : (((E0.2 == 2) || (E1.2 == 2)) && (E2.2 != 2)) = false := by
    by_cases h0 : E0.2 = 2 ∨ E1.2 = 2
    · rw [hj2 h0]; simp
    · have q1 : ¬ E0.2 = 2 := fun e => h0 (.inl e)
      have q2 : ¬ E1.2 = 2 := fun e => h0 (.inr e)
      simp [q1, q2]
  refine run_cond rfl (fun h => ?_) (fun _ => ?_)
  · exact absurd ((show _ = true from h).symm.trans hfin2) (by decide)
  refine run_skip ?_
  repeat (first | with_reducible (first | refine cS ?_ | refine cR ?_ | refine cN ?_ | refine cK ?_ | refine cB ?_ | refine cI ?_) | refine cE rfl ?_ | refine rq (qt_pev tok rfl) ?_ | refine rg rfl rfl (qt_pev tok rfl) ?_ | refine rq (ql tok rfl) ?_ | refine rg rfl rfl (ql tok rfl) ?_ | (refine runL_op0 (sst tok rfl rfl rfl rfl rfl) ?_; rintro _ _ _ ⟨rfl, rfl, rfl⟩) | ((first | refine ro (st_box rfl) ?_ | refine ro (st_alloc tok rfl) ?_ | refine ro (st_buildSlice tok rfl rfl rfl rfl rfl rfl rfl) ?_); rintro _ _ _ ⟨_, rfl, rfl, rfl⟩) | refine runL_op (st_callF rfl (fun _ => sdecode_ok _ _ t (by omega))) rfl rfl rfl ?_; rintro _ M10 L10 ⟨hM10, rfl, m, e, rfl, hm, hd⟩)
  have hle := Mem.le_trans hM08 (Mem.le_trans hM9 hM10)
  refine run_cond rfl (fun h => ?_) (fun h => ?_)
  · have he : e ≠ 0 := by simpa using h
    have hx : e = 7 ∧ m.xs = [] := by
      rcases hd with ⟨_, _, q⟩ | ⟨_, l, y, _, ⟨q1, q2, _⟩ | ⟨q1, _⟩⟩
      · omega
      · exact ⟨q1, q2⟩
      · exact absurd q1 he
    obtain ⟨rfl, hx⟩ := hx
    have hml : m.len = 0 := by rw [← hm.ok.len, hx]; rfl
    repeat (first | with_reducible (first | refine cS ?_ | refine cR ?_ | refine cN ?_ | refine cK ?_ | refine cB ?_ | refine cI ?_) | refine cE rfl ?_ | refine rq (qt_pev tok rfl) ?_ | refine rg rfl rfl (qt_pev tok rfl) ?_ | refine rq (ql tok rfl) ?_ | refine rg rfl rfl (ql tok rfl) ?_ | (refine runL_op0 (sst tok rfl rfl rfl rfl rfl) ?_; rintro _ _ _ ⟨rfl, rfl, rfl⟩) | ((first | refine ro (st_box rfl) ?_ | refine ro (st_alloc tok rfl) ?_ | refine ro (st_buildSlice tok rfl rfl rfl rfl rfl rfl rfl) ?_); rintro _ _ _ ⟨_, rfl, rfl, rfl⟩))
    refine runL_as 124 (.bool true) rfl (by show Value.bool (((7 : Int) == 7) && ((m.len : Int) == 0)) = _; rw [hml]; rfl) ?_
    refine runL_gT rfl rfl (st_callF rfl (fun _ => salive_ok _ _)) rfl rfl rfl ?_
    rintro _ M11 L11 ⟨rfl, hM11, rfl⟩
    repeat (first | with_reducible (first | refine cS ?_ | refine cR ?_ | refine cN ?_ | refine cK ?_ | refine cB ?_ | refine cI ?_) | refine cE rfl ?_ | refine rq (qt_pev tok rfl) ?_ | refine rg rfl rfl (qt_pev tok rfl) ?_ | refine rq (ql tok rfl) ?_ | refine rg rfl rfl (ql tok rfl) ?_ | (refine runL_op0 (sst tok rfl rfl rfl rfl rfl) ?_; rintro _ _ _ ⟨rfl, rfl, rfl⟩) | ((first | refine ro (st_box rfl) ?_ | refine ro (st_alloc tok rfl) ?_ | refine ro (st_buildSlice tok rfl rfl rfl rfl rfl rfl rfl) ?_); rintro _ _ _ ⟨_, rfl, rfl, rfl⟩))
    exact run_ret hC (rs := [.tmp 6]) rfl (resT rfl resN) (fun _ h => h) ⟨rfl, Mem.le_trans hle hM11, rfl⟩
  · have he : e = 0 := by simpa using h
    have hE : encA m.xs = (t, 0) := by
      rcases hd with ⟨_, _, q⟩ | ⟨hz, l, y, hf, ⟨q1, q2, _⟩ | ⟨_, q2, rfl⟩⟩
      · omega
      · omega
      · exact enc_back hm hz hf q2
    refine run_skip ?_
    repeat (first | with_reducible (first | refine cS ?_ | refine cR ?_ | refine cN ?_ | refine cK ?_ | refine cB ?_ | refine cI ?_) | refine cE rfl ?_ | refine rq (qt_pev tok rfl) ?_ | refine rg rfl rfl (qt_pev tok rfl) ?_ | refine rq (ql tok rfl) ?_ | refine rg rfl rfl (ql tok rfl) ?_ | (refine runL_op0 (sst tok rfl rfl rfl rfl rfl) ?_; rintro _ _ _ ⟨rfl, rfl, rfl⟩) | ((first | refine ro (st_box rfl) ?_ | refine ro (st_alloc tok rfl) ?_ | refine ro (st_buildSlice tok rfl rfl rfl rfl rfl rfl rfl) ?_); rintro _ _ _ ⟨_, rfl, rfl, rfl⟩) | refine runL_op (st_callF rfl (fun _ => sencode_ok _ _ m hm)) rfl rfl rfl ?_; rintro _ M11 L11 ⟨rfl, hM11, rfl⟩)
    refine runL_as 139 (.bool true) rfl (by show Value.bool (((encA m.xs).2 == 0) && ((encA m.xs).1.toList == t.toList)) = _; rw [hE]; simp) ?_
    refine runL_gT rfl rfl (st_callF rfl (fun _ => salive_ok _ _)) rfl rfl rfl ?_
    rintro _ M12 L12 ⟨rfl, hM12, rfl⟩
    repeat (first | with_reducible (first | refine cS ?_ | refine cR ?_ | refine cN ?_ | refine cK ?_ | refine cB ?_ | refine cI ?_) | refine cE rfl ?_ | refine rq (qt_pev tok rfl) ?_ | refine rg rfl rfl (qt_pev tok rfl) ?_ | refine rq (ql tok rfl) ?_ | refine rg rfl rfl (ql tok rfl) ?_ | (refine runL_op0 (sst tok rfl rfl rfl rfl rfl) ?_; rintro _ _ _ ⟨rfl, rfl, rfl⟩) | ((first | refine ro (st_box rfl) ?_ | refine ro (st_alloc tok rfl) ?_ | refine ro (st_buildSlice tok rfl rfl rfl rfl rfl rfl rfl) ?_); rintro _ _ _ ⟨_, rfl, rfl, rfl⟩))
    exact run_ret hC (rs := [.tmp 6]) rfl (resT rfl resN) (fun _ h => h) ⟨rfl, Mem.le_trans hle (Mem.le_trans hM11 hM12), rfl⟩
end Go.Proofs.Ytbpgiodfccijmaa
namespace Go.Chi
/-- a part of a slice, both ends named -/
theorem qt_sliceLH {P : Program} {T : TT} {ro : Option Nat} {σ : Env} {δ : Den} {cur : Path} {M : Mem} {L : HL} {d : Option Nat} {ty : TypeId} {pos : String} {aft : Array Edge} {g : Option (Nat × Bool)} (hT : TOk P T) {t : TypeId} {x y z : Operand} {a : Option Addr} {len cap : Nat} {k k' : IntKind} {n m : Nat} {e s : Nat}
    (hx : ev σ δ cur x = some (.slice a len cap)) (hy : ev σ δ cur y = some (.int k (n : Int))) (hz : ev σ δ cur z = some (.int k' (m : Int))) (hu : und T t = some (.slice e)) (hi : sizeT T e = some s) (hb : Hy σ δ cur → n ≤ m ∧ m ≤ cap) :
    Qt P ro ⟨d, .slice t x (some y) (some z) none, ty, pos, aft, g⟩ σ δ cur M L (.slice (subA s a cap n) (m - n) (cap - n)) :=
  qt_of_run (semAt_of (by intro c e; cases e)) fun act w hs hcur hp => by
    obtain ⟨h, h'⟩ := hb (Hy_of hs hcur)
    simp [execOp, Instr.sliceAt, Instr.slice, Instr.sliceBounds, Instr.sliceBound, ev_sound hs hcur hx, ev_sound hs hcur hy, ev_sound hs hcur hz, asIntOf, run_und hT hu, run_sizeT hT hi, h, h', subA]
end Go.Chi
namespace Go.Proofs.Ytbpgiodfccijmaa
open Go.Chi

/-! ### ScriptCut: the walk -/
theorem irem_ok {c n : Nat} (hc : c < 65536) (hn : n < 1000000) : (IntKind.i64.wrap (c : Int)).tmod (IntKind.i64.wrap ((n : Int) + 1)) = ((c % (n + 1) : Nat) : Int) := by
  rw [wrap64_nat (by omega), show (n : Int) + 1 = ((n + 1 : Nat) : Int) by omega, wrap64_nat (by omega)]
  rfl
theorem cutB_fr {l : List Aa} (h : ∀ a ∈ l, AcP a ∧ ShortA a) {k w : Nat} (hw : w ≤ l.length) (hk : k ≤ (encB l).size) (h1 : (encB (l.take w)).size ≤ k) (h2 : ∀ a, l[w]? = some a → k < (encB (l.take w)).size + (actB a).size) :
    ∃ y : ByteArray, Fr ((encB l).extract 0 k) (l.take w) y ∧ y.size = k - (encB (l.take w)).size ∧ ((encB l).extract 0 k).size = k := by
  have hsz : ((encB l).extract 0 k).size = k := by simp; omega
  have hsp : encB l = encB (l.take w) ++ encB (l.drop w) := by rw [← encB_app, List.take_append_drop]
  have hcut : (encB l).extract 0 k = encB (l.take w) ++ (encB (l.drop w)).extract 0 (k - (encB (l.take w)).size) := by
    apply ByteArray.ext
    rw [hsp]
    simp only [ByteArray.data_extract, ByteArray.data_append]
    rw [Array.extract_append]
    have e : (encB (l.take w)).data.size = (encB (l.take w)).size := rfl
    rw [e]
    congr 1
    · rw [Array.extract_eq_self_of_le (by rw [e]; exact h1)]
    · simp
  refine ⟨(encB (l.drop w)).extract 0 (k - (encB (l.take w)).size), ?_, ?_, hsz⟩
  · rw [hcut]
    refine fr_of (fun a ha => h a (List.mem_of_mem_take ha)) ?_
    by_cases hwl : w = l.length
    · have e : encB (l.drop w) = bz := by rw [List.drop_eq_nil_of_le (by omega)]; rfl
      rw [e]
      have : (bz : ByteArray).extract 0 (k - (encB (l.take w)).size) = bz := by
        apply ByteArray.ext
        rw [ByteArray.data_extract]
        show (#[] : Array UInt8).extract _ _ = #[]
        simp
      rw [this]
      exact one_bz
    · have hlt : w < l.length := by omega
      have hd : l.drop w = l[w] :: l.drop (w + 1) := List.drop_eq_getElem_cons hlt
      have hx := h2 l[w] (List.getElem?_eq_getElem hlt)
      obtain ⟨ha, hsh⟩ := h l[w] (List.getElem_mem hlt)
      have hle : k - (encB (l.take w)).size ≤ (actB l[w]).size := by omega
      have hr : (encB (l.drop w)).extract 0 (k - (encB (l.take w)).size) = (actB l[w]).extract 0 (k - (encB (l.take w)).size) := by
        rw [hd, encB]
        apply ByteArray.ext
        simp only [ByteArray.data_extract, ByteArray.data_append]
        rw [Array.extract_append]
        have e : (actB l[w]).data.size = (actB l[w]).size := rfl
        rw [e, show k - (encB (l.take w)).size - (actB l[w]).size = 0 by omega]
        simp
      rw [hr]
      exact one_cut ha hsh (ext_split _ hle) (by simp; omega)
  · have : (encB (l.take w)).size + ((encB (l.drop w)).extract 0 (k - (encB (l.take w)).size)).size = k := by rw [← app_size, ← hcut, hsz]
    omega
theorem take_drop_one {α : Type} {l : List α} {w : Nat} {x : α} (h : l[w]? = some x) : (l.take (w + 1)).drop w = [x] := by
  obtain ⟨hlt, hx⟩ := List.getElem?_eq_some_iff.1 h
  rw [take_snoc h, List.drop_append_of_le_length (by rw [List.length_take]; omega), List.drop_eq_nil_of_le (by rw [List.length_take]; omega)]
  rfl
theorem encB_take_succ {l : List Aa} {w : Nat} {a : Aa} (h : l[w]? = some a) : (encB (l.take (w + 1))).size = (encB (l.take w)).size + (actB a).size := by
  rw [take_snoc h, encB_app, app_size]
  show _ + (actB a ++ bz).size = _
  rw [app_bz']
theorem encB_take_le (l : List Aa) (w : Nat) : (encB (l.take w)).size ≤ (encB l).size := by
  have := congrArg ByteArray.size (encB_app (l.take w) (l.drop w))
  rw [List.take_append_drop, app_size] at this
  omega
theorem sub_ok {M : Mem} {s : SAx} (h : SaOk M s) (hc : s.len ≤ s.cap) {l k : Nat} (hl : l ≤ k) (hk : k ≤ s.len) : SaOk M ⟨subA 10 s.a s.cap l, k - l, s.cap - l, (s.xs.take k).drop l⟩ := by
  refine ⟨?_, by have := h.lt; show k - l < _; omega, fun x hx => h.each x (List.mem_of_mem_take (List.mem_of_mem_drop hx))⟩
  have := h.sl.sub (l := l) (k := k) hk hc
  rwa [← List.map_take, ← List.map_drop] at this
set_option maxRecDepth 10000 in
set_option maxHeartbeats 32000000 in
theorem scriptCut_ok (M : Mem) (L : HL) (s0 : SAx) (hi0 : SaIn M s0) (hcap : s0.len ≤ s0.cap) (c : Int) (hcr : 0 ≤ c ∧ c < 65536) : Tr Try.prog 6 [s0.v, .int .u16 c] M L (fun v M' L' => v = .bool true ∧ M.le M' ∧ L = L') := by
  obtain ⟨cn, rfl⟩ : ∃ cn : Nat, c = cn := ⟨c.toNat, by omega⟩
  have hcn : cn < 65536 := by omega
  refine Tr.intro 101 Try.func6 rfl rfl Try.call6 rfl ?_
  intro C hC hro
  repeat (first | with_reducible (first | refine cS ?_ | refine cR ?_ | refine cN ?_ | refine cK ?_ | refine cB ?_ | refine cI ?_) | refine cE rfl ?_ | refine rq (qt_pev tok rfl) ?_ | refine rg rfl rfl (qt_pev tok rfl) ?_ | refine rq (ql tok rfl) ?_ | refine rg rfl rfl (ql tok rfl) ?_ | (refine runL_op0 (sst tok rfl rfl rfl rfl rfl) ?_; rintro _ _ _ ⟨rfl, rfl, rfl⟩) | ((first | refine ro (st_box rfl) ?_ | refine ro (st_alloc tok rfl) ?_ | refine ro (st_buildSlice tok rfl rfl rfl rfl rfl rfl rfl) ?_); rintro _ _ _ ⟨_, rfl, rfl, rfl⟩) | refine runL_op (st_callF rfl (fun _ => slong_ok _ _ s0 hi0)) rfl rfl rfl ?_; rintro _ _ L1 ⟨rfl, rfl, lg, rfl, hlg⟩)
  refine run_cond rfl (fun h => ?_) (fun h => ?_)
  · repeat (first | with_reducible (first | refine cS ?_ | refine cR ?_ | refine cN ?_ | refine cK ?_ | refine cB ?_ | refine cI ?_) | refine cE rfl ?_ | refine rq (qt_pev tok rfl) ?_ | refine rg rfl rfl (qt_pev tok rfl) ?_ | refine rq (ql tok rfl) ?_ | refine rg rfl rfl (ql tok rfl) ?_ | (refine runL_op0 (sst tok rfl rfl rfl rfl rfl) ?_; rintro _ _ _ ⟨rfl, rfl, rfl⟩) | ((first | refine ro (st_box rfl) ?_ | refine ro (st_alloc tok rfl) ?_ | refine ro (st_buildSlice tok rfl rfl rfl rfl rfl rfl rfl) ?_); rintro _ _ _ ⟨_, rfl, rfl, rfl⟩) | refine runL_op (st_callF rfl (fun _ => salive_ok _ _)) rfl rfl rfl ?_; rintro _ M1 L1 ⟨rfl, hM1, rfl⟩)
    exact run_ret hC (rs := [.tmp 4]) rfl (resT rfl resN) (fun _ h => h) ⟨rfl, hM1, rfl⟩
  have lim0 := hlg h
  have ok0 := hi0.ok lim0
  have hlen := ok0.len
  have n60 := lim0.1
  refine run_skip ?_
  repeat (first | with_reducible (first | refine cS ?_ | refine cR ?_ | refine cN ?_ | refine cK ?_ | refine cB ?_ | refine cI ?_) | refine cE rfl ?_ | refine rq (qt_pev tok rfl) ?_ | refine rg rfl rfl (qt_pev tok rfl) ?_ | refine rq (ql tok rfl) ?_ | refine rg rfl rfl (ql tok rfl) ?_ | (refine runL_op0 (sst tok rfl rfl rfl rfl rfl) ?_; rintro _ _ _ ⟨rfl, rfl, rfl⟩) | ((first | refine ro (st_box rfl) ?_ | refine ro (st_alloc tok rfl) ?_ | refine ro (st_buildSlice tok rfl rfl rfl rfl rfl rfl rfl) ?_); rintro _ _ _ ⟨_, rfl, rfl, rfl⟩) | refine runL_op (st_callF rfl (fun _ => sown_ok _ _ s0 ok0)) rfl rfl rfl ?_; rintro _ M1 L1 ⟨hM1, rfl, a0, rfl, ha0, hw0⟩ | refine runL_op (st_callF rfl (fun _ => sencode_ok _ _ a0 hw0)) rfl rfl rfl ?_; rintro _ M2 L2 ⟨rfl, hM2, rfl⟩)
  have hM02 := Mem.le_trans hM1 hM2
  refine run_cond rfl (fun h => ?_) (fun h => ?_)
  · repeat (first | with_reducible (first | refine cS ?_ | refine cR ?_ | refine cN ?_ | refine cK ?_ | refine cB ?_ | refine cI ?_) | refine cE rfl ?_ | refine rq (qt_pev tok rfl) ?_ | refine rg rfl rfl (qt_pev tok rfl) ?_ | refine rq (ql tok rfl) ?_ | refine rg rfl rfl (ql tok rfl) ?_ | (refine runL_op0 (sst tok rfl rfl rfl rfl rfl) ?_; rintro _ _ _ ⟨rfl, rfl, rfl⟩) | ((first | refine ro (st_box rfl) ?_ | refine ro (st_alloc tok rfl) ?_ | refine ro (st_buildSlice tok rfl rfl rfl rfl rfl rfl rfl) ?_); rintro _ _ _ ⟨_, rfl, rfl, rfl⟩) | refine runL_op (st_callF rfl (fun _ => salive_ok _ _)) rfl rfl rfl ?_; rintro _ M3 L3 ⟨rfl, hM3, rfl⟩)
    exact run_ret hC (rs := [.tmp 4]) rfl (resT rfl resN) (fun _ h => h) ⟨rfl, Mem.le_trans hM02 hM3, rfl⟩
  have he : (encA a0.xs).2 = 0 := by simpa using h
  obtain ⟨l, hl⟩ : ∃ l, l = s0.xs.map Ax.aa := ⟨_, rfl⟩
  have hll : l.length = s0.len := by rw [hl, List.length_map, hlen]
  have hE : (∀ a ∈ l, AcP a ∧ ShortA a) ∧ encA a0.xs = (encB l, 0) ∧ (encB l).size ≤ 65536 := by
    rcases encA_law hw0.ok.iffA with ⟨_, q⟩ | ⟨hp, ⟨hz, q⟩ | ⟨_, q⟩⟩
    · rw [q] at he; cases he
    · have := shortL hw0 hp
      rw [ha0, ← hl] at this hz q
      exact ⟨this, q, hz⟩
    · rw [q] at he; cases he
  obtain ⟨hall, hE, hz⟩ := hE
  rw [hE]
  have ok2 := ok0.le hM02
  generalize hB : encB l = B at hz ⊢
  have hkle : cn % (B.size + 1) ≤ B.size := by have := Nat.mod_lt cn (y := B.size + 1) (by omega); omega
  have hnz : IntKind.i64.wrap ((B.size : Int) + 1) ≠ 0 := by
    rw [show (B.size : Int) + 1 = ((B.size + 1 : Nat) : Int) by omega, wrap64_nat (by omega)]; omega
  have hrem := irem_ok (n := B.size) hcn (by omega)
  refine run_skip ?_
  repeat (first | with_reducible (first | refine cS ?_ | refine cR ?_ | refine cN ?_ | refine cK ?_) | refine rq (qt_pev tok rfl) ?_ | refine rg rfl rfl (qt_pev tok rfl) ?_ | refine rq (ql tok rfl) ?_ | refine rg rfl rfl (ql tok rfl) ?_ | refine runL_q (Qt.as (v' := .int .i64 ((cn % (B.size + 1) : Nat) : Int)) (qt_rem rfl rfl (fun _ => hnz)) (by rw [hrem])) rfl rfl rfl ?_)
  generalize cn % (B.size + 1) = k at hkle ⊢
  have hwr : ∀ x y : Nat, x < 1000000 → y < 1000000 → IntKind.i64.wrap ((x : Int) + (y : Int)) = ((x + y : Nat) : Int) := fun x y hx hy => by
    rw [show (x : Int) + (y : Int) = ((x + y : Nat) : Int) by omega, wrap64_nat (by omega)]
  refine run_cut (fun σ' M' L' => ∃ w : Nat, w ≤ s0.len ∧ (encB (l.take w)).size ≤ k ∧ (∀ a, l[w]? = some a → k < (encB (l.take w)).size + (actB a).size) ∧ σ' = [(8, .int .i64 (w : Int)), (9, .int .i64 ((encB (l.take w)).size : Int)), (7, .int .i64 (k : Int)), (5, .string B), (0, s0.v)] ∧ M2.le M' ∧ L2 = L') ?_ ?_
  rotate_left
  · intro hcut
    refine run_block ?_
    refine run_loopN (fun w σ1 M3 L3 => w ≤ s0.len ∧ M2.le M3 ∧ L2 = L3 ∧ (encB (l.take w)).size ≤ k ∧ σ1 = [(8, .int .i64 (w : Int)), (9, .int .i64 ((encB (l.take w)).size : Int)), (7, .int .i64 (k : Int)), (5, .string B), (0, s0.v)]) s0.len [(8, .int .i64 ((0 : Nat) : Int)), (9, .int .i64 ((encB (l.take 0)).size : Int)), (7, .int .i64 (k : Int)), (5, .string B), (0, s0.v)] ?_ ⟨Nat.zero_le _, Mem.le_refl _, rfl, Nat.zero_le _, rfl⟩ (fun j _ _ _ h => h.1) ?_
    · exact ⟨rfl, rfl, rfl, rfl, rfl, trivial⟩
    rintro w _ M3 _ ⟨hw, hM3, rfl, hat, rfl⟩ hnext
    repeat (first | with_reducible (first | refine cS ?_ | refine cR ?_ | refine cN ?_ | refine cK ?_ | refine cB ?_ | refine cI ?_) | refine cE rfl ?_ | refine rq (qt_pev tok rfl) ?_ | refine rg rfl rfl (qt_pev tok rfl) ?_ | refine rq (ql tok rfl) ?_ | refine rg rfl rfl (ql tok rfl) ?_ | (refine runL_op0 (sst tok rfl rfl rfl rfl rfl) ?_; rintro _ _ _ ⟨rfl, rfl, rfl⟩) | ((first | refine ro (st_box rfl) ?_ | refine ro (st_alloc tok rfl) ?_ | refine ro (st_buildSlice tok rfl rfl rfl rfl rfl rfl rfl) ?_); rintro _ _ _ ⟨_, rfl, rfl, rfl⟩))
    refine run_cond rfl (fun h => ?_) (fun h => ?_)
    rotate_left
    · have hge : w = s0.len := by simp at h; omega
      refine run_exit rfl ?_
      exact run_sub' (hcut _ _ _ ⟨w, hw, hat, (fun a ha => by
        have := (List.getElem?_eq_some_iff.1 ha).1
        omega), rfl, hM3, rfl⟩) ⟨rfl, rfl, rfl, rfl, rfl, trivial⟩
    have hlt : w < s0.len := by simpa using h
    have ok3 := ok2.le hM3
    obtain ⟨x, hx⟩ : ∃ x, s0.xs[w]? = some x := ⟨_, List.getElem?_eq_getElem (by omega)⟩
    have hlx : l[w]? = some x.aa := by rw [hl, List.getElem?_map, hx]; rfl
    have hsub := sub_ok ok3 hcap (l := w) (k := w + 1) (by omega) (by omega)
    have hone := take_drop_one hx
    rw [hone] at hsub
    have hw1 : IntKind.i64.wrap ((w : Int) + 1) = ((w + 1 : Nat) : Int) := hwr w 1 (by omega) (by omega)
    have hsz := encB_take_succ hlx
    have hle := encB_take_le l (w + 1)
    rw [hB] at hle
    have hap := hall x.aa (List.mem_of_getElem? hlx)
    have ha1 : (actB x.aa).size ≠ 0 := by rw [actB_size]; omega
    repeat (first | with_reducible (first | refine cS ?_ | refine cR ?_ | refine cN ?_ | refine cK ?_ | refine cB ?_ | refine cI ?_) | refine cE rfl ?_ | refine rq (qt_pev tok rfl) ?_ | refine rg rfl rfl (qt_pev tok rfl) ?_ | refine rq (ql tok rfl) ?_ | refine rg rfl rfl (ql tok rfl) ?_ | (refine runL_op0 (sst tok rfl rfl rfl rfl rfl) ?_; rintro _ _ _ ⟨rfl, rfl, rfl⟩) | ((first | refine ro (st_box rfl) ?_ | refine ro (st_alloc tok rfl) ?_ | refine ro (st_buildSlice tok rfl rfl rfl rfl rfl rfl rfl) ?_); rintro _ _ _ ⟨_, rfl, rfl, rfl⟩) | refine runL_q (Qt.as (v' := SAx.v ⟨subA 10 s0.a s0.cap w, w + 1 - w, s0.cap - w, [x]⟩) (qt_sliceLH (n := w) (m := w + 1) tok rfl rfl (congrArg (fun z => some (Value.int .i64 z)) hw1) rfl rfl (fun _ => ⟨by omega, by omega⟩)) rfl) rfl rfl rfl ?_ | refine runL_op (st_callF rfl (fun _ => sown_ok _ _ _ hsub)) rfl rfl rfl ?_; rintro _ M4 L4 ⟨hM4, rfl, b, rfl, hb, hbw⟩ | refine runL_op (st_callF rfl (fun _ => sencode_ok _ _ b hbw)) rfl rfl rfl ?_; rintro _ M5 L5 ⟨rfl, hM5, rfl⟩)
    have hbE : encA b.xs = (actB x.aa, 0) := by
      have hb' : b.xs.map Ax.aa = [x.aa] := hb
      rcases encA_law hbw.ok.iffA with ⟨⟨a, ha, hn⟩, _⟩ | ⟨_, ⟨_, q⟩ | ⟨hq, _⟩⟩
      · rw [hb'] at ha
        rw [List.mem_singleton.1 ha] at hn
        exact absurd hap.1 hn
      · rw [q, hb']
        show (actB x.aa ++ bz, (0 : Int)) = _
        rw [app_bz']
      · rw [hb'] at hq
        have : (actB x.aa ++ bz).size = (actB x.aa).size := by rw [app_bz']
        have hq' : 65536 < (actB x.aa ++ bz).size := hq
        omega
    rw [hbE]
    have hM35 := Mem.le_trans hM3 (Mem.le_trans hM4 hM5)
    refine run_cond rfl (fun h => ?_) (fun h => ?_)
    · exfalso
      have h' : (((0 : Int) != 0) || ((actB x.aa).toList == (⟨#[]⟩ : ByteArray).toList)) = true := h
      rw [empty_beq] at h'
      simp at h'
      exact ha1 (by rw [h']; rfl)
    clear h
    refine run_skip ?_
    repeat (first | with_reducible (first | refine cS ?_ | refine cR ?_ | refine cN ?_ | refine cK ?_ | refine cB ?_ | refine cI ?_) | refine cE rfl ?_ | refine rq (qt_pev tok rfl) ?_ | refine rg rfl rfl (qt_pev tok rfl) ?_ | refine rq (ql tok rfl) ?_ | refine rg rfl rfl (ql tok rfl) ?_ | (refine runL_op0 (sst tok rfl rfl rfl rfl rfl) ?_; rintro _ _ _ ⟨rfl, rfl, rfl⟩) | ((first | refine ro (st_box rfl) ?_ | refine ro (st_alloc tok rfl) ?_ | refine ro (st_buildSlice tok rfl rfl rfl rfl rfl rfl rfl) ?_); rintro _ _ _ ⟨_, rfl, rfl, rfl⟩))
    have hsum := hwr (encB (l.take w)).size (actB x.aa).size (by omega) (by omega)
    refine run_cond rfl (fun h => ?_) (fun h => ?_)
    · have h' : decide (IntKind.i64.wrap (((encB (l.take w)).size : Int) + ((actB x.aa).size : Int)) > (k : Int)) = true := h
      rw [hsum] at h'
      have hgt := of_decide_eq_true h'
      refine run_exit rfl ?_
      exact run_sub' (hcut _ _ _ ⟨w, hw, hat, (fun a ha => by rw [hlx] at ha; cases ha; omega), rfl, hM35, rfl⟩) ⟨rfl, rfl, rfl, rfl, rfl, trivial⟩
    have h' : decide (IntKind.i64.wrap (((encB (l.take w)).size : Int) + ((actB x.aa).size : Int)) > (k : Int)) = false := h
    rw [hsum] at h'
    have hng := of_decide_eq_false h'
    refine run_skip ?_
    repeat (first | with_reducible (first | refine cS ?_ | refine cR ?_ | refine cN ?_ | refine cK ?_ | refine cB ?_ | refine cI ?_) | refine cE rfl ?_ | refine rq (qt_pev tok rfl) ?_ | refine rg rfl rfl (qt_pev tok rfl) ?_ | refine rq (ql tok rfl) ?_ | refine rg rfl rfl (ql tok rfl) ?_ | (refine runL_op0 (sst tok rfl rfl rfl rfl rfl) ?_; rintro _ _ _ ⟨rfl, rfl, rfl⟩) | ((first | refine ro (st_box rfl) ?_ | refine ro (st_alloc tok rfl) ?_ | refine ro (st_buildSlice tok rfl rfl rfl rfl rfl rfl rfl) ?_); rintro _ _ _ ⟨_, rfl, rfl, rfl⟩))
    exact run_sub' (hnext _ _ _ ⟨hlt, hM35, rfl, by rw [hsz]; omega, rfl⟩) ⟨lk_succ rfl (by omega), by rw [hsum, hsz]; rfl, rfl, rfl, rfl, trivial⟩
  rintro _ M3 _ ⟨w, hw, hat, hnx, rfl, hM3, rfl⟩
  have hcutf := cutB_fr hall (k := k) (w := w) (by omega) (by rw [hB]; exact hkle) hat hnx
  rw [hB] at hcutf
  obtain ⟨y, hfr, hyz, hsz⟩ := hcutf
  generalize hP : B.extract 0 k = P at hfr hsz
  repeat (first | with_reducible (first | refine cS ?_ | refine cR ?_ | refine cN ?_ | refine cK ?_ | refine cB ?_ | refine cI ?_) | refine cE rfl ?_ | refine rq (qt_pev tok rfl) ?_ | refine rg rfl rfl (qt_pev tok rfl) ?_ | refine rq (ql tok rfl) ?_ | refine rg rfl rfl (ql tok rfl) ?_ | (refine runL_op0 (sst tok rfl rfl rfl rfl rfl) ?_; rintro _ _ _ ⟨rfl, rfl, rfl⟩) | ((first | refine ro (st_box rfl) ?_ | refine ro (st_alloc tok rfl) ?_ | refine ro (st_buildSlice tok rfl rfl rfl rfl rfl rfl rfl) ?_); rintro _ _ _ ⟨_, rfl, rfl, rfl⟩) | refine runL_q (Qt.as (v' := .string P) (qt_strHi (n := k) tok rfl rfl rfl (fun _ => hkle)) (by rw [hP])) rfl rfl rfl ?_ | refine runL_op (st_callF rfl (fun _ => sfront_ok _ _ P (by omega))) rfl rfl rfl ?_; rintro _ M4 L4 ⟨hM4, rfl, m, y1, rfl, hm, hf1, hy1⟩ | refine runL_op (st_callF rfl (fun _ => sdecode_ok _ _ P (by omega))) rfl rfl rfl ?_; rintro _ M5 L5 ⟨hM5, rfl, m2, e, rfl, hm2, hd⟩)
  obtain ⟨hma, rfl⟩ := hf1.uniq hfr
  have hM25 := Mem.le_trans hM3 (Mem.le_trans hM4 hM5)
  have hsub := sub_ok (ok2.le hM25) hcap (l := 0) (k := w) (Nat.zero_le _) hw
  rw [List.drop_zero, Nat.sub_zero, Nat.sub_zero] at hsub
  have hsm : m.xs.map Ax.aa = (s0.xs.take w).map Ax.aa := by rw [hma, hl, List.map_take]
  have hn : P.size - y1.size = (encB (l.take w)).size := by omega
  have hek : (e == 0) = (((encB (l.take w)).size : Int) == (k : Int)) := by
    have hq : e = 0 ↔ (encB (l.take w)).size = k := by
      rcases hd with ⟨_, _, q⟩ | ⟨_, l', y', hf', ⟨q1, _, q2⟩ | ⟨q1, q2, _⟩⟩
      · omega
      · obtain ⟨_, rfl⟩ := hf'.uniq hfr
        constructor
        · intro h; omega
        · intro h; omega
      · obtain ⟨_, rfl⟩ := hf'.uniq hfr
        exact ⟨fun _ => by omega, fun _ => q1⟩
    rw [Bool.eq_iff_iff, beq_iff_eq, beq_iff_eq, hq]
    omega
  repeat (first | with_reducible (first | refine cS ?_ | refine cR ?_ | refine cN ?_ | refine cK ?_ | refine cB ?_ | refine cI ?_) | refine cE rfl ?_ | refine rq (qt_pev tok rfl) ?_ | refine rg rfl rfl (qt_pev tok rfl) ?_ | refine rq (ql tok rfl) ?_ | refine rg rfl rfl (ql tok rfl) ?_ | (refine runL_op0 (sst tok rfl rfl rfl rfl rfl) ?_; rintro _ _ _ ⟨rfl, rfl, rfl⟩) | ((first | refine ro (st_box rfl) ?_ | refine ro (st_alloc tok rfl) ?_ | refine ro (st_buildSlice tok rfl rfl rfl rfl rfl rfl rfl) ?_); rintro _ _ _ ⟨_, rfl, rfl, rfl⟩) | refine runL_g rfl rfl (Qt.as (v' := SAx.v ⟨subA 10 s0.a s0.cap 0, w, s0.cap, s0.xs.take w⟩) (qt_sliceHi (n := w) tok rfl rfl rfl rfl (fun _ => by omega)) rfl) rfl rfl rfl rfl rfl ?_ | refine runL_g rfl rfl (qt_callF rfl (fun _ => refSame_ok _ _ m ⟨subA 10 s0.a s0.cap 0, w, s0.cap, s0.xs.take w⟩ (hm.ok.le hM5) hsub true (by simp [hsm]))) rfl rfl rfl rfl rfl ?_)
  refine runL_as 98 (.bool true) rfl (by
    show Value.bool (((((P.size - y1.size : Nat) : Int) == ((encB (l.take w)).size : Int)) && true) && ((e == 0) == (((encB (l.take w)).size : Int) == (k : Int)))) = _
    rw [hn, hek]; simp) ?_
  refine runL_gT rfl rfl (st_callF rfl (fun _ => salive_ok _ _)) rfl rfl rfl ?_
  rintro _ M6 L6 ⟨rfl, hM6, rfl⟩
  repeat (first | with_reducible (first | refine cS ?_ | refine cR ?_ | refine cN ?_ | refine cK ?_ | refine cB ?_ | refine cI ?_) | refine cE rfl ?_ | refine rq (qt_pev tok rfl) ?_ | refine rg rfl rfl (qt_pev tok rfl) ?_ | refine rq (ql tok rfl) ?_ | refine rg rfl rfl (ql tok rfl) ?_ | (refine runL_op0 (sst tok rfl rfl rfl rfl rfl) ?_; rintro _ _ _ ⟨rfl, rfl, rfl⟩) | ((first | refine ro (st_box rfl) ?_ | refine ro (st_alloc tok rfl) ?_ | refine ro (st_buildSlice tok rfl rfl rfl rfl rfl rfl rfl) ?_); rintro _ _ _ ⟨_, rfl, rfl, rfl⟩))
  exact run_ret hC (rs := [.tmp 4]) rfl (resT rfl resN) (fun _ h => h) ⟨rfl, Mem.le_trans hM02 (Mem.le_trans hM25 hM6), rfl⟩
end Go.Proofs.Ytbpgiodfccijmaa
namespace Go.Proofs.Ytbpgiodfccijmaa
open Go.Chi

/-! ### what was handed over, as data -/
section
variable {H : Type} {enc : TypeId × Value → H} {W : World} {cs : List Value}
theorem uInt : Try.prog.underlying 3 = some (.int .i64) := und_ok tok (t := 3) rfl
theorem uBool : Try.prog.underlying 4 = some .bool := und_ok tok (t := 4) rfl
theorem uU8 : Try.prog.underlying 5 = some (.int .u8) := und_ok tok (t := 5) rfl
theorem uU16 : Try.prog.underlying 45 = some (.int .u16) := und_ok tok (t := 45) rfl
theorem uStr : Try.prog.underlying 9 = some .string := und_ok tok (t := 9) rfl
theorem rd_tx (h : RD enc Try.prog W 34 cs) : ∃ t : Tx, cs = txC t := by
  obtain ⟨_, _, rfl, h0, _, _, rfl, h1, _, _, rfl, h2, rfl⟩ := h.struct (und_ok tok (t := 34) rfl) (by kernel_rfl)
  obtain ⟨a, rfl, _⟩ := h0.int uInt
  obtain ⟨b, rfl, _⟩ := h1.int uInt
  obtain ⟨c, rfl, _⟩ := h2.int uInt
  exact ⟨⟨a, b, c⟩, rfl⟩
theorem rd_mb (h : RD enc Try.prog W 48 cs) : ∃ m : Mb, cs = mbC m ∧ True := by
  obtain ⟨_, _, rfl, h0, _, _, rfl, h1, rfl⟩ := h.struct (und_ok tok (t := 48) rfl) (by kernel_rfl)
  obtain ⟨a, rfl, _⟩ := h0.int uInt
  obtain ⟨b, rfl, _⟩ := h1.string uStr
  exact ⟨⟨a, b⟩, rfl, trivial⟩
theorem rd_smb (h : RD enc Try.prog W 32 cs) : ∃ s : SMb, cs = [s.v] ∧ s.Ok (memOf W) := by
  obtain ⟨a, len, cap, ls, rfl, _, _, hs, hel⟩ := h.slice (und_ok tok (t := 32) rfl) (size := 2) (by kernel_rfl) (by omega)
  obtain ⟨xs, rfl, _⟩ := list_of (f := mbC) (Q := fun _ => True) fun c hc => rd_mb (hel c hc)
  exact ⟨⟨a, len, cap, xs⟩, rfl, hs⟩
theorem rd_in1 (h : RD enc Try.prog W 3 cs) : ∃ s : Int, cs = inC s ∧ True := by
  obtain ⟨b, rfl, _⟩ := h.int uInt
  exact ⟨b, rfl, trivial⟩
theorem rd_in (h : RD enc Try.prog W 49 cs) : ∃ s : SIn, cs = [s.v] ∧ SlM (memOf W) 1 s.a s.len (s.xs.map inC) := by
  obtain ⟨a, len, cap, ls, rfl, _, _, hs, hel⟩ := h.slice (und_ok tok (t := 49) rfl) (size := 1) (by kernel_rfl) (by omega)
  obtain ⟨xs, rfl, _⟩ := list_of (f := inC) (Q := fun _ => True) fun c hc => rd_in1 (hel c hc)
  exact ⟨⟨a, len, cap, xs⟩, rfl, hs⟩
theorem rd_sr (h : RD enc Try.prog W 51 cs) : ∃ y : Sr, cs = srC y ∧ SlM (memOf W) 1 y.list.a y.list.len (y.list.xs.map inC) := by
  obtain ⟨_, _, rfl, h0, _, _, rfl, h1, _, _, rfl, h2, _, _, rfl, h3, _, _, rfl, h4, _, _, rfl, h5, _, _, rfl, h6, rfl⟩ := h.struct (und_ok tok (t := 51) rfl) (by kernel_rfl)
  obtain ⟨d, rfl, _⟩ := h0.int uU8
  obtain ⟨a, rfl, _⟩ := h1.int uInt
  obtain ⟨b, rfl, _⟩ := h2.int uInt
  obtain ⟨c, rfl, _⟩ := h3.int uInt
  obtain ⟨n, rfl, _⟩ := h4.int uInt
  obtain ⟨t, rfl, _⟩ := h5.string uStr
  obtain ⟨l, rfl, hl⟩ := rd_in h6
  exact ⟨⟨d, a, b, c, n, t, l⟩, rfl, hl⟩
theorem rd_ssr (h : RD enc Try.prog W 35 cs) : ∃ s : SSr, cs = [s.v] ∧ SlM (memOf W) 7 s.a s.len (s.xs.map srC) ∧ ∀ y ∈ s.xs, SlM (memOf W) 1 y.list.a y.list.len (y.list.xs.map inC) := by
  obtain ⟨a, len, cap, ls, rfl, _, _, hs, hel⟩ := h.slice (und_ok tok (t := 35) rfl) (size := 7) (by kernel_rfl) (by omega)
  obtain ⟨xs, rfl, hq⟩ := list_of (f := srC) (Q := fun y : Sr => SlM (memOf W) 1 y.list.a y.list.len (y.list.xs.map inC)) fun c hc => rd_sr (hel c hc)
  exact ⟨⟨a, len, cap, xs⟩, rfl, hs, hq⟩
theorem rd_ax (h : RD enc Try.prog W 37 cs) : ∃ x : Ax, cs = axC x ∧ AxIn (memOf W) x := by
  obtain ⟨_, _, rfl, h0, _, _, rfl, h1, _, _, rfl, h2, _, _, rfl, h3, _, _, rfl, h4, _, _, rfl, h5, _, _, rfl, h6, _, _, rfl, h7, rfl⟩ := h.struct (und_ok tok (t := 37) rfl) (by kernel_rfl)
  obtain ⟨k, rfl, _⟩ := h0.int uU8
  obtain ⟨o, rfl, _⟩ := h1.int uInt
  obtain ⟨au, rfl, _⟩ := h2.int uInt
  obtain ⟨n, rfl, _⟩ := h3.int uInt
  obtain ⟨g, rfl, hg⟩ := rd_smb h4
  obtain ⟨t, rfl⟩ := rd_tx h5
  obtain ⟨y, rfl⟩ := h6.bool uBool
  obtain ⟨s, rfl, hs, hy⟩ := rd_ssr h7
  exact ⟨⟨k, o, au, n, g, t, y, s⟩, rfl, ⟨hg, hs, hy⟩⟩
theorem rd_saxc (h : RD enc Try.prog W 22 cs) : ∃ s : SAx, cs = [s.v] ∧ SaIn (memOf W) s ∧ s.len ≤ s.cap := by
  obtain ⟨a, len, cap, ls, rfl, hlc, _, hs, hel⟩ := h.slice (und_ok tok (t := 22) rfl) (size := 10) (by kernel_rfl) (by omega)
  obtain ⟨xs, rfl, hq⟩ := list_of (f := axC) (Q := fun x : Ax => AxIn (memOf W) x) fun c hc => rd_ax (hel c hc)
  exact ⟨⟨a, len, cap, xs⟩, rfl, ⟨hs, hq⟩, hlc⟩
theorem rd_sax (h : RD enc Try.prog W 22 cs) : ∃ s : SAx, cs = [s.v] ∧ SaIn (memOf W) s := by
  obtain ⟨s, h1, h2, _⟩ := rd_saxc h
  exact ⟨s, h1, h2⟩
end
theorem u16_r {n : Int} (h : (Lit.int .u16 n).wf = true) : 0 ≤ n ∧ n < 65536 := by
  have h' : (decide (IntKind.min .u16 ≤ n) && decide (n ≤ IntKind.max .u16)) = true := h
  simp only [Bool.and_eq_true, decide_eq_true_eq] at h'
  have e1 : IntKind.min .u16 = 0 := by kernel_rfl
  have e2 : IntKind.max .u16 = 65535 := by kernel_rfl
  omega
theorem own : ownKnob Try.prog.godebug = none := by kernel_rfl
theorem laid : laidOutB Try.prog = true := by kernel_rfl
end Go.Proofs.Ytbpgiodfccijmaa
