import Derived.Test.YtemiflllckincaaK5
namespace Go.Proofs.Ytemiflllckincaa
open Go.Chi

/-! ### what a record does to a row -/
def freshR (x : Ra) : Bool := ((!x.voted) && (!x.decided)) && (!x.learnt)
def learnR (x : Ra) (y : Bool) : Bool := ((!x.decided) && (!x.learnt)) && ((!y) || (x.voted && x.yes))
abbrev RwT : Nat := 39
theorem fresh_ok (M : Mem) (L : HL) (br : Nat) (pre post : List Value) (x : Rw) (r : Rc) (hm : (br, Obj.cells ⟨pre ++ (rwC x ++ post)⟩ 39 (0, 0)) ∈ L) :
    TrQ Try.prog 36 [.pointer (some ⟨br, pre.length, none⟩), .agg ⟨rcC r⟩] M L (.bool (freshR x.abs)) := by
  refine Tr.intro 24 Try.func36 rfl rfl Try.call36 rfl ?_
  intro C hC hro
  repeat (first | with_reducible refine run_seq ?_ | with_reducible refine run_region ?_ | with_reducible refine runL_nil ?_ | with_reducible refine run_skip ?_ | with_reducible refine run_block ?_ | with_reducible refine run_inBlock ?_ | refine run_exit rfl ?_ | refine runL_q (qt_pev tok rfl) rfl rfl rfl ?_ | refine runL_g rfl rfl (qt_pev tok rfl) rfl rfl rfl rfl rfl ?_ | refine runL_q (qt_ld tok rfl (by (repeat (first | with_reducible apply List.mem_cons_self | with_reducible assumption | with_reducible apply List.mem_cons_of_mem | with_reducible apply List.mem_append_right))) (by rfl)) rfl rfl rfl ?_ | refine runL_g rfl rfl (qt_ld tok rfl (by (repeat (first | with_reducible apply List.mem_cons_self | with_reducible assumption | with_reducible apply List.mem_cons_of_mem | with_reducible apply List.mem_append_right))) (by rfl)) rfl rfl rfl rfl rfl ?_ | (refine runL_op0 (st_store tok rfl rfl rfl rfl rfl (by (repeat (first | with_reducible apply Upd.here | with_reducible apply Upd.there | with_reducible apply Upd.append_left))) (by rfl)) ?_; rintro _ _ _ ⟨rfl, rfl, rfl⟩) | (refine runL_op (st_box rfl) rfl rfl rfl ?_; rintro _ _ _ ⟨_, rfl, rfl, rfl⟩) | (refine runL_op (st_alloc tok rfl) rfl rfl rfl ?_; rintro _ _ _ ⟨_, rfl, rfl, rfl⟩) | (refine runL_op (st_buildSlice tok rfl rfl rfl rfl rfl rfl rfl) rfl rfl rfl ?_; rintro _ _ _ ⟨_, rfl, rfl, rfl⟩) | refine runL_q (qt_ldB tok rfl (SegAt.mid _ _ _) (by (repeat (first | with_reducible apply List.mem_cons_self | with_reducible assumption | with_reducible apply List.mem_cons_of_mem | with_reducible apply List.mem_append_right))) (by rfl)) rfl rfl rfl ?_ | refine runL_g rfl rfl (qt_ldB tok rfl (SegAt.mid _ _ _) (by (repeat (first | with_reducible apply List.mem_cons_self | with_reducible assumption | with_reducible apply List.mem_cons_of_mem | with_reducible apply List.mem_append_right))) (by rfl)) rfl rfl rfl rfl rfl ?_)
  exact run_ret hC (rs := [.tmp 4]) rfl (resT rfl resN) (fun _ h => h.drop) ⟨rfl, rfl, rfl⟩
theorem learnable_ok (M : Mem) (L : HL) (br : Nat) (pre post : List Value) (x : Rw) (r : Rc) (hm : (br, Obj.cells ⟨pre ++ (rwC x ++ post)⟩ 39 (0, 0)) ∈ L) :
    TrQ Try.prog 39 [.pointer (some ⟨br, pre.length, none⟩), .agg ⟨rcC r⟩] M L (.bool (learnR x.abs r.yes)) := by
  refine Tr.intro 34 Try.func39 rfl rfl Try.call39 rfl ?_
  intro C hC hro
  repeat (first | with_reducible refine run_seq ?_ | with_reducible refine run_region ?_ | with_reducible refine runL_nil ?_ | with_reducible refine run_skip ?_ | with_reducible refine run_block ?_ | with_reducible refine run_inBlock ?_ | refine run_exit rfl ?_ | refine runL_q (qt_pev tok rfl) rfl rfl rfl ?_ | refine runL_g rfl rfl (qt_pev tok rfl) rfl rfl rfl rfl rfl ?_ | refine runL_q (qt_ld tok rfl (by (repeat (first | with_reducible apply List.mem_cons_self | with_reducible assumption | with_reducible apply List.mem_cons_of_mem | with_reducible apply List.mem_append_right))) (by rfl)) rfl rfl rfl ?_ | refine runL_g rfl rfl (qt_ld tok rfl (by (repeat (first | with_reducible apply List.mem_cons_self | with_reducible assumption | with_reducible apply List.mem_cons_of_mem | with_reducible apply List.mem_append_right))) (by rfl)) rfl rfl rfl rfl rfl ?_ | (refine runL_op0 (st_store tok rfl rfl rfl rfl rfl (by (repeat (first | with_reducible apply Upd.here | with_reducible apply Upd.there | with_reducible apply Upd.append_left))) (by rfl)) ?_; rintro _ _ _ ⟨rfl, rfl, rfl⟩) | (refine runL_op (st_box rfl) rfl rfl rfl ?_; rintro _ _ _ ⟨_, rfl, rfl, rfl⟩) | (refine runL_op (st_alloc tok rfl) rfl rfl rfl ?_; rintro _ _ _ ⟨_, rfl, rfl, rfl⟩) | (refine runL_op (st_buildSlice tok rfl rfl rfl rfl rfl rfl rfl) rfl rfl rfl ?_; rintro _ _ _ ⟨_, rfl, rfl, rfl⟩) | refine runL_q (qt_ldB tok rfl (SegAt.mid _ _ _) (by (repeat (first | with_reducible apply List.mem_cons_self | with_reducible assumption | with_reducible apply List.mem_cons_of_mem | with_reducible apply List.mem_append_right))) (by rfl)) rfl rfl rfl ?_ | refine runL_g rfl rfl (qt_ldB tok rfl (SegAt.mid _ _ _) (by (repeat (first | with_reducible apply List.mem_cons_self | with_reducible assumption | with_reducible apply List.mem_cons_of_mem | with_reducible apply List.mem_append_right))) (by rfl)) rfl rfl rfl rfl rfl ?_)
  exact run_ret hC (rs := [.tmp 4]) rfl (resT rfl resN) (fun _ h => h.drop) ⟨rfl, rfl, rfl⟩
def voteA (x : Ra) (r : Rc) : Ra := { x with voted := true, yes := r.yes, auditor := r.auditor, mem := r.mem.xs, body := r.body }
def decideA (x : Ra) (r : Rc) : Ra := if r.yes = true then { x with decided := true, commit := r.yes, auditor := r.auditor, mem := r.mem.xs, tags := r.tags.xs } else { x with decided := true, commit := r.yes }
def learnA (x : Ra) (r : Rc) : Ra := { x with learnt := true, did := r.yes }
/-- what is left of a row by a record: told as f says, wherever it stands -/
def DoK (f : Ra → Rc → Ra) (M : Mem) (L : HL) (br : Nat) (pre post : List Value) (x : Rw) (r : Rc) : Value → Mem → HL → Prop :=
  fun _ M' L' => M.le M' ∧ ∃ x' : Rw, x'.abs = f x.abs r ∧ RwOk M' x' ∧ L' = (br, .cells ⟨pre ++ (rwC x' ++ post)⟩ 39 (0, 0)) :: L
set_option maxHeartbeats 8000000 in
theorem vote_ok (M : Mem) (L : HL) (br : Nat) (pre post : List Value) (x : Rw) (r : Rc) (hx : RwOk M x) (hr : RcOk M r) :
    Tr Try.prog 37 [.pointer (some ⟨br, pre.length, none⟩), .agg ⟨rcC r⟩] M ((br, .cells ⟨pre ++ (rwC x ++ post)⟩ 39 (0, 0)) :: L) (DoK voteA M L br pre post x r) := by
  refine Tr.intro 28 Try.func37 rfl rfl Try.call37 rfl ?_
  intro C hC hro
  repeat (first | with_reducible refine run_seq ?_ | with_reducible refine run_region ?_ | with_reducible refine runL_nil ?_ | with_reducible refine run_skip ?_ | with_reducible refine run_block ?_ | with_reducible refine run_inBlock ?_ | refine run_exit rfl ?_ | refine runL_q (qt_pev tok rfl) rfl rfl rfl ?_ | refine runL_g rfl rfl (qt_pev tok rfl) rfl rfl rfl rfl rfl ?_ | refine runL_q (qt_ld tok rfl (by (repeat (first | with_reducible apply List.mem_cons_self | with_reducible assumption | with_reducible apply List.mem_cons_of_mem | with_reducible apply List.mem_append_right))) (by rfl)) rfl rfl rfl ?_ | refine runL_g rfl rfl (qt_ld tok rfl (by (repeat (first | with_reducible apply List.mem_cons_self | with_reducible assumption | with_reducible apply List.mem_cons_of_mem | with_reducible apply List.mem_append_right))) (by rfl)) rfl rfl rfl rfl rfl ?_ | (refine runL_op0 (st_store tok rfl rfl rfl rfl rfl (by (repeat (first | with_reducible apply Upd.here | with_reducible apply Upd.there | with_reducible apply Upd.append_left))) (by rfl)) ?_; rintro _ _ _ ⟨rfl, rfl, rfl⟩) | (refine runL_op (st_box rfl) rfl rfl rfl ?_; rintro _ _ _ ⟨_, rfl, rfl, rfl⟩) | (refine runL_op (st_alloc tok rfl) rfl rfl rfl ?_; rintro _ _ _ ⟨_, rfl, rfl, rfl⟩) | (refine runL_op (st_buildSlice tok rfl rfl rfl rfl rfl rfl rfl) rfl rfl rfl ?_; rintro _ _ _ ⟨_, rfl, rfl, rfl⟩))
  refine prn_start mixed ?_
  refine pr_q 0 (by decide +kernel) rfl (qt_pev tok rfl) rfl rfl rfl ?_
  refine pr_q 1 (by decide +kernel) rfl (qt_pev tok rfl) rfl rfl rfl ?_
  refine pr_q 2 (by decide +kernel) rfl (qt_pev tok rfl) rfl rfl rfl ?_
  refine pr_q 3 (by decide +kernel) rfl (qt_pev tok rfl) rfl rfl rfl ?_
  refine pr_q 4 (by decide +kernel) rfl (qt_pev tok rfl) rfl rfl rfl ?_
  refine pr_q 5 (by decide +kernel) rfl (qt_pev tok rfl) rfl rfl rfl ?_
  refine pr_q 6 (by decide +kernel) rfl (qt_ld tok rfl (by (repeat (first | with_reducible apply List.mem_cons_self | with_reducible assumption | with_reducible apply List.mem_cons_of_mem | with_reducible apply List.mem_append_right))) (by rfl)) rfl rfl rfl ?_
  refine pr_q 7 (by decide +kernel) rfl (qt_pev tok rfl) rfl rfl rfl ?_
  refine pr_q 8 (by decide +kernel) rfl (qt_ld tok rfl (by (repeat (first | with_reducible apply List.mem_cons_self | with_reducible assumption | with_reducible apply List.mem_cons_of_mem | with_reducible apply List.mem_append_right))) (by rfl)) rfl rfl rfl ?_
  refine pr_q 9 (by decide +kernel) rfl (qt_pev tok rfl) rfl rfl rfl ?_
  refine pr_q 10 (by decide +kernel) rfl (qt_ld tok rfl (by (repeat (first | with_reducible apply List.mem_cons_self | with_reducible assumption | with_reducible apply List.mem_cons_of_mem | with_reducible apply List.mem_append_right))) (by rfl)) rfl rfl rfl ?_
  refine pr_q 12 (by decide +kernel) rfl (qt_pev tok rfl) rfl rfl rfl ?_
  refine pr_q 13 (by decide +kernel) rfl (qt_ld tok rfl (by (repeat (first | with_reducible apply List.mem_cons_self | with_reducible assumption | with_reducible apply List.mem_cons_of_mem | with_reducible apply List.mem_append_right))) (by rfl)) rfl rfl rfl ?_
  refine pr_one 11 (by decide +kernel) (eff1 11 rfl (st_callF rfl (fun _ => cloneM_ok _ _ r.mem hr.mem)) (by decide +kernel) (qs := _) rfl rfl rfl rfl ?_)
  rintro _ M2 _ ⟨hM2, rfl, m', rfl, hmx, hmo⟩
  refine ⟨by (repeat (first | exact trivial | refine And.intro (pend_q rfl rfl rfl (qt_pev tok rfl)) ?_ | refine And.intro (pend_q rfl rfl rfl (qt_ld tok rfl (by (repeat (first | with_reducible apply List.mem_cons_self | with_reducible assumption | with_reducible apply List.mem_cons_of_mem | with_reducible apply List.mem_append_right))) (by rfl))) ?_)), ?_⟩
  refine pr_q 14 (by decide +kernel) rfl (qt_pev tok rfl) rfl rfl rfl ?_
  refine pr_q 15 (by decide +kernel) rfl (qt_pev tok rfl) rfl rfl rfl ?_
  refine pr_one 16 (by decide +kernel) (eff0 16 rfl (st_store tok rfl rfl rfl rfl rfl (by (repeat (first | with_reducible apply Upd.here | with_reducible apply Upd.there | with_reducible apply Upd.append_left))) (setE_mid (by rfl))) (by decide +kernel) (qs := _) rfl ?_)
  rintro _ _ _ ⟨rfl, rfl, rfl⟩
  refine ⟨by (repeat (first | exact trivial | refine And.intro (pend_q rfl rfl rfl (qt_pev tok rfl)) ?_ | refine And.intro (pend_q rfl rfl rfl (qt_ld tok rfl (by (repeat (first | with_reducible apply List.mem_cons_self | with_reducible assumption | with_reducible apply List.mem_cons_of_mem | with_reducible apply List.mem_append_right))) (by rfl))) ?_)), ?_⟩
  refine pr_q 17 (by decide +kernel) rfl (qt_pev tok rfl) rfl rfl rfl ?_
  refine pr_q 18 (by decide +kernel) rfl (qt_pev tok rfl) rfl rfl rfl ?_
  refine pr_one 19 (by decide +kernel) (eff0 19 rfl (st_store tok rfl rfl rfl rfl rfl (by (repeat (first | with_reducible apply Upd.here | with_reducible apply Upd.there | with_reducible apply Upd.append_left))) (setE_mid (by rfl))) (by decide +kernel) (qs := _) rfl ?_)
  rintro _ _ _ ⟨rfl, rfl, rfl⟩
  refine ⟨by (repeat (first | exact trivial | refine And.intro (pend_q rfl rfl rfl (qt_pev tok rfl)) ?_ | refine And.intro (pend_q rfl rfl rfl (qt_ld tok rfl (by (repeat (first | with_reducible apply List.mem_cons_self | with_reducible assumption | with_reducible apply List.mem_cons_of_mem | with_reducible apply List.mem_append_right))) (by rfl))) ?_)), ?_⟩
  refine pr_q 20 (by decide +kernel) rfl (qt_pev tok rfl) rfl rfl rfl ?_
  refine pr_q 21 (by decide +kernel) rfl (qt_pev tok rfl) rfl rfl rfl ?_
  refine pr_one 22 (by decide +kernel) (eff0 22 rfl (st_store tok rfl rfl rfl rfl rfl (by (repeat (first | with_reducible apply Upd.here | with_reducible apply Upd.there | with_reducible apply Upd.append_left))) (setE_mid (by rfl))) (by decide +kernel) (qs := _) rfl ?_)
  rintro _ _ _ ⟨rfl, rfl, rfl⟩
  refine ⟨by (repeat (first | exact trivial | refine And.intro (pend_q rfl rfl rfl (qt_pev tok rfl)) ?_ | refine And.intro (pend_q rfl rfl rfl (qt_ld tok rfl (by (repeat (first | with_reducible apply List.mem_cons_self | with_reducible assumption | with_reducible apply List.mem_cons_of_mem | with_reducible apply List.mem_append_right))) (by rfl))) ?_)), ?_⟩
  refine pr_q 23 (by decide +kernel) rfl (qt_pev tok rfl) rfl rfl rfl ?_
  refine pr_q 24 (by decide +kernel) rfl (qt_pev tok rfl) rfl rfl rfl ?_
  refine pr_one 25 (by decide +kernel) (eff0 25 rfl (st_store tok rfl rfl rfl rfl rfl (by (repeat (first | with_reducible apply Upd.here | with_reducible apply Upd.there | with_reducible apply Upd.append_left))) (setE_mid (by rfl))) (by decide +kernel) (qs := _) rfl ?_)
  rintro _ _ _ ⟨rfl, rfl, rfl⟩
  refine ⟨by (repeat (first | exact trivial | refine And.intro (pend_q rfl rfl rfl (qt_pev tok rfl)) ?_ | refine And.intro (pend_q rfl rfl rfl (qt_ld tok rfl (by (repeat (first | with_reducible apply List.mem_cons_self | with_reducible assumption | with_reducible apply List.mem_cons_of_mem | with_reducible apply List.mem_append_right))) (by rfl))) ?_)), ?_⟩
  refine pr_q 26 (by decide +kernel) rfl (qt_pev tok rfl) rfl rfl rfl ?_
  refine pr_q 27 (by decide +kernel) rfl (qt_pev tok rfl) rfl rfl rfl ?_
  refine pr_one 28 (by decide +kernel) (eff0 28 rfl (st_store tok rfl rfl rfl rfl rfl (by (repeat (first | with_reducible apply Upd.here | with_reducible apply Upd.there | with_reducible apply Upd.append_left))) (setE_mid (by rfl))) (by decide +kernel) (qs := _) rfl ?_)
  rintro _ _ _ ⟨rfl, rfl, rfl⟩
  refine ⟨trivial, ?_⟩
  refine pr_end (by decide +kernel) (by decide +kernel) ?_
  exact run_end hC (rs := []) rfl resN (fun _ h => h.drop) ⟨hM2, { x with voted := true, yes := r.yes, auditor := r.auditor, mem := m', body := r.body }, by simp only [Rw.abs, voteA, hmx], ⟨hmo, hx.tags.le hM2⟩, rfl⟩
set_option maxHeartbeats 8000000 in
theorem learn_ok (M : Mem) (L : HL) (br : Nat) (pre post : List Value) (x : Rw) (r : Rc) (hx : RwOk M x) :
    Tr Try.prog 40 [.pointer (some ⟨br, pre.length, none⟩), .agg ⟨rcC r⟩] M ((br, .cells ⟨pre ++ (rwC x ++ post)⟩ 39 (0, 0)) :: L) (DoK learnA M L br pre post x r) := by
  refine Tr.intro 12 Try.func40 rfl rfl Try.call40 rfl ?_
  intro C hC hro
  repeat (first | with_reducible refine run_seq ?_ | with_reducible refine run_region ?_ | with_reducible refine runL_nil ?_ | with_reducible refine run_skip ?_ | with_reducible refine run_block ?_ | with_reducible refine run_inBlock ?_ | refine run_exit rfl ?_ | refine runL_q (qt_pev tok rfl) rfl rfl rfl ?_ | refine runL_g rfl rfl (qt_pev tok rfl) rfl rfl rfl rfl rfl ?_ | refine runL_q (qt_ld tok rfl (by (repeat (first | with_reducible apply List.mem_cons_self | with_reducible assumption | with_reducible apply List.mem_cons_of_mem | with_reducible apply List.mem_append_right))) (by rfl)) rfl rfl rfl ?_ | refine runL_g rfl rfl (qt_ld tok rfl (by (repeat (first | with_reducible apply List.mem_cons_self | with_reducible assumption | with_reducible apply List.mem_cons_of_mem | with_reducible apply List.mem_append_right))) (by rfl)) rfl rfl rfl rfl rfl ?_ | (refine runL_op0 (st_store tok rfl rfl rfl rfl rfl (by (repeat (first | with_reducible apply Upd.here | with_reducible apply Upd.there | with_reducible apply Upd.append_left))) (by rfl)) ?_; rintro _ _ _ ⟨rfl, rfl, rfl⟩) | (refine runL_op (st_box rfl) rfl rfl rfl ?_; rintro _ _ _ ⟨_, rfl, rfl, rfl⟩) | (refine runL_op (st_alloc tok rfl) rfl rfl rfl ?_; rintro _ _ _ ⟨_, rfl, rfl, rfl⟩) | (refine runL_op (st_buildSlice tok rfl rfl rfl rfl rfl rfl rfl) rfl rfl rfl ?_; rintro _ _ _ ⟨_, rfl, rfl, rfl⟩))
  refine prn_start mixed ?_
  refine pr_q 0 (by decide +kernel) rfl (qt_pev tok rfl) rfl rfl rfl ?_
  refine pr_q 1 (by decide +kernel) rfl (qt_pev tok rfl) rfl rfl rfl ?_
  refine pr_q 2 (by decide +kernel) rfl (qt_pev tok rfl) rfl rfl rfl ?_
  refine pr_q 3 (by decide +kernel) rfl (qt_ld tok rfl (by (repeat (first | with_reducible apply List.mem_cons_self | with_reducible assumption | with_reducible apply List.mem_cons_of_mem | with_reducible apply List.mem_append_right))) (by rfl)) rfl rfl rfl ?_
  refine pr_q 4 (by decide +kernel) rfl (qt_pev tok rfl) rfl rfl rfl ?_
  refine pr_q 5 (by decide +kernel) rfl (qt_pev tok rfl) rfl rfl rfl ?_
  refine pr_one 6 (by decide +kernel) (eff0 6 rfl (st_store tok rfl rfl rfl rfl rfl (by (repeat (first | with_reducible apply Upd.here | with_reducible apply Upd.there | with_reducible apply Upd.append_left))) (setE_mid (by rfl))) (by decide +kernel) (qs := _) rfl ?_)
  rintro _ _ _ ⟨rfl, rfl, rfl⟩
  refine ⟨by (repeat (first | exact trivial | refine And.intro (pend_q rfl rfl rfl (qt_pev tok rfl)) ?_ | refine And.intro (pend_q rfl rfl rfl (qt_ld tok rfl (by (repeat (first | with_reducible apply List.mem_cons_self | with_reducible assumption | with_reducible apply List.mem_cons_of_mem | with_reducible apply List.mem_append_right))) (by rfl))) ?_)), ?_⟩
  refine pr_q 7 (by decide +kernel) rfl (qt_pev tok rfl) rfl rfl rfl ?_
  refine pr_q 8 (by decide +kernel) rfl (qt_pev tok rfl) rfl rfl rfl ?_
  refine pr_one 9 (by decide +kernel) (eff0 9 rfl (st_store tok rfl rfl rfl rfl rfl (by (repeat (first | with_reducible apply Upd.here | with_reducible apply Upd.there | with_reducible apply Upd.append_left))) (setE_mid (by rfl))) (by decide +kernel) (qs := _) rfl ?_)
  rintro _ _ _ ⟨rfl, rfl, rfl⟩
  refine ⟨trivial, ?_⟩
  refine pr_end (by decide +kernel) (by decide +kernel) ?_
  exact run_end hC (rs := []) rfl resN (fun _ h => h.drop) ⟨Mem.le_refl _, { x with learnt := true, did := r.yes }, rfl, ⟨hx.mem, hx.tags⟩, rfl⟩
set_option maxHeartbeats 8000000 in
theorem decide_ok (M : Mem) (L : HL) (br : Nat) (pre post : List Value) (x : Rw) (r : Rc) (hx : RwOk M x) (hr : RcOk M r) :
    Tr Try.prog 38 [.pointer (some ⟨br, pre.length, none⟩), .agg ⟨rcC r⟩] M ((br, .cells ⟨pre ++ (rwC x ++ post)⟩ 39 (0, 0)) :: L) (DoK decideA M L br pre post x r) := by
  refine Tr.intro 31 Try.func38 rfl rfl Try.call38 rfl ?_
  intro C hC hro
  repeat (first | with_reducible refine run_seq ?_ | with_reducible refine run_region ?_ | with_reducible refine runL_nil ?_ | with_reducible refine run_skip ?_ | with_reducible refine run_block ?_ | with_reducible refine run_inBlock ?_ | refine run_exit rfl ?_ | refine runL_q (qt_pev tok rfl) rfl rfl rfl ?_ | refine runL_g rfl rfl (qt_pev tok rfl) rfl rfl rfl rfl rfl ?_ | refine runL_q (qt_ld tok rfl (by (repeat (first | with_reducible apply List.mem_cons_self | with_reducible assumption | with_reducible apply List.mem_cons_of_mem | with_reducible apply List.mem_append_right))) (by rfl)) rfl rfl rfl ?_ | refine runL_g rfl rfl (qt_ld tok rfl (by (repeat (first | with_reducible apply List.mem_cons_self | with_reducible assumption | with_reducible apply List.mem_cons_of_mem | with_reducible apply List.mem_append_right))) (by rfl)) rfl rfl rfl rfl rfl ?_ | (refine runL_op0 (st_store tok rfl rfl rfl rfl rfl (by (repeat (first | with_reducible apply Upd.here | with_reducible apply Upd.there | with_reducible apply Upd.append_left))) (by rfl)) ?_; rintro _ _ _ ⟨rfl, rfl, rfl⟩) | (refine runL_op (st_box rfl) rfl rfl rfl ?_; rintro _ _ _ ⟨_, rfl, rfl, rfl⟩) | (refine runL_op (st_alloc tok rfl) rfl rfl rfl ?_; rintro _ _ _ ⟨_, rfl, rfl, rfl⟩) | (refine runL_op (st_buildSlice tok rfl rfl rfl rfl rfl rfl rfl) rfl rfl rfl ?_; rintro _ _ _ ⟨_, rfl, rfl, rfl⟩))
  refine prn_start mixed ?_
  refine pr_q 0 (by decide +kernel) rfl (qt_pev tok rfl) rfl rfl rfl ?_
  refine pr_q 1 (by decide +kernel) rfl (qt_pev tok rfl) rfl rfl rfl ?_
  refine pr_q 2 (by decide +kernel) rfl (qt_pev tok rfl) rfl rfl rfl ?_
  refine pr_q 3 (by decide +kernel) rfl (qt_ld tok rfl (by (repeat (first | with_reducible apply List.mem_cons_self | with_reducible assumption | with_reducible apply List.mem_cons_of_mem | with_reducible apply List.mem_append_right))) (by rfl)) rfl rfl rfl ?_
  refine pr_q 4 (by decide +kernel) rfl (qt_pev tok rfl) rfl rfl rfl ?_
  refine pr_q 5 (by decide +kernel) rfl (qt_pev tok rfl) rfl rfl rfl ?_
  refine pr_one 6 (by decide +kernel) (eff0 6 rfl (st_store tok rfl rfl rfl rfl rfl (by (repeat (first | with_reducible apply Upd.here | with_reducible apply Upd.there | with_reducible apply Upd.append_left))) (setE_mid (by rfl))) (by decide +kernel) (qs := _) rfl ?_)
  rintro _ _ _ ⟨rfl, rfl, rfl⟩
  refine ⟨by (repeat (first | exact trivial | refine And.intro (pend_q rfl rfl rfl (qt_pev tok rfl)) ?_ | refine And.intro (pend_q rfl rfl rfl (qt_ld tok rfl (by (repeat (first | with_reducible apply List.mem_cons_self | with_reducible assumption | with_reducible apply List.mem_cons_of_mem | with_reducible apply List.mem_append_right))) (by rfl))) ?_)), ?_⟩
  refine pr_q 7 (by decide +kernel) rfl (qt_pev tok rfl) rfl rfl rfl ?_
  refine pr_q 8 (by decide +kernel) rfl (qt_pev tok rfl) rfl rfl rfl ?_
  refine pr_one 9 (by decide +kernel) (eff0 9 rfl (st_store tok rfl rfl rfl rfl rfl (by (repeat (first | with_reducible apply Upd.here | with_reducible apply Upd.there | with_reducible apply Upd.append_left))) (setE_mid (by rfl))) (by decide +kernel) (qs := _) rfl ?_)
  rintro _ _ _ ⟨rfl, rfl, rfl⟩
  refine ⟨trivial, ?_⟩
  refine pr_end (by decide +kernel) (by decide +kernel) ?_
  repeat (first | with_reducible refine run_seq ?_ | with_reducible refine run_region ?_ | with_reducible refine runL_nil ?_ | with_reducible refine run_skip ?_ | with_reducible refine run_block ?_ | with_reducible refine run_inBlock ?_ | refine run_exit rfl ?_ | refine runL_q (qt_pev tok rfl) rfl rfl rfl ?_ | refine runL_g rfl rfl (qt_pev tok rfl) rfl rfl rfl rfl rfl ?_ | refine runL_q (qt_ld tok rfl (by (repeat (first | with_reducible apply List.mem_cons_self | with_reducible assumption | with_reducible apply List.mem_cons_of_mem | with_reducible apply List.mem_append_right))) (by rfl)) rfl rfl rfl ?_ | refine runL_g rfl rfl (qt_ld tok rfl (by (repeat (first | with_reducible apply List.mem_cons_self | with_reducible assumption | with_reducible apply List.mem_cons_of_mem | with_reducible apply List.mem_append_right))) (by rfl)) rfl rfl rfl rfl rfl ?_ | (refine runL_op0 (st_store tok rfl rfl rfl rfl rfl (by (repeat (first | with_reducible apply Upd.here | with_reducible apply Upd.there | with_reducible apply Upd.append_left))) (by rfl)) ?_; rintro _ _ _ ⟨rfl, rfl, rfl⟩) | (refine runL_op (st_box rfl) rfl rfl rfl ?_; rintro _ _ _ ⟨_, rfl, rfl, rfl⟩) | (refine runL_op (st_alloc tok rfl) rfl rfl rfl ?_; rintro _ _ _ ⟨_, rfl, rfl, rfl⟩) | (refine runL_op (st_buildSlice tok rfl rfl rfl rfl rfl rfl rfl) rfl rfl rfl ?_; rintro _ _ _ ⟨_, rfl, rfl, rfl⟩))
  refine run_cond rfl (fun hy => ?_) (fun hy => ?_)
  · refine prn_start mixed ?_
    refine pr_q 0 (by decide +kernel) rfl (qt_pev tok rfl) rfl rfl rfl ?_
    refine pr_q 1 (by decide +kernel) rfl (qt_pev tok rfl) rfl rfl rfl ?_
    refine pr_q 2 (by decide +kernel) rfl (qt_pev tok rfl) rfl rfl rfl ?_
    refine pr_q 3 (by decide +kernel) rfl (qt_pev tok rfl) rfl rfl rfl ?_
    refine pr_q 4 (by decide +kernel) rfl (qt_ld tok rfl (by (repeat (first | with_reducible apply List.mem_cons_self | with_reducible assumption | with_reducible apply List.mem_cons_of_mem | with_reducible apply List.mem_append_right))) (by rfl)) rfl rfl rfl ?_
    refine pr_q 5 (by decide +kernel) rfl (qt_pev tok rfl) rfl rfl rfl ?_
    refine pr_q 6 (by decide +kernel) rfl (qt_ld tok rfl (by (repeat (first | with_reducible apply List.mem_cons_self | with_reducible assumption | with_reducible apply List.mem_cons_of_mem | with_reducible apply List.mem_append_right))) (by rfl)) rfl rfl rfl ?_
    refine pr_q 8 (by decide +kernel) rfl (qt_pev tok rfl) rfl rfl rfl ?_
    refine pr_q 9 (by decide +kernel) rfl (qt_ld tok rfl (by (repeat (first | with_reducible apply List.mem_cons_self | with_reducible assumption | with_reducible apply List.mem_cons_of_mem | with_reducible apply List.mem_append_right))) (by rfl)) rfl rfl rfl ?_
    refine pr_one 7 (by decide +kernel) (eff1 7 rfl (st_callF rfl (fun _ => cloneM_ok _ _ r.mem hr.mem)) (by decide +kernel) (qs := _) rfl rfl rfl rfl ?_)
    rintro _ M2 _ ⟨hM2, rfl, m', rfl, hmx, hmo⟩
    refine ⟨by (repeat (first | exact trivial | refine And.intro (pend_q rfl rfl rfl (qt_pev tok rfl)) ?_ | refine And.intro (pend_q rfl rfl rfl (qt_ld tok rfl (by (repeat (first | with_reducible apply List.mem_cons_self | with_reducible assumption | with_reducible apply List.mem_cons_of_mem | with_reducible apply List.mem_append_right))) (by rfl))) ?_)), ?_⟩
    refine pr_one 10 (by decide +kernel) (eff1 10 rfl (st_callF rfl (fun _ => cloneS_ok _ _ r.tags (hr.tags.le hM2))) (by decide +kernel) (qs := _) rfl rfl rfl rfl ?_)
    rintro _ M3 _ ⟨hM3, rfl, s', rfl, hsx, hso⟩
    refine ⟨by (repeat (first | exact trivial | refine And.intro (pend_q rfl rfl rfl (qt_pev tok rfl)) ?_ | refine And.intro (pend_q rfl rfl rfl (qt_ld tok rfl (by (repeat (first | with_reducible apply List.mem_cons_self | with_reducible assumption | with_reducible apply List.mem_cons_of_mem | with_reducible apply List.mem_append_right))) (by rfl))) ?_)), ?_⟩
    refine pr_q 11 (by decide +kernel) rfl (qt_pev tok rfl) rfl rfl rfl ?_
    refine pr_q 12 (by decide +kernel) rfl (qt_pev tok rfl) rfl rfl rfl ?_
    refine pr_one 13 (by decide +kernel) (eff0 13 rfl (st_store tok rfl rfl rfl rfl rfl (by (repeat (first | with_reducible apply Upd.here | with_reducible apply Upd.there | with_reducible apply Upd.append_left))) (setE_mid (by rfl))) (by decide +kernel) (qs := _) rfl ?_)
    rintro _ _ _ ⟨rfl, rfl, rfl⟩
    refine ⟨by (repeat (first | exact trivial | refine And.intro (pend_q rfl rfl rfl (qt_pev tok rfl)) ?_ | refine And.intro (pend_q rfl rfl rfl (qt_ld tok rfl (by (repeat (first | with_reducible apply List.mem_cons_self | with_reducible assumption | with_reducible apply List.mem_cons_of_mem | with_reducible apply List.mem_append_right))) (by rfl))) ?_)), ?_⟩
    refine pr_q 14 (by decide +kernel) rfl (qt_pev tok rfl) rfl rfl rfl ?_
    refine pr_q 15 (by decide +kernel) rfl (qt_pev tok rfl) rfl rfl rfl ?_
    refine pr_one 16 (by decide +kernel) (eff0 16 rfl (st_store tok rfl rfl rfl rfl rfl (by (repeat (first | with_reducible apply Upd.here | with_reducible apply Upd.there | with_reducible apply Upd.append_left))) (setE_mid (by rfl))) (by decide +kernel) (qs := _) rfl ?_)
    rintro _ _ _ ⟨rfl, rfl, rfl⟩
    refine ⟨by (repeat (first | exact trivial | refine And.intro (pend_q rfl rfl rfl (qt_pev tok rfl)) ?_ | refine And.intro (pend_q rfl rfl rfl (qt_ld tok rfl (by (repeat (first | with_reducible apply List.mem_cons_self | with_reducible assumption | with_reducible apply List.mem_cons_of_mem | with_reducible apply List.mem_append_right))) (by rfl))) ?_)), ?_⟩
    refine pr_q 17 (by decide +kernel) rfl (qt_pev tok rfl) rfl rfl rfl ?_
    refine pr_q 18 (by decide +kernel) rfl (qt_pev tok rfl) rfl rfl rfl ?_
    refine pr_one 19 (by decide +kernel) (eff0 19 rfl (st_store tok rfl rfl rfl rfl rfl (by (repeat (first | with_reducible apply Upd.here | with_reducible apply Upd.there | with_reducible apply Upd.append_left))) (setE_mid (by rfl))) (by decide +kernel) (qs := _) rfl ?_)
    rintro _ _ _ ⟨rfl, rfl, rfl⟩
    refine ⟨trivial, ?_⟩
    refine pr_end (by decide +kernel) (by decide +kernel) ?_
    exact run_end hC (rs := []) rfl resN (fun _ h => h.drop) ⟨Mem.le_trans hM2 hM3, { x with decided := true, commit := r.yes, auditor := r.auditor, mem := m', tags := s' }, by simp only [Rw.abs, decideA, hmx, hsx, if_pos hy], ⟨hmo.le hM3, hso⟩, rfl⟩
  · repeat (first | with_reducible refine run_seq ?_ | with_reducible refine run_region ?_ | with_reducible refine runL_nil ?_ | with_reducible refine run_skip ?_ | with_reducible refine run_block ?_ | with_reducible refine run_inBlock ?_ | refine run_exit rfl ?_ | refine runL_q (qt_pev tok rfl) rfl rfl rfl ?_ | refine runL_g rfl rfl (qt_pev tok rfl) rfl rfl rfl rfl rfl ?_ | refine runL_q (qt_ld tok rfl (by (repeat (first | with_reducible apply List.mem_cons_self | with_reducible assumption | with_reducible apply List.mem_cons_of_mem | with_reducible apply List.mem_append_right))) (by rfl)) rfl rfl rfl ?_ | refine runL_g rfl rfl (qt_ld tok rfl (by (repeat (first | with_reducible apply List.mem_cons_self | with_reducible assumption | with_reducible apply List.mem_cons_of_mem | with_reducible apply List.mem_append_right))) (by rfl)) rfl rfl rfl rfl rfl ?_ | (refine runL_op0 (st_store tok rfl rfl rfl rfl rfl (by (repeat (first | with_reducible apply Upd.here | with_reducible apply Upd.there | with_reducible apply Upd.append_left))) (by rfl)) ?_; rintro _ _ _ ⟨rfl, rfl, rfl⟩) | (refine runL_op (st_box rfl) rfl rfl rfl ?_; rintro _ _ _ ⟨_, rfl, rfl, rfl⟩) | (refine runL_op (st_alloc tok rfl) rfl rfl rfl ?_; rintro _ _ _ ⟨_, rfl, rfl, rfl⟩) | (refine runL_op (st_buildSlice tok rfl rfl rfl rfl rfl rfl rfl) rfl rfl rfl ?_; rintro _ _ _ ⟨_, rfl, rfl, rfl⟩))
    exact run_end hC (rs := []) rfl resN (fun _ h => h.drop) ⟨Mem.le_refl _, { x with decided := true, commit := r.yes }, by simp only [Rw.abs, decideA, if_neg (show ¬ r.yes = true by rw [hy]; simp)], ⟨hx.mem, hx.tags⟩, rfl⟩

/-! ### the kinds -/
def u8 (n : Int) : Value := .int .u8 n
theorem keyU8 : KeyLaw Try.prog 5 u8 := keyInt tok (kt := 5) (k := .u8) (k' := .u8) rfl
def kdV (c d : Nat) : Value := .agg ⟨[fv c, fv d]⟩
def kdKV : KV Int := [(2, kdV 36 37, 0), (3, kdV 36 38, 1), (4, kdV 39 40, 2)]
theorem kinds_ok (M : Mem) (L : HL) : Tr Try.prog 21 [] M L (fun v M' L' => ∃ b, v = .map (some b) ∧ M = M' ∧ L' = (b, .map ⟨ents u8 kdKV⟩ 3) :: L) := by
  refine Tr.intro 6 Try.func21 rfl rfl Try.call21 rfl ?_
  intro C hC hro
  repeat (first | with_reducible refine run_seq ?_ | with_reducible refine run_region ?_ | with_reducible refine runL_nil ?_ | with_reducible refine run_skip ?_ | with_reducible refine run_block ?_ | with_reducible refine run_inBlock ?_ | refine run_exit rfl ?_ | refine runL_q (qt_pev tok rfl) rfl rfl rfl ?_ | refine runL_g rfl rfl (qt_pev tok rfl) rfl rfl rfl rfl rfl ?_ | refine runL_q (qt_ld tok rfl (by (repeat (first | with_reducible apply List.mem_cons_self | with_reducible assumption | with_reducible apply List.mem_cons_of_mem | with_reducible apply List.mem_append_right))) (by rfl)) rfl rfl rfl ?_ | refine runL_g rfl rfl (qt_ld tok rfl (by (repeat (first | with_reducible apply List.mem_cons_self | with_reducible assumption | with_reducible apply List.mem_cons_of_mem | with_reducible apply List.mem_append_right))) (by rfl)) rfl rfl rfl rfl rfl ?_ | (refine runL_op0 (st_store tok rfl rfl rfl rfl rfl (by (repeat (first | with_reducible apply Upd.here | with_reducible apply Upd.there | with_reducible apply Upd.append_left))) (by rfl)) ?_; rintro _ _ _ ⟨rfl, rfl, rfl⟩) | (refine runL_op (st_box rfl) rfl rfl rfl ?_; rintro _ _ _ ⟨_, rfl, rfl, rfl⟩) | (refine runL_op (st_alloc tok rfl) rfl rfl rfl ?_; rintro _ _ _ ⟨_, rfl, rfl, rfl⟩) | (refine runL_op (st_buildSlice tok rfl rfl rfl rfl rfl rfl rfl) rfl rfl rfl ?_; rintro _ _ _ ⟨_, rfl, rfl, rfl⟩) | (refine runL_op (st_makeMapE u8) rfl rfl rfl ?_; rintro _ _ _ ⟨_, rfl, rfl, rfl⟩) | (refine runL_op0 (st_mapUpdate tok keyU8 (.inr rfl) rfl rfl rfl rfl rfl (by (repeat (first | with_reducible apply Upd.here | with_reducible apply Upd.there | with_reducible apply Upd.append_left)))) ?_; rintro _ _ _ ⟨rfl, rfl, rfl⟩))
  exact run_ret hC (rs := [.tmp 0]) rfl (resT rfl resN) (fun _ h => h) ⟨_, rfl, rfl, rfl⟩
end Go.Proofs.Ytemiflllckincaa
