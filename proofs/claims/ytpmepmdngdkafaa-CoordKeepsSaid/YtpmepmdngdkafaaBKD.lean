import Derived.Test.YtpmepmdngdkafaaBKA
import Derived.Test.YtpmepmdngdkafaaBKC
import Derived.Test.YtpmepmdngdkafaaBKB
namespace Go.Proofs.Ytpmepmdngdkafaa
open Go.Chi

/-! ### yes votes, n of them -/
theorem oneRep : ∀ q : Nat, oneL (List.replicate q (Value.int .u8 1)) = true
  | 0 => rfl
  | q + 1 => by rw [List.replicate_succ]; exact oneRep q
theorem six {n : Nat} (h : n ≤ 6) : n = 0 ∨ n = 1 ∨ n = 2 ∨ n = 3 ∨ n = 4 ∨ n = 5 ∨ n = 6 := by omega
set_option maxRecDepth 10000 in
set_option maxHeartbeats 8000000 in
theorem mul64_ok (M : Mem) (L : HL) (n : Nat) (hn : n ≤ 6) : TrQ Try.prog 79 [.int .u64 1, .int .u64 (n : Int)] M L (.tuple ⟨[.int .u64 0, .int .u64 (n : Int)]⟩) := by
  have hn' := six hn
  refine Tr.intro 51 Try.func79 rfl rfl Try.call79 rfl ?_
  intro C hC hro
  rcases hn' with rfl | rfl | rfl | rfl | rfl | rfl | rfl
  all_goals
    repeat (first | with_reducible (first | refine run_seq ?_ | refine run_region ?_ | refine runL_nil ?_ | refine run_skip ?_ | refine run_block ?_ | refine run_inBlock ?_) | refine run_exit rfl ?_ | refine runL_q (qt_pev tok rfl) rfl rfl rfl ?_ | refine runL_g rfl rfl (qt_pev tok rfl) rfl rfl rfl rfl rfl ?_ | refine runL_q (ql tok rfl) rfl rfl rfl ?_ | refine runL_g rfl rfl (ql tok rfl) rfl rfl rfl rfl rfl ?_ | (refine runL_op0 (sst tok rfl rfl rfl rfl rfl) ?_; rintro _ _ _ ⟨rfl, rfl, rfl⟩) | (refine runL_op (st_box rfl) rfl rfl rfl ?_; rintro _ _ _ ⟨_, rfl, rfl, rfl⟩) | (refine runL_op (st_alloc tok rfl) rfl rfl rfl ?_; rintro _ _ _ ⟨_, rfl, rfl, rfl⟩) | (refine runL_op (st_buildSlice tok rfl rfl rfl rfl rfl rfl rfl) rfl rfl rfl ?_; rintro _ _ _ ⟨_, rfl, rfl, rfl⟩) | refine runL_q (qt_shr rfl rfl (fun _ => by decide)) rfl rfl rfl ?_)
    exact run_ret hC (rs := [.tmp 4, .tmp 5]) rfl (resT rfl (resT rfl resN)) (fun _ h => h) ⟨by rfl, rfl, rfl⟩
theorem mul_ok (M : Mem) (L : HL) (n : Nat) (hn : n ≤ 6) : TrQ Try.prog 68 [.int .u64 1, .int .u64 (n : Int)] M L (.tuple ⟨[.int .u64 0, .int .u64 (n : Int)]⟩) := by
  refine Tr.intro 30 Try.func68 rfl rfl Try.call68 rfl ?_
  intro C hC hro
  repeat (first | with_reducible (first | refine run_seq ?_ | refine run_region ?_ | refine runL_nil ?_ | refine run_skip ?_ | refine run_block ?_ | refine run_inBlock ?_) | refine run_exit rfl ?_ | refine runL_q (qt_pev tok rfl) rfl rfl rfl ?_ | refine runL_g rfl rfl (qt_pev tok rfl) rfl rfl rfl rfl rfl ?_ | refine runL_q (ql tok rfl) rfl rfl rfl ?_ | refine runL_g rfl rfl (ql tok rfl) rfl rfl rfl rfl rfl ?_ | (refine runL_op0 (sst tok rfl rfl rfl rfl rfl) ?_; rintro _ _ _ ⟨rfl, rfl, rfl⟩) | (refine runL_op (st_box rfl) rfl rfl rfl ?_; rintro _ _ _ ⟨_, rfl, rfl, rfl⟩) | (refine runL_op (st_alloc tok rfl) rfl rfl rfl ?_; rintro _ _ _ ⟨_, rfl, rfl, rfl⟩) | (refine runL_op (st_buildSlice tok rfl rfl rfl rfl rfl rfl rfl) rfl rfl rfl ?_; rintro _ _ _ ⟨_, rfl, rfl, rfl⟩))
  refine run_cond rfl (fun h => by cases h) (fun _ => ?_)
  repeat (first | with_reducible (first | refine run_seq ?_ | refine run_region ?_ | refine runL_nil ?_ | refine run_skip ?_ | refine run_block ?_ | refine run_inBlock ?_) | refine run_exit rfl ?_ | refine runL_q (qt_pev tok rfl) rfl rfl rfl ?_ | refine runL_g rfl rfl (qt_pev tok rfl) rfl rfl rfl rfl rfl ?_ | refine runL_q (ql tok rfl) rfl rfl rfl ?_ | refine runL_g rfl rfl (ql tok rfl) rfl rfl rfl rfl rfl ?_ | (refine runL_op0 (sst tok rfl rfl rfl rfl rfl) ?_; rintro _ _ _ ⟨rfl, rfl, rfl⟩) | (refine runL_op (st_box rfl) rfl rfl rfl ?_; rintro _ _ _ ⟨_, rfl, rfl, rfl⟩) | (refine runL_op (st_alloc tok rfl) rfl rfl rfl ?_; rintro _ _ _ ⟨_, rfl, rfl, rfl⟩) | (refine runL_op (st_buildSlice tok rfl rfl rfl rfl rfl rfl rfl) rfl rfl rfl ?_; rintro _ _ _ ⟨_, rfl, rfl, rfl⟩) | refine runL_q (qt_callF rfl (fun _ => mul64_ok _ _ n hn)) rfl rfl rfl ?_)
  exact run_ret hC (rs := [.tmp 4, .tmp 5]) rfl (resT rfl (resT rfl resN)) (fun _ h => h) ⟨by rfl, rfl, rfl⟩
set_option maxRecDepth 10000 in
set_option maxHeartbeats 8000000 in
theorem repeat_ok (M : Mem) (L : HL) (bs n : Nat) (hn : n ≤ 6) (hb : (bs, .cells ⟨[.int .u8 1]⟩ 5 (0, 0)) ∈ L) : Tr Try.prog 50 [.slice (some ⟨bs, 0, none⟩) 1 1, .int .i64 (n : Int)] M L (fun v M' L' => M = M' ∧ ∃ b, v = .slice (some ⟨b, 0, none⟩) n n ∧ L' = (b, .cells ⟨List.replicate n (.int .u8 1)⟩ 5 (0, 0)) :: L) := by
  have hn' := six hn
  refine Tr.intro 48 Try.func50 rfl rfl Try.call50 rfl ?_
  intro C hC hro
  repeat (first | with_reducible (first | refine run_seq ?_ | refine run_region ?_ | refine runL_nil ?_ | refine run_skip ?_ | refine run_block ?_ | refine run_inBlock ?_) | refine run_exit rfl ?_ | refine runL_q (qt_pev tok rfl) rfl rfl rfl ?_ | refine runL_g rfl rfl (qt_pev tok rfl) rfl rfl rfl rfl rfl ?_ | refine runL_q (ql tok rfl) rfl rfl rfl ?_ | refine runL_g rfl rfl (ql tok rfl) rfl rfl rfl rfl rfl ?_ | (refine runL_op0 (sst tok rfl rfl rfl rfl rfl) ?_; rintro _ _ _ ⟨rfl, rfl, rfl⟩) | (refine runL_op (st_box rfl) rfl rfl rfl ?_; rintro _ _ _ ⟨_, rfl, rfl, rfl⟩) | (refine runL_op (st_alloc tok rfl) rfl rfl rfl ?_; rintro _ _ _ ⟨_, rfl, rfl, rfl⟩) | (refine runL_op (st_buildSlice tok rfl rfl rfl rfl rfl rfl rfl) rfl rfl rfl ?_; rintro _ _ _ ⟨_, rfl, rfl, rfl⟩))
  refine run_cond rfl (fun h => ?_) (fun _ => ?_)
  · exfalso
    have : (n : Int) < 0 := of_decide_eq_true h
    omega
  repeat (first | with_reducible (first | refine run_seq ?_ | refine run_region ?_ | refine runL_nil ?_ | refine run_skip ?_ | refine run_block ?_ | refine run_inBlock ?_) | refine run_exit rfl ?_)
  iterate 3 (first | refine runL_q (qt_pev tok rfl) rfl rfl rfl ?_ | refine runL_gK rfl rfl (qt_pev tok rfl) rfl rfl rfl ?_ | refine runL_gF rfl rfl rfl rfl rfl ?_ | refine runL_g rfl rfl (qt_pev tok rfl) rfl rfl rfl rfl rfl ?_ | refine runL_q (ql tok rfl) rfl rfl rfl ?_ | refine runL_gK rfl rfl (ql tok rfl) rfl rfl rfl ?_ | refine runL_gF rfl rfl rfl rfl rfl ?_ | refine runL_g rfl rfl (ql tok rfl) rfl rfl rfl rfl rfl ?_ | (refine runL_op0 (sst tok rfl rfl rfl rfl rfl) ?_; rintro _ _ _ ⟨rfl, rfl, rfl⟩) | (refine runL_op (st_box rfl) rfl rfl rfl ?_; rintro _ _ _ ⟨_, rfl, rfl, rfl⟩) | (refine runL_op (st_alloc tok rfl) rfl rfl rfl ?_; rintro _ _ _ ⟨_, rfl, rfl, rfl⟩) | (refine runL_op (st_buildSlice tok rfl rfl rfl rfl rfl rfl rfl) rfl rfl rfl ?_; rintro _ _ _ ⟨_, rfl, rfl, rfl⟩))
  refine runL_as 15 (.int .u64 1) rfl (by rfl) ?_
  iterate 2 (first | refine runL_q (qt_pev tok rfl) rfl rfl rfl ?_ | refine runL_gK rfl rfl (qt_pev tok rfl) rfl rfl rfl ?_ | refine runL_gF rfl rfl rfl rfl rfl ?_ | refine runL_g rfl rfl (qt_pev tok rfl) rfl rfl rfl rfl rfl ?_ | refine runL_q (ql tok rfl) rfl rfl rfl ?_ | refine runL_gK rfl rfl (ql tok rfl) rfl rfl rfl ?_ | refine runL_gF rfl rfl rfl rfl rfl ?_ | refine runL_g rfl rfl (ql tok rfl) rfl rfl rfl rfl rfl ?_ | (refine runL_op0 (sst tok rfl rfl rfl rfl rfl) ?_; rintro _ _ _ ⟨rfl, rfl, rfl⟩) | (refine runL_op (st_box rfl) rfl rfl rfl ?_; rintro _ _ _ ⟨_, rfl, rfl, rfl⟩) | (refine runL_op (st_alloc tok rfl) rfl rfl rfl ?_; rintro _ _ _ ⟨_, rfl, rfl, rfl⟩) | (refine runL_op (st_buildSlice tok rfl rfl rfl rfl rfl rfl rfl) rfl rfl rfl ?_; rintro _ _ _ ⟨_, rfl, rfl, rfl⟩))
  refine runL_as 17 (.int .u64 (n : Int)) rfl (by rw [u64_nat (by omega)]) ?_
  repeat (first | with_reducible (first | refine run_seq ?_ | refine run_region ?_ | refine runL_nil ?_ | refine run_skip ?_ | refine run_block ?_ | refine run_inBlock ?_) | refine run_exit rfl ?_ | refine runL_q (qt_pev tok rfl) rfl rfl rfl ?_ | refine runL_g rfl rfl (qt_pev tok rfl) rfl rfl rfl rfl rfl ?_ | refine runL_q (ql tok rfl) rfl rfl rfl ?_ | refine runL_g rfl rfl (ql tok rfl) rfl rfl rfl rfl rfl ?_ | (refine runL_op0 (sst tok rfl rfl rfl rfl rfl) ?_; rintro _ _ _ ⟨rfl, rfl, rfl⟩) | (refine runL_op (st_box rfl) rfl rfl rfl ?_; rintro _ _ _ ⟨_, rfl, rfl, rfl⟩) | (refine runL_op (st_alloc tok rfl) rfl rfl rfl ?_; rintro _ _ _ ⟨_, rfl, rfl, rfl⟩) | (refine runL_op (st_buildSlice tok rfl rfl rfl rfl rfl rfl rfl) rfl rfl rfl ?_; rintro _ _ _ ⟨_, rfl, rfl, rfl⟩) | refine runL_q (qt_callF rfl (fun _ => mul_ok _ _ n hn)) rfl rfl rfl ?_)
  refine run_cond rfl (fun h => ?_) (fun _ => ?_)
  · exfalso
    have : (decide ((0 : Int) > 0) || decide ((n : Int) > 9223372036854775807)) = true := h
    simp at this
    omega
  repeat (first | with_reducible (first | refine run_seq ?_ | refine run_region ?_ | refine runL_nil ?_ | refine run_skip ?_ | refine run_block ?_ | refine run_inBlock ?_) | refine run_exit rfl ?_)
  iterate 2 (first | refine runL_q (qt_pev tok rfl) rfl rfl rfl ?_ | refine runL_gK rfl rfl (qt_pev tok rfl) rfl rfl rfl ?_ | refine runL_gF rfl rfl rfl rfl rfl ?_ | refine runL_g rfl rfl (qt_pev tok rfl) rfl rfl rfl rfl rfl ?_ | refine runL_q (ql tok rfl) rfl rfl rfl ?_ | refine runL_gK rfl rfl (ql tok rfl) rfl rfl rfl ?_ | refine runL_gF rfl rfl rfl rfl rfl ?_ | refine runL_g rfl rfl (ql tok rfl) rfl rfl rfl rfl rfl ?_ | (refine runL_op0 (sst tok rfl rfl rfl rfl rfl) ?_; rintro _ _ _ ⟨rfl, rfl, rfl⟩) | (refine runL_op (st_box rfl) rfl rfl rfl ?_; rintro _ _ _ ⟨_, rfl, rfl, rfl⟩) | (refine runL_op (st_alloc tok rfl) rfl rfl rfl ?_; rintro _ _ _ ⟨_, rfl, rfl, rfl⟩) | (refine runL_op (st_buildSlice tok rfl rfl rfl rfl rfl rfl rfl) rfl rfl rfl ?_; rintro _ _ _ ⟨_, rfl, rfl, rfl⟩))
  refine runL_as 29 (.int .i64 (n : Int)) rfl (by rw [wrap64_nat (by omega)]) ?_
  refine runL_op (st_makeSlice (n := n) tok rfl rfl rfl rfl rfl rfl rfl (by omega) (by omega)) rfl rfl rfl ?_
  rintro _ _ _ ⟨b, rfl, rfl, rfl⟩
  repeat (first | with_reducible (first | refine run_seq ?_ | refine run_region ?_ | refine runL_nil ?_ | refine run_skip ?_ | refine run_block ?_ | refine run_inBlock ?_) | refine run_exit rfl ?_ | refine runL_q (qt_pev tok rfl) rfl rfl rfl ?_ | refine runL_g rfl rfl (qt_pev tok rfl) rfl rfl rfl rfl rfl ?_ | refine runL_q (ql tok rfl) rfl rfl rfl ?_ | refine runL_g rfl rfl (ql tok rfl) rfl rfl rfl rfl rfl ?_ | (refine runL_op0 (sst tok rfl rfl rfl rfl rfl) ?_; rintro _ _ _ ⟨rfl, rfl, rfl⟩) | (refine runL_op (st_box rfl) rfl rfl rfl ?_; rintro _ _ _ ⟨_, rfl, rfl, rfl⟩) | (refine runL_op (st_alloc tok rfl) rfl rfl rfl ?_; rintro _ _ _ ⟨_, rfl, rfl, rfl⟩) | (refine runL_op (st_buildSlice tok rfl rfl rfl rfl rfl rfl rfl) rfl rfl rfl ?_; rintro _ _ _ ⟨_, rfl, rfl, rfl⟩))
  by_cases h0 : n = 0
  · subst h0
    refine runL_op (st_copy (news := []) tok rfl rfl rfl rfl ⟨⟨[.int .u8 1]⟩, _, _, .inl (List.mem_cons_of_mem _ hb), fun i u hu => by simp at hu⟩ rfl (by simp) rfl (Upd.here _ _ _ _)) rfl rfl rfl ?_
    rintro _ _ _ ⟨rfl, rfl, rfl⟩
    repeat (first | with_reducible (first | refine run_seq ?_ | refine run_region ?_ | refine runL_nil ?_ | refine run_skip ?_ | refine run_block ?_ | refine run_inBlock ?_) | refine run_exit rfl ?_ | refine runL_q (qt_pev tok rfl) rfl rfl rfl ?_ | refine runL_g rfl rfl (qt_pev tok rfl) rfl rfl rfl rfl rfl ?_ | refine runL_q (ql tok rfl) rfl rfl rfl ?_ | refine runL_g rfl rfl (ql tok rfl) rfl rfl rfl rfl rfl ?_ | (refine runL_op0 (sst tok rfl rfl rfl rfl rfl) ?_; rintro _ _ _ ⟨rfl, rfl, rfl⟩) | (refine runL_op (st_box rfl) rfl rfl rfl ?_; rintro _ _ _ ⟨_, rfl, rfl, rfl⟩) | (refine runL_op (st_alloc tok rfl) rfl rfl rfl ?_; rintro _ _ _ ⟨_, rfl, rfl, rfl⟩) | (refine runL_op (st_buildSlice tok rfl rfl rfl rfl rfl rfl rfl) rfl rfl rfl ?_; rintro _ _ _ ⟨_, rfl, rfl, rfl⟩))
    refine run_loop ?_
    repeat (first | with_reducible (first | refine run_seq ?_ | refine run_region ?_ | refine runL_nil ?_ | refine run_skip ?_ | refine run_block ?_ | refine run_inBlock ?_) | refine run_exit rfl ?_ | refine runL_q (qt_pev tok rfl) rfl rfl rfl ?_ | refine runL_g rfl rfl (qt_pev tok rfl) rfl rfl rfl rfl rfl ?_ | refine runL_q (ql tok rfl) rfl rfl rfl ?_ | refine runL_g rfl rfl (ql tok rfl) rfl rfl rfl rfl rfl ?_ | (refine runL_op0 (sst tok rfl rfl rfl rfl rfl) ?_; rintro _ _ _ ⟨rfl, rfl, rfl⟩) | (refine runL_op (st_box rfl) rfl rfl rfl ?_; rintro _ _ _ ⟨_, rfl, rfl, rfl⟩) | (refine runL_op (st_alloc tok rfl) rfl rfl rfl ?_; rintro _ _ _ ⟨_, rfl, rfl, rfl⟩) | (refine runL_op (st_buildSlice tok rfl rfl rfl rfl rfl rfl rfl) rfl rfl rfl ?_; rintro _ _ _ ⟨_, rfl, rfl, rfl⟩))
    refine run_cond rfl (fun h => by cases h) (fun _ => ?_)
    repeat (first | with_reducible (first | refine run_seq ?_ | refine run_region ?_ | refine runL_nil ?_ | refine run_skip ?_ | refine run_block ?_ | refine run_inBlock ?_) | refine run_exit rfl ?_ | refine runL_q (qt_pev tok rfl) rfl rfl rfl ?_ | refine runL_g rfl rfl (qt_pev tok rfl) rfl rfl rfl rfl rfl ?_ | refine runL_q (ql tok rfl) rfl rfl rfl ?_ | refine runL_g rfl rfl (ql tok rfl) rfl rfl rfl rfl rfl ?_ | (refine runL_op0 (sst tok rfl rfl rfl rfl rfl) ?_; rintro _ _ _ ⟨rfl, rfl, rfl⟩) | (refine runL_op (st_box rfl) rfl rfl rfl ?_; rintro _ _ _ ⟨_, rfl, rfl, rfl⟩) | (refine runL_op (st_alloc tok rfl) rfl rfl rfl ?_; rintro _ _ _ ⟨_, rfl, rfl, rfl⟩) | (refine runL_op (st_buildSlice tok rfl rfl rfl rfl rfl rfl rfl) rfl rfl rfl ?_; rintro _ _ _ ⟨_, rfl, rfl, rfl⟩))
    exact run_ret hC (rs := [.tmp 4]) rfl (resT rfl resN) (fun _ h => h) ⟨rfl, b, rfl, rfl⟩
  have hset1 : setSeg (List.replicate n (Value.int .u8 0)) 0 [.int .u8 1] = List.replicate 1 (.int .u8 1) ++ List.replicate (n - 1) (.int .u8 0) := by
    obtain ⟨m, rfl⟩ : ∃ m, n = m + 1 := ⟨n - 1, by omega⟩
    simp [setSeg, List.replicate_succ]
  refine runL_op (st_copy (news := [.int .u8 1]) tok rfl rfl rfl rfl ⟨⟨[.int .u8 1]⟩, _, _, .inl (List.mem_cons_of_mem _ hb), fun i u hu => by simpa using hu⟩ (show 1 = min 1 n by omega) (by simp; omega) rfl (Upd.here _ _ _ _)) rfl rfl rfl ?_
  rintro _ _ _ ⟨rfl, rfl, rfl⟩
  rw [hset1]
  repeat (first | with_reducible (first | refine run_seq ?_ | refine run_region ?_ | refine runL_nil ?_ | refine run_skip ?_ | refine run_block ?_ | refine run_inBlock ?_) | refine run_exit rfl ?_ | refine runL_q (qt_pev tok rfl) rfl rfl rfl ?_ | refine runL_g rfl rfl (qt_pev tok rfl) rfl rfl rfl rfl rfl ?_ | refine runL_q (ql tok rfl) rfl rfl rfl ?_ | refine runL_g rfl rfl (ql tok rfl) rfl rfl rfl rfl rfl ?_ | (refine runL_op0 (sst tok rfl rfl rfl rfl rfl) ?_; rintro _ _ _ ⟨rfl, rfl, rfl⟩) | (refine runL_op (st_box rfl) rfl rfl rfl ?_; rintro _ _ _ ⟨_, rfl, rfl, rfl⟩) | (refine runL_op (st_alloc tok rfl) rfl rfl rfl ?_; rintro _ _ _ ⟨_, rfl, rfl, rfl⟩) | (refine runL_op (st_buildSlice tok rfl rfl rfl rfl rfl rfl rfl) rfl rfl rfl ?_; rintro _ _ _ ⟨_, rfl, rfl, rfl⟩))
  refine run_loopN (fun i σ1 M1 L1 => i ≤ 3 ∧ ∃ j, j = min (2 ^ i) n ∧ M = M1 ∧ L1 = (b, .cells ⟨List.replicate j (.int .u8 1) ++ List.replicate (n - j) (.int .u8 0)⟩ 5 (0, 0)) :: L ∧ σ1 = [(8, .int .i64 (j : Int)), (7, .slice (some ⟨b, 0, none⟩) n n)]) 3 [(8, .int .i64 ((1 : Nat) : Int)), (7, .slice (some ⟨b, 0, none⟩) n n)] ?_ ⟨by omega, 1, (show 1 = min 1 n by omega), rfl, rfl, rfl⟩ (fun j _ _ _ h => h.1) ?_
  · exact ⟨rfl, rfl, trivial⟩
  rintro i _ _ _ ⟨hi, j, hj, rfl, rfl, rfl⟩ hnext
  repeat (first | with_reducible (first | refine run_seq ?_ | refine run_region ?_ | refine runL_nil ?_ | refine run_skip ?_ | refine run_block ?_ | refine run_inBlock ?_) | refine run_exit rfl ?_ | refine runL_q (qt_pev tok rfl) rfl rfl rfl ?_ | refine runL_g rfl rfl (qt_pev tok rfl) rfl rfl rfl rfl rfl ?_ | refine runL_q (ql tok rfl) rfl rfl rfl ?_ | refine runL_g rfl rfl (ql tok rfl) rfl rfl rfl rfl rfl ?_ | (refine runL_op0 (sst tok rfl rfl rfl rfl rfl) ?_; rintro _ _ _ ⟨rfl, rfl, rfl⟩) | (refine runL_op (st_box rfl) rfl rfl rfl ?_; rintro _ _ _ ⟨_, rfl, rfl, rfl⟩) | (refine runL_op (st_alloc tok rfl) rfl rfl rfl ?_; rintro _ _ _ ⟨_, rfl, rfl, rfl⟩) | (refine runL_op (st_buildSlice tok rfl rfl rfl rfl rfl rfl rfl) rfl rfl rfl ?_; rintro _ _ _ ⟨_, rfl, rfl, rfl⟩))
  refine run_cond rfl (fun h1 => ?_) (fun h1 => ?_)
  · have hlt : j < n := by
      have : (j : Int) < (n : Int) := of_decide_eq_true h1
      omega
    have hi2 : i < 3 := by
      apply Classical.byContradiction
      intro h
      have : i = 3 := by omega
      subst this
      have e8 : (2 : Nat) ^ 3 = 8 := by decide
      omega
    have hp1 : 1 ≤ 2 ^ i := Nat.one_le_two_pow
    have hj1 : j = 2 ^ i := by omega
    obtain ⟨q, hq⟩ : ∃ q, q = min j (n - j) := ⟨_, rfl⟩
    have hqj : j + q = min (2 ^ (i + 1)) n := by rw [hq, Nat.pow_succ, ← hj1]; omega
    have hqn : j + q ≤ n := by omega
    have hset2 : setSeg (List.replicate j (Value.int .u8 1) ++ List.replicate (n - j) (Value.int .u8 0)) j (List.replicate q (.int .u8 1)) = List.replicate (j + q) (.int .u8 1) ++ List.replicate (n - (j + q)) (.int .u8 0) := by
      simp only [setSeg, List.length_replicate]
      rw [List.take_left' (by simp), List.drop_append, List.length_replicate, List.drop_eq_nil_of_le (by simp), List.drop_replicate, List.replicate_append_replicate]
      rw [show n - j - (j + q - j) = n - (j + q) by omega, List.nil_append]
    repeat (first | with_reducible (first | refine run_seq ?_ | refine run_region ?_ | refine runL_nil ?_ | refine run_skip ?_ | refine run_block ?_ | refine run_inBlock ?_) | refine run_exit rfl ?_)
    refine prn_start mixed ?_
    iterate 3 (first | refine prn_q rfl (qt_pev tok rfl) (by decide +kernel) rfl rfl rfl ?_ | refine prn_gK rfl rfl rfl (qt_pev tok rfl) (by decide +kernel) rfl rfl rfl ?_ | refine prn_gF rfl rfl rfl (by decide +kernel) rfl rfl rfl ?_ | refine prn_g rfl rfl rfl (qt_pev tok rfl) (by decide +kernel) rfl rfl rfl rfl rfl ?_ | refine prn_q rfl (ql tok rfl) (by decide +kernel) rfl rfl rfl ?_ | refine prn_gK rfl rfl rfl (ql tok rfl) (by decide +kernel) rfl rfl rfl ?_ | refine prn_gF rfl rfl rfl (by decide +kernel) rfl rfl rfl ?_ | refine prn_g rfl rfl rfl (ql tok rfl) (by decide +kernel) rfl rfl rfl rfl rfl ?_ | (refine prn_e0 rfl (sst tok rfl rfl rfl rfl rfl) (by decide +kernel) ?_; rintro _ _ _ ⟨rfl, rfl, rfl⟩) | (refine prn_e1 rfl (st_box rfl) (by decide +kernel) rfl rfl rfl ?_; rintro _ _ _ ⟨_, rfl, rfl, rfl⟩) | (refine prn_e1 rfl (st_alloc tok rfl) (by decide +kernel) rfl rfl rfl ?_; rintro _ _ _ ⟨_, rfl, rfl, rfl⟩) | (refine prn_e1 rfl (st_buildSlice tok rfl rfl rfl rfl rfl rfl rfl) (by decide +kernel) rfl rfl rfl ?_; rintro _ _ _ ⟨_, rfl, rfl, rfl⟩) | (refine prn_o0 rfl (sst tok rfl rfl rfl rfl rfl) (by decide +kernel) ?_; rintro _ _ _ ⟨rfl, rfl, rfl⟩; refine ⟨by (repeat (first | exact trivial | refine And.intro (pend_q rfl rfl rfl (qt_pev tok rfl)) ?_ | refine And.intro (pend_q rfl rfl rfl (ql tok rfl)) ?_)), ?_⟩) | (refine prn_o1 rfl (st_box rfl) (by decide +kernel) rfl rfl rfl ?_; rintro _ _ _ ⟨_, rfl, rfl, rfl⟩; refine ⟨by (repeat (first | exact trivial | refine And.intro (pend_q rfl rfl rfl (qt_pev tok rfl)) ?_ | refine And.intro (pend_q rfl rfl rfl (ql tok rfl)) ?_)), ?_⟩) | (refine prn_o1 rfl (st_alloc tok rfl) (by decide +kernel) rfl rfl rfl ?_; rintro _ _ _ ⟨_, rfl, rfl, rfl⟩; refine ⟨by (repeat (first | exact trivial | refine And.intro (pend_q rfl rfl rfl (qt_pev tok rfl)) ?_ | refine And.intro (pend_q rfl rfl rfl (ql tok rfl)) ?_)), ?_⟩) | (refine prn_o1 rfl (st_buildSlice tok rfl rfl rfl rfl rfl rfl rfl) (by decide +kernel) rfl rfl rfl ?_; rintro _ _ _ ⟨_, rfl, rfl, rfl⟩; refine ⟨by (repeat (first | exact trivial | refine And.intro (pend_q rfl rfl rfl (qt_pev tok rfl)) ?_ | refine And.intro (pend_q rfl rfl rfl (ql tok rfl)) ?_)), ?_⟩) | (refine prn_e1 rfl (qt_pev tok rfl) (by decide +kernel) rfl rfl rfl ?_; rintro _ _ _ ⟨rfl, rfl, rfl⟩))
    refine prn_q rfl (qt_sliceLo (n := j) tok rfl rfl rfl rfl (fun _ => by omega)) (by decide +kernel) rfl rfl rfl ?_
    refine pr_as 41 (.slice (some ⟨b, j, none⟩) (n - j) (n - j)) rfl (by simp [subA, show ¬ n = j by omega, add_none]) ?_
    iterate 2 (first | refine prn_q rfl (qt_pev tok rfl) (by decide +kernel) rfl rfl rfl ?_ | refine prn_gK rfl rfl rfl (qt_pev tok rfl) (by decide +kernel) rfl rfl rfl ?_ | refine prn_gF rfl rfl rfl (by decide +kernel) rfl rfl rfl ?_ | refine prn_g rfl rfl rfl (qt_pev tok rfl) (by decide +kernel) rfl rfl rfl rfl rfl ?_ | refine prn_q rfl (ql tok rfl) (by decide +kernel) rfl rfl rfl ?_ | refine prn_gK rfl rfl rfl (ql tok rfl) (by decide +kernel) rfl rfl rfl ?_ | refine prn_gF rfl rfl rfl (by decide +kernel) rfl rfl rfl ?_ | refine prn_g rfl rfl rfl (ql tok rfl) (by decide +kernel) rfl rfl rfl rfl rfl ?_ | (refine prn_e0 rfl (sst tok rfl rfl rfl rfl rfl) (by decide +kernel) ?_; rintro _ _ _ ⟨rfl, rfl, rfl⟩) | (refine prn_e1 rfl (st_box rfl) (by decide +kernel) rfl rfl rfl ?_; rintro _ _ _ ⟨_, rfl, rfl, rfl⟩) | (refine prn_e1 rfl (st_alloc tok rfl) (by decide +kernel) rfl rfl rfl ?_; rintro _ _ _ ⟨_, rfl, rfl, rfl⟩) | (refine prn_e1 rfl (st_buildSlice tok rfl rfl rfl rfl rfl rfl rfl) (by decide +kernel) rfl rfl rfl ?_; rintro _ _ _ ⟨_, rfl, rfl, rfl⟩) | (refine prn_o0 rfl (sst tok rfl rfl rfl rfl rfl) (by decide +kernel) ?_; rintro _ _ _ ⟨rfl, rfl, rfl⟩; refine ⟨by (repeat (first | exact trivial | refine And.intro (pend_q rfl rfl rfl (qt_pev tok rfl)) ?_ | refine And.intro (pend_q rfl rfl rfl (ql tok rfl)) ?_)), ?_⟩) | (refine prn_o1 rfl (st_box rfl) (by decide +kernel) rfl rfl rfl ?_; rintro _ _ _ ⟨_, rfl, rfl, rfl⟩; refine ⟨by (repeat (first | exact trivial | refine And.intro (pend_q rfl rfl rfl (qt_pev tok rfl)) ?_ | refine And.intro (pend_q rfl rfl rfl (ql tok rfl)) ?_)), ?_⟩) | (refine prn_o1 rfl (st_alloc tok rfl) (by decide +kernel) rfl rfl rfl ?_; rintro _ _ _ ⟨_, rfl, rfl, rfl⟩; refine ⟨by (repeat (first | exact trivial | refine And.intro (pend_q rfl rfl rfl (qt_pev tok rfl)) ?_ | refine And.intro (pend_q rfl rfl rfl (ql tok rfl)) ?_)), ?_⟩) | (refine prn_o1 rfl (st_buildSlice tok rfl rfl rfl rfl rfl rfl rfl) (by decide +kernel) rfl rfl rfl ?_; rintro _ _ _ ⟨_, rfl, rfl, rfl⟩; refine ⟨by (repeat (first | exact trivial | refine And.intro (pend_q rfl rfl rfl (qt_pev tok rfl)) ?_ | refine And.intro (pend_q rfl rfl rfl (ql tok rfl)) ?_)), ?_⟩) | (refine prn_e1 rfl (qt_pev tok rfl) (by decide +kernel) rfl rfl rfl ?_; rintro _ _ _ ⟨rfl, rfl, rfl⟩))
    refine prn_q rfl (qt_sliceHi (n := j) tok rfl rfl rfl rfl (fun _ => by omega)) (by decide +kernel) rfl rfl rfl ?_
    refine pr_as 44 (.slice (some ⟨b, 0, none⟩) j n) rfl (by simp [subA, h0, add_none]) ?_
    refine prn_o1 rfl (st_copy (news := List.replicate q (.int .u8 1)) tok rfl rfl rfl rfl ⟨⟨_⟩, _, _, .inl List.mem_cons_self, fun i u hu => by
      have hiq : i < q := by have := (List.getElem?_eq_some_iff.1 hu).1; simpa using this
      have hqle : q ≤ j := by rw [hq]; exact Nat.min_le_left _ _
      rw [List.getElem?_replicate, if_pos hiq] at hu
      simp only [Nat.zero_add, List.getElem?_toArray]
      rw [List.getElem?_append_left (by simp; omega), List.getElem?_replicate, if_pos (by omega)]
      exact hu⟩ (by rw [List.length_replicate, hq]) (by simp; omega) (oneRep _) (Upd.here _ _ _ _)) (by decide +kernel) rfl rfl rfl ?_
    rintro _ _ _ ⟨rfl, rfl, rfl⟩
    refine ⟨by (repeat (first | exact trivial | refine And.intro (pend_q rfl rfl rfl (qt_pev tok rfl)) ?_ | refine And.intro (pend_q rfl rfl rfl (ql tok rfl)) ?_)), ?_⟩
    rw [hset2]
    repeat (first | with_reducible (first | refine run_seq ?_ | refine run_region ?_ | refine runL_nil ?_ | refine run_skip ?_ | refine run_block ?_ | refine run_inBlock ?_) | refine run_exit rfl ?_ | refine runL_q (qt_pev tok rfl) rfl rfl rfl ?_ | refine runL_g rfl rfl (qt_pev tok rfl) rfl rfl rfl rfl rfl ?_ | refine runL_q (ql tok rfl) rfl rfl rfl ?_ | refine runL_g rfl rfl (ql tok rfl) rfl rfl rfl rfl rfl ?_ | (refine runL_op0 (sst tok rfl rfl rfl rfl rfl) ?_; rintro _ _ _ ⟨rfl, rfl, rfl⟩) | (refine runL_op (st_box rfl) rfl rfl rfl ?_; rintro _ _ _ ⟨_, rfl, rfl, rfl⟩) | (refine runL_op (st_alloc tok rfl) rfl rfl rfl ?_; rintro _ _ _ ⟨_, rfl, rfl, rfl⟩) | (refine runL_op (st_buildSlice tok rfl rfl rfl rfl rfl rfl rfl) rfl rfl rfl ?_; rintro _ _ _ ⟨_, rfl, rfl, rfl⟩) | refine prn_start mixed ?_ | refine prn_end (by decide +kernel) ?_ | refine prn_q rfl (qt_pev tok rfl) (by decide +kernel) rfl rfl rfl ?_ | refine prn_g rfl rfl rfl (qt_pev tok rfl) (by decide +kernel) rfl rfl rfl rfl rfl ?_ | refine prn_q rfl (ql tok rfl) (by decide +kernel) rfl rfl rfl ?_ | refine prn_g rfl rfl rfl (ql tok rfl) (by decide +kernel) rfl rfl rfl rfl rfl ?_ | (refine prn_e0 rfl (sst tok rfl rfl rfl rfl rfl) (by decide +kernel) ?_; rintro _ _ _ ⟨rfl, rfl, rfl⟩) | (refine prn_e1 rfl (st_box rfl) (by decide +kernel) rfl rfl rfl ?_; rintro _ _ _ ⟨_, rfl, rfl, rfl⟩) | (refine prn_e1 rfl (st_alloc tok rfl) (by decide +kernel) rfl rfl rfl ?_; rintro _ _ _ ⟨_, rfl, rfl, rfl⟩) | (refine prn_e1 rfl (st_buildSlice tok rfl rfl rfl rfl rfl rfl rfl) (by decide +kernel) rfl rfl rfl ?_; rintro _ _ _ ⟨_, rfl, rfl, rfl⟩) | (refine prn_o0 rfl (sst tok rfl rfl rfl rfl rfl) (by decide +kernel) ?_; rintro _ _ _ ⟨rfl, rfl, rfl⟩; refine ⟨by (repeat (first | exact trivial | refine And.intro (pend_q rfl rfl rfl (qt_pev tok rfl)) ?_ | refine And.intro (pend_q rfl rfl rfl (ql tok rfl)) ?_)), ?_⟩) | (refine prn_o1 rfl (st_box rfl) (by decide +kernel) rfl rfl rfl ?_; rintro _ _ _ ⟨_, rfl, rfl, rfl⟩; refine ⟨by (repeat (first | exact trivial | refine And.intro (pend_q rfl rfl rfl (qt_pev tok rfl)) ?_ | refine And.intro (pend_q rfl rfl rfl (ql tok rfl)) ?_)), ?_⟩) | (refine prn_o1 rfl (st_alloc tok rfl) (by decide +kernel) rfl rfl rfl ?_; rintro _ _ _ ⟨_, rfl, rfl, rfl⟩; refine ⟨by (repeat (first | exact trivial | refine And.intro (pend_q rfl rfl rfl (qt_pev tok rfl)) ?_ | refine And.intro (pend_q rfl rfl rfl (ql tok rfl)) ?_)), ?_⟩) | (refine prn_o1 rfl (st_buildSlice tok rfl rfl rfl rfl rfl rfl rfl) (by decide +kernel) rfl rfl rfl ?_; rintro _ _ _ ⟨_, rfl, rfl, rfl⟩; refine ⟨by (repeat (first | exact trivial | refine And.intro (pend_q rfl rfl rfl (qt_pev tok rfl)) ?_ | refine And.intro (pend_q rfl rfl rfl (ql tok rfl)) ?_)), ?_⟩) | (refine prn_e1 rfl (qt_pev tok rfl) (by decide +kernel) rfl rfl rfl ?_; rintro _ _ _ ⟨rfl, rfl, rfl⟩))
    exact run_sub' (hnext _ _ _ ⟨hi2, j + q, hqj, rfl, rfl, rfl⟩) ⟨by show some _ = some _; rw [List.length_replicate, ← Int.natCast_add, wrap64_nat (by omega)], rfl, trivial⟩
  · have hge : j = n := by
      have : ¬ (j : Int) < (n : Int) := of_decide_eq_false h1
      have : j ≤ n := by rw [hj]; exact Nat.min_le_right _ _
      omega
    subst hge
    repeat (first | with_reducible (first | refine run_seq ?_ | refine run_region ?_ | refine runL_nil ?_ | refine run_skip ?_ | refine run_block ?_ | refine run_inBlock ?_) | refine run_exit rfl ?_ | refine runL_q (qt_pev tok rfl) rfl rfl rfl ?_ | refine runL_g rfl rfl (qt_pev tok rfl) rfl rfl rfl rfl rfl ?_ | refine runL_q (ql tok rfl) rfl rfl rfl ?_ | refine runL_g rfl rfl (ql tok rfl) rfl rfl rfl rfl rfl ?_ | (refine runL_op0 (sst tok rfl rfl rfl rfl rfl) ?_; rintro _ _ _ ⟨rfl, rfl, rfl⟩) | (refine runL_op (st_box rfl) rfl rfl rfl ?_; rintro _ _ _ ⟨_, rfl, rfl, rfl⟩) | (refine runL_op (st_alloc tok rfl) rfl rfl rfl ?_; rintro _ _ _ ⟨_, rfl, rfl, rfl⟩) | (refine runL_op (st_buildSlice tok rfl rfl rfl rfl rfl rfl rfl) rfl rfl rfl ?_; rintro _ _ _ ⟨_, rfl, rfl, rfl⟩))
    exact run_ret hC (rs := [.tmp 4]) rfl (resT rfl resN) (fun _ h => h) ⟨rfl, b, rfl, by simp⟩
end Go.Proofs.Ytpmepmdngdkafaa
namespace Go.Proofs.Ytpmepmdngdkafaa
open Go.Chi

/-! ### a new transaction -/
def newC (t : Tx) (au : Int) (mem : List Mb) (bodies : List ByteArray) (now : Int) : Ca := ⟨t, au, mem, bodies, List.replicate mem.length 0, List.replicate mem.length ⟨#[]⟩, List.replicate mem.length false, 1, now, -1⟩
def newA (t : Tx) (au : Int) (mem : List Mb) (bodies : List ByteArray) (now : Int) : Ca × Int := if 6 < mem.length then (caZ, 2) else madeA (newC t au mem bodies now)
theorem repU8 {M : Mem} {b e n : Nat} {z : Int} (h : M.blk b = some (.cells ⟨List.replicate n (.int .u8 z)⟩ e (0, 0))) (hn : n < 1000000) (cap : Nat) : U8Ok M ⟨some ⟨b, 0, none⟩, n, cap, List.replicate n z⟩ := ⟨by have := SlM.rep h; show SlM _ 1 _ n ((List.replicate n z).map u8C); rw [List.map_replicate]; exact this, hn⟩
theorem repBl {M : Mem} {b e n : Nat} {z : Bool} (h : M.blk b = some (.cells ⟨List.replicate n (.bool z)⟩ e (0, 0))) (hn : n < 1000000) (cap : Nat) : BlOk M ⟨some ⟨b, 0, none⟩, n, cap, List.replicate n z⟩ := ⟨by have := SlM.rep h; show SlM _ 1 _ n ((List.replicate n z).map blC); rw [List.map_replicate]; exact this, hn⟩
theorem repSt {M : Mem} {b e n : Nat} {z : ByteArray} (h : M.blk b = some (.cells ⟨List.replicate n (.string z)⟩ e (0, 0))) (hn : n < 1000000) (cap : Nat) : StOk M ⟨some ⟨b, 0, none⟩, n, cap, List.replicate n z⟩ := ⟨by have := SlM.rep h; show SlM _ 1 _ n ((List.replicate n z).map stC); rw [List.map_replicate]; exact this, hn⟩
theorem newCo {M : Mem} {s : SMb} {bs : SStr} {b5 b7 b9 e5 e7 e9 : Nat} (hs : MbOk M s) (hb : StOk M bs) (h5 : M.blk b5 = some (.cells ⟨List.replicate s.len (.int .u8 0)⟩ e5 (0, 0))) (h7 : M.blk b7 = some (.cells ⟨List.replicate s.len (.string ⟨#[]⟩)⟩ e7 (0, 0))) (h9 : M.blk b9 = some (.cells ⟨List.replicate s.len (.bool false)⟩ e9 (0, 0)))
    (hd : ∀ m ∈ s.xs, m.digest.size < 4611686018427387904) (hbd : ∀ t ∈ bs.xs, t.size < 4611686018427387904) (t : Tx) (au now : Int) : CoOk M ⟨t, au, s, bs, ⟨some ⟨b5, 0, none⟩, s.len, s.len, List.replicate s.len 0⟩, ⟨some ⟨b7, 0, none⟩, s.len, s.len, List.replicate s.len ⟨#[]⟩⟩, ⟨some ⟨b9, 0, none⟩, s.len, s.len, List.replicate s.len false⟩, 1, now, -1⟩ :=
  ⟨hs, hb, repU8 h5 hs.2 _, repSt h7 hs.2 _, repBl h9 hs.2 _, hd, hbd, fun x hx => by rw [(List.mem_replicate.1 hx).2]; decide⟩
theorem newAb {s : SMb} {bs : SStr} {b5 b7 b9 : Nat} {t : Tx} {au now : Int} (hl : s.xs.length = s.len) {c1 : Co} (h : c1 = ⟨t, au, s, bs, ⟨some ⟨b5, 0, none⟩, s.len, s.len, List.replicate s.len 0⟩, ⟨some ⟨b7, 0, none⟩, s.len, s.len, List.replicate s.len ⟨#[]⟩⟩, ⟨some ⟨b9, 0, none⟩, s.len, s.len, List.replicate s.len false⟩, 1, now, -1⟩) : c1.ab = newC t au s.xs bs.xs now := by rw [h, newC, hl]; rfl
set_option maxRecDepth 10000 in
set_option maxHeartbeats 16000000 in
theorem new_ok (M : Mem) (L : HL) (t : Tx) (au : Int) (s : SMb) (bs : SStr) (now : Int) (hs : MbOk M s) (hb : StOk M bs) (hd : ∀ m ∈ s.xs, m.digest.size < 4611686018427387904) (hbd : ∀ t ∈ bs.xs, t.size < 4611686018427387904) : Tr Try.prog 20 [.agg ⟨txC t⟩, .int .i64 au, s.v, bs.v, .int .i64 now] M L (CoK M L (newA t au s.xs bs.xs now)) := by
  have hl := hs.len
  have h6 := hs.2
  refine Tr.intro 34 Try.func20 rfl rfl Try.call20 rfl ?_
  intro C hC hro
  repeat (first | with_reducible (first | refine run_seq ?_ | refine run_region ?_ | refine runL_nil ?_ | refine run_skip ?_ | refine run_block ?_ | refine run_inBlock ?_) | refine run_exit rfl ?_ | refine runL_q (qt_pev tok rfl) rfl rfl rfl ?_ | refine runL_g rfl rfl (qt_pev tok rfl) rfl rfl rfl rfl rfl ?_ | refine runL_q (ql tok rfl) rfl rfl rfl ?_ | refine runL_g rfl rfl (ql tok rfl) rfl rfl rfl rfl rfl ?_ | (refine runL_op0 (sst tok rfl rfl rfl rfl rfl) ?_; rintro _ _ _ ⟨rfl, rfl, rfl⟩) | (refine runL_op (st_box rfl) rfl rfl rfl ?_; rintro _ _ _ ⟨_, rfl, rfl, rfl⟩) | (refine runL_op (st_alloc tok rfl) rfl rfl rfl ?_; rintro _ _ _ ⟨_, rfl, rfl, rfl⟩) | (refine runL_op (st_buildSlice tok rfl rfl rfl rfl rfl rfl rfl) rfl rfl rfl ?_; rintro _ _ _ ⟨_, rfl, rfl, rfl⟩))
  refine run_cond rfl (fun h => ?_) (fun h => ?_)
  · have h1 : 6 < s.xs.length := by
      have : (s.len : Int) > 6 := of_decide_eq_true h
      omega
    rw [newA, if_pos h1] at hC
    repeat (first | with_reducible (first | refine run_seq ?_ | refine run_region ?_ | refine runL_nil ?_ | refine run_skip ?_ | refine run_block ?_ | refine run_inBlock ?_) | refine run_exit rfl ?_ | refine runL_q (qt_pev tok rfl) rfl rfl rfl ?_ | refine runL_g rfl rfl (qt_pev tok rfl) rfl rfl rfl rfl rfl ?_ | refine runL_q (ql tok rfl) rfl rfl rfl ?_ | refine runL_g rfl rfl (ql tok rfl) rfl rfl rfl rfl rfl ?_ | (refine runL_op0 (sst tok rfl rfl rfl rfl rfl) ?_; rintro _ _ _ ⟨rfl, rfl, rfl⟩) | (refine runL_op (st_box rfl) rfl rfl rfl ?_; rintro _ _ _ ⟨_, rfl, rfl, rfl⟩) | (refine runL_op (st_alloc tok rfl) rfl rfl rfl ?_; rintro _ _ _ ⟨_, rfl, rfl, rfl⟩) | (refine runL_op (st_buildSlice tok rfl rfl rfl rfl rfl rfl rfl) rfl rfl rfl ?_; rintro _ _ _ ⟨_, rfl, rfl, rfl⟩))
    exact run_ret hC (rs := [.cell 10 29, .tmp 11]) rfl (rl tok rfl (resT rfl resN)) (fun _ h => h.drop.drop) (CoK.none _ _ _ (Mem.le_refl _))
  have hle : ¬ 6 < s.xs.length := by
    have : ¬ (s.len : Int) > 6 := of_decide_eq_false h
    omega
  repeat (first | with_reducible (first | refine run_seq ?_ | refine run_region ?_ | refine runL_nil ?_ | refine run_skip ?_ | refine run_block ?_ | refine run_inBlock ?_) | refine run_exit rfl ?_ | refine runL_q (qt_pev tok rfl) rfl rfl rfl ?_ | refine runL_g rfl rfl (qt_pev tok rfl) rfl rfl rfl rfl rfl ?_ | refine runL_q (ql tok rfl) rfl rfl rfl ?_ | refine runL_g rfl rfl (ql tok rfl) rfl rfl rfl rfl rfl ?_ | (refine runL_op0 (sst tok rfl rfl rfl rfl rfl) ?_; rintro _ _ _ ⟨rfl, rfl, rfl⟩) | (refine runL_op (st_box rfl) rfl rfl rfl ?_; rintro _ _ _ ⟨_, rfl, rfl, rfl⟩) | (refine runL_op (st_alloc tok rfl) rfl rfl rfl ?_; rintro _ _ _ ⟨_, rfl, rfl, rfl⟩) | (refine runL_op (st_buildSlice tok rfl rfl rfl rfl rfl rfl rfl) rfl rfl rfl ?_; rintro _ _ _ ⟨_, rfl, rfl, rfl⟩))
  have hMM := Mem.le_refl M
  refine prn_start mixed ?_
  refine pr_q 0 (by decide +kernel) rfl (ql tok rfl) rfl rfl rfl ?_
  refine pr_q 1 (by decide +kernel) rfl (qt_pev tok rfl) rfl rfl rfl ?_
  refine pr_q 2 (by decide +kernel) rfl (qt_pev tok rfl) rfl rfl rfl ?_
  refine pr_q 3 (by decide +kernel) rfl (qt_pev tok rfl) rfl rfl rfl ?_
  refine pr_q 4 (by decide +kernel) rfl (qt_pev tok rfl) rfl rfl rfl ?_
  refine pr_q 6 (by decide +kernel) rfl (qt_pev tok rfl) rfl rfl rfl ?_
  refine pr_q 8 (by decide +kernel) rfl (qt_pev tok rfl) rfl rfl rfl ?_
  refine pr_q 10 (by decide +kernel) rfl (qt_pev tok rfl) rfl rfl rfl ?_
  refine pr_three 5 7 9 (by decide +kernel) ?_ ?_ ?_
  · refine eff1 5 rfl (St.frz1 (st_makeSlice (n := s.len) tok rfl rfl rfl rfl rfl rfl rfl (by omega) (by omega))) (by decide +kernel) (qs := _) rfl rfl rfl rfl ?_
    rintro _ M5 _ ⟨hM5, rfl, b5, rfl, hb5⟩
    refine ⟨by (repeat (first | exact trivial | refine And.intro (pend_q rfl rfl rfl (qt_pev tok rfl)) ?_ | refine And.intro (pend_q rfl rfl rfl (ql tok rfl)) ?_)), ?_⟩
    have hMM := Mem.le_trans hMM hM5
    have hs := MbOk.le hM5 hs
    have hb := StOk.le hM5 hb
    refine pr_two 7 9 (by decide +kernel) ?_ ?_
    · refine eff1 7 rfl (St.frz1 (st_makeSlice (n := s.len) tok rfl rfl rfl rfl rfl rfl rfl (by omega) (by omega))) (by decide +kernel) (qs := _) rfl rfl rfl rfl ?_
      rintro _ M7 _ ⟨hM7, rfl, b7, rfl, hb7⟩
      refine ⟨by (repeat (first | exact trivial | refine And.intro (pend_q rfl rfl rfl (qt_pev tok rfl)) ?_ | refine And.intro (pend_q rfl rfl rfl (ql tok rfl)) ?_)), ?_⟩
      have hMM := Mem.le_trans hMM hM7
      have hs := MbOk.le hM7 hs
      have hb := StOk.le hM7 hb
      have hb5 := hM7.blk _ _ hb5
      refine pr_one 9 (by decide +kernel) (eff1 9 rfl (St.frz1 (st_makeSlice (n := s.len) tok rfl rfl rfl rfl rfl rfl rfl (by omega) (by omega))) (by decide +kernel) (qs := _) rfl rfl rfl rfl ?_)
      rintro _ M9 _ ⟨hM9, rfl, b9, rfl, hb9⟩
      refine ⟨by (repeat (first | exact trivial | refine And.intro (pend_q rfl rfl rfl (qt_pev tok rfl)) ?_ | refine And.intro (pend_q rfl rfl rfl (ql tok rfl)) ?_)), ?_⟩
      have hMM := Mem.le_trans hMM hM9
      have hs := MbOk.le hM9 hs
      have hb := StOk.le hM9 hb
      have hb5 := hM9.blk _ _ hb5
      have hb7 := hM9.blk _ _ hb7
      obtain ⟨c1, hc1e⟩ : ∃ c1 : Co, c1 = ⟨t, au, s, bs, ⟨some ⟨b5, 0, none⟩, s.len, s.len, List.replicate s.len 0⟩, ⟨some ⟨b7, 0, none⟩, s.len, s.len, List.replicate s.len ⟨#[]⟩⟩, ⟨some ⟨b9, 0, none⟩, s.len, s.len, List.replicate s.len false⟩, 1, now, -1⟩ := ⟨_, rfl⟩
      have hc1 : CoOk _ c1 := hc1e ▸ newCo hs hb hb5 hb7 hb9 hd hbd t au now
      have hc1v : (Value.agg ⟨coC c1⟩) = .agg ⟨coC ⟨t, au, s, bs, ⟨some ⟨b5, 0, none⟩, s.len, s.len, List.replicate s.len 0⟩, ⟨some ⟨b7, 0, none⟩, s.len, s.len, List.replicate s.len ⟨#[]⟩⟩, ⟨some ⟨b9, 0, none⟩, s.len, s.len, List.replicate s.len false⟩, 1, now, -1⟩⟩ := by rw [hc1e]
      refine pr_q 11 (by decide +kernel) rfl (Qt.as (qt_pev tok rfl) hc1v.symm) rfl rfl rfl ?_
      refine pr_one 12 (by decide +kernel) (eff1 12 rfl (st_callF rfl (fun _ => made_frz _ _ c1 hc1)) (by decide +kernel) (qs := _) rfl rfl rfl rfl ?_)
      rintro _ M12 _ ⟨hM12, rfl, c', rfl, hab, hok⟩
      refine ⟨by (repeat (first | exact trivial | refine And.intro (pend_q rfl rfl rfl (qt_pev tok rfl)) ?_ | refine And.intro (pend_q rfl rfl rfl (ql tok rfl)) ?_)), ?_⟩
      refine pr_q 13 (by decide +kernel) rfl (qt_pev tok rfl) rfl rfl rfl ?_
      refine pr_q 14 (by decide +kernel) rfl (qt_pev tok rfl) rfl rfl rfl ?_
      refine pr_one 15 (by decide +kernel) (eff0 15 rfl (sst tok rfl rfl rfl rfl rfl) (by decide +kernel) (qs := _) rfl ?_)
      rintro _ _ _ ⟨rfl, rfl, rfl⟩
      refine ⟨by (repeat (first | exact trivial | refine And.intro (pend_q rfl rfl rfl (qt_pev tok rfl)) ?_ | refine And.intro (pend_q rfl rfl rfl (ql tok rfl)) ?_)), ?_⟩
      refine pr_q 16 (by decide +kernel) rfl (qt_pev tok rfl) rfl rfl rfl ?_
      refine pr_end (by decide +kernel) (by decide +kernel) ?_
      repeat (first | with_reducible (first | refine run_seq ?_ | refine run_region ?_ | refine runL_nil ?_ | refine run_skip ?_ | refine run_block ?_ | refine run_inBlock ?_) | refine run_exit rfl ?_ | refine runL_q (qt_pev tok rfl) rfl rfl rfl ?_ | refine runL_g rfl rfl (qt_pev tok rfl) rfl rfl rfl rfl rfl ?_ | refine runL_q (ql tok rfl) rfl rfl rfl ?_ | refine runL_g rfl rfl (ql tok rfl) rfl rfl rfl rfl rfl ?_ | (refine runL_op0 (sst tok rfl rfl rfl rfl rfl) ?_; rintro _ _ _ ⟨rfl, rfl, rfl⟩) | (refine runL_op (st_box rfl) rfl rfl rfl ?_; rintro _ _ _ ⟨_, rfl, rfl, rfl⟩) | (refine runL_op (st_alloc tok rfl) rfl rfl rfl ?_; rintro _ _ _ ⟨_, rfl, rfl, rfl⟩) | (refine runL_op (st_buildSlice tok rfl rfl rfl rfl rfl rfl rfl) rfl rfl rfl ?_; rintro _ _ _ ⟨_, rfl, rfl, rfl⟩))
      exact run_ret hC (rs := [.cell 10 29, .tmp 11]) rfl (rl tok rfl (resT rfl resN)) (fun _ h => h.drop.drop) ⟨Mem.le_trans hMM hM12, rfl, c', by rw [newA, if_neg hle, ← newAb hl hc1e]; rfl, by rw [newA, if_neg hle, ← newAb hl hc1e]; exact hab, hok⟩
    · refine eff1 9 rfl (St.frz1 (st_makeSlice (n := s.len) tok rfl rfl rfl rfl rfl rfl rfl (by omega) (by omega))) (by decide +kernel) (qs := _) rfl rfl rfl rfl ?_
      rintro _ M9 _ ⟨hM9, rfl, b9, rfl, hb9⟩
      refine ⟨by (repeat (first | exact trivial | refine And.intro (pend_q rfl rfl rfl (qt_pev tok rfl)) ?_ | refine And.intro (pend_q rfl rfl rfl (ql tok rfl)) ?_)), ?_⟩
      have hMM := Mem.le_trans hMM hM9
      have hs := MbOk.le hM9 hs
      have hb := StOk.le hM9 hb
      have hb5 := hM9.blk _ _ hb5
      refine pr_one 7 (by decide +kernel) (eff1 7 rfl (St.frz1 (st_makeSlice (n := s.len) tok rfl rfl rfl rfl rfl rfl rfl (by omega) (by omega))) (by decide +kernel) (qs := _) rfl rfl rfl rfl ?_)
      rintro _ M7 _ ⟨hM7, rfl, b7, rfl, hb7⟩
      refine ⟨by (repeat (first | exact trivial | refine And.intro (pend_q rfl rfl rfl (qt_pev tok rfl)) ?_ | refine And.intro (pend_q rfl rfl rfl (ql tok rfl)) ?_)), ?_⟩
      have hMM := Mem.le_trans hMM hM7
      have hs := MbOk.le hM7 hs
      have hb := StOk.le hM7 hb
      have hb5 := hM7.blk _ _ hb5
      have hb9 := hM7.blk _ _ hb9
      obtain ⟨c1, hc1e⟩ : ∃ c1 : Co, c1 = ⟨t, au, s, bs, ⟨some ⟨b5, 0, none⟩, s.len, s.len, List.replicate s.len 0⟩, ⟨some ⟨b7, 0, none⟩, s.len, s.len, List.replicate s.len ⟨#[]⟩⟩, ⟨some ⟨b9, 0, none⟩, s.len, s.len, List.replicate s.len false⟩, 1, now, -1⟩ := ⟨_, rfl⟩
      have hc1 : CoOk _ c1 := hc1e ▸ newCo hs hb hb5 hb7 hb9 hd hbd t au now
      have hc1v : (Value.agg ⟨coC c1⟩) = .agg ⟨coC ⟨t, au, s, bs, ⟨some ⟨b5, 0, none⟩, s.len, s.len, List.replicate s.len 0⟩, ⟨some ⟨b7, 0, none⟩, s.len, s.len, List.replicate s.len ⟨#[]⟩⟩, ⟨some ⟨b9, 0, none⟩, s.len, s.len, List.replicate s.len false⟩, 1, now, -1⟩⟩ := by rw [hc1e]
      refine pr_q 11 (by decide +kernel) rfl (Qt.as (qt_pev tok rfl) hc1v.symm) rfl rfl rfl ?_
      refine pr_one 12 (by decide +kernel) (eff1 12 rfl (st_callF rfl (fun _ => made_frz _ _ c1 hc1)) (by decide +kernel) (qs := _) rfl rfl rfl rfl ?_)
      rintro _ M12 _ ⟨hM12, rfl, c', rfl, hab, hok⟩
      refine ⟨by (repeat (first | exact trivial | refine And.intro (pend_q rfl rfl rfl (qt_pev tok rfl)) ?_ | refine And.intro (pend_q rfl rfl rfl (ql tok rfl)) ?_)), ?_⟩
      refine pr_q 13 (by decide +kernel) rfl (qt_pev tok rfl) rfl rfl rfl ?_
      refine pr_q 14 (by decide +kernel) rfl (qt_pev tok rfl) rfl rfl rfl ?_
      refine pr_one 15 (by decide +kernel) (eff0 15 rfl (sst tok rfl rfl rfl rfl rfl) (by decide +kernel) (qs := _) rfl ?_)
      rintro _ _ _ ⟨rfl, rfl, rfl⟩
      refine ⟨by (repeat (first | exact trivial | refine And.intro (pend_q rfl rfl rfl (qt_pev tok rfl)) ?_ | refine And.intro (pend_q rfl rfl rfl (ql tok rfl)) ?_)), ?_⟩
      refine pr_q 16 (by decide +kernel) rfl (qt_pev tok rfl) rfl rfl rfl ?_
      refine pr_end (by decide +kernel) (by decide +kernel) ?_
      repeat (first | with_reducible (first | refine run_seq ?_ | refine run_region ?_ | refine runL_nil ?_ | refine run_skip ?_ | refine run_block ?_ | refine run_inBlock ?_) | refine run_exit rfl ?_ | refine runL_q (qt_pev tok rfl) rfl rfl rfl ?_ | refine runL_g rfl rfl (qt_pev tok rfl) rfl rfl rfl rfl rfl ?_ | refine runL_q (ql tok rfl) rfl rfl rfl ?_ | refine runL_g rfl rfl (ql tok rfl) rfl rfl rfl rfl rfl ?_ | (refine runL_op0 (sst tok rfl rfl rfl rfl rfl) ?_; rintro _ _ _ ⟨rfl, rfl, rfl⟩) | (refine runL_op (st_box rfl) rfl rfl rfl ?_; rintro _ _ _ ⟨_, rfl, rfl, rfl⟩) | (refine runL_op (st_alloc tok rfl) rfl rfl rfl ?_; rintro _ _ _ ⟨_, rfl, rfl, rfl⟩) | (refine runL_op (st_buildSlice tok rfl rfl rfl rfl rfl rfl rfl) rfl rfl rfl ?_; rintro _ _ _ ⟨_, rfl, rfl, rfl⟩))
      exact run_ret hC (rs := [.cell 10 29, .tmp 11]) rfl (rl tok rfl (resT rfl resN)) (fun _ h => h.drop.drop) ⟨Mem.le_trans hMM hM12, rfl, c', by rw [newA, if_neg hle, ← newAb hl hc1e]; rfl, by rw [newA, if_neg hle, ← newAb hl hc1e]; exact hab, hok⟩
  · refine eff1 7 rfl (St.frz1 (st_makeSlice (n := s.len) tok rfl rfl rfl rfl rfl rfl rfl (by omega) (by omega))) (by decide +kernel) (qs := _) rfl rfl rfl rfl ?_
    rintro _ M7 _ ⟨hM7, rfl, b7, rfl, hb7⟩
    refine ⟨by (repeat (first | exact trivial | refine And.intro (pend_q rfl rfl rfl (qt_pev tok rfl)) ?_ | refine And.intro (pend_q rfl rfl rfl (ql tok rfl)) ?_)), ?_⟩
    have hMM := Mem.le_trans hMM hM7
    have hs := MbOk.le hM7 hs
    have hb := StOk.le hM7 hb
    refine pr_two 5 9 (by decide +kernel) ?_ ?_
    · refine eff1 5 rfl (St.frz1 (st_makeSlice (n := s.len) tok rfl rfl rfl rfl rfl rfl rfl (by omega) (by omega))) (by decide +kernel) (qs := _) rfl rfl rfl rfl ?_
      rintro _ M5 _ ⟨hM5, rfl, b5, rfl, hb5⟩
      refine ⟨by (repeat (first | exact trivial | refine And.intro (pend_q rfl rfl rfl (qt_pev tok rfl)) ?_ | refine And.intro (pend_q rfl rfl rfl (ql tok rfl)) ?_)), ?_⟩
      have hMM := Mem.le_trans hMM hM5
      have hs := MbOk.le hM5 hs
      have hb := StOk.le hM5 hb
      have hb7 := hM5.blk _ _ hb7
      refine pr_one 9 (by decide +kernel) (eff1 9 rfl (St.frz1 (st_makeSlice (n := s.len) tok rfl rfl rfl rfl rfl rfl rfl (by omega) (by omega))) (by decide +kernel) (qs := _) rfl rfl rfl rfl ?_)
      rintro _ M9 _ ⟨hM9, rfl, b9, rfl, hb9⟩
      refine ⟨by (repeat (first | exact trivial | refine And.intro (pend_q rfl rfl rfl (qt_pev tok rfl)) ?_ | refine And.intro (pend_q rfl rfl rfl (ql tok rfl)) ?_)), ?_⟩
      have hMM := Mem.le_trans hMM hM9
      have hs := MbOk.le hM9 hs
      have hb := StOk.le hM9 hb
      have hb7 := hM9.blk _ _ hb7
      have hb5 := hM9.blk _ _ hb5
      obtain ⟨c1, hc1e⟩ : ∃ c1 : Co, c1 = ⟨t, au, s, bs, ⟨some ⟨b5, 0, none⟩, s.len, s.len, List.replicate s.len 0⟩, ⟨some ⟨b7, 0, none⟩, s.len, s.len, List.replicate s.len ⟨#[]⟩⟩, ⟨some ⟨b9, 0, none⟩, s.len, s.len, List.replicate s.len false⟩, 1, now, -1⟩ := ⟨_, rfl⟩
      have hc1 : CoOk _ c1 := hc1e ▸ newCo hs hb hb5 hb7 hb9 hd hbd t au now
      have hc1v : (Value.agg ⟨coC c1⟩) = .agg ⟨coC ⟨t, au, s, bs, ⟨some ⟨b5, 0, none⟩, s.len, s.len, List.replicate s.len 0⟩, ⟨some ⟨b7, 0, none⟩, s.len, s.len, List.replicate s.len ⟨#[]⟩⟩, ⟨some ⟨b9, 0, none⟩, s.len, s.len, List.replicate s.len false⟩, 1, now, -1⟩⟩ := by rw [hc1e]
      refine pr_q 11 (by decide +kernel) rfl (Qt.as (qt_pev tok rfl) hc1v.symm) rfl rfl rfl ?_
      refine pr_one 12 (by decide +kernel) (eff1 12 rfl (st_callF rfl (fun _ => made_frz _ _ c1 hc1)) (by decide +kernel) (qs := _) rfl rfl rfl rfl ?_)
      rintro _ M12 _ ⟨hM12, rfl, c', rfl, hab, hok⟩
      refine ⟨by (repeat (first | exact trivial | refine And.intro (pend_q rfl rfl rfl (qt_pev tok rfl)) ?_ | refine And.intro (pend_q rfl rfl rfl (ql tok rfl)) ?_)), ?_⟩
      refine pr_q 13 (by decide +kernel) rfl (qt_pev tok rfl) rfl rfl rfl ?_
      refine pr_q 14 (by decide +kernel) rfl (qt_pev tok rfl) rfl rfl rfl ?_
      refine pr_one 15 (by decide +kernel) (eff0 15 rfl (sst tok rfl rfl rfl rfl rfl) (by decide +kernel) (qs := _) rfl ?_)
      rintro _ _ _ ⟨rfl, rfl, rfl⟩
      refine ⟨by (repeat (first | exact trivial | refine And.intro (pend_q rfl rfl rfl (qt_pev tok rfl)) ?_ | refine And.intro (pend_q rfl rfl rfl (ql tok rfl)) ?_)), ?_⟩
      refine pr_q 16 (by decide +kernel) rfl (qt_pev tok rfl) rfl rfl rfl ?_
      refine pr_end (by decide +kernel) (by decide +kernel) ?_
      repeat (first | with_reducible (first | refine run_seq ?_ | refine run_region ?_ | refine runL_nil ?_ | refine run_skip ?_ | refine run_block ?_ | refine run_inBlock ?_) | refine run_exit rfl ?_ | refine runL_q (qt_pev tok rfl) rfl rfl rfl ?_ | refine runL_g rfl rfl (qt_pev tok rfl) rfl rfl rfl rfl rfl ?_ | refine runL_q (ql tok rfl) rfl rfl rfl ?_ | refine runL_g rfl rfl (ql tok rfl) rfl rfl rfl rfl rfl ?_ | (refine runL_op0 (sst tok rfl rfl rfl rfl rfl) ?_; rintro _ _ _ ⟨rfl, rfl, rfl⟩) | (refine runL_op (st_box rfl) rfl rfl rfl ?_; rintro _ _ _ ⟨_, rfl, rfl, rfl⟩) | (refine runL_op (st_alloc tok rfl) rfl rfl rfl ?_; rintro _ _ _ ⟨_, rfl, rfl, rfl⟩) | (refine runL_op (st_buildSlice tok rfl rfl rfl rfl rfl rfl rfl) rfl rfl rfl ?_; rintro _ _ _ ⟨_, rfl, rfl, rfl⟩))
      exact run_ret hC (rs := [.cell 10 29, .tmp 11]) rfl (rl tok rfl (resT rfl resN)) (fun _ h => h.drop.drop) ⟨Mem.le_trans hMM hM12, rfl, c', by rw [newA, if_neg hle, ← newAb hl hc1e]; rfl, by rw [newA, if_neg hle, ← newAb hl hc1e]; exact hab, hok⟩
    · refine eff1 9 rfl (St.frz1 (st_makeSlice (n := s.len) tok rfl rfl rfl rfl rfl rfl rfl (by omega) (by omega))) (by decide +kernel) (qs := _) rfl rfl rfl rfl ?_
      rintro _ M9 _ ⟨hM9, rfl, b9, rfl, hb9⟩
      refine ⟨by (repeat (first | exact trivial | refine And.intro (pend_q rfl rfl rfl (qt_pev tok rfl)) ?_ | refine And.intro (pend_q rfl rfl rfl (ql tok rfl)) ?_)), ?_⟩
      have hMM := Mem.le_trans hMM hM9
      have hs := MbOk.le hM9 hs
      have hb := StOk.le hM9 hb
      have hb7 := hM9.blk _ _ hb7
      refine pr_one 5 (by decide +kernel) (eff1 5 rfl (St.frz1 (st_makeSlice (n := s.len) tok rfl rfl rfl rfl rfl rfl rfl (by omega) (by omega))) (by decide +kernel) (qs := _) rfl rfl rfl rfl ?_)
      rintro _ M5 _ ⟨hM5, rfl, b5, rfl, hb5⟩
      refine ⟨by (repeat (first | exact trivial | refine And.intro (pend_q rfl rfl rfl (qt_pev tok rfl)) ?_ | refine And.intro (pend_q rfl rfl rfl (ql tok rfl)) ?_)), ?_⟩
      have hMM := Mem.le_trans hMM hM5
      have hs := MbOk.le hM5 hs
      have hb := StOk.le hM5 hb
      have hb7 := hM5.blk _ _ hb7
      have hb9 := hM5.blk _ _ hb9
      obtain ⟨c1, hc1e⟩ : ∃ c1 : Co, c1 = ⟨t, au, s, bs, ⟨some ⟨b5, 0, none⟩, s.len, s.len, List.replicate s.len 0⟩, ⟨some ⟨b7, 0, none⟩, s.len, s.len, List.replicate s.len ⟨#[]⟩⟩, ⟨some ⟨b9, 0, none⟩, s.len, s.len, List.replicate s.len false⟩, 1, now, -1⟩ := ⟨_, rfl⟩
      have hc1 : CoOk _ c1 := hc1e ▸ newCo hs hb hb5 hb7 hb9 hd hbd t au now
      have hc1v : (Value.agg ⟨coC c1⟩) = .agg ⟨coC ⟨t, au, s, bs, ⟨some ⟨b5, 0, none⟩, s.len, s.len, List.replicate s.len 0⟩, ⟨some ⟨b7, 0, none⟩, s.len, s.len, List.replicate s.len ⟨#[]⟩⟩, ⟨some ⟨b9, 0, none⟩, s.len, s.len, List.replicate s.len false⟩, 1, now, -1⟩⟩ := by rw [hc1e]
      refine pr_q 11 (by decide +kernel) rfl (Qt.as (qt_pev tok rfl) hc1v.symm) rfl rfl rfl ?_
      refine pr_one 12 (by decide +kernel) (eff1 12 rfl (st_callF rfl (fun _ => made_frz _ _ c1 hc1)) (by decide +kernel) (qs := _) rfl rfl rfl rfl ?_)
      rintro _ M12 _ ⟨hM12, rfl, c', rfl, hab, hok⟩
      refine ⟨by (repeat (first | exact trivial | refine And.intro (pend_q rfl rfl rfl (qt_pev tok rfl)) ?_ | refine And.intro (pend_q rfl rfl rfl (ql tok rfl)) ?_)), ?_⟩
      refine pr_q 13 (by decide +kernel) rfl (qt_pev tok rfl) rfl rfl rfl ?_
      refine pr_q 14 (by decide +kernel) rfl (qt_pev tok rfl) rfl rfl rfl ?_
      refine pr_one 15 (by decide +kernel) (eff0 15 rfl (sst tok rfl rfl rfl rfl rfl) (by decide +kernel) (qs := _) rfl ?_)
      rintro _ _ _ ⟨rfl, rfl, rfl⟩
      refine ⟨by (repeat (first | exact trivial | refine And.intro (pend_q rfl rfl rfl (qt_pev tok rfl)) ?_ | refine And.intro (pend_q rfl rfl rfl (ql tok rfl)) ?_)), ?_⟩
      refine pr_q 16 (by decide +kernel) rfl (qt_pev tok rfl) rfl rfl rfl ?_
      refine pr_end (by decide +kernel) (by decide +kernel) ?_
      repeat (first | with_reducible (first | refine run_seq ?_ | refine run_region ?_ | refine runL_nil ?_ | refine run_skip ?_ | refine run_block ?_ | refine run_inBlock ?_) | refine run_exit rfl ?_ | refine runL_q (qt_pev tok rfl) rfl rfl rfl ?_ | refine runL_g rfl rfl (qt_pev tok rfl) rfl rfl rfl rfl rfl ?_ | refine runL_q (ql tok rfl) rfl rfl rfl ?_ | refine runL_g rfl rfl (ql tok rfl) rfl rfl rfl rfl rfl ?_ | (refine runL_op0 (sst tok rfl rfl rfl rfl rfl) ?_; rintro _ _ _ ⟨rfl, rfl, rfl⟩) | (refine runL_op (st_box rfl) rfl rfl rfl ?_; rintro _ _ _ ⟨_, rfl, rfl, rfl⟩) | (refine runL_op (st_alloc tok rfl) rfl rfl rfl ?_; rintro _ _ _ ⟨_, rfl, rfl, rfl⟩) | (refine runL_op (st_buildSlice tok rfl rfl rfl rfl rfl rfl rfl) rfl rfl rfl ?_; rintro _ _ _ ⟨_, rfl, rfl, rfl⟩))
      exact run_ret hC (rs := [.cell 10 29, .tmp 11]) rfl (rl tok rfl (resT rfl resN)) (fun _ h => h.drop.drop) ⟨Mem.le_trans hMM hM12, rfl, c', by rw [newA, if_neg hle, ← newAb hl hc1e]; rfl, by rw [newA, if_neg hle, ← newAb hl hc1e]; exact hab, hok⟩
  · refine eff1 9 rfl (St.frz1 (st_makeSlice (n := s.len) tok rfl rfl rfl rfl rfl rfl rfl (by omega) (by omega))) (by decide +kernel) (qs := _) rfl rfl rfl rfl ?_
    rintro _ M9 _ ⟨hM9, rfl, b9, rfl, hb9⟩
    refine ⟨by (repeat (first | exact trivial | refine And.intro (pend_q rfl rfl rfl (qt_pev tok rfl)) ?_ | refine And.intro (pend_q rfl rfl rfl (ql tok rfl)) ?_)), ?_⟩
    have hMM := Mem.le_trans hMM hM9
    have hs := MbOk.le hM9 hs
    have hb := StOk.le hM9 hb
    refine pr_two 5 7 (by decide +kernel) ?_ ?_
    · refine eff1 5 rfl (St.frz1 (st_makeSlice (n := s.len) tok rfl rfl rfl rfl rfl rfl rfl (by omega) (by omega))) (by decide +kernel) (qs := _) rfl rfl rfl rfl ?_
      rintro _ M5 _ ⟨hM5, rfl, b5, rfl, hb5⟩
      refine ⟨by (repeat (first | exact trivial | refine And.intro (pend_q rfl rfl rfl (qt_pev tok rfl)) ?_ | refine And.intro (pend_q rfl rfl rfl (ql tok rfl)) ?_)), ?_⟩
      have hMM := Mem.le_trans hMM hM5
      have hs := MbOk.le hM5 hs
      have hb := StOk.le hM5 hb
      have hb9 := hM5.blk _ _ hb9
      refine pr_one 7 (by decide +kernel) (eff1 7 rfl (St.frz1 (st_makeSlice (n := s.len) tok rfl rfl rfl rfl rfl rfl rfl (by omega) (by omega))) (by decide +kernel) (qs := _) rfl rfl rfl rfl ?_)
      rintro _ M7 _ ⟨hM7, rfl, b7, rfl, hb7⟩
      refine ⟨by (repeat (first | exact trivial | refine And.intro (pend_q rfl rfl rfl (qt_pev tok rfl)) ?_ | refine And.intro (pend_q rfl rfl rfl (ql tok rfl)) ?_)), ?_⟩
      have hMM := Mem.le_trans hMM hM7
      have hs := MbOk.le hM7 hs
      have hb := StOk.le hM7 hb
      have hb9 := hM7.blk _ _ hb9
      have hb5 := hM7.blk _ _ hb5
      obtain ⟨c1, hc1e⟩ : ∃ c1 : Co, c1 = ⟨t, au, s, bs, ⟨some ⟨b5, 0, none⟩, s.len, s.len, List.replicate s.len 0⟩, ⟨some ⟨b7, 0, none⟩, s.len, s.len, List.replicate s.len ⟨#[]⟩⟩, ⟨some ⟨b9, 0, none⟩, s.len, s.len, List.replicate s.len false⟩, 1, now, -1⟩ := ⟨_, rfl⟩
      have hc1 : CoOk _ c1 := hc1e ▸ newCo hs hb hb5 hb7 hb9 hd hbd t au now
      have hc1v : (Value.agg ⟨coC c1⟩) = .agg ⟨coC ⟨t, au, s, bs, ⟨some ⟨b5, 0, none⟩, s.len, s.len, List.replicate s.len 0⟩, ⟨some ⟨b7, 0, none⟩, s.len, s.len, List.replicate s.len ⟨#[]⟩⟩, ⟨some ⟨b9, 0, none⟩, s.len, s.len, List.replicate s.len false⟩, 1, now, -1⟩⟩ := by rw [hc1e]
      refine pr_q 11 (by decide +kernel) rfl (Qt.as (qt_pev tok rfl) hc1v.symm) rfl rfl rfl ?_
      refine pr_one 12 (by decide +kernel) (eff1 12 rfl (st_callF rfl (fun _ => made_frz _ _ c1 hc1)) (by decide +kernel) (qs := _) rfl rfl rfl rfl ?_)
      rintro _ M12 _ ⟨hM12, rfl, c', rfl, hab, hok⟩
      refine ⟨by (repeat (first | exact trivial | refine And.intro (pend_q rfl rfl rfl (qt_pev tok rfl)) ?_ | refine And.intro (pend_q rfl rfl rfl (ql tok rfl)) ?_)), ?_⟩
      refine pr_q 13 (by decide +kernel) rfl (qt_pev tok rfl) rfl rfl rfl ?_
      refine pr_q 14 (by decide +kernel) rfl (qt_pev tok rfl) rfl rfl rfl ?_
      refine pr_one 15 (by decide +kernel) (eff0 15 rfl (sst tok rfl rfl rfl rfl rfl) (by decide +kernel) (qs := _) rfl ?_)
      rintro _ _ _ ⟨rfl, rfl, rfl⟩
      refine ⟨by (repeat (first | exact trivial | refine And.intro (pend_q rfl rfl rfl (qt_pev tok rfl)) ?_ | refine And.intro (pend_q rfl rfl rfl (ql tok rfl)) ?_)), ?_⟩
      refine pr_q 16 (by decide +kernel) rfl (qt_pev tok rfl) rfl rfl rfl ?_
      refine pr_end (by decide +kernel) (by decide +kernel) ?_
      repeat (first | with_reducible (first | refine run_seq ?_ | refine run_region ?_ | refine runL_nil ?_ | refine run_skip ?_ | refine run_block ?_ | refine run_inBlock ?_) | refine run_exit rfl ?_ | refine runL_q (qt_pev tok rfl) rfl rfl rfl ?_ | refine runL_g rfl rfl (qt_pev tok rfl) rfl rfl rfl rfl rfl ?_ | refine runL_q (ql tok rfl) rfl rfl rfl ?_ | refine runL_g rfl rfl (ql tok rfl) rfl rfl rfl rfl rfl ?_ | (refine runL_op0 (sst tok rfl rfl rfl rfl rfl) ?_; rintro _ _ _ ⟨rfl, rfl, rfl⟩) | (refine runL_op (st_box rfl) rfl rfl rfl ?_; rintro _ _ _ ⟨_, rfl, rfl, rfl⟩) | (refine runL_op (st_alloc tok rfl) rfl rfl rfl ?_; rintro _ _ _ ⟨_, rfl, rfl, rfl⟩) | (refine runL_op (st_buildSlice tok rfl rfl rfl rfl rfl rfl rfl) rfl rfl rfl ?_; rintro _ _ _ ⟨_, rfl, rfl, rfl⟩))
      exact run_ret hC (rs := [.cell 10 29, .tmp 11]) rfl (rl tok rfl (resT rfl resN)) (fun _ h => h.drop.drop) ⟨Mem.le_trans hMM hM12, rfl, c', by rw [newA, if_neg hle, ← newAb hl hc1e]; rfl, by rw [newA, if_neg hle, ← newAb hl hc1e]; exact hab, hok⟩
    · refine eff1 7 rfl (St.frz1 (st_makeSlice (n := s.len) tok rfl rfl rfl rfl rfl rfl rfl (by omega) (by omega))) (by decide +kernel) (qs := _) rfl rfl rfl rfl ?_
      rintro _ M7 _ ⟨hM7, rfl, b7, rfl, hb7⟩
      refine ⟨by (repeat (first | exact trivial | refine And.intro (pend_q rfl rfl rfl (qt_pev tok rfl)) ?_ | refine And.intro (pend_q rfl rfl rfl (ql tok rfl)) ?_)), ?_⟩
      have hMM := Mem.le_trans hMM hM7
      have hs := MbOk.le hM7 hs
      have hb := StOk.le hM7 hb
      have hb9 := hM7.blk _ _ hb9
      refine pr_one 5 (by decide +kernel) (eff1 5 rfl (St.frz1 (st_makeSlice (n := s.len) tok rfl rfl rfl rfl rfl rfl rfl (by omega) (by omega))) (by decide +kernel) (qs := _) rfl rfl rfl rfl ?_)
      rintro _ M5 _ ⟨hM5, rfl, b5, rfl, hb5⟩
      refine ⟨by (repeat (first | exact trivial | refine And.intro (pend_q rfl rfl rfl (qt_pev tok rfl)) ?_ | refine And.intro (pend_q rfl rfl rfl (ql tok rfl)) ?_)), ?_⟩
      have hMM := Mem.le_trans hMM hM5
      have hs := MbOk.le hM5 hs
      have hb := StOk.le hM5 hb
      have hb9 := hM5.blk _ _ hb9
      have hb7 := hM5.blk _ _ hb7
      obtain ⟨c1, hc1e⟩ : ∃ c1 : Co, c1 = ⟨t, au, s, bs, ⟨some ⟨b5, 0, none⟩, s.len, s.len, List.replicate s.len 0⟩, ⟨some ⟨b7, 0, none⟩, s.len, s.len, List.replicate s.len ⟨#[]⟩⟩, ⟨some ⟨b9, 0, none⟩, s.len, s.len, List.replicate s.len false⟩, 1, now, -1⟩ := ⟨_, rfl⟩
      have hc1 : CoOk _ c1 := hc1e ▸ newCo hs hb hb5 hb7 hb9 hd hbd t au now
      have hc1v : (Value.agg ⟨coC c1⟩) = .agg ⟨coC ⟨t, au, s, bs, ⟨some ⟨b5, 0, none⟩, s.len, s.len, List.replicate s.len 0⟩, ⟨some ⟨b7, 0, none⟩, s.len, s.len, List.replicate s.len ⟨#[]⟩⟩, ⟨some ⟨b9, 0, none⟩, s.len, s.len, List.replicate s.len false⟩, 1, now, -1⟩⟩ := by rw [hc1e]
      refine pr_q 11 (by decide +kernel) rfl (Qt.as (qt_pev tok rfl) hc1v.symm) rfl rfl rfl ?_
      refine pr_one 12 (by decide +kernel) (eff1 12 rfl (st_callF rfl (fun _ => made_frz _ _ c1 hc1)) (by decide +kernel) (qs := _) rfl rfl rfl rfl ?_)
      rintro _ M12 _ ⟨hM12, rfl, c', rfl, hab, hok⟩
      refine ⟨by (repeat (first | exact trivial | refine And.intro (pend_q rfl rfl rfl (qt_pev tok rfl)) ?_ | refine And.intro (pend_q rfl rfl rfl (ql tok rfl)) ?_)), ?_⟩
      refine pr_q 13 (by decide +kernel) rfl (qt_pev tok rfl) rfl rfl rfl ?_
      refine pr_q 14 (by decide +kernel) rfl (qt_pev tok rfl) rfl rfl rfl ?_
      refine pr_one 15 (by decide +kernel) (eff0 15 rfl (sst tok rfl rfl rfl rfl rfl) (by decide +kernel) (qs := _) rfl ?_)
      rintro _ _ _ ⟨rfl, rfl, rfl⟩
      refine ⟨by (repeat (first | exact trivial | refine And.intro (pend_q rfl rfl rfl (qt_pev tok rfl)) ?_ | refine And.intro (pend_q rfl rfl rfl (ql tok rfl)) ?_)), ?_⟩
      refine pr_q 16 (by decide +kernel) rfl (qt_pev tok rfl) rfl rfl rfl ?_
      refine pr_end (by decide +kernel) (by decide +kernel) ?_
      repeat (first | with_reducible (first | refine run_seq ?_ | refine run_region ?_ | refine runL_nil ?_ | refine run_skip ?_ | refine run_block ?_ | refine run_inBlock ?_) | refine run_exit rfl ?_ | refine runL_q (qt_pev tok rfl) rfl rfl rfl ?_ | refine runL_g rfl rfl (qt_pev tok rfl) rfl rfl rfl rfl rfl ?_ | refine runL_q (ql tok rfl) rfl rfl rfl ?_ | refine runL_g rfl rfl (ql tok rfl) rfl rfl rfl rfl rfl ?_ | (refine runL_op0 (sst tok rfl rfl rfl rfl rfl) ?_; rintro _ _ _ ⟨rfl, rfl, rfl⟩) | (refine runL_op (st_box rfl) rfl rfl rfl ?_; rintro _ _ _ ⟨_, rfl, rfl, rfl⟩) | (refine runL_op (st_alloc tok rfl) rfl rfl rfl ?_; rintro _ _ _ ⟨_, rfl, rfl, rfl⟩) | (refine runL_op (st_buildSlice tok rfl rfl rfl rfl rfl rfl rfl) rfl rfl rfl ?_; rintro _ _ _ ⟨_, rfl, rfl, rfl⟩))
      exact run_ret hC (rs := [.cell 10 29, .tmp 11]) rfl (rl tok rfl (resT rfl resN)) (fun _ h => h.drop.drop) ⟨Mem.le_trans hMM hM12, rfl, c', by rw [newA, if_neg hle, ← newAb hl hc1e]; rfl, by rw [newA, if_neg hle, ← newAb hl hc1e]; exact hab, hok⟩

/-! ### one that comes back by a receipt -/
def rpC (t : Tx) (au : Int) (s : SMb) (ts : SStr) : List Value := [.int .i64 t.coord, .int .i64 t.epoch, .int .i64 t.seq, .int .i64 au, s.v, ts.v]
def backC (t : Tx) (au : Int) (mem : List Mb) (tags : List ByteArray) : Ca := ⟨t, au, mem, [], List.replicate mem.length 1, tags, List.replicate mem.length false, 2, 0, -1⟩
def backA (t : Tx) (au : Int) (mem : List Mb) (tags : List ByteArray) : Ca × Int := if 6 < mem.length then (caZ, 2) else madeA (backC t au mem tags)
theorem backCo {M : Mem} {s : SMb} {ts : SStr} {b8 b12 e8 e12 : Nat} (hs : MbOk M s) (ht : StOk M ts) (h8 : M.blk b8 = some (.cells ⟨List.replicate s.len (.int .u8 1)⟩ e8 (0, 0))) (h12 : M.blk b12 = some (.cells ⟨List.replicate s.len (.bool false)⟩ e12 (0, 0)))
    (hd : ∀ m ∈ s.xs, m.digest.size < 4611686018427387904) (htd : ∀ t ∈ ts.xs, t.size < 4611686018427387904) (t : Tx) (au : Int) : CoOk M ⟨t, au, s, ⟨none, 0, 0, []⟩, ⟨some ⟨b8, 0, none⟩, s.len, s.len, List.replicate s.len 1⟩, ts, ⟨some ⟨b12, 0, none⟩, s.len, s.len, List.replicate s.len false⟩, 2, 0, -1⟩ :=
  ⟨hs, StOk.nil M, repU8 h8 hs.2 _, ht, repBl h12 hs.2 _, hd, (fun x hx => by cases hx), htd⟩
theorem backAb {s : SMb} {ts : SStr} {b8 b12 : Nat} {t : Tx} {au : Int} (hl : s.xs.length = s.len) {c1 : Co} (h : c1 = ⟨t, au, s, ⟨none, 0, 0, []⟩, ⟨some ⟨b8, 0, none⟩, s.len, s.len, List.replicate s.len 1⟩, ts, ⟨some ⟨b12, 0, none⟩, s.len, s.len, List.replicate s.len false⟩, 2, 0, -1⟩) : c1.ab = backC t au s.xs ts.xs := by rw [h, backC, hl]; rfl
theorem repeatV (M : Mem) (L : HL) (bs n : Nat) (hn : n ≤ 6) (hb : (bs, .cells ⟨[.int .u8 1]⟩ 5 (0, 0)) ∈ L) : Tr Try.prog 50 [.slice (some ⟨bs, 0, none⟩) 1 1, .int .i64 (n : Int)] M L (fun v M' L' => ∃ b, v = (fun b => .slice (some ⟨b, 0, none⟩) n n : Nat → Value) b ∧ M = M' ∧ L' = (b, .cells ⟨List.replicate n (.int .u8 1)⟩ 5 (0, 0)) :: L) :=
  ⟨(repeat_ok M L bs n hn hb).1, fun w hw => ((repeat_ok M L bs n hn hb).2 w hw).mono fun _ _ ⟨M', L', h1, h2, b, h3, h4⟩ => ⟨M', L', h1, b, h3, h2, h4⟩⟩
set_option maxRecDepth 10000 in
set_option maxHeartbeats 16000000 in
theorem back_ok (M : Mem) (L : HL) (t : Tx) (au : Int) (s : SMb) (ts : SStr) (hs : MbOk M s) (ht : StOk M ts) (hd : ∀ m ∈ s.xs, m.digest.size < 4611686018427387904) (htd : ∀ t ∈ ts.xs, t.size < 4611686018427387904) : Tr Try.prog 26 [.agg ⟨rpC t au s ts⟩] M L (CoK M L (backA t au s.xs ts.xs)) := by
  have hl := hs.len
  have h6 := hs.2
  refine Tr.intro 28 Try.func26 rfl rfl Try.call26 rfl ?_
  intro C hC hro
  repeat (first | with_reducible (first | refine run_seq ?_ | refine run_region ?_ | refine runL_nil ?_ | refine run_skip ?_ | refine run_block ?_ | refine run_inBlock ?_) | refine run_exit rfl ?_ | refine runL_q (qt_pev tok rfl) rfl rfl rfl ?_ | refine runL_g rfl rfl (qt_pev tok rfl) rfl rfl rfl rfl rfl ?_ | refine runL_q (ql tok rfl) rfl rfl rfl ?_ | refine runL_g rfl rfl (ql tok rfl) rfl rfl rfl rfl rfl ?_ | (refine runL_op0 (sst tok rfl rfl rfl rfl rfl) ?_; rintro _ _ _ ⟨rfl, rfl, rfl⟩) | (refine runL_op (st_box rfl) rfl rfl rfl ?_; rintro _ _ _ ⟨_, rfl, rfl, rfl⟩) | (refine runL_op (st_alloc tok rfl) rfl rfl rfl ?_; rintro _ _ _ ⟨_, rfl, rfl, rfl⟩) | (refine runL_op (st_buildSlice tok rfl rfl rfl rfl rfl rfl rfl) rfl rfl rfl ?_; rintro _ _ _ ⟨_, rfl, rfl, rfl⟩))
  refine run_cond rfl (fun h => ?_) (fun h => ?_)
  · have h1 : 6 < s.xs.length := by
      have : (s.len : Int) > 6 := of_decide_eq_true h
      omega
    rw [backA, if_pos h1] at hC
    repeat (first | with_reducible (first | refine run_seq ?_ | refine run_region ?_ | refine runL_nil ?_ | refine run_skip ?_ | refine run_block ?_ | refine run_inBlock ?_) | refine run_exit rfl ?_ | refine runL_q (qt_pev tok rfl) rfl rfl rfl ?_ | refine runL_g rfl rfl (qt_pev tok rfl) rfl rfl rfl rfl rfl ?_ | refine runL_q (ql tok rfl) rfl rfl rfl ?_ | refine runL_g rfl rfl (ql tok rfl) rfl rfl rfl rfl rfl ?_ | (refine runL_op0 (sst tok rfl rfl rfl rfl rfl) ?_; rintro _ _ _ ⟨rfl, rfl, rfl⟩) | (refine runL_op (st_box rfl) rfl rfl rfl ?_; rintro _ _ _ ⟨_, rfl, rfl, rfl⟩) | (refine runL_op (st_alloc tok rfl) rfl rfl rfl ?_; rintro _ _ _ ⟨_, rfl, rfl, rfl⟩) | (refine runL_op (st_buildSlice tok rfl rfl rfl rfl rfl rfl rfl) rfl rfl rfl ?_; rintro _ _ _ ⟨_, rfl, rfl, rfl⟩))
    exact run_ret hC (rs := [.cell 2 29, .tmp 3]) rfl (rl tok rfl (resT rfl resN)) (fun _ h => h.drop.drop) (CoK.none _ _ _ (Mem.le_refl _))
  have hle : ¬ 6 < s.xs.length := by
    have : ¬ (s.len : Int) > 6 := of_decide_eq_false h
    omega
  have h66 : s.len ≤ 6 := by omega
  repeat (first | with_reducible (first | refine run_seq ?_ | refine run_region ?_ | refine runL_nil ?_ | refine run_skip ?_ | refine run_block ?_ | refine run_inBlock ?_) | refine run_exit rfl ?_)
  have hMM := Mem.le_refl M
  refine prn_start mixed ?_
  refine pr_q 0 (by decide +kernel) rfl (qt_pev tok rfl) rfl rfl rfl ?_
  refine pr_q 1 (by decide +kernel) rfl (ql tok rfl) rfl rfl rfl ?_
  refine pr_q 2 (by decide +kernel) rfl (qt_pev tok rfl) rfl rfl rfl ?_
  refine pr_q 3 (by decide +kernel) rfl (ql tok rfl) rfl rfl rfl ?_
  refine pr_q 4 (by decide +kernel) rfl (qt_pev tok rfl) rfl rfl rfl ?_
  refine pr_q 5 (by decide +kernel) rfl (ql tok rfl) rfl rfl rfl ?_
  refine pr_q 7 (by decide +kernel) rfl (qt_pev tok rfl) rfl rfl rfl ?_
  refine pr_q 9 (by decide +kernel) rfl (qt_pev tok rfl) rfl rfl rfl ?_
  refine pr_q 10 (by decide +kernel) rfl (ql tok rfl) rfl rfl rfl ?_
  refine pr_q 11 (by decide +kernel) rfl (qt_pev tok rfl) rfl rfl rfl ?_
  refine pr_two 6 12 (by decide +kernel) ?_ ?_
  · refine eff1 6 rfl (st_buildSlice tok rfl rfl rfl rfl rfl rfl rfl) (by decide +kernel) (qs := _) rfl rfl rfl rfl ?_
    rintro _ _ _ ⟨b6, rfl, rfl, rfl⟩
    refine ⟨by (repeat (first | exact trivial | refine And.intro (pend_q rfl rfl rfl (qt_pev tok rfl)) ?_ | refine And.intro (pend_q rfl rfl rfl (ql tok rfl)) ?_)), ?_⟩
    refine pr_two 8 12 (by decide +kernel) ?_ ?_
    · refine eff1 8 rfl (St.frz1 (V := fun b => .slice (some ⟨b, 0, none⟩) s.len s.len) (st_callF rfl (fun _ => repeatV _ _ b6 s.len (by omega) List.mem_cons_self))) (by decide +kernel) (qs := _) rfl rfl rfl rfl ?_
      rintro _ M8 _ ⟨hM8, rfl, b8, rfl, hb8⟩
      refine ⟨by (repeat (first | exact trivial | refine And.intro (pend_q rfl rfl rfl (qt_pev tok rfl)) ?_ | refine And.intro (pend_q rfl rfl rfl (ql tok rfl)) ?_)), ?_⟩
      have hMM := Mem.le_trans hMM hM8
      have hs := MbOk.le hM8 hs
      have ht := StOk.le hM8 ht
      refine pr_one 12 (by decide +kernel) (eff1 12 rfl (St.frz1 (st_makeSlice (n := s.len) tok rfl rfl rfl rfl rfl rfl rfl (by omega) (by omega))) (by decide +kernel) (qs := _) rfl rfl rfl rfl ?_)
      rintro _ M12 _ ⟨hM12, rfl, b12, rfl, hb12⟩
      refine ⟨by (repeat (first | exact trivial | refine And.intro (pend_q rfl rfl rfl (qt_pev tok rfl)) ?_ | refine And.intro (pend_q rfl rfl rfl (ql tok rfl)) ?_)), ?_⟩
      have hMM := Mem.le_trans hMM hM12
      have hs := MbOk.le hM12 hs
      have ht := StOk.le hM12 ht
      have hb8 := hM12.blk _ _ hb8
      obtain ⟨c1, hc1e⟩ : ∃ c1 : Co, c1 = ⟨t, au, s, ⟨none, 0, 0, []⟩, ⟨some ⟨b8, 0, none⟩, s.len, s.len, List.replicate s.len 1⟩, ts, ⟨some ⟨b12, 0, none⟩, s.len, s.len, List.replicate s.len false⟩, 2, 0, -1⟩ := ⟨_, rfl⟩
      have hc1 : CoOk _ c1 := hc1e ▸ backCo hs ht hb8 hb12 hd htd t au
      have hc1v : (Value.agg ⟨coC c1⟩) = .agg ⟨coC ⟨t, au, s, ⟨none, 0, 0, []⟩, ⟨some ⟨b8, 0, none⟩, s.len, s.len, List.replicate s.len 1⟩, ts, ⟨some ⟨b12, 0, none⟩, s.len, s.len, List.replicate s.len false⟩, 2, 0, -1⟩⟩ := by rw [hc1e]
      refine pr_q 13 (by decide +kernel) rfl (Qt.as (qt_pev tok rfl) hc1v.symm) rfl rfl rfl ?_
      refine pr_one 14 (by decide +kernel) (eff1 14 rfl (st_callF rfl (fun _ => made_frz _ _ c1 hc1)) (by decide +kernel) (qs := _) rfl rfl rfl rfl ?_)
      rintro _ M14 _ ⟨hM14, rfl, c', rfl, hab, hok⟩
      refine ⟨by (repeat (first | exact trivial | refine And.intro (pend_q rfl rfl rfl (qt_pev tok rfl)) ?_ | refine And.intro (pend_q rfl rfl rfl (ql tok rfl)) ?_)), ?_⟩
      refine pr_q 15 (by decide +kernel) rfl (qt_pev tok rfl) rfl rfl rfl ?_
      refine pr_q 16 (by decide +kernel) rfl (qt_pev tok rfl) rfl rfl rfl ?_
      refine pr_one 17 (by decide +kernel) (eff0 17 rfl (sst tok rfl rfl rfl rfl rfl) (by decide +kernel) (qs := _) rfl ?_)
      rintro _ _ _ ⟨rfl, rfl, rfl⟩
      refine ⟨by (repeat (first | exact trivial | refine And.intro (pend_q rfl rfl rfl (qt_pev tok rfl)) ?_ | refine And.intro (pend_q rfl rfl rfl (ql tok rfl)) ?_)), ?_⟩
      refine pr_q 18 (by decide +kernel) rfl (qt_pev tok rfl) rfl rfl rfl ?_
      refine pr_end (by decide +kernel) (by decide +kernel) ?_
      repeat (first | with_reducible (first | refine run_seq ?_ | refine run_region ?_ | refine runL_nil ?_ | refine run_skip ?_ | refine run_block ?_ | refine run_inBlock ?_) | refine run_exit rfl ?_ | refine runL_q (qt_pev tok rfl) rfl rfl rfl ?_ | refine runL_g rfl rfl (qt_pev tok rfl) rfl rfl rfl rfl rfl ?_ | refine runL_q (ql tok rfl) rfl rfl rfl ?_ | refine runL_g rfl rfl (ql tok rfl) rfl rfl rfl rfl rfl ?_ | (refine runL_op0 (sst tok rfl rfl rfl rfl rfl) ?_; rintro _ _ _ ⟨rfl, rfl, rfl⟩) | (refine runL_op (st_box rfl) rfl rfl rfl ?_; rintro _ _ _ ⟨_, rfl, rfl, rfl⟩) | (refine runL_op (st_alloc tok rfl) rfl rfl rfl ?_; rintro _ _ _ ⟨_, rfl, rfl, rfl⟩) | (refine runL_op (st_buildSlice tok rfl rfl rfl rfl rfl rfl rfl) rfl rfl rfl ?_; rintro _ _ _ ⟨_, rfl, rfl, rfl⟩))
      exact run_ret hC (rs := [.cell 2 29, .tmp 3]) rfl (rl tok rfl (resT rfl resN)) (fun _ h => h.drop.drop.drop) ⟨Mem.le_trans hMM hM14, rfl, c', by rw [backA, if_neg hle, ← backAb hl hc1e]; rfl, by rw [backA, if_neg hle, ← backAb hl hc1e]; exact hab, hok⟩
    · refine eff1 12 rfl (St.frz1 (st_makeSlice (n := s.len) tok rfl rfl rfl rfl rfl rfl rfl (by omega) (by omega))) (by decide +kernel) (qs := _) rfl rfl rfl rfl ?_
      rintro _ M12 _ ⟨hM12, rfl, b12, rfl, hb12⟩
      refine ⟨by (repeat (first | exact trivial | refine And.intro (pend_q rfl rfl rfl (qt_pev tok rfl)) ?_ | refine And.intro (pend_q rfl rfl rfl (ql tok rfl)) ?_)), ?_⟩
      have hMM := Mem.le_trans hMM hM12
      have hs := MbOk.le hM12 hs
      have ht := StOk.le hM12 ht
      refine pr_one 8 (by decide +kernel) (eff1 8 rfl (St.frz1 (V := fun b => .slice (some ⟨b, 0, none⟩) s.len s.len) (st_callF rfl (fun _ => repeatV _ _ b6 s.len (by omega) List.mem_cons_self))) (by decide +kernel) (qs := _) rfl rfl rfl rfl ?_)
      rintro _ M8 _ ⟨hM8, rfl, b8, rfl, hb8⟩
      refine ⟨by (repeat (first | exact trivial | refine And.intro (pend_q rfl rfl rfl (qt_pev tok rfl)) ?_ | refine And.intro (pend_q rfl rfl rfl (ql tok rfl)) ?_)), ?_⟩
      have hMM := Mem.le_trans hMM hM8
      have hs := MbOk.le hM8 hs
      have ht := StOk.le hM8 ht
      have hb12 := hM8.blk _ _ hb12
      obtain ⟨c1, hc1e⟩ : ∃ c1 : Co, c1 = ⟨t, au, s, ⟨none, 0, 0, []⟩, ⟨some ⟨b8, 0, none⟩, s.len, s.len, List.replicate s.len 1⟩, ts, ⟨some ⟨b12, 0, none⟩, s.len, s.len, List.replicate s.len false⟩, 2, 0, -1⟩ := ⟨_, rfl⟩
      have hc1 : CoOk _ c1 := hc1e ▸ backCo hs ht hb8 hb12 hd htd t au
      have hc1v : (Value.agg ⟨coC c1⟩) = .agg ⟨coC ⟨t, au, s, ⟨none, 0, 0, []⟩, ⟨some ⟨b8, 0, none⟩, s.len, s.len, List.replicate s.len 1⟩, ts, ⟨some ⟨b12, 0, none⟩, s.len, s.len, List.replicate s.len false⟩, 2, 0, -1⟩⟩ := by rw [hc1e]
      refine pr_q 13 (by decide +kernel) rfl (Qt.as (qt_pev tok rfl) hc1v.symm) rfl rfl rfl ?_
      refine pr_one 14 (by decide +kernel) (eff1 14 rfl (st_callF rfl (fun _ => made_frz _ _ c1 hc1)) (by decide +kernel) (qs := _) rfl rfl rfl rfl ?_)
      rintro _ M14 _ ⟨hM14, rfl, c', rfl, hab, hok⟩
      refine ⟨by (repeat (first | exact trivial | refine And.intro (pend_q rfl rfl rfl (qt_pev tok rfl)) ?_ | refine And.intro (pend_q rfl rfl rfl (ql tok rfl)) ?_)), ?_⟩
      refine pr_q 15 (by decide +kernel) rfl (qt_pev tok rfl) rfl rfl rfl ?_
      refine pr_q 16 (by decide +kernel) rfl (qt_pev tok rfl) rfl rfl rfl ?_
      refine pr_one 17 (by decide +kernel) (eff0 17 rfl (sst tok rfl rfl rfl rfl rfl) (by decide +kernel) (qs := _) rfl ?_)
      rintro _ _ _ ⟨rfl, rfl, rfl⟩
      refine ⟨by (repeat (first | exact trivial | refine And.intro (pend_q rfl rfl rfl (qt_pev tok rfl)) ?_ | refine And.intro (pend_q rfl rfl rfl (ql tok rfl)) ?_)), ?_⟩
      refine pr_q 18 (by decide +kernel) rfl (qt_pev tok rfl) rfl rfl rfl ?_
      refine pr_end (by decide +kernel) (by decide +kernel) ?_
      repeat (first | with_reducible (first | refine run_seq ?_ | refine run_region ?_ | refine runL_nil ?_ | refine run_skip ?_ | refine run_block ?_ | refine run_inBlock ?_) | refine run_exit rfl ?_ | refine runL_q (qt_pev tok rfl) rfl rfl rfl ?_ | refine runL_g rfl rfl (qt_pev tok rfl) rfl rfl rfl rfl rfl ?_ | refine runL_q (ql tok rfl) rfl rfl rfl ?_ | refine runL_g rfl rfl (ql tok rfl) rfl rfl rfl rfl rfl ?_ | (refine runL_op0 (sst tok rfl rfl rfl rfl rfl) ?_; rintro _ _ _ ⟨rfl, rfl, rfl⟩) | (refine runL_op (st_box rfl) rfl rfl rfl ?_; rintro _ _ _ ⟨_, rfl, rfl, rfl⟩) | (refine runL_op (st_alloc tok rfl) rfl rfl rfl ?_; rintro _ _ _ ⟨_, rfl, rfl, rfl⟩) | (refine runL_op (st_buildSlice tok rfl rfl rfl rfl rfl rfl rfl) rfl rfl rfl ?_; rintro _ _ _ ⟨_, rfl, rfl, rfl⟩))
      exact run_ret hC (rs := [.cell 2 29, .tmp 3]) rfl (rl tok rfl (resT rfl resN)) (fun _ h => h.drop.drop.drop) ⟨Mem.le_trans hMM hM14, rfl, c', by rw [backA, if_neg hle, ← backAb hl hc1e]; rfl, by rw [backA, if_neg hle, ← backAb hl hc1e]; exact hab, hok⟩
  · refine eff1 12 rfl (St.frz1 (st_makeSlice (n := s.len) tok rfl rfl rfl rfl rfl rfl rfl (by omega) (by omega))) (by decide +kernel) (qs := _) rfl rfl rfl rfl ?_
    rintro _ M12 _ ⟨hM12, rfl, b12, rfl, hb12⟩
    refine ⟨by (repeat (first | exact trivial | refine And.intro (pend_q rfl rfl rfl (qt_pev tok rfl)) ?_ | refine And.intro (pend_q rfl rfl rfl (ql tok rfl)) ?_)), ?_⟩
    have hMM := Mem.le_trans hMM hM12
    have hs := MbOk.le hM12 hs
    have ht := StOk.le hM12 ht
    refine pr_one 6 (by decide +kernel) (eff1 6 rfl (st_buildSlice tok rfl rfl rfl rfl rfl rfl rfl) (by decide +kernel) (qs := _) rfl rfl rfl rfl ?_)
    rintro _ _ _ ⟨b6, rfl, rfl, rfl⟩
    refine ⟨by (repeat (first | exact trivial | refine And.intro (pend_q rfl rfl rfl (qt_pev tok rfl)) ?_ | refine And.intro (pend_q rfl rfl rfl (ql tok rfl)) ?_)), ?_⟩
    refine pr_one 8 (by decide +kernel) (eff1 8 rfl (St.frz1 (V := fun b => .slice (some ⟨b, 0, none⟩) s.len s.len) (st_callF rfl (fun _ => repeatV _ _ b6 s.len (by omega) List.mem_cons_self))) (by decide +kernel) (qs := _) rfl rfl rfl rfl ?_)
    rintro _ M8 _ ⟨hM8, rfl, b8, rfl, hb8⟩
    refine ⟨by (repeat (first | exact trivial | refine And.intro (pend_q rfl rfl rfl (qt_pev tok rfl)) ?_ | refine And.intro (pend_q rfl rfl rfl (ql tok rfl)) ?_)), ?_⟩
    have hMM := Mem.le_trans hMM hM8
    have hs := MbOk.le hM8 hs
    have ht := StOk.le hM8 ht
    have hb12 := hM8.blk _ _ hb12
    obtain ⟨c1, hc1e⟩ : ∃ c1 : Co, c1 = ⟨t, au, s, ⟨none, 0, 0, []⟩, ⟨some ⟨b8, 0, none⟩, s.len, s.len, List.replicate s.len 1⟩, ts, ⟨some ⟨b12, 0, none⟩, s.len, s.len, List.replicate s.len false⟩, 2, 0, -1⟩ := ⟨_, rfl⟩
    have hc1 : CoOk _ c1 := hc1e ▸ backCo hs ht hb8 hb12 hd htd t au
    have hc1v : (Value.agg ⟨coC c1⟩) = .agg ⟨coC ⟨t, au, s, ⟨none, 0, 0, []⟩, ⟨some ⟨b8, 0, none⟩, s.len, s.len, List.replicate s.len 1⟩, ts, ⟨some ⟨b12, 0, none⟩, s.len, s.len, List.replicate s.len false⟩, 2, 0, -1⟩⟩ := by rw [hc1e]
    refine pr_q 13 (by decide +kernel) rfl (Qt.as (qt_pev tok rfl) hc1v.symm) rfl rfl rfl ?_
    refine pr_one 14 (by decide +kernel) (eff1 14 rfl (st_callF rfl (fun _ => made_frz _ _ c1 hc1)) (by decide +kernel) (qs := _) rfl rfl rfl rfl ?_)
    rintro _ M14 _ ⟨hM14, rfl, c', rfl, hab, hok⟩
    refine ⟨by (repeat (first | exact trivial | refine And.intro (pend_q rfl rfl rfl (qt_pev tok rfl)) ?_ | refine And.intro (pend_q rfl rfl rfl (ql tok rfl)) ?_)), ?_⟩
    refine pr_q 15 (by decide +kernel) rfl (qt_pev tok rfl) rfl rfl rfl ?_
    refine pr_q 16 (by decide +kernel) rfl (qt_pev tok rfl) rfl rfl rfl ?_
    refine pr_one 17 (by decide +kernel) (eff0 17 rfl (sst tok rfl rfl rfl rfl rfl) (by decide +kernel) (qs := _) rfl ?_)
    rintro _ _ _ ⟨rfl, rfl, rfl⟩
    refine ⟨by (repeat (first | exact trivial | refine And.intro (pend_q rfl rfl rfl (qt_pev tok rfl)) ?_ | refine And.intro (pend_q rfl rfl rfl (ql tok rfl)) ?_)), ?_⟩
    refine pr_q 18 (by decide +kernel) rfl (qt_pev tok rfl) rfl rfl rfl ?_
    refine pr_end (by decide +kernel) (by decide +kernel) ?_
    repeat (first | with_reducible (first | refine run_seq ?_ | refine run_region ?_ | refine runL_nil ?_ | refine run_skip ?_ | refine run_block ?_ | refine run_inBlock ?_) | refine run_exit rfl ?_ | refine runL_q (qt_pev tok rfl) rfl rfl rfl ?_ | refine runL_g rfl rfl (qt_pev tok rfl) rfl rfl rfl rfl rfl ?_ | refine runL_q (ql tok rfl) rfl rfl rfl ?_ | refine runL_g rfl rfl (ql tok rfl) rfl rfl rfl rfl rfl ?_ | (refine runL_op0 (sst tok rfl rfl rfl rfl rfl) ?_; rintro _ _ _ ⟨rfl, rfl, rfl⟩) | (refine runL_op (st_box rfl) rfl rfl rfl ?_; rintro _ _ _ ⟨_, rfl, rfl, rfl⟩) | (refine runL_op (st_alloc tok rfl) rfl rfl rfl ?_; rintro _ _ _ ⟨_, rfl, rfl, rfl⟩) | (refine runL_op (st_buildSlice tok rfl rfl rfl rfl rfl rfl rfl) rfl rfl rfl ?_; rintro _ _ _ ⟨_, rfl, rfl, rfl⟩))
    exact run_ret hC (rs := [.cell 2 29, .tmp 3]) rfl (rl tok rfl (resT rfl resN)) (fun _ h => h.drop.drop.drop) ⟨Mem.le_trans hMM hM14, rfl, c', by rw [backA, if_neg hle, ← backAb hl hc1e]; rfl, by rw [backA, if_neg hle, ← backAb hl hc1e]; exact hab, hok⟩
end Go.Proofs.Ytpmepmdngdkafaa
namespace Go.Proofs.Ytpmepmdngdkafaa
open Go.Chi

/-! ### the document's numbers -/
theorem u8_nat {n : Nat} (h : n < 256) : IntKind.u8.wrap (n : Int) = n := by
  simp only [IntKind.wrap, IntKind.signed, IntKind.bits]
  simp
  omega
theorem bytesI_one (x : Int) : (bytesI [x]).size = 1 := rfl
theorem app_size (a b : ByteArray) : (a ++ b).size = a.size + b.size := ByteArray.size_append
def digN (v : Nat) : ByteArray := if v = 0 then ⟨#[]⟩ else digN (v / 256) ++ bytesI [((v % 256 : Nat) : Int)]
termination_by v
decreasing_by omega
theorem digN_zero : digN 0 = ⟨#[]⟩ := by rw [digN, if_pos rfl]
theorem digN_size : ∀ (k v : Nat), v < 256 ^ k → (digN v).size ≤ k
  | 0, v, h => by
    have : v = 0 := by simp at h; omega
    subst this
    rw [digN_zero]; exact Nat.le_refl _
  | k + 1, v, h => by
    by_cases h0 : v = 0
    · subst h0; rw [digN_zero]; exact Nat.zero_le _
    · rw [digN, if_neg h0, app_size, bytesI_one]
      have := digN_size k (v / 256) (by rw [Nat.pow_succ] at h; omega)
      omega
theorem digN_len {v : Nat} (h : v < 18446744073709551616) : (digN v).size ≤ 8 := digN_size 8 v (by simpa using h)
theorem digN_first : ∀ v : Nat, v ≠ 0 → ∃ b : UInt8, (digN v)[0]? = some b ∧ b ≠ 0 := by
  intro v
  induction v using Nat.strongRecOn with
  | _ v ih =>
    intro h0
    rw [digN, if_neg h0]
    by_cases h1 : v / 256 = 0
    · rw [h1, digN_zero]
      have hv : v % 256 = v := by omega
      rw [hv]
      refine ⟨UInt8.ofNat v, by simp [bytesI]; rfl, fun e => ?_⟩
      have := congrArg UInt8.toNat e
      simp at this
      omega
    · obtain ⟨b, hb, hb0⟩ := ih (v / 256) (by omega) h1
      refine ⟨b, ?_, hb0⟩
      have hlt : 0 < (digN (v / 256)).size := by
        apply Classical.byContradiction
        intro hn
        rw [getElem?_neg (digN (v / 256)) 0 hn] at hb
        cases hb
      rw [getElem?_pos (digN (v / 256)) 0 hlt] at hb
      rw [getElem?_pos (digN (v / 256) ++ bytesI [((v % 256 : Nat) : Int)]) 0 (by rw [app_size]; omega), ByteArray.getElem_append_left hlt]
      exact hb
set_option maxRecDepth 10000 in
set_option maxHeartbeats 4000000 in
theorem digits_ok (M : Mem) : ∀ v : Nat, v < 18446744073709551616 → ∀ L : HL, TrQ Try.prog 96 [.int .u64 (v : Int)] M L (.string (digN v)) := by
  intro v
  induction v using Nat.strongRecOn with
  | _ v ih =>
    intro hv L
    refine Tr.intro 14 Try.func96 rfl rfl Try.call96 rfl ?_
    intro C hC hro
    repeat (first | with_reducible (first | refine run_seq ?_ | refine run_region ?_ | refine runL_nil ?_ | refine run_skip ?_ | refine run_block ?_ | refine run_inBlock ?_) | refine run_exit rfl ?_ | refine runL_q (qt_pev tok rfl) rfl rfl rfl ?_ | refine runL_g rfl rfl (qt_pev tok rfl) rfl rfl rfl rfl rfl ?_ | refine runL_q (ql tok rfl) rfl rfl rfl ?_ | refine runL_g rfl rfl (ql tok rfl) rfl rfl rfl rfl rfl ?_ | (refine runL_op0 (sst tok rfl rfl rfl rfl rfl) ?_; rintro _ _ _ ⟨rfl, rfl, rfl⟩) | (refine runL_op (st_box rfl) rfl rfl rfl ?_; rintro _ _ _ ⟨_, rfl, rfl, rfl⟩) | (refine runL_op (st_alloc tok rfl) rfl rfl rfl ?_; rintro _ _ _ ⟨_, rfl, rfl, rfl⟩) | (refine runL_op (st_buildSlice tok rfl rfl rfl rfl rfl rfl rfl) rfl rfl rfl ?_; rintro _ _ _ ⟨_, rfl, rfl, rfl⟩))
    refine run_cond rfl (fun h => ?_) (fun h => ?_)
    · have h0 : v = 0 := by simp at h; omega
      subst h0
      repeat (first | with_reducible (first | refine run_seq ?_ | refine run_region ?_ | refine runL_nil ?_ | refine run_skip ?_ | refine run_block ?_ | refine run_inBlock ?_) | refine run_exit rfl ?_ | refine runL_q (qt_pev tok rfl) rfl rfl rfl ?_ | refine runL_g rfl rfl (qt_pev tok rfl) rfl rfl rfl rfl rfl ?_ | refine runL_q (ql tok rfl) rfl rfl rfl ?_ | refine runL_g rfl rfl (ql tok rfl) rfl rfl rfl rfl rfl ?_ | (refine runL_op0 (sst tok rfl rfl rfl rfl rfl) ?_; rintro _ _ _ ⟨rfl, rfl, rfl⟩) | (refine runL_op (st_box rfl) rfl rfl rfl ?_; rintro _ _ _ ⟨_, rfl, rfl, rfl⟩) | (refine runL_op (st_alloc tok rfl) rfl rfl rfl ?_; rintro _ _ _ ⟨_, rfl, rfl, rfl⟩) | (refine runL_op (st_buildSlice tok rfl rfl rfl rfl rfl rfl rfl) rfl rfl rfl ?_; rintro _ _ _ ⟨_, rfl, rfl, rfl⟩))
      exact run_ret hC (rs := [.tmp 2]) rfl (resT rfl resN) (fun _ h => h) ⟨by rw [digN_zero]; rfl, rfl, rfl⟩
    have h0 : v ≠ 0 := by simp at h; omega
    have hlen := digN_len (v := v / 256) (by omega)
    refine run_skip ?_
    refine run_seq ?_
    refine prn_start mixed ?_
    iterate 1 (first | refine prn_q rfl (qt_pev tok rfl) (by decide +kernel) rfl rfl rfl ?_ | refine prn_gK rfl rfl rfl (qt_pev tok rfl) (by decide +kernel) rfl rfl rfl ?_ | refine prn_gF rfl rfl rfl (by decide +kernel) rfl rfl rfl ?_ | refine prn_g rfl rfl rfl (qt_pev tok rfl) (by decide +kernel) rfl rfl rfl rfl rfl ?_ | refine prn_q rfl (ql tok rfl) (by decide +kernel) rfl rfl rfl ?_ | refine prn_gK rfl rfl rfl (ql tok rfl) (by decide +kernel) rfl rfl rfl ?_ | refine prn_gF rfl rfl rfl (by decide +kernel) rfl rfl rfl ?_ | refine prn_g rfl rfl rfl (ql tok rfl) (by decide +kernel) rfl rfl rfl rfl rfl ?_ | (refine prn_e0 rfl (sst tok rfl rfl rfl rfl rfl) (by decide +kernel) ?_; rintro _ _ _ ⟨rfl, rfl, rfl⟩) | (refine prn_e1 rfl (st_box rfl) (by decide +kernel) rfl rfl rfl ?_; rintro _ _ _ ⟨_, rfl, rfl, rfl⟩) | (refine prn_e1 rfl (st_alloc tok rfl) (by decide +kernel) rfl rfl rfl ?_; rintro _ _ _ ⟨_, rfl, rfl, rfl⟩) | (refine prn_e1 rfl (st_buildSlice tok rfl rfl rfl rfl rfl rfl rfl) (by decide +kernel) rfl rfl rfl ?_; rintro _ _ _ ⟨_, rfl, rfl, rfl⟩) | (refine prn_o0 rfl (sst tok rfl rfl rfl rfl rfl) (by decide +kernel) ?_; rintro _ _ _ ⟨rfl, rfl, rfl⟩; refine ⟨by (repeat (first | exact trivial | refine And.intro (pend_q rfl rfl rfl (qt_pev tok rfl)) ?_ | refine And.intro (pend_q rfl rfl rfl (ql tok rfl)) ?_)), ?_⟩) | (refine prn_o1 rfl (st_box rfl) (by decide +kernel) rfl rfl rfl ?_; rintro _ _ _ ⟨_, rfl, rfl, rfl⟩; refine ⟨by (repeat (first | exact trivial | refine And.intro (pend_q rfl rfl rfl (qt_pev tok rfl)) ?_ | refine And.intro (pend_q rfl rfl rfl (ql tok rfl)) ?_)), ?_⟩) | (refine prn_o1 rfl (st_alloc tok rfl) (by decide +kernel) rfl rfl rfl ?_; rintro _ _ _ ⟨_, rfl, rfl, rfl⟩; refine ⟨by (repeat (first | exact trivial | refine And.intro (pend_q rfl rfl rfl (qt_pev tok rfl)) ?_ | refine And.intro (pend_q rfl rfl rfl (ql tok rfl)) ?_)), ?_⟩) | (refine prn_o1 rfl (st_buildSlice tok rfl rfl rfl rfl rfl rfl rfl) (by decide +kernel) rfl rfl rfl ?_; rintro _ _ _ ⟨_, rfl, rfl, rfl⟩; refine ⟨by (repeat (first | exact trivial | refine And.intro (pend_q rfl rfl rfl (qt_pev tok rfl)) ?_ | refine And.intro (pend_q rfl rfl rfl (ql tok rfl)) ?_)), ?_⟩) | (refine prn_e1 rfl (qt_pev tok rfl) (by decide +kernel) rfl rfl rfl ?_; rintro _ _ _ ⟨rfl, rfl, rfl⟩))
    have e6 : Value.int .u64 (IntKind.u64.wrap ((v : Int).tdiv 256)) = .int .u64 ((v / 256 : Nat) : Int) := by rw [Int.tdiv_eq_ediv_of_nonneg (by omega), show (v : Int) / 256 = ((v / 256 : Nat) : Int) by omega, u64_nat (by omega)]
    have hd : digN v = digN (v / 256) ++ bytesI [((v % 256 : Nat) : Int)] := by rw [digN, if_neg h0]
    refine prn_q rfl ((qt_quo rfl rfl (fun _ => by decide)).as e6) (by decide +kernel) rfl rfl rfl ?_
    refine prn_q rfl (qt_callF rfl (fun _ => ih (v / 256) (by omega) (by omega) _)) (by decide +kernel) rfl rfl rfl ?_
    iterate 1 (first | refine prn_q rfl (qt_pev tok rfl) (by decide +kernel) rfl rfl rfl ?_ | refine prn_gK rfl rfl rfl (qt_pev tok rfl) (by decide +kernel) rfl rfl rfl ?_ | refine prn_gF rfl rfl rfl (by decide +kernel) rfl rfl rfl ?_ | refine prn_g rfl rfl rfl (qt_pev tok rfl) (by decide +kernel) rfl rfl rfl rfl rfl ?_ | refine prn_q rfl (ql tok rfl) (by decide +kernel) rfl rfl rfl ?_ | refine prn_gK rfl rfl rfl (ql tok rfl) (by decide +kernel) rfl rfl rfl ?_ | refine prn_gF rfl rfl rfl (by decide +kernel) rfl rfl rfl ?_ | refine prn_g rfl rfl rfl (ql tok rfl) (by decide +kernel) rfl rfl rfl rfl rfl ?_ | (refine prn_e0 rfl (sst tok rfl rfl rfl rfl rfl) (by decide +kernel) ?_; rintro _ _ _ ⟨rfl, rfl, rfl⟩) | (refine prn_e1 rfl (st_box rfl) (by decide +kernel) rfl rfl rfl ?_; rintro _ _ _ ⟨_, rfl, rfl, rfl⟩) | (refine prn_e1 rfl (st_alloc tok rfl) (by decide +kernel) rfl rfl rfl ?_; rintro _ _ _ ⟨_, rfl, rfl, rfl⟩) | (refine prn_e1 rfl (st_buildSlice tok rfl rfl rfl rfl rfl rfl rfl) (by decide +kernel) rfl rfl rfl ?_; rintro _ _ _ ⟨_, rfl, rfl, rfl⟩) | (refine prn_o0 rfl (sst tok rfl rfl rfl rfl rfl) (by decide +kernel) ?_; rintro _ _ _ ⟨rfl, rfl, rfl⟩; refine ⟨by (repeat (first | exact trivial | refine And.intro (pend_q rfl rfl rfl (qt_pev tok rfl)) ?_ | refine And.intro (pend_q rfl rfl rfl (ql tok rfl)) ?_)), ?_⟩) | (refine prn_o1 rfl (st_box rfl) (by decide +kernel) rfl rfl rfl ?_; rintro _ _ _ ⟨_, rfl, rfl, rfl⟩; refine ⟨by (repeat (first | exact trivial | refine And.intro (pend_q rfl rfl rfl (qt_pev tok rfl)) ?_ | refine And.intro (pend_q rfl rfl rfl (ql tok rfl)) ?_)), ?_⟩) | (refine prn_o1 rfl (st_alloc tok rfl) (by decide +kernel) rfl rfl rfl ?_; rintro _ _ _ ⟨_, rfl, rfl, rfl⟩; refine ⟨by (repeat (first | exact trivial | refine And.intro (pend_q rfl rfl rfl (qt_pev tok rfl)) ?_ | refine And.intro (pend_q rfl rfl rfl (ql tok rfl)) ?_)), ?_⟩) | (refine prn_o1 rfl (st_buildSlice tok rfl rfl rfl rfl rfl rfl rfl) (by decide +kernel) rfl rfl rfl ?_; rintro _ _ _ ⟨_, rfl, rfl, rfl⟩; refine ⟨by (repeat (first | exact trivial | refine And.intro (pend_q rfl rfl rfl (qt_pev tok rfl)) ?_ | refine And.intro (pend_q rfl rfl rfl (ql tok rfl)) ?_)), ?_⟩) | (refine prn_e1 rfl (qt_pev tok rfl) (by decide +kernel) rfl rfl rfl ?_; rintro _ _ _ ⟨rfl, rfl, rfl⟩))
    refine prn_q rfl (qt_rem rfl rfl (fun _ => by decide)) (by decide +kernel) rfl rfl rfl ?_
    refine pr_as 9 (.int .u64 ((v % 256 : Nat) : Int)) rfl (by rw [Int.tmod_eq_emod_of_nonneg (by omega)]; first | rfl | (congr 1; omega)) ?_
    iterate 1 (first | refine prn_q rfl (qt_pev tok rfl) (by decide +kernel) rfl rfl rfl ?_ | refine prn_gK rfl rfl rfl (qt_pev tok rfl) (by decide +kernel) rfl rfl rfl ?_ | refine prn_gF rfl rfl rfl (by decide +kernel) rfl rfl rfl ?_ | refine prn_g rfl rfl rfl (qt_pev tok rfl) (by decide +kernel) rfl rfl rfl rfl rfl ?_ | refine prn_q rfl (ql tok rfl) (by decide +kernel) rfl rfl rfl ?_ | refine prn_gK rfl rfl rfl (ql tok rfl) (by decide +kernel) rfl rfl rfl ?_ | refine prn_gF rfl rfl rfl (by decide +kernel) rfl rfl rfl ?_ | refine prn_g rfl rfl rfl (ql tok rfl) (by decide +kernel) rfl rfl rfl rfl rfl ?_ | (refine prn_e0 rfl (sst tok rfl rfl rfl rfl rfl) (by decide +kernel) ?_; rintro _ _ _ ⟨rfl, rfl, rfl⟩) | (refine prn_e1 rfl (st_box rfl) (by decide +kernel) rfl rfl rfl ?_; rintro _ _ _ ⟨_, rfl, rfl, rfl⟩) | (refine prn_e1 rfl (st_alloc tok rfl) (by decide +kernel) rfl rfl rfl ?_; rintro _ _ _ ⟨_, rfl, rfl, rfl⟩) | (refine prn_e1 rfl (st_buildSlice tok rfl rfl rfl rfl rfl rfl rfl) (by decide +kernel) rfl rfl rfl ?_; rintro _ _ _ ⟨_, rfl, rfl, rfl⟩) | (refine prn_o0 rfl (sst tok rfl rfl rfl rfl rfl) (by decide +kernel) ?_; rintro _ _ _ ⟨rfl, rfl, rfl⟩; refine ⟨by (repeat (first | exact trivial | refine And.intro (pend_q rfl rfl rfl (qt_pev tok rfl)) ?_ | refine And.intro (pend_q rfl rfl rfl (ql tok rfl)) ?_)), ?_⟩) | (refine prn_o1 rfl (st_box rfl) (by decide +kernel) rfl rfl rfl ?_; rintro _ _ _ ⟨_, rfl, rfl, rfl⟩; refine ⟨by (repeat (first | exact trivial | refine And.intro (pend_q rfl rfl rfl (qt_pev tok rfl)) ?_ | refine And.intro (pend_q rfl rfl rfl (ql tok rfl)) ?_)), ?_⟩) | (refine prn_o1 rfl (st_alloc tok rfl) (by decide +kernel) rfl rfl rfl ?_; rintro _ _ _ ⟨_, rfl, rfl, rfl⟩; refine ⟨by (repeat (first | exact trivial | refine And.intro (pend_q rfl rfl rfl (qt_pev tok rfl)) ?_ | refine And.intro (pend_q rfl rfl rfl (ql tok rfl)) ?_)), ?_⟩) | (refine prn_o1 rfl (st_buildSlice tok rfl rfl rfl rfl rfl rfl rfl) (by decide +kernel) rfl rfl rfl ?_; rintro _ _ _ ⟨_, rfl, rfl, rfl⟩; refine ⟨by (repeat (first | exact trivial | refine And.intro (pend_q rfl rfl rfl (qt_pev tok rfl)) ?_ | refine And.intro (pend_q rfl rfl rfl (ql tok rfl)) ?_)), ?_⟩) | (refine prn_e1 rfl (qt_pev tok rfl) (by decide +kernel) rfl rfl rfl ?_; rintro _ _ _ ⟨rfl, rfl, rfl⟩))
    refine pr_as 10 (.int .u8 ((v % 256 : Nat) : Int)) rfl (by rw [u8_nat (by omega)]) ?_
    refine prn_o1 rfl (st_buildSlice tok rfl rfl rfl rfl rfl rfl rfl) (by decide +kernel) rfl rfl rfl ?_
    rintro _ _ _ ⟨bs, rfl, rfl, rfl⟩
    refine ⟨by (repeat (first | exact trivial | refine And.intro (pend_q rfl rfl rfl (qt_pev tok rfl)) ?_ | refine And.intro (pend_q rfl rfl rfl (ql tok rfl)) ?_ | refine And.intro (pend_q rfl rfl rfl ((qt_quo rfl rfl (fun _ => by decide)).as e6)) ?_ | refine And.intro (pend_q rfl rfl rfl (qt_callF rfl (fun _ => ih (v / 256) (by omega) (by omega) _))) ?_)), ?_⟩
    refine prn_q rfl (qt_bytesStr tok [((v % 256 : Nat) : Int)] rfl rfl rfl rfl (cellsAll List.mem_cons_self) rfl) (by decide +kernel) rfl rfl rfl ?_
    refine prn_q rfl (qt_concat rfl rfl (by rw [bytesI_one]; omega)) (by decide +kernel) rfl rfl rfl ?_
    repeat (first | with_reducible (first | refine run_seq ?_ | refine run_region ?_ | refine runL_nil ?_ | refine run_skip ?_ | refine run_block ?_ | refine run_inBlock ?_) | refine run_exit rfl ?_ | refine runL_q (qt_pev tok rfl) rfl rfl rfl ?_ | refine runL_g rfl rfl (qt_pev tok rfl) rfl rfl rfl rfl rfl ?_ | refine runL_q (ql tok rfl) rfl rfl rfl ?_ | refine runL_g rfl rfl (ql tok rfl) rfl rfl rfl rfl rfl ?_ | (refine runL_op0 (sst tok rfl rfl rfl rfl rfl) ?_; rintro _ _ _ ⟨rfl, rfl, rfl⟩) | (refine runL_op (st_box rfl) rfl rfl rfl ?_; rintro _ _ _ ⟨_, rfl, rfl, rfl⟩) | (refine runL_op (st_alloc tok rfl) rfl rfl rfl ?_; rintro _ _ _ ⟨_, rfl, rfl, rfl⟩) | (refine runL_op (st_buildSlice tok rfl rfl rfl rfl rfl rfl rfl) rfl rfl rfl ?_; rintro _ _ _ ⟨_, rfl, rfl, rfl⟩) | refine prn_start mixed ?_ | refine prn_end (by decide +kernel) ?_ | refine prn_q rfl (qt_pev tok rfl) (by decide +kernel) rfl rfl rfl ?_ | refine prn_g rfl rfl rfl (qt_pev tok rfl) (by decide +kernel) rfl rfl rfl rfl rfl ?_ | refine prn_q rfl (ql tok rfl) (by decide +kernel) rfl rfl rfl ?_ | refine prn_g rfl rfl rfl (ql tok rfl) (by decide +kernel) rfl rfl rfl rfl rfl ?_ | (refine prn_e0 rfl (sst tok rfl rfl rfl rfl rfl) (by decide +kernel) ?_; rintro _ _ _ ⟨rfl, rfl, rfl⟩) | (refine prn_e1 rfl (st_box rfl) (by decide +kernel) rfl rfl rfl ?_; rintro _ _ _ ⟨_, rfl, rfl, rfl⟩) | (refine prn_e1 rfl (st_alloc tok rfl) (by decide +kernel) rfl rfl rfl ?_; rintro _ _ _ ⟨_, rfl, rfl, rfl⟩) | (refine prn_e1 rfl (st_buildSlice tok rfl rfl rfl rfl rfl rfl rfl) (by decide +kernel) rfl rfl rfl ?_; rintro _ _ _ ⟨_, rfl, rfl, rfl⟩) | (refine prn_o0 rfl (sst tok rfl rfl rfl rfl rfl) (by decide +kernel) ?_; rintro _ _ _ ⟨rfl, rfl, rfl⟩; refine ⟨by (repeat (first | exact trivial | refine And.intro (pend_q rfl rfl rfl (qt_pev tok rfl)) ?_ | refine And.intro (pend_q rfl rfl rfl (ql tok rfl)) ?_)), ?_⟩) | (refine prn_o1 rfl (st_box rfl) (by decide +kernel) rfl rfl rfl ?_; rintro _ _ _ ⟨_, rfl, rfl, rfl⟩; refine ⟨by (repeat (first | exact trivial | refine And.intro (pend_q rfl rfl rfl (qt_pev tok rfl)) ?_ | refine And.intro (pend_q rfl rfl rfl (ql tok rfl)) ?_)), ?_⟩) | (refine prn_o1 rfl (st_alloc tok rfl) (by decide +kernel) rfl rfl rfl ?_; rintro _ _ _ ⟨_, rfl, rfl, rfl⟩; refine ⟨by (repeat (first | exact trivial | refine And.intro (pend_q rfl rfl rfl (qt_pev tok rfl)) ?_ | refine And.intro (pend_q rfl rfl rfl (ql tok rfl)) ?_)), ?_⟩) | (refine prn_o1 rfl (st_buildSlice tok rfl rfl rfl rfl rfl rfl rfl) (by decide +kernel) rfl rfl rfl ?_; rintro _ _ _ ⟨_, rfl, rfl, rfl⟩; refine ⟨by (repeat (first | exact trivial | refine And.intro (pend_q rfl rfl rfl (qt_pev tok rfl)) ?_ | refine And.intro (pend_q rfl rfl rfl (ql tok rfl)) ?_)), ?_⟩) | (refine prn_e1 rfl (qt_pev tok rfl) (by decide +kernel) rfl rfl rfl ?_; rintro _ _ _ ⟨rfl, rfl, rfl⟩))
    exact run_ret hC (rs := [.tmp 2]) rfl (resT rfl resN) (fun _ h => h.drop) ⟨by rw [hd]; rfl, rfl, rfl⟩
def numB (v : Nat) : ByteArray := if v < 248 then bytesI [IntKind.u8.wrap (v : Int)] else bytesI [IntKind.u8.wrap (IntKind.i64.wrap (247 + ((digN v).size : Int)))] ++ digN v
set_option maxRecDepth 10000 in
set_option maxHeartbeats 4000000 in
theorem num_ok (M : Mem) (L : HL) (v : Nat) (hv : v < 18446744073709551616) : TrQ Try.prog 91 [.int .u64 (v : Int)] M L (.string (numB v)) := by
  have hlen := digN_len hv
  refine Tr.intro 20 Try.func91 rfl rfl Try.call91 rfl ?_
  intro C hC hro
  repeat (first | with_reducible (first | refine run_seq ?_ | refine run_region ?_ | refine runL_nil ?_ | refine run_skip ?_ | refine run_block ?_ | refine run_inBlock ?_) | refine run_exit rfl ?_ | refine runL_q (qt_pev tok rfl) rfl rfl rfl ?_ | refine runL_g rfl rfl (qt_pev tok rfl) rfl rfl rfl rfl rfl ?_ | refine runL_q (ql tok rfl) rfl rfl rfl ?_ | refine runL_g rfl rfl (ql tok rfl) rfl rfl rfl rfl rfl ?_ | (refine runL_op0 (sst tok rfl rfl rfl rfl rfl) ?_; rintro _ _ _ ⟨rfl, rfl, rfl⟩) | (refine runL_op (st_box rfl) rfl rfl rfl ?_; rintro _ _ _ ⟨_, rfl, rfl, rfl⟩) | (refine runL_op (st_alloc tok rfl) rfl rfl rfl ?_; rintro _ _ _ ⟨_, rfl, rfl, rfl⟩) | (refine runL_op (st_buildSlice tok rfl rfl rfl rfl rfl rfl rfl) rfl rfl rfl ?_; rintro _ _ _ ⟨_, rfl, rfl, rfl⟩))
  refine run_cond rfl (fun h => ?_) (fun h => ?_)
  · have h0 : v < 248 := by simp at h; omega
    repeat (first | with_reducible (first | refine run_seq ?_ | refine run_region ?_ | refine runL_nil ?_ | refine run_skip ?_ | refine run_block ?_ | refine run_inBlock ?_) | refine run_exit rfl ?_ | refine runL_q (qt_pev tok rfl) rfl rfl rfl ?_ | refine runL_g rfl rfl (qt_pev tok rfl) rfl rfl rfl rfl rfl ?_ | refine runL_q (ql tok rfl) rfl rfl rfl ?_ | refine runL_g rfl rfl (ql tok rfl) rfl rfl rfl rfl rfl ?_ | (refine runL_op0 (sst tok rfl rfl rfl rfl rfl) ?_; rintro _ _ _ ⟨rfl, rfl, rfl⟩) | (refine runL_op (st_box rfl) rfl rfl rfl ?_; rintro _ _ _ ⟨_, rfl, rfl, rfl⟩) | (refine runL_op (st_alloc tok rfl) rfl rfl rfl ?_; rintro _ _ _ ⟨_, rfl, rfl, rfl⟩) | (refine runL_op (st_buildSlice tok rfl rfl rfl rfl rfl rfl rfl) rfl rfl rfl ?_; rintro _ _ _ ⟨_, rfl, rfl, rfl⟩) | refine runL_q (qt_bytesStr tok [IntKind.u8.wrap (v : Int)] rfl rfl rfl rfl (cellsAll List.mem_cons_self) rfl) rfl rfl rfl ?_)
    exact run_ret hC (rs := [.tmp 2]) rfl (resT rfl resN) (fun _ h => h.drop) ⟨by rw [numB, if_pos h0]; rfl, rfl, rfl⟩
  · have h0 : ¬ v < 248 := by simp at h; omega
    repeat (first | with_reducible (first | refine run_seq ?_ | refine run_region ?_ | refine runL_nil ?_ | refine run_skip ?_ | refine run_block ?_ | refine run_inBlock ?_) | refine run_exit rfl ?_ | refine runL_q (qt_pev tok rfl) rfl rfl rfl ?_ | refine runL_g rfl rfl (qt_pev tok rfl) rfl rfl rfl rfl rfl ?_ | refine runL_q (ql tok rfl) rfl rfl rfl ?_ | refine runL_g rfl rfl (ql tok rfl) rfl rfl rfl rfl rfl ?_ | (refine runL_op0 (sst tok rfl rfl rfl rfl rfl) ?_; rintro _ _ _ ⟨rfl, rfl, rfl⟩) | (refine runL_op (st_box rfl) rfl rfl rfl ?_; rintro _ _ _ ⟨_, rfl, rfl, rfl⟩) | (refine runL_op (st_alloc tok rfl) rfl rfl rfl ?_; rintro _ _ _ ⟨_, rfl, rfl, rfl⟩) | (refine runL_op (st_buildSlice tok rfl rfl rfl rfl rfl rfl rfl) rfl rfl rfl ?_; rintro _ _ _ ⟨_, rfl, rfl, rfl⟩) | refine runL_q (qt_callF rfl (fun _ => digits_ok _ v hv _)) rfl rfl rfl ?_ | refine runL_q (qt_bytesStr tok [IntKind.u8.wrap (IntKind.i64.wrap (247 + ((digN v).size : Int)))] rfl rfl rfl rfl (cellsAll List.mem_cons_self) rfl) rfl rfl rfl ?_ | refine runL_q (qt_concat rfl rfl (by rw [bytesI_one]; omega)) rfl rfl rfl ?_)
    exact run_ret hC (rs := [.tmp 2]) rfl (resT rfl resN) (fun _ h => h.drop) ⟨by rw [numB, if_neg h0]; rfl, rfl, rfl⟩
/-- what is put as more than a byte has no zero ahead -/
theorem numB_of {v n : Nat} {s : ByteArray} (h : numB v = s.extract 0 n) (hn : 2 ≤ n) (hs : n ≤ s.size) : 247 < v ∧ byte s 1 ≠ 0 := by
  have hsz := congrArg ByteArray.size h
  have hz : (s.extract 0 n).size = n := by simp; omega
  rw [hz] at hsz
  by_cases h0 : v < 248
  · rw [numB, if_pos h0, bytesI_one] at hsz
    omega
  · refine ⟨by omega, ?_⟩
    obtain ⟨b, hb, hb0⟩ := digN_first v (by omega)
    have hd : 0 < (digN v).size := by
      apply Classical.byContradiction
      intro hn
      rw [getElem?_neg (digN v) 0 hn] at hb
      cases hb
    rw [getElem?_pos (digN v) 0 hd, Option.some.injEq] at hb
    have h1 : (s.extract 0 n)[1]? = some b := by
      rw [← h, numB, if_neg h0, getElem?_pos (_ ++ digN v) 1 (by rw [app_size, bytesI_one]; omega), ByteArray.getElem_append_right (by rw [bytesI_one]; exact Nat.le_refl _)]
      simp only [bytesI_one, Nat.sub_self]
      rw [hb]
    have h2 : s[1]? = some b := by
      rw [getElem?_pos (s.extract 0 n) 1 (by omega)] at h1
      rw [getElem?_pos s 1 (by omega)]
      rw [← h1, ByteArray.getElem_extract]
    rw [byte, h2]
    intro e
    apply hb0
    have : b.toNat = 0 := by simpa using e
    exact UInt8.toNat_inj.1 this
end Go.Proofs.Ytpmepmdngdkafaa
namespace Go.Proofs.Ytpmepmdngdkafaa
open Go.Chi

/-! ### the document's reading of numbers and texts -/
def refV (s : ByteArray) : Nat → Int
  | 0 => 0
  | i + 1 => IntKind.u64.wrap (IntKind.u64.wrap (refV s i * 256) + IntKind.u64.wrap (byte s (i + 1)))
theorem u64_wrap (x : Int) : IntKind.u64.wrap x = x % 18446744073709551616 := by
  simp only [IntKind.wrap, IntKind.signed, IntKind.bits]
  simp
theorem or_add (x b : Int) (hb0 : 0 ≤ b) (hb : b < 256) : ior .u64 (ishl .u64 x 8) b = IntKind.u64.wrap (IntKind.u64.wrap (x * 256) + b) := by
  have e1 : ishl .u64 x 8 = IntKind.u64.wrap (x * 256) := by simp [ishl, IntKind.bits]
  rw [e1, u64_wrap (x * 256)]
  obtain ⟨q, hq⟩ : ∃ q : Nat, (x * 256) % 18446744073709551616 = ((2 ^ 8 * q : Nat) : Int) := ⟨(x % 72057594037927936).toNat, by omega⟩
  have hlt : (2 ^ 8 * q : Nat) < 18446744073709551616 := by omega
  obtain ⟨c, rfl⟩ : ∃ c : Nat, b = c := ⟨b.toNat, by omega⟩
  rw [hq, ior]
  congr 1
  have ho := Nat.two_pow_add_eq_or_of_lt (i := 8) (b := c) (by omega) q
  have h1 : (BitVec.ofInt 64 ((2 ^ 8 * q : Nat) : Int)).toNat = 2 ^ 8 * q := by
    rw [BitVec.toNat_ofInt]; omega
  have h2 : (BitVec.ofInt 64 (c : Int)).toNat = c := by
    rw [BitVec.toNat_ofInt]; omega
  show (((BitVec.ofInt 64 ((2 ^ 8 * q : Nat) : Int) ||| BitVec.ofInt 64 (c : Int)).toNat : Nat) : Int) = _
  rw [BitVec.toNat_or, h1, h2, ← ho]
  omega
theorem byte_rest (s : ByteArray) (i : Nat) : byte (rest1 s) i = byte s (i + 1) := by
  unfold byte rest1
  by_cases h : i + 1 < s.size
  · rw [getElem?_pos s _ h, getElem?_pos _ _ (by simp; omega), ByteArray.getElem_extract]
    simp [Nat.add_comm]
  · rw [getElem?_neg s _ h, getElem?_neg _ _ (by simp; omega)]
theorem refV_eq (s : ByteArray) : ∀ i, refV s i = numV (rest1 s) i
  | 0 => rfl
  | i + 1 => by
    have hb := byte_pos s (i + 1)
    have hw : IntKind.u64.wrap (byte s (i + 1)) = byte s (i + 1) := by rw [u64_wrap]; omega
    rw [refV, numV, byte_rest, hw, or_add _ _ hb.1 hb.2, refV_eq s i]
theorem refV_pos (s : ByteArray) (i : Nat) : 0 ≤ refV s i ∧ refV s i < 18446744073709551616 := by
  cases i with
  | zero => exact ⟨Int.le_refl _, show (0 : Int) < 18446744073709551616 by decide⟩
  | succ i => exact u64_pos .u64 rfl _
def refK (s : ByteArray) : Nat := (byte s 0 - 247).toNat
def refNum (s : ByteArray) : Int × Int × Int :=
  if s.size = 0 then (0, 0, 6) else
  if byte s 0 < 248 then (byte s 0, 1, 0) else
  if s.size < refK s + 1 then (0, 0, 6) else
  if numB (refV s (refK s)).toNat ≠ s.extract 0 (refK s + 1) then (0, 0, 7) else (refV s (refK s), ((refK s + 1 : Nat) : Int), 0)
theorem refNum_imp {s : ByteArray} (h : (refNum s).2.2 = 0) : numR s = refNum s := by
  have hb := byte_pos s 0
  unfold refNum at h ⊢
  split at h
  · cases h
  rename_i h0
  rw [if_neg h0]
  split at h
  · rename_i h1
    rw [numR, if_neg h0, if_pos (by omega), if_pos h1]
  rename_i h1
  rw [if_neg h1]
  split at h
  · cases h
  rename_i h2
  rw [if_neg h2]
  split at h
  · cases h
  rename_i h3
  rw [if_neg h3]
  have h3' : numB (refV s (refK s)).toNat = s.extract 0 (refK s + 1) := by simpa using h3
  have hk : (refK s : Int) = byte s 0 - 247 := by unfold refK; omega
  obtain ⟨h4, h5⟩ := numB_of h3' (by omega) (by omega)
  have hr := rest1_size (s := s)
  rw [numR, if_neg h0, if_neg (by omega), if_neg (by omega)]
  have hv := refV_eq s (refK s)
  have hz : (byte s 0 - 247).toNat = refK s := rfl
  rw [hz, ← hv, if_neg (by
    rintro (h6 | h6)
    · rw [byte_rest] at h6; exact h5 h6
    · omega)]
  congr 2
  omega
set_option maxRecDepth 10000 in
set_option maxHeartbeats 8000000 in
theorem refNum_ok (M : Mem) (L : HL) (s : ByteArray) : TrQ Try.prog 89 [.string s] M L (.tuple ⟨[.int .u64 (refNum s).1, .int .i64 (refNum s).2.1, .int .i64 (refNum s).2.2]⟩) := by
  refine Tr.intro 45 Try.func89 rfl rfl Try.call89 rfl ?_
  intro C hC hro
  repeat (first | with_reducible (first | refine run_seq ?_ | refine run_region ?_ | refine runL_nil ?_ | refine run_skip ?_ | refine run_block ?_ | refine run_inBlock ?_) | refine run_exit rfl ?_ | refine runL_q (qt_pev tok rfl) rfl rfl rfl ?_ | refine runL_g rfl rfl (qt_pev tok rfl) rfl rfl rfl rfl rfl ?_ | refine runL_q (ql tok rfl) rfl rfl rfl ?_ | refine runL_g rfl rfl (ql tok rfl) rfl rfl rfl rfl rfl ?_ | (refine runL_op0 (sst tok rfl rfl rfl rfl rfl) ?_; rintro _ _ _ ⟨rfl, rfl, rfl⟩) | (refine runL_op (st_box rfl) rfl rfl rfl ?_; rintro _ _ _ ⟨_, rfl, rfl, rfl⟩) | (refine runL_op (st_alloc tok rfl) rfl rfl rfl ?_; rintro _ _ _ ⟨_, rfl, rfl, rfl⟩) | (refine runL_op (st_buildSlice tok rfl rfl rfl rfl rfl rfl rfl) rfl rfl rfl ?_; rintro _ _ _ ⟨_, rfl, rfl, rfl⟩))
  refine run_cond rfl (fun h => ?_) (fun h => ?_)
  · repeat (first | with_reducible (first | refine run_seq ?_ | refine run_region ?_ | refine runL_nil ?_ | refine run_skip ?_ | refine run_block ?_ | refine run_inBlock ?_) | refine run_exit rfl ?_ | refine runL_q (qt_pev tok rfl) rfl rfl rfl ?_ | refine runL_g rfl rfl (qt_pev tok rfl) rfl rfl rfl rfl rfl ?_ | refine runL_q (ql tok rfl) rfl rfl rfl ?_ | refine runL_g rfl rfl (ql tok rfl) rfl rfl rfl rfl rfl ?_ | (refine runL_op0 (sst tok rfl rfl rfl rfl rfl) ?_; rintro _ _ _ ⟨rfl, rfl, rfl⟩) | (refine runL_op (st_box rfl) rfl rfl rfl ?_; rintro _ _ _ ⟨_, rfl, rfl, rfl⟩) | (refine runL_op (st_alloc tok rfl) rfl rfl rfl ?_; rintro _ _ _ ⟨_, rfl, rfl, rfl⟩) | (refine runL_op (st_buildSlice tok rfl rfl rfl rfl rfl rfl rfl) rfl rfl rfl ?_; rintro _ _ _ ⟨_, rfl, rfl, rfl⟩))
    exact run_ret hC (rs := [.tmp 2, .tmp 3, .tmp 4]) rfl (resT rfl (resT rfl (resT rfl resN))) (fun _ h => h) ⟨by rw [empty_beq, decide_eq_true_eq] at h; rw [refNum, if_pos h]; rfl, rfl, rfl⟩
  rw [empty_beq, decide_eq_false_iff_not] at h
  have hs : 0 < s.size := by omega
  obtain ⟨b0, hb0, hb0'⟩ := byte_at hs
  repeat (first | with_reducible (first | refine run_seq ?_ | refine run_region ?_ | refine runL_nil ?_ | refine run_skip ?_ | refine run_block ?_ | refine run_inBlock ?_) | refine run_exit rfl ?_ | refine runL_q (qt_pev tok rfl) rfl rfl rfl ?_ | refine runL_g rfl rfl (qt_pev tok rfl) rfl rfl rfl rfl rfl ?_ | refine runL_q (ql tok rfl) rfl rfl rfl ?_ | refine runL_g rfl rfl (ql tok rfl) rfl rfl rfl rfl rfl ?_ | (refine runL_op0 (sst tok rfl rfl rfl rfl rfl) ?_; rintro _ _ _ ⟨rfl, rfl, rfl⟩) | (refine runL_op (st_box rfl) rfl rfl rfl ?_; rintro _ _ _ ⟨_, rfl, rfl, rfl⟩) | (refine runL_op (st_alloc tok rfl) rfl rfl rfl ?_; rintro _ _ _ ⟨_, rfl, rfl, rfl⟩) | (refine runL_op (st_buildSlice tok rfl rfl rfl rfl rfl rfl rfl) rfl rfl rfl ?_; rintro _ _ _ ⟨_, rfl, rfl, rfl⟩) | refine runL_q (qt_strIndex (n := 0) tok rfl rfl rfl (fun _ => hb0)) rfl rfl rfl ?_)
  refine run_cond rfl (fun h1 => ?_) (fun h1 => ?_)
  · have h2 : byte s 0 < 248 := by rw [hb0']; simpa using h1
    repeat (first | with_reducible (first | refine run_seq ?_ | refine run_region ?_ | refine runL_nil ?_ | refine run_skip ?_ | refine run_block ?_ | refine run_inBlock ?_) | refine run_exit rfl ?_ | refine runL_q (qt_pev tok rfl) rfl rfl rfl ?_ | refine runL_g rfl rfl (qt_pev tok rfl) rfl rfl rfl rfl rfl ?_ | refine runL_q (ql tok rfl) rfl rfl rfl ?_ | refine runL_g rfl rfl (ql tok rfl) rfl rfl rfl rfl rfl ?_ | (refine runL_op0 (sst tok rfl rfl rfl rfl rfl) ?_; rintro _ _ _ ⟨rfl, rfl, rfl⟩) | (refine runL_op (st_box rfl) rfl rfl rfl ?_; rintro _ _ _ ⟨_, rfl, rfl, rfl⟩) | (refine runL_op (st_alloc tok rfl) rfl rfl rfl ?_; rintro _ _ _ ⟨_, rfl, rfl, rfl⟩) | (refine runL_op (st_buildSlice tok rfl rfl rfl rfl rfl rfl rfl) rfl rfl rfl ?_; rintro _ _ _ ⟨_, rfl, rfl, rfl⟩) | refine runL_q (qt_strIndex (n := 0) tok rfl rfl rfl (fun _ => hb0)) rfl rfl rfl ?_)
    refine run_ret hC (rs := [.tmp 2, .tmp 3, .tmp 4]) rfl (resT rfl (resT rfl (resT rfl resN))) (fun _ h => h) ⟨?_, rfl, rfl⟩
    rw [refNum, if_neg h, if_pos h2, hb0', u64_byte]
    rfl
  have h2 : ¬ byte s 0 < 248 := by rw [hb0']; simpa using h1
  have hlt := b0.toNat_lt
  obtain ⟨k, hk⟩ : ∃ k : Nat, k = b0.toNat - 247 := ⟨_, rfl⟩
  have hk1 : refK s = k := by unfold refK; rw [hb0']; omega
  have hkv : IntKind.i64.wrap (IntKind.i64.wrap (1 + IntKind.i64.wrap (b0.toNat : Int)) - 247) = ((k + 1 : Nat) : Int) := by
    rw [wrap64_nat (by omega), show (1 : Int) + (b0.toNat : Int) = ((1 + b0.toNat : Nat) : Int) by omega, wrap64_nat (by omega), show ((1 + b0.toNat : Nat) : Int) - 247 = ((k + 1 : Nat) : Int) by omega, wrap64_nat (by omega)]
  repeat (first | with_reducible (first | refine run_seq ?_ | refine run_region ?_ | refine runL_nil ?_ | refine run_skip ?_ | refine run_block ?_ | refine run_inBlock ?_) | refine run_exit rfl ?_ | refine runL_q (qt_pev tok rfl) rfl rfl rfl ?_ | refine runL_g rfl rfl (qt_pev tok rfl) rfl rfl rfl rfl rfl ?_ | refine runL_q (ql tok rfl) rfl rfl rfl ?_ | refine runL_g rfl rfl (ql tok rfl) rfl rfl rfl rfl rfl ?_ | (refine runL_op0 (sst tok rfl rfl rfl rfl rfl) ?_; rintro _ _ _ ⟨rfl, rfl, rfl⟩) | (refine runL_op (st_box rfl) rfl rfl rfl ?_; rintro _ _ _ ⟨_, rfl, rfl, rfl⟩) | (refine runL_op (st_alloc tok rfl) rfl rfl rfl ?_; rintro _ _ _ ⟨_, rfl, rfl, rfl⟩) | (refine runL_op (st_buildSlice tok rfl rfl rfl rfl rfl rfl rfl) rfl rfl rfl ?_; rintro _ _ _ ⟨_, rfl, rfl, rfl⟩) | refine runL_q (qt_strIndex (n := 0) tok rfl rfl rfl (fun _ => hb0)) rfl rfl rfl ?_)
  refine run_cond rfl (fun h3 => ?_) (fun h3 => ?_)
  · rw [hkv] at h3
    have h4 : s.size < refK s + 1 := by rw [hk1]; simp at h3; omega
    repeat (first | with_reducible (first | refine run_seq ?_ | refine run_region ?_ | refine runL_nil ?_ | refine run_skip ?_ | refine run_block ?_ | refine run_inBlock ?_) | refine run_exit rfl ?_ | refine runL_q (qt_pev tok rfl) rfl rfl rfl ?_ | refine runL_g rfl rfl (qt_pev tok rfl) rfl rfl rfl rfl rfl ?_ | refine runL_q (ql tok rfl) rfl rfl rfl ?_ | refine runL_g rfl rfl (ql tok rfl) rfl rfl rfl rfl rfl ?_ | (refine runL_op0 (sst tok rfl rfl rfl rfl rfl) ?_; rintro _ _ _ ⟨rfl, rfl, rfl⟩) | (refine runL_op (st_box rfl) rfl rfl rfl ?_; rintro _ _ _ ⟨_, rfl, rfl, rfl⟩) | (refine runL_op (st_alloc tok rfl) rfl rfl rfl ?_; rintro _ _ _ ⟨_, rfl, rfl, rfl⟩) | (refine runL_op (st_buildSlice tok rfl rfl rfl rfl rfl rfl rfl) rfl rfl rfl ?_; rintro _ _ _ ⟨_, rfl, rfl, rfl⟩))
    refine run_ret hC (rs := [.tmp 2, .tmp 3, .tmp 4]) rfl (resT rfl (resT rfl (resT rfl resN))) (fun _ h => h) ⟨?_, rfl, rfl⟩
    rw [refNum, if_neg h, if_neg h2, if_pos h4]
    rfl
  rw [hkv] at h3
  have h4 : ¬ s.size < refK s + 1 := by rw [hk1]; simp at h3; omega
  rw [hk1] at h4
  refine run_as 5 (.int .i64 ((k + 1 : Nat) : Int)) rfl (by rw [hkv]) ?_
  repeat (first | with_reducible (first | refine run_seq ?_ | refine run_region ?_ | refine runL_nil ?_ | refine run_skip ?_ | refine run_block ?_ | refine run_inBlock ?_) | refine run_exit rfl ?_ | refine runL_q (qt_pev tok rfl) rfl rfl rfl ?_ | refine runL_g rfl rfl (qt_pev tok rfl) rfl rfl rfl rfl rfl ?_ | refine runL_q (ql tok rfl) rfl rfl rfl ?_ | refine runL_g rfl rfl (ql tok rfl) rfl rfl rfl rfl rfl ?_ | (refine runL_op0 (sst tok rfl rfl rfl rfl rfl) ?_; rintro _ _ _ ⟨rfl, rfl, rfl⟩) | (refine runL_op (st_box rfl) rfl rfl rfl ?_; rintro _ _ _ ⟨_, rfl, rfl, rfl⟩) | (refine runL_op (st_alloc tok rfl) rfl rfl rfl ?_; rintro _ _ _ ⟨_, rfl, rfl, rfl⟩) | (refine runL_op (st_buildSlice tok rfl rfl rfl rfl rfl rfl rfl) rfl rfl rfl ?_; rintro _ _ _ ⟨_, rfl, rfl, rfl⟩))
  refine run_loopN (fun i σ1 M1 L1 => i ≤ k ∧ σ1 = [(7, .int .i64 ((i + 1 : Nat) : Int)), (6, .int .u64 (refV s i)), (5, .int .i64 ((k + 1 : Nat) : Int)), (0, .string s)] ∧ M = M1 ∧ L = L1) k [(7, .int .i64 ((0 + 1 : Nat) : Int)), (6, .int .u64 0), (5, .int .i64 ((k + 1 : Nat) : Int)), (0, .string s)] ?_ ⟨Nat.zero_le _, rfl, rfl, rfl⟩ (fun j _ _ _ h => h.1) ?_
  · exact ⟨rfl, rfl, rfl, rfl, trivial⟩
  rintro i _ _ _ ⟨hi, rfl, rfl, rfl⟩ hnext
  repeat (first | with_reducible (first | refine run_seq ?_ | refine run_region ?_ | refine runL_nil ?_ | refine run_skip ?_ | refine run_block ?_ | refine run_inBlock ?_) | refine run_exit rfl ?_ | refine runL_q (qt_pev tok rfl) rfl rfl rfl ?_ | refine runL_g rfl rfl (qt_pev tok rfl) rfl rfl rfl rfl rfl ?_ | refine runL_q (ql tok rfl) rfl rfl rfl ?_ | refine runL_g rfl rfl (ql tok rfl) rfl rfl rfl rfl rfl ?_ | (refine runL_op0 (sst tok rfl rfl rfl rfl rfl) ?_; rintro _ _ _ ⟨rfl, rfl, rfl⟩) | (refine runL_op (st_box rfl) rfl rfl rfl ?_; rintro _ _ _ ⟨_, rfl, rfl, rfl⟩) | (refine runL_op (st_alloc tok rfl) rfl rfl rfl ?_; rintro _ _ _ ⟨_, rfl, rfl, rfl⟩) | (refine runL_op (st_buildSlice tok rfl rfl rfl rfl rfl rfl rfl) rfl rfl rfl ?_; rintro _ _ _ ⟨_, rfl, rfl, rfl⟩))
  refine run_cond rfl (fun h5 => ?_) (fun h5 => ?_)
  · have hik : i < k := by simp at h5; omega
    obtain ⟨b, hb, hb'⟩ := byte_at (s := s) (i := i + 1) (by omega)
    repeat (first | with_reducible (first | refine run_seq ?_ | refine run_region ?_ | refine runL_nil ?_ | refine run_skip ?_ | refine run_block ?_ | refine run_inBlock ?_) | refine run_exit rfl ?_ | refine runL_q (qt_pev tok rfl) rfl rfl rfl ?_ | refine runL_g rfl rfl (qt_pev tok rfl) rfl rfl rfl rfl rfl ?_ | refine runL_q (ql tok rfl) rfl rfl rfl ?_ | refine runL_g rfl rfl (ql tok rfl) rfl rfl rfl rfl rfl ?_ | (refine runL_op0 (sst tok rfl rfl rfl rfl rfl) ?_; rintro _ _ _ ⟨rfl, rfl, rfl⟩) | (refine runL_op (st_box rfl) rfl rfl rfl ?_; rintro _ _ _ ⟨_, rfl, rfl, rfl⟩) | (refine runL_op (st_alloc tok rfl) rfl rfl rfl ?_; rintro _ _ _ ⟨_, rfl, rfl, rfl⟩) | (refine runL_op (st_buildSlice tok rfl rfl rfl rfl rfl rfl rfl) rfl rfl rfl ?_; rintro _ _ _ ⟨_, rfl, rfl, rfl⟩) | refine runL_q (qt_strIndex (n := i + 1) tok rfl rfl rfl (fun _ => hb)) rfl rfl rfl ?_)
    exact run_sub' (hnext _ _ _ ⟨hik, rfl, rfl, rfl⟩) ⟨lk_succ rfl (by omega), by rw [refV, hb']; rfl, rfl, rfl, trivial⟩
  · have hik : i = k := by simp at h5; omega
    subst hik
    have hvp := refV_pos s i
    obtain ⟨v, hv⟩ : ∃ v : Nat, refV s i = v := ⟨(refV s i).toNat, by omega⟩
    refine run_as 6 (.int .u64 (v : Int)) rfl (by rw [hv]) ?_
    repeat (first | with_reducible (first | refine run_seq ?_ | refine run_region ?_ | refine runL_nil ?_ | refine run_skip ?_ | refine run_block ?_ | refine run_inBlock ?_) | refine run_exit rfl ?_ | refine runL_q (qt_pev tok rfl) rfl rfl rfl ?_ | refine runL_g rfl rfl (qt_pev tok rfl) rfl rfl rfl rfl rfl ?_ | refine runL_q (ql tok rfl) rfl rfl rfl ?_ | refine runL_g rfl rfl (ql tok rfl) rfl rfl rfl rfl rfl ?_ | (refine runL_op0 (sst tok rfl rfl rfl rfl rfl) ?_; rintro _ _ _ ⟨rfl, rfl, rfl⟩) | (refine runL_op (st_box rfl) rfl rfl rfl ?_; rintro _ _ _ ⟨_, rfl, rfl, rfl⟩) | (refine runL_op (st_alloc tok rfl) rfl rfl rfl ?_; rintro _ _ _ ⟨_, rfl, rfl, rfl⟩) | (refine runL_op (st_buildSlice tok rfl rfl rfl rfl rfl rfl rfl) rfl rfl rfl ?_; rintro _ _ _ ⟨_, rfl, rfl, rfl⟩) | refine prn_start mixed ?_ | refine prn_end (by decide +kernel) ?_ | refine prn_q rfl (qt_pev tok rfl) (by decide +kernel) rfl rfl rfl ?_ | refine prn_g rfl rfl rfl (qt_pev tok rfl) (by decide +kernel) rfl rfl rfl rfl rfl ?_ | refine prn_q rfl (ql tok rfl) (by decide +kernel) rfl rfl rfl ?_ | refine prn_g rfl rfl rfl (ql tok rfl) (by decide +kernel) rfl rfl rfl rfl rfl ?_ | (refine prn_e0 rfl (sst tok rfl rfl rfl rfl rfl) (by decide +kernel) ?_; rintro _ _ _ ⟨rfl, rfl, rfl⟩) | (refine prn_e1 rfl (st_box rfl) (by decide +kernel) rfl rfl rfl ?_; rintro _ _ _ ⟨_, rfl, rfl, rfl⟩) | (refine prn_e1 rfl (st_alloc tok rfl) (by decide +kernel) rfl rfl rfl ?_; rintro _ _ _ ⟨_, rfl, rfl, rfl⟩) | (refine prn_e1 rfl (st_buildSlice tok rfl rfl rfl rfl rfl rfl rfl) (by decide +kernel) rfl rfl rfl ?_; rintro _ _ _ ⟨_, rfl, rfl, rfl⟩) | (refine prn_o0 rfl (sst tok rfl rfl rfl rfl rfl) (by decide +kernel) ?_; rintro _ _ _ ⟨rfl, rfl, rfl⟩; refine ⟨by (repeat (first | exact trivial | refine And.intro (pend_q rfl rfl rfl (qt_pev tok rfl)) ?_ | refine And.intro (pend_q rfl rfl rfl (ql tok rfl)) ?_)), ?_⟩) | (refine prn_o1 rfl (st_box rfl) (by decide +kernel) rfl rfl rfl ?_; rintro _ _ _ ⟨_, rfl, rfl, rfl⟩; refine ⟨by (repeat (first | exact trivial | refine And.intro (pend_q rfl rfl rfl (qt_pev tok rfl)) ?_ | refine And.intro (pend_q rfl rfl rfl (ql tok rfl)) ?_)), ?_⟩) | (refine prn_o1 rfl (st_alloc tok rfl) (by decide +kernel) rfl rfl rfl ?_; rintro _ _ _ ⟨_, rfl, rfl, rfl⟩; refine ⟨by (repeat (first | exact trivial | refine And.intro (pend_q rfl rfl rfl (qt_pev tok rfl)) ?_ | refine And.intro (pend_q rfl rfl rfl (ql tok rfl)) ?_)), ?_⟩) | (refine prn_o1 rfl (st_buildSlice tok rfl rfl rfl rfl rfl rfl rfl) (by decide +kernel) rfl rfl rfl ?_; rintro _ _ _ ⟨_, rfl, rfl, rfl⟩; refine ⟨by (repeat (first | exact trivial | refine And.intro (pend_q rfl rfl rfl (qt_pev tok rfl)) ?_ | refine And.intro (pend_q rfl rfl rfl (ql tok rfl)) ?_)), ?_⟩) | (refine prn_e1 rfl (qt_pev tok rfl) (by decide +kernel) rfl rfl rfl ?_; rintro _ _ _ ⟨rfl, rfl, rfl⟩) | refine prn_q rfl (qt_callF rfl (fun _ => num_ok _ _ v (by omega))) (by decide +kernel) rfl rfl rfl ?_ | refine prn_q rfl (qt_strHi (n := i + 1) tok rfl rfl rfl (fun _ => by omega)) (by decide +kernel) rfl rfl rfl ?_)
    refine run_cond rfl (fun h6 => ?_) (fun h6 => ?_)
    · repeat (first | with_reducible (first | refine run_seq ?_ | refine run_region ?_ | refine runL_nil ?_ | refine run_skip ?_ | refine run_block ?_ | refine run_inBlock ?_) | refine run_exit rfl ?_ | refine runL_q (qt_pev tok rfl) rfl rfl rfl ?_ | refine runL_g rfl rfl (qt_pev tok rfl) rfl rfl rfl rfl rfl ?_ | refine runL_q (ql tok rfl) rfl rfl rfl ?_ | refine runL_g rfl rfl (ql tok rfl) rfl rfl rfl rfl rfl ?_ | (refine runL_op0 (sst tok rfl rfl rfl rfl rfl) ?_; rintro _ _ _ ⟨rfl, rfl, rfl⟩) | (refine runL_op (st_box rfl) rfl rfl rfl ?_; rintro _ _ _ ⟨_, rfl, rfl, rfl⟩) | (refine runL_op (st_alloc tok rfl) rfl rfl rfl ?_; rintro _ _ _ ⟨_, rfl, rfl, rfl⟩) | (refine runL_op (st_buildSlice tok rfl rfl rfl rfl rfl rfl rfl) rfl rfl rfl ?_; rintro _ _ _ ⟨_, rfl, rfl, rfl⟩))
      refine run_ret hC (rs := [.tmp 2, .tmp 3, .tmp 4]) rfl (resT rfl (resT rfl (resT rfl resN))) (fun _ h => h) ⟨?_, rfl, rfl⟩
      have h7 : numB (refV s (refK s)).toNat ≠ s.extract 0 (refK s + 1) := by rw [hk1, hv, Int.toNat_natCast]; rw [bytes_beq] at h6; simpa using h6
      rw [refNum, if_neg h, if_neg h2, if_neg (by rw [hk1]; exact h4), if_pos h7]
      rfl
    · repeat (first | with_reducible (first | refine run_seq ?_ | refine run_region ?_ | refine runL_nil ?_ | refine run_skip ?_ | refine run_block ?_ | refine run_inBlock ?_) | refine run_exit rfl ?_ | refine runL_q (qt_pev tok rfl) rfl rfl rfl ?_ | refine runL_g rfl rfl (qt_pev tok rfl) rfl rfl rfl rfl rfl ?_ | refine runL_q (ql tok rfl) rfl rfl rfl ?_ | refine runL_g rfl rfl (ql tok rfl) rfl rfl rfl rfl rfl ?_ | (refine runL_op0 (sst tok rfl rfl rfl rfl rfl) ?_; rintro _ _ _ ⟨rfl, rfl, rfl⟩) | (refine runL_op (st_box rfl) rfl rfl rfl ?_; rintro _ _ _ ⟨_, rfl, rfl, rfl⟩) | (refine runL_op (st_alloc tok rfl) rfl rfl rfl ?_; rintro _ _ _ ⟨_, rfl, rfl, rfl⟩) | (refine runL_op (st_buildSlice tok rfl rfl rfl rfl rfl rfl rfl) rfl rfl rfl ?_; rintro _ _ _ ⟨_, rfl, rfl, rfl⟩))
      refine run_ret hC (rs := [.tmp 2, .tmp 3, .tmp 4]) rfl (resT rfl (resT rfl (resT rfl resN))) (fun _ h => h) ⟨?_, rfl, rfl⟩
      have h7 : ¬ numB (refV s (refK s)).toNat ≠ s.extract 0 (refK s + 1) := by rw [hk1, hv, Int.toNat_natCast]; rw [bytes_beq] at h6; simpa using h6
      rw [refNum, if_neg h, if_neg h2, if_neg (by rw [hk1]; exact h4), if_neg h7, hk1, hv]
      rfl
def refText (s : ByteArray) (most : Nat) : ByteArray × Int × Int :=
  if (refNum s).2.2 ≠ 0 then (⟨#[]⟩, 0, (refNum s).2.2) else
  if (most : Int) < (refNum s).1 then (⟨#[]⟩, 0, 5) else
  if (s.size : Int) - (refNum s).2.1 < (refNum s).1 then (⟨#[]⟩, 0, 6) else
  (s.extract (refNum s).2.1.toNat ((refNum s).2.1 + (refNum s).1).toNat, (refNum s).2.1 + (refNum s).1, 0)
theorem refText_imp {s : ByteArray} {most : Nat} (h : (refText s most).2.2 = 0) : textR s most = refText s most := by
  have h0 : (refNum s).2.2 = 0 := by
    apply Classical.byContradiction
    intro h0
    rw [refText, if_pos h0] at h
    exact h0 h
  rw [textR, refNum_imp h0, refText]
set_option maxRecDepth 10000 in
set_option maxHeartbeats 8000000 in
theorem refText_ok (M : Mem) (L : HL) (s : ByteArray) (most : Nat) (hs : s.size < 4611686018427387904) (hm : most < 4611686018427387904) : TrQ Try.prog 87 [.string s, .int .i64 (most : Int)] M L (.tuple ⟨[.string (refText s most).1, .int .i64 (refText s most).2.1, .int .i64 (refText s most).2.2]⟩) := by
  refine Tr.intro 53 Try.func87 rfl rfl Try.call87 rfl ?_
  intro C hC hro
  repeat (first | with_reducible (first | refine run_seq ?_ | refine run_region ?_ | refine runL_nil ?_ | refine run_skip ?_ | refine run_block ?_ | refine run_inBlock ?_) | refine run_exit rfl ?_ | refine runL_q (qt_pev tok rfl) rfl rfl rfl ?_ | refine runL_g rfl rfl (qt_pev tok rfl) rfl rfl rfl rfl rfl ?_ | refine runL_q (ql tok rfl) rfl rfl rfl ?_ | refine runL_g rfl rfl (ql tok rfl) rfl rfl rfl rfl rfl ?_ | (refine runL_op0 (sst tok rfl rfl rfl rfl rfl) ?_; rintro _ _ _ ⟨rfl, rfl, rfl⟩) | (refine runL_op (st_box rfl) rfl rfl rfl ?_; rintro _ _ _ ⟨_, rfl, rfl, rfl⟩) | (refine runL_op (st_alloc tok rfl) rfl rfl rfl ?_; rintro _ _ _ ⟨_, rfl, rfl, rfl⟩) | (refine runL_op (st_buildSlice tok rfl rfl rfl rfl rfl rfl rfl) rfl rfl rfl ?_; rintro _ _ _ ⟨_, rfl, rfl, rfl⟩) | refine runL_q (qt_callF rfl (fun _ => refNum_ok _ _ s)) rfl rfl rfl ?_)
  refine run_cond rfl (fun h => ?_) (fun h => ?_)
  · have h0 : (refNum s).2.2 ≠ 0 := by simpa using h
    repeat (first | with_reducible (first | refine run_seq ?_ | refine run_region ?_ | refine runL_nil ?_ | refine run_skip ?_ | refine run_block ?_ | refine run_inBlock ?_) | refine run_exit rfl ?_ | refine runL_q (qt_pev tok rfl) rfl rfl rfl ?_ | refine runL_g rfl rfl (qt_pev tok rfl) rfl rfl rfl rfl rfl ?_ | refine runL_q (ql tok rfl) rfl rfl rfl ?_ | refine runL_g rfl rfl (ql tok rfl) rfl rfl rfl rfl rfl ?_ | (refine runL_op0 (sst tok rfl rfl rfl rfl rfl) ?_; rintro _ _ _ ⟨rfl, rfl, rfl⟩) | (refine runL_op (st_box rfl) rfl rfl rfl ?_; rintro _ _ _ ⟨_, rfl, rfl, rfl⟩) | (refine runL_op (st_alloc tok rfl) rfl rfl rfl ?_; rintro _ _ _ ⟨_, rfl, rfl, rfl⟩) | (refine runL_op (st_buildSlice tok rfl rfl rfl rfl rfl rfl rfl) rfl rfl rfl ?_; rintro _ _ _ ⟨_, rfl, rfl, rfl⟩))
    exact run_ret hC (rs := [.tmp 4, .tmp 5, .tmp 6]) rfl (resT rfl (resT rfl (resT rfl resN))) (fun _ h => h) ⟨by rw [refText, if_pos h0]; rfl, rfl, rfl⟩
  have h0 : (refNum s).2.2 = 0 := by simpa using h
  have himp := refNum_imp h0
  obtain ⟨n, hn, hn1, hn2⟩ := numR_len s (by rw [himp]; exact h0)
  have hv0 := numR_pos s
  rw [himp] at hn hv0
  have e1 : IntKind.u64.wrap (most : Int) = (most : Int) := u64_nat (by omega)
  repeat (first | with_reducible (first | refine run_seq ?_ | refine run_region ?_ | refine runL_nil ?_ | refine run_skip ?_ | refine run_block ?_ | refine run_inBlock ?_) | refine run_exit rfl ?_ | refine runL_q (qt_pev tok rfl) rfl rfl rfl ?_ | refine runL_g rfl rfl (qt_pev tok rfl) rfl rfl rfl rfl rfl ?_ | refine runL_q (ql tok rfl) rfl rfl rfl ?_ | refine runL_g rfl rfl (ql tok rfl) rfl rfl rfl rfl rfl ?_ | (refine runL_op0 (sst tok rfl rfl rfl rfl rfl) ?_; rintro _ _ _ ⟨rfl, rfl, rfl⟩) | (refine runL_op (st_box rfl) rfl rfl rfl ?_; rintro _ _ _ ⟨_, rfl, rfl, rfl⟩) | (refine runL_op (st_alloc tok rfl) rfl rfl rfl ?_; rintro _ _ _ ⟨_, rfl, rfl, rfl⟩) | (refine runL_op (st_buildSlice tok rfl rfl rfl rfl rfl rfl rfl) rfl rfl rfl ?_; rintro _ _ _ ⟨_, rfl, rfl, rfl⟩))
  refine run_cond rfl (fun h1 => ?_) (fun h1 => ?_)
  · rw [e1] at h1
    have h2 : (most : Int) < (refNum s).1 := by
      simp at h1
      omega
    repeat (first | with_reducible (first | refine run_seq ?_ | refine run_region ?_ | refine runL_nil ?_ | refine run_skip ?_ | refine run_block ?_ | refine run_inBlock ?_) | refine run_exit rfl ?_ | refine runL_q (qt_pev tok rfl) rfl rfl rfl ?_ | refine runL_g rfl rfl (qt_pev tok rfl) rfl rfl rfl rfl rfl ?_ | refine runL_q (ql tok rfl) rfl rfl rfl ?_ | refine runL_g rfl rfl (ql tok rfl) rfl rfl rfl rfl rfl ?_ | (refine runL_op0 (sst tok rfl rfl rfl rfl rfl) ?_; rintro _ _ _ ⟨rfl, rfl, rfl⟩) | (refine runL_op (st_box rfl) rfl rfl rfl ?_; rintro _ _ _ ⟨_, rfl, rfl, rfl⟩) | (refine runL_op (st_alloc tok rfl) rfl rfl rfl ?_; rintro _ _ _ ⟨_, rfl, rfl, rfl⟩) | (refine runL_op (st_buildSlice tok rfl rfl rfl rfl rfl rfl rfl) rfl rfl rfl ?_; rintro _ _ _ ⟨_, rfl, rfl, rfl⟩))
    exact run_ret hC (rs := [.tmp 4, .tmp 5, .tmp 6]) rfl (resT rfl (resT rfl (resT rfl resN))) (fun _ h => h) ⟨by rw [refText, if_neg (by simp [h0]), if_pos h2]; rfl, rfl, rfl⟩
  rw [e1] at h1
  have h2 : ¬ (most : Int) < (refNum s).1 := by
    simp at h1
    omega
  have e2 : IntKind.u64.wrap (IntKind.i64.wrap ((s.size : Int) - (refNum s).2.1)) = (s.size : Int) - (refNum s).2.1 := by
    rw [hn, show (s.size : Int) - (n : Int) = ((s.size - n : Nat) : Int) by omega, wrap64_nat (by omega), u64_nat (by omega)]
  obtain ⟨v, hv⟩ : ∃ v : Nat, (refNum s).1 = v := ⟨(refNum s).1.toNat, by omega⟩
  repeat (first | with_reducible (first | refine run_seq ?_ | refine run_region ?_ | refine runL_nil ?_ | refine run_skip ?_ | refine run_block ?_ | refine run_inBlock ?_) | refine run_exit rfl ?_ | refine runL_q (qt_pev tok rfl) rfl rfl rfl ?_ | refine runL_g rfl rfl (qt_pev tok rfl) rfl rfl rfl rfl rfl ?_ | refine runL_q (ql tok rfl) rfl rfl rfl ?_ | refine runL_g rfl rfl (ql tok rfl) rfl rfl rfl rfl rfl ?_ | (refine runL_op0 (sst tok rfl rfl rfl rfl rfl) ?_; rintro _ _ _ ⟨rfl, rfl, rfl⟩) | (refine runL_op (st_box rfl) rfl rfl rfl ?_; rintro _ _ _ ⟨_, rfl, rfl, rfl⟩) | (refine runL_op (st_alloc tok rfl) rfl rfl rfl ?_; rintro _ _ _ ⟨_, rfl, rfl, rfl⟩) | (refine runL_op (st_buildSlice tok rfl rfl rfl rfl rfl rfl rfl) rfl rfl rfl ?_; rintro _ _ _ ⟨_, rfl, rfl, rfl⟩))
  refine run_cond rfl (fun h3 => ?_) (fun h3 => ?_)
  · have h4 : (s.size : Int) - (refNum s).2.1 < (refNum s).1 := by
      have := of_decide_eq_true h3
      rwa [e2] at this
    repeat (first | with_reducible (first | refine run_seq ?_ | refine run_region ?_ | refine runL_nil ?_ | refine run_skip ?_ | refine run_block ?_ | refine run_inBlock ?_) | refine run_exit rfl ?_ | refine runL_q (qt_pev tok rfl) rfl rfl rfl ?_ | refine runL_g rfl rfl (qt_pev tok rfl) rfl rfl rfl rfl rfl ?_ | refine runL_q (ql tok rfl) rfl rfl rfl ?_ | refine runL_g rfl rfl (ql tok rfl) rfl rfl rfl rfl rfl ?_ | (refine runL_op0 (sst tok rfl rfl rfl rfl rfl) ?_; rintro _ _ _ ⟨rfl, rfl, rfl⟩) | (refine runL_op (st_box rfl) rfl rfl rfl ?_; rintro _ _ _ ⟨_, rfl, rfl, rfl⟩) | (refine runL_op (st_alloc tok rfl) rfl rfl rfl ?_; rintro _ _ _ ⟨_, rfl, rfl, rfl⟩) | (refine runL_op (st_buildSlice tok rfl rfl rfl rfl rfl rfl rfl) rfl rfl rfl ?_; rintro _ _ _ ⟨_, rfl, rfl, rfl⟩))
    exact run_ret hC (rs := [.tmp 4, .tmp 5, .tmp 6]) rfl (resT rfl (resT rfl (resT rfl resN))) (fun _ h => h) ⟨by rw [refText, if_neg (by simp [h0]), if_neg h2, if_pos h4]; rfl, rfl, rfl⟩
  have h4 : ¬ (s.size : Int) - (refNum s).2.1 < (refNum s).1 := by
    have := of_decide_eq_false h3
    rwa [e2] at this
  refine run_as 8 (.int .i64 (n : Int)) rfl (by rw [hn]) ?_
  refine run_as 7 (.int .u64 (v : Int)) rfl (by rw [hv]) ?_
  have e3 : IntKind.i64.wrap ((n : Int) + IntKind.i64.wrap (v : Int)) = ((n + v : Nat) : Int) := by
    rw [wrap64_nat (by omega), show (n : Int) + (v : Int) = ((n + v : Nat) : Int) by omega, wrap64_nat (by omega)]
  repeat (first | with_reducible (first | refine run_seq ?_ | refine run_region ?_ | refine runL_nil ?_ | refine run_skip ?_ | refine run_block ?_ | refine run_inBlock ?_) | refine run_exit rfl ?_ | refine runL_q (qt_pev tok rfl) rfl rfl rfl ?_ | refine runL_g rfl rfl (qt_pev tok rfl) rfl rfl rfl rfl rfl ?_ | refine runL_q (ql tok rfl) rfl rfl rfl ?_ | refine runL_g rfl rfl (ql tok rfl) rfl rfl rfl rfl rfl ?_ | (refine runL_op0 (sst tok rfl rfl rfl rfl rfl) ?_; rintro _ _ _ ⟨rfl, rfl, rfl⟩) | (refine runL_op (st_box rfl) rfl rfl rfl ?_; rintro _ _ _ ⟨_, rfl, rfl, rfl⟩) | (refine runL_op (st_alloc tok rfl) rfl rfl rfl ?_; rintro _ _ _ ⟨_, rfl, rfl, rfl⟩) | (refine runL_op (st_buildSlice tok rfl rfl rfl rfl rfl rfl rfl) rfl rfl rfl ?_; rintro _ _ _ ⟨_, rfl, rfl, rfl⟩))
  refine runL_as 47 (.int .i64 ((n + v : Nat) : Int)) rfl (by rw [e3]) ?_
  repeat (first | with_reducible (first | refine run_seq ?_ | refine run_region ?_ | refine runL_nil ?_ | refine run_skip ?_ | refine run_block ?_ | refine run_inBlock ?_) | refine run_exit rfl ?_ | refine runL_q (qt_pev tok rfl) rfl rfl rfl ?_ | refine runL_g rfl rfl (qt_pev tok rfl) rfl rfl rfl rfl rfl ?_ | refine runL_q (ql tok rfl) rfl rfl rfl ?_ | refine runL_g rfl rfl (ql tok rfl) rfl rfl rfl rfl rfl ?_ | (refine runL_op0 (sst tok rfl rfl rfl rfl rfl) ?_; rintro _ _ _ ⟨rfl, rfl, rfl⟩) | (refine runL_op (st_box rfl) rfl rfl rfl ?_; rintro _ _ _ ⟨_, rfl, rfl, rfl⟩) | (refine runL_op (st_alloc tok rfl) rfl rfl rfl ?_; rintro _ _ _ ⟨_, rfl, rfl, rfl⟩) | (refine runL_op (st_buildSlice tok rfl rfl rfl rfl rfl rfl rfl) rfl rfl rfl ?_; rintro _ _ _ ⟨_, rfl, rfl, rfl⟩) | refine runL_q (qt_strMid tok rfl rfl rfl rfl (fun _ => ⟨by omega, by omega⟩)) rfl rfl rfl ?_)
  refine run_ret hC (rs := [.tmp 4, .tmp 5, .tmp 6]) rfl (resT rfl (resT rfl (resT rfl resN))) (fun _ h => h) ⟨?_, rfl, rfl⟩
  rw [refText, if_neg (by simp [h0]), if_neg h2, if_neg h4, e3, hn, hv, show ((n : Int) + (v : Int)).toNat = n + v by omega, Int.toNat_natCast, show (n : Int) + (v : Int) = ((n + v : Nat) : Int) by omega]
  rfl
end Go.Proofs.Ytpmepmdngdkafaa
namespace Go.Proofs.Ytpmepmdngdkafaa
open Go.Chi

/-! ### the document's names -/
def nameB (c : Int) : Bool := (((decide (c ≥ 97) && decide (c ≤ 122)) || (decide (c ≥ 48) && decide (c ≤ 57))) || c == 47 || c == 46) || c == 45
def nameR (s : ByteArray) : Bool := ((List.range s.size).all fun i => nameB (byte s i)) && decide (s.size ≠ 0)
set_option maxRecDepth 10000 in
set_option maxHeartbeats 4000000 in
theorem name_ok (M : Mem) (L : HL) (s : ByteArray) (hs : s.size < 4611686018427387904) : TrQ Try.prog 88 [.string s] M L (.bool (nameR s)) := by
  refine Tr.intro 43 Try.func88 rfl rfl Try.call88 rfl ?_
  intro C hC hro
  repeat (first | with_reducible (first | refine run_seq ?_ | refine run_region ?_ | refine runL_nil ?_ | refine run_skip ?_ | refine run_block ?_ | refine run_inBlock ?_) | refine run_exit rfl ?_ | refine runL_q (qt_pev tok rfl) rfl rfl rfl ?_ | refine runL_g rfl rfl (qt_pev tok rfl) rfl rfl rfl rfl rfl ?_ | refine runL_q (ql tok rfl) rfl rfl rfl ?_ | refine runL_g rfl rfl (ql tok rfl) rfl rfl rfl rfl rfl ?_ | (refine runL_op0 (sst tok rfl rfl rfl rfl rfl) ?_; rintro _ _ _ ⟨rfl, rfl, rfl⟩) | (refine runL_op (st_box rfl) rfl rfl rfl ?_; rintro _ _ _ ⟨_, rfl, rfl, rfl⟩) | (refine runL_op (st_alloc tok rfl) rfl rfl rfl ?_; rintro _ _ _ ⟨_, rfl, rfl, rfl⟩) | (refine runL_op (st_buildSlice tok rfl rfl rfl rfl rfl rfl rfl) rfl rfl rfl ?_; rintro _ _ _ ⟨_, rfl, rfl, rfl⟩))
  refine run_loopN (fun i σ1 M1 L1 => i ≤ s.size ∧ ((List.range i).all fun i => nameB (byte s i)) = true ∧ σ1 = [(3, .int .i64 (i : Int)), (0, .string s)] ∧ M = M1 ∧ L = L1) s.size [(3, .int .i64 ((0 : Nat) : Int)), (0, .string s)] ?_ ⟨Nat.zero_le _, rfl, rfl, rfl, rfl⟩ (fun j _ _ _ h => h.1) ?_
  · exact ⟨rfl, rfl, trivial⟩
  rintro i _ _ _ ⟨hi, hall, rfl, rfl, rfl⟩ hnext
  repeat (first | with_reducible (first | refine run_seq ?_ | refine run_region ?_ | refine runL_nil ?_ | refine run_skip ?_ | refine run_block ?_ | refine run_inBlock ?_) | refine run_exit rfl ?_ | refine runL_q (qt_pev tok rfl) rfl rfl rfl ?_ | refine runL_g rfl rfl (qt_pev tok rfl) rfl rfl rfl rfl rfl ?_ | refine runL_q (ql tok rfl) rfl rfl rfl ?_ | refine runL_g rfl rfl (ql tok rfl) rfl rfl rfl rfl rfl ?_ | (refine runL_op0 (sst tok rfl rfl rfl rfl rfl) ?_; rintro _ _ _ ⟨rfl, rfl, rfl⟩) | (refine runL_op (st_box rfl) rfl rfl rfl ?_; rintro _ _ _ ⟨_, rfl, rfl, rfl⟩) | (refine runL_op (st_alloc tok rfl) rfl rfl rfl ?_; rintro _ _ _ ⟨_, rfl, rfl, rfl⟩) | (refine runL_op (st_buildSlice tok rfl rfl rfl rfl rfl rfl rfl) rfl rfl rfl ?_; rintro _ _ _ ⟨_, rfl, rfl, rfl⟩))
  refine run_cond rfl (fun h => ?_) (fun h => ?_)
  · have hlt : i < s.size := by simpa using h
    obtain ⟨b, hb, hb'⟩ := byte_at hlt
    repeat (first | with_reducible (first | refine run_seq ?_ | refine run_region ?_ | refine runL_nil ?_ | refine run_skip ?_ | refine run_block ?_ | refine run_inBlock ?_) | refine run_exit rfl ?_ | refine runL_q (qt_pev tok rfl) rfl rfl rfl ?_ | refine runL_g rfl rfl (qt_pev tok rfl) rfl rfl rfl rfl rfl ?_ | refine runL_q (ql tok rfl) rfl rfl rfl ?_ | refine runL_g rfl rfl (ql tok rfl) rfl rfl rfl rfl rfl ?_ | (refine runL_op0 (sst tok rfl rfl rfl rfl rfl) ?_; rintro _ _ _ ⟨rfl, rfl, rfl⟩) | (refine runL_op (st_box rfl) rfl rfl rfl ?_; rintro _ _ _ ⟨_, rfl, rfl, rfl⟩) | (refine runL_op (st_alloc tok rfl) rfl rfl rfl ?_; rintro _ _ _ ⟨_, rfl, rfl, rfl⟩) | (refine runL_op (st_buildSlice tok rfl rfl rfl rfl rfl rfl rfl) rfl rfl rfl ?_; rintro _ _ _ ⟨_, rfl, rfl, rfl⟩) | refine runL_q (qt_strIndex tok rfl rfl rfl (fun _ => hb)) rfl rfl rfl ?_)
    refine run_cond rfl (fun h2 => ?_) (fun h2 => ?_)
    · have h3 : nameB (byte s i) = false := by
        rw [hb']
        have h2' : (!nameB (b.toNat : Int)) = true := h2
        simpa using h2'
      repeat (first | with_reducible (first | refine run_seq ?_ | refine run_region ?_ | refine runL_nil ?_ | refine run_skip ?_ | refine run_block ?_ | refine run_inBlock ?_) | refine run_exit rfl ?_ | refine runL_q (qt_pev tok rfl) rfl rfl rfl ?_ | refine runL_g rfl rfl (qt_pev tok rfl) rfl rfl rfl rfl rfl ?_ | refine runL_q (ql tok rfl) rfl rfl rfl ?_ | refine runL_g rfl rfl (ql tok rfl) rfl rfl rfl rfl rfl ?_ | (refine runL_op0 (sst tok rfl rfl rfl rfl rfl) ?_; rintro _ _ _ ⟨rfl, rfl, rfl⟩) | (refine runL_op (st_box rfl) rfl rfl rfl ?_; rintro _ _ _ ⟨_, rfl, rfl, rfl⟩) | (refine runL_op (st_alloc tok rfl) rfl rfl rfl ?_; rintro _ _ _ ⟨_, rfl, rfl, rfl⟩) | (refine runL_op (st_buildSlice tok rfl rfl rfl rfl rfl rfl rfl) rfl rfl rfl ?_; rintro _ _ _ ⟨_, rfl, rfl, rfl⟩))
      refine run_ret hC (rs := [.tmp 2]) rfl (resT rfl resN) (fun _ h => h) ⟨?_, rfl, rfl⟩
      have : ((List.range s.size).all fun i => nameB (byte s i)) = false := by
        rw [List.all_eq_false]
        exact ⟨i, List.mem_range.2 hlt, by simp [h3]⟩
      rw [nameR, this]; rfl
    · have h3 : nameB (byte s i) = true := by
        rw [hb']
        have h2' : (!nameB (b.toNat : Int)) = false := h2
        simpa using h2'
      repeat (first | with_reducible (first | refine run_seq ?_ | refine run_region ?_ | refine runL_nil ?_ | refine run_skip ?_ | refine run_block ?_ | refine run_inBlock ?_) | refine run_exit rfl ?_ | refine runL_q (qt_pev tok rfl) rfl rfl rfl ?_ | refine runL_g rfl rfl (qt_pev tok rfl) rfl rfl rfl rfl rfl ?_ | refine runL_q (ql tok rfl) rfl rfl rfl ?_ | refine runL_g rfl rfl (ql tok rfl) rfl rfl rfl rfl rfl ?_ | (refine runL_op0 (sst tok rfl rfl rfl rfl rfl) ?_; rintro _ _ _ ⟨rfl, rfl, rfl⟩) | (refine runL_op (st_box rfl) rfl rfl rfl ?_; rintro _ _ _ ⟨_, rfl, rfl, rfl⟩) | (refine runL_op (st_alloc tok rfl) rfl rfl rfl ?_; rintro _ _ _ ⟨_, rfl, rfl, rfl⟩) | (refine runL_op (st_buildSlice tok rfl rfl rfl rfl rfl rfl rfl) rfl rfl rfl ?_; rintro _ _ _ ⟨_, rfl, rfl, rfl⟩))
      exact run_sub' (hnext _ _ _ ⟨hlt, by rw [List.range_succ, List.all_append, hall]; simp [h3], rfl, rfl, rfl⟩) ⟨lk_succ rfl (by omega), rfl, trivial⟩
  · have hge : i = s.size := by simp at h; omega
    subst hge
    repeat (first | with_reducible (first | refine run_seq ?_ | refine run_region ?_ | refine runL_nil ?_ | refine run_skip ?_ | refine run_block ?_ | refine run_inBlock ?_) | refine run_exit rfl ?_ | refine runL_q (qt_pev tok rfl) rfl rfl rfl ?_ | refine runL_g rfl rfl (qt_pev tok rfl) rfl rfl rfl rfl rfl ?_ | refine runL_q (ql tok rfl) rfl rfl rfl ?_ | refine runL_g rfl rfl (ql tok rfl) rfl rfl rfl rfl rfl ?_ | (refine runL_op0 (sst tok rfl rfl rfl rfl rfl) ?_; rintro _ _ _ ⟨rfl, rfl, rfl⟩) | (refine runL_op (st_box rfl) rfl rfl rfl ?_; rintro _ _ _ ⟨_, rfl, rfl, rfl⟩) | (refine runL_op (st_alloc tok rfl) rfl rfl rfl ?_; rintro _ _ _ ⟨_, rfl, rfl, rfl⟩) | (refine runL_op (st_buildSlice tok rfl rfl rfl rfl rfl rfl rfl) rfl rfl rfl ?_; rintro _ _ _ ⟨_, rfl, rfl, rfl⟩))
    refine run_ret hC (rs := [.tmp 2]) rfl (resT rfl resN) (fun _ h => h) ⟨?_, rfl, rfl⟩
    rw [nameR, hall, empty_beq]
    by_cases h0 : s.size = 0
    · simp [h0]; rfl
    · simp [h0]; rfl
theorem abc_all : ∀ n : Fin 256, nameB ((n.val : Nat) : Int) = true → n.val < 128 ∧ inAbc ((n.val : Nat) : Int) = true := by decide +kernel
theorem nameB_imp {b : UInt8} (h : nameB (b.toNat : Int) = true) : b.toNat < 128 ∧ inAbc (b.toNat : Int) = true := abc_all ⟨b.toNat, b.toNat_lt⟩ h
theorem nameAt {s : ByteArray} (h : ((List.range s.size).all fun i => nameB (byte s i)) = true) : ∀ f p, namedAt s f p = true
  | 0, _ => rfl
  | f + 1, p => by
    rw [namedAt]
    split
    · rename_i hp
      have hb := List.all_eq_true.1 h p (List.mem_range.2 hp)
      have hx : byte s p = ((s[p]'hp).toNat : Int) := by rw [byte, getElem?_pos s p hp]; rfl
      rw [hx] at hb
      obtain ⟨h1, h2⟩ := nameB_imp hb
      rw [decode_ascii s p hp h1, h2]
      exact nameAt h f _
    · rfl
theorem nameR_imp {s : ByteArray} (h : nameR s = true) : namedR s = true := by
  rw [nameR, Bool.and_eq_true] at h
  rw [namedR, nameAt h.1, h.2]; rfl

/-! ### the document's terms -/
def headR (s : ByteArray) : Int × Int × Int :=
  if s.size = 0 then (0, 0, 6) else
  if byte s 0 = 100 then (IntKind.i64.wrap (1 + (refText (rest1 s) 1024).2.1), 0, (refText (rest1 s) 1024).2.2) else
  if byte s 0 = 97 then (if (refText (rest1 s) 32).2.2 = 0 ∧ nameR (refText (rest1 s) 32).1 = false then (0, 0, 7) else (IntKind.i64.wrap (1 + (refText (rest1 s) 32).2.1), 0, (refText (rest1 s) 32).2.2)) else
  if byte s 0 = 114 then (if (refNum (rest1 s)).2.2 = 0 ∧ 32 < (refNum (rest1 s)).1 then (0, 0, 5) else (IntKind.i64.wrap (1 + (refNum (rest1 s)).2.1), IntKind.i64.wrap (refNum (rest1 s)).1, (refNum (rest1 s)).2.2)) else
  if byte s 0 = 104 then (1, 1, 0) else
  if byte s 0 = 109 then (1, 2, 0) else
  if byte s 0 = 115 then (1, 3, 0) else (0, 0, 7)
theorem headR_imp {s : ByteArray} (hs : s.size < 4611686018427387904) (h : (headR s).2.2 = 0) : ∃ n p : Nat, headR s = ((n : Int), (p : Int), 0) ∧ frontR s = .ok (n, p) := by
  have hr := rest1_size (s := s)
  unfold headR at h ⊢
  unfold frontR
  split at h
  · cases h
  rename_i h0
  rw [if_neg h0, if_neg h0]
  split at h
  · rename_i h1
    rw [if_pos h1, if_pos h1]
    have hi := refText_imp h
    obtain ⟨m, hm, _, _⟩ := textR_len (rest1 s) 1024 (by rw [hi]; exact h)
    rw [hi] at hm ⊢
    rw [h, hm, one_wrap (by omega)]
    exact ⟨1 + m, 0, rfl, by simp; omega⟩
  rename_i h1
  rw [if_neg h1, if_neg h1]
  split at h
  · rename_i h2
    rw [if_pos h2, if_pos h2]
    split at h
    · cases h
    rename_i h3
    have hi := refText_imp h
    obtain ⟨m, hm, _, _⟩ := textR_len (rest1 s) 32 (by rw [hi]; exact h)
    have h4 : nameR (refText (rest1 s) 32).1 = true := by
      cases e : nameR (refText (rest1 s) 32).1 with
      | true => rfl
      | false => exact absurd ⟨h, e⟩ h3
    have h5 := nameR_imp h4
    rw [if_neg h3]
    rw [hi] at hm ⊢
    rw [h5, h, hm, one_wrap (by omega)]
    exact ⟨1 + m, 0, rfl, by simp; omega⟩
  rename_i h2
  rw [if_neg h2, if_neg h2]
  split at h
  · rename_i h3
    rw [if_pos h3, if_pos h3]
    split at h
    · cases h
    rename_i h4
    have hi := refNum_imp h
    obtain ⟨m, hm, _, _⟩ := numR_len (rest1 s) (by rw [hi]; exact h)
    have hv0 := numR_pos (rest1 s)
    rw [if_neg h4]
    rw [hi] at hm hv0 ⊢
    have h5 : ¬ 32 < (refNum (rest1 s)).1 := fun h5 => h4 ⟨h, h5⟩
    obtain ⟨v, hv⟩ : ∃ v : Nat, (refNum (rest1 s)).1 = v := ⟨(refNum (rest1 s)).1.toNat, by omega⟩
    rw [h, hm, hv, one_wrap (by omega), wrap64_nat (by omega)]
    rw [hv] at h5
    exact ⟨1 + m, v, rfl, by simp [h5]; omega⟩
  rename_i h3
  rw [if_neg h3, if_neg h3]
  split at h
  · rename_i h4; rw [if_pos h4, if_pos h4]; exact ⟨1, 1, rfl, rfl⟩
  rename_i h4
  rw [if_neg h4, if_neg h4]
  split at h
  · rename_i h5; rw [if_pos h5, if_pos h5]; exact ⟨1, 2, rfl, rfl⟩
  rename_i h5
  rw [if_neg h5, if_neg h5]
  split at h
  · rename_i h6; rw [if_pos h6, if_pos h6]; exact ⟨1, 3, rfl, rfl⟩
  · cases h
theorem refText_size (s : ByteArray) (most : Nat) : (refText s most).1.size ≤ s.size := by
  unfold refText
  repeat' split
  all_goals first | exact Nat.zero_le _ | (simp; omega)
set_option maxRecDepth 10000 in
set_option maxHeartbeats 8000000 in
theorem head_ok (M : Mem) (L : HL) (s : ByteArray) (hs : s.size < 4611686018427387904) : TrQ Try.prog 85 [.string s] M L (.tuple ⟨[.int .i64 (headR s).1, .int .i64 (headR s).2.1, .int .i64 (headR s).2.2]⟩) := by
  refine Tr.intro 76 Try.func85 rfl rfl Try.call85 rfl ?_
  intro C hC hro
  repeat (first | with_reducible (first | refine run_seq ?_ | refine run_region ?_ | refine runL_nil ?_ | refine run_skip ?_ | refine run_block ?_ | refine run_inBlock ?_) | refine run_exit rfl ?_ | refine runL_q (qt_pev tok rfl) rfl rfl rfl ?_ | refine runL_g rfl rfl (qt_pev tok rfl) rfl rfl rfl rfl rfl ?_ | refine runL_q (ql tok rfl) rfl rfl rfl ?_ | refine runL_g rfl rfl (ql tok rfl) rfl rfl rfl rfl rfl ?_ | (refine runL_op0 (sst tok rfl rfl rfl rfl rfl) ?_; rintro _ _ _ ⟨rfl, rfl, rfl⟩) | (refine runL_op (st_box rfl) rfl rfl rfl ?_; rintro _ _ _ ⟨_, rfl, rfl, rfl⟩) | (refine runL_op (st_alloc tok rfl) rfl rfl rfl ?_; rintro _ _ _ ⟨_, rfl, rfl, rfl⟩) | (refine runL_op (st_buildSlice tok rfl rfl rfl rfl rfl rfl rfl) rfl rfl rfl ?_; rintro _ _ _ ⟨_, rfl, rfl, rfl⟩))
  refine run_cond rfl (fun h => ?_) (fun h => ?_)
  · repeat (first | with_reducible (first | refine run_seq ?_ | refine run_region ?_ | refine runL_nil ?_ | refine run_skip ?_ | refine run_block ?_ | refine run_inBlock ?_) | refine run_exit rfl ?_ | refine runL_q (qt_pev tok rfl) rfl rfl rfl ?_ | refine runL_g rfl rfl (qt_pev tok rfl) rfl rfl rfl rfl rfl ?_ | refine runL_q (ql tok rfl) rfl rfl rfl ?_ | refine runL_g rfl rfl (ql tok rfl) rfl rfl rfl rfl rfl ?_ | (refine runL_op0 (sst tok rfl rfl rfl rfl rfl) ?_; rintro _ _ _ ⟨rfl, rfl, rfl⟩) | (refine runL_op (st_box rfl) rfl rfl rfl ?_; rintro _ _ _ ⟨_, rfl, rfl, rfl⟩) | (refine runL_op (st_alloc tok rfl) rfl rfl rfl ?_; rintro _ _ _ ⟨_, rfl, rfl, rfl⟩) | (refine runL_op (st_buildSlice tok rfl rfl rfl rfl rfl rfl rfl) rfl rfl rfl ?_; rintro _ _ _ ⟨_, rfl, rfl, rfl⟩))
    have h0 : s.size = 0 := by have := eq_of_beq h; omega
    exact run_ret hC (rs := [.tmp 2, .tmp 3, .tmp 4]) rfl (resT rfl (resT rfl (resT rfl resN))) (fun _ h => h) ⟨by rw [headR, if_pos h0]; rfl, rfl, rfl⟩
  have h : ¬ s.size = 0 := by intro e; rw [e] at h; cases h
  have hp : 0 < s.size := by omega
  obtain ⟨b0, hb0, hb0'⟩ := byte_at hp
  have hr : (rest1 s).size < 4611686018427387904 := by rw [rest1_size]; omega
  repeat (first | with_reducible (first | refine run_seq ?_ | refine run_region ?_ | refine runL_nil ?_ | refine run_skip ?_ | refine run_block ?_ | refine run_inBlock ?_) | refine run_exit rfl ?_ | refine runL_q (qt_pev tok rfl) rfl rfl rfl ?_ | refine runL_g rfl rfl (qt_pev tok rfl) rfl rfl rfl rfl rfl ?_ | refine runL_q (ql tok rfl) rfl rfl rfl ?_ | refine runL_g rfl rfl (ql tok rfl) rfl rfl rfl rfl rfl ?_ | (refine runL_op0 (sst tok rfl rfl rfl rfl rfl) ?_; rintro _ _ _ ⟨rfl, rfl, rfl⟩) | (refine runL_op (st_box rfl) rfl rfl rfl ?_; rintro _ _ _ ⟨_, rfl, rfl, rfl⟩) | (refine runL_op (st_alloc tok rfl) rfl rfl rfl ?_; rintro _ _ _ ⟨_, rfl, rfl, rfl⟩) | (refine runL_op (st_buildSlice tok rfl rfl rfl rfl rfl rfl rfl) rfl rfl rfl ?_; rintro _ _ _ ⟨_, rfl, rfl, rfl⟩) | refine runL_q (qt_strIndex (n := 0) tok rfl rfl rfl (fun _ => hb0)) rfl rfl rfl ?_)
  refine run_cond rfl (fun h1 => ?_) (fun h1 => ?_)
  · have hb1 : byte s 0 = 100 := byte_eq hb0' h1
    repeat (first | with_reducible (first | refine run_seq ?_ | refine run_region ?_ | refine runL_nil ?_ | refine run_skip ?_ | refine run_block ?_ | refine run_inBlock ?_) | refine run_exit rfl ?_ | refine runL_q (qt_pev tok rfl) rfl rfl rfl ?_ | refine runL_g rfl rfl (qt_pev tok rfl) rfl rfl rfl rfl rfl ?_ | refine runL_q (ql tok rfl) rfl rfl rfl ?_ | refine runL_g rfl rfl (ql tok rfl) rfl rfl rfl rfl rfl ?_ | (refine runL_op0 (sst tok rfl rfl rfl rfl rfl) ?_; rintro _ _ _ ⟨rfl, rfl, rfl⟩) | (refine runL_op (st_box rfl) rfl rfl rfl ?_; rintro _ _ _ ⟨_, rfl, rfl, rfl⟩) | (refine runL_op (st_alloc tok rfl) rfl rfl rfl ?_; rintro _ _ _ ⟨_, rfl, rfl, rfl⟩) | (refine runL_op (st_buildSlice tok rfl rfl rfl rfl rfl rfl rfl) rfl rfl rfl ?_; rintro _ _ _ ⟨_, rfl, rfl, rfl⟩) | refine runL_q (qt_strLo (n := 1) tok rfl rfl rfl (fun _ => hp)) rfl rfl rfl ?_ | refine runL_q (qt_callF rfl (fun _ => refText_ok _ _ (rest1 s) 1024 hr (by decide))) rfl rfl rfl ?_)
    exact run_ret hC (rs := [.tmp 2, .tmp 3, .tmp 4]) rfl (resT rfl (resT rfl (resT rfl resN))) (fun _ h => h) ⟨by rw [headR, if_neg h, if_pos hb1]; rfl, rfl, rfl⟩
  have hb1 : byte s 0 ≠ 100 := byte_eq hb0' h1
  repeat (first | with_reducible (first | refine run_seq ?_ | refine run_region ?_ | refine runL_nil ?_ | refine run_skip ?_ | refine run_block ?_ | refine run_inBlock ?_) | refine run_exit rfl ?_ | refine runL_q (qt_pev tok rfl) rfl rfl rfl ?_ | refine runL_g rfl rfl (qt_pev tok rfl) rfl rfl rfl rfl rfl ?_ | refine runL_q (ql tok rfl) rfl rfl rfl ?_ | refine runL_g rfl rfl (ql tok rfl) rfl rfl rfl rfl rfl ?_ | (refine runL_op0 (sst tok rfl rfl rfl rfl rfl) ?_; rintro _ _ _ ⟨rfl, rfl, rfl⟩) | (refine runL_op (st_box rfl) rfl rfl rfl ?_; rintro _ _ _ ⟨_, rfl, rfl, rfl⟩) | (refine runL_op (st_alloc tok rfl) rfl rfl rfl ?_; rintro _ _ _ ⟨_, rfl, rfl, rfl⟩) | (refine runL_op (st_buildSlice tok rfl rfl rfl rfl rfl rfl rfl) rfl rfl rfl ?_; rintro _ _ _ ⟨_, rfl, rfl, rfl⟩))
  refine run_cond rfl (fun h1 => ?_) (fun h1 => ?_)
  · have hb2 : byte s 0 = 97 := byte_eq hb0' h1
    have hts := refText_size (rest1 s) 32
    repeat (first | with_reducible (first | refine run_seq ?_ | refine run_region ?_ | refine runL_nil ?_ | refine run_skip ?_ | refine run_block ?_ | refine run_inBlock ?_) | refine run_exit rfl ?_ | refine runL_q (qt_pev tok rfl) rfl rfl rfl ?_ | refine runL_g rfl rfl (qt_pev tok rfl) rfl rfl rfl rfl rfl ?_ | refine runL_q (ql tok rfl) rfl rfl rfl ?_ | refine runL_g rfl rfl (ql tok rfl) rfl rfl rfl rfl rfl ?_ | (refine runL_op0 (sst tok rfl rfl rfl rfl rfl) ?_; rintro _ _ _ ⟨rfl, rfl, rfl⟩) | (refine runL_op (st_box rfl) rfl rfl rfl ?_; rintro _ _ _ ⟨_, rfl, rfl, rfl⟩) | (refine runL_op (st_alloc tok rfl) rfl rfl rfl ?_; rintro _ _ _ ⟨_, rfl, rfl, rfl⟩) | (refine runL_op (st_buildSlice tok rfl rfl rfl rfl rfl rfl rfl) rfl rfl rfl ?_; rintro _ _ _ ⟨_, rfl, rfl, rfl⟩) | refine runL_q (qt_strLo (n := 1) tok rfl rfl rfl (fun _ => hp)) rfl rfl rfl ?_ | refine runL_q (qt_callF rfl (fun _ => refText_ok _ _ (rest1 s) 32 hr (by decide))) rfl rfl rfl ?_ | refine runL_g rfl rfl (qt_callF rfl (fun _ => name_ok _ _ _ (by omega))) rfl rfl rfl rfl rfl ?_)
    refine run_cond rfl (fun h3 => ?_) (fun h3 => ?_)
    · have h4 : (refText (rest1 s) 32).2.2 = 0 ∧ nameR (refText (rest1 s) 32).1 = false := by simpa using h3
      repeat (first | with_reducible (first | refine run_seq ?_ | refine run_region ?_ | refine runL_nil ?_ | refine run_skip ?_ | refine run_block ?_ | refine run_inBlock ?_) | refine run_exit rfl ?_ | refine runL_q (qt_pev tok rfl) rfl rfl rfl ?_ | refine runL_g rfl rfl (qt_pev tok rfl) rfl rfl rfl rfl rfl ?_ | refine runL_q (ql tok rfl) rfl rfl rfl ?_ | refine runL_g rfl rfl (ql tok rfl) rfl rfl rfl rfl rfl ?_ | (refine runL_op0 (sst tok rfl rfl rfl rfl rfl) ?_; rintro _ _ _ ⟨rfl, rfl, rfl⟩) | (refine runL_op (st_box rfl) rfl rfl rfl ?_; rintro _ _ _ ⟨_, rfl, rfl, rfl⟩) | (refine runL_op (st_alloc tok rfl) rfl rfl rfl ?_; rintro _ _ _ ⟨_, rfl, rfl, rfl⟩) | (refine runL_op (st_buildSlice tok rfl rfl rfl rfl rfl rfl rfl) rfl rfl rfl ?_; rintro _ _ _ ⟨_, rfl, rfl, rfl⟩))
      exact run_ret hC (rs := [.tmp 2, .tmp 3, .tmp 4]) rfl (resT rfl (resT rfl (resT rfl resN))) (fun _ h => h) ⟨by rw [headR, if_neg h, if_neg hb1, if_pos hb2, if_pos h4]; rfl, rfl, rfl⟩
    · have h4 : ¬ ((refText (rest1 s) 32).2.2 = 0 ∧ nameR (refText (rest1 s) 32).1 = false) := by simpa using h3
      repeat (first | with_reducible (first | refine run_seq ?_ | refine run_region ?_ | refine runL_nil ?_ | refine run_skip ?_ | refine run_block ?_ | refine run_inBlock ?_) | refine run_exit rfl ?_ | refine runL_q (qt_pev tok rfl) rfl rfl rfl ?_ | refine runL_g rfl rfl (qt_pev tok rfl) rfl rfl rfl rfl rfl ?_ | refine runL_q (ql tok rfl) rfl rfl rfl ?_ | refine runL_g rfl rfl (ql tok rfl) rfl rfl rfl rfl rfl ?_ | (refine runL_op0 (sst tok rfl rfl rfl rfl rfl) ?_; rintro _ _ _ ⟨rfl, rfl, rfl⟩) | (refine runL_op (st_box rfl) rfl rfl rfl ?_; rintro _ _ _ ⟨_, rfl, rfl, rfl⟩) | (refine runL_op (st_alloc tok rfl) rfl rfl rfl ?_; rintro _ _ _ ⟨_, rfl, rfl, rfl⟩) | (refine runL_op (st_buildSlice tok rfl rfl rfl rfl rfl rfl rfl) rfl rfl rfl ?_; rintro _ _ _ ⟨_, rfl, rfl, rfl⟩))
      exact run_ret hC (rs := [.tmp 2, .tmp 3, .tmp 4]) rfl (resT rfl (resT rfl (resT rfl resN))) (fun _ h => h) ⟨by rw [headR, if_neg h, if_neg hb1, if_pos hb2, if_neg h4]; rfl, rfl, rfl⟩
  have hb2 : byte s 0 ≠ 97 := byte_eq hb0' h1
  repeat (first | with_reducible (first | refine run_seq ?_ | refine run_region ?_ | refine runL_nil ?_ | refine run_skip ?_ | refine run_block ?_ | refine run_inBlock ?_) | refine run_exit rfl ?_ | refine runL_q (qt_pev tok rfl) rfl rfl rfl ?_ | refine runL_g rfl rfl (qt_pev tok rfl) rfl rfl rfl rfl rfl ?_ | refine runL_q (ql tok rfl) rfl rfl rfl ?_ | refine runL_g rfl rfl (ql tok rfl) rfl rfl rfl rfl rfl ?_ | (refine runL_op0 (sst tok rfl rfl rfl rfl rfl) ?_; rintro _ _ _ ⟨rfl, rfl, rfl⟩) | (refine runL_op (st_box rfl) rfl rfl rfl ?_; rintro _ _ _ ⟨_, rfl, rfl, rfl⟩) | (refine runL_op (st_alloc tok rfl) rfl rfl rfl ?_; rintro _ _ _ ⟨_, rfl, rfl, rfl⟩) | (refine runL_op (st_buildSlice tok rfl rfl rfl rfl rfl rfl rfl) rfl rfl rfl ?_; rintro _ _ _ ⟨_, rfl, rfl, rfl⟩))
  refine run_cond rfl (fun h1 => ?_) (fun h1 => ?_)
  · have hb3 : byte s 0 = 114 := byte_eq hb0' h1
    repeat (first | with_reducible (first | refine run_seq ?_ | refine run_region ?_ | refine runL_nil ?_ | refine run_skip ?_ | refine run_block ?_ | refine run_inBlock ?_) | refine run_exit rfl ?_ | refine runL_q (qt_pev tok rfl) rfl rfl rfl ?_ | refine runL_g rfl rfl (qt_pev tok rfl) rfl rfl rfl rfl rfl ?_ | refine runL_q (ql tok rfl) rfl rfl rfl ?_ | refine runL_g rfl rfl (ql tok rfl) rfl rfl rfl rfl rfl ?_ | (refine runL_op0 (sst tok rfl rfl rfl rfl rfl) ?_; rintro _ _ _ ⟨rfl, rfl, rfl⟩) | (refine runL_op (st_box rfl) rfl rfl rfl ?_; rintro _ _ _ ⟨_, rfl, rfl, rfl⟩) | (refine runL_op (st_alloc tok rfl) rfl rfl rfl ?_; rintro _ _ _ ⟨_, rfl, rfl, rfl⟩) | (refine runL_op (st_buildSlice tok rfl rfl rfl rfl rfl rfl rfl) rfl rfl rfl ?_; rintro _ _ _ ⟨_, rfl, rfl, rfl⟩) | refine runL_q (qt_strLo (n := 1) tok rfl rfl rfl (fun _ => hp)) rfl rfl rfl ?_ | refine runL_q (qt_callF rfl (fun _ => refNum_ok _ _ (rest1 s))) rfl rfl rfl ?_)
    refine run_cond rfl (fun h3 => ?_) (fun h3 => ?_)
    · have h4 : (refNum (rest1 s)).2.2 = 0 ∧ 32 < (refNum (rest1 s)).1 := by simpa using h3
      repeat (first | with_reducible (first | refine run_seq ?_ | refine run_region ?_ | refine runL_nil ?_ | refine run_skip ?_ | refine run_block ?_ | refine run_inBlock ?_) | refine run_exit rfl ?_ | refine runL_q (qt_pev tok rfl) rfl rfl rfl ?_ | refine runL_g rfl rfl (qt_pev tok rfl) rfl rfl rfl rfl rfl ?_ | refine runL_q (ql tok rfl) rfl rfl rfl ?_ | refine runL_g rfl rfl (ql tok rfl) rfl rfl rfl rfl rfl ?_ | (refine runL_op0 (sst tok rfl rfl rfl rfl rfl) ?_; rintro _ _ _ ⟨rfl, rfl, rfl⟩) | (refine runL_op (st_box rfl) rfl rfl rfl ?_; rintro _ _ _ ⟨_, rfl, rfl, rfl⟩) | (refine runL_op (st_alloc tok rfl) rfl rfl rfl ?_; rintro _ _ _ ⟨_, rfl, rfl, rfl⟩) | (refine runL_op (st_buildSlice tok rfl rfl rfl rfl rfl rfl rfl) rfl rfl rfl ?_; rintro _ _ _ ⟨_, rfl, rfl, rfl⟩))
      exact run_ret hC (rs := [.tmp 2, .tmp 3, .tmp 4]) rfl (resT rfl (resT rfl (resT rfl resN))) (fun _ h => h) ⟨by rw [headR, if_neg h, if_neg hb1, if_neg hb2, if_pos hb3, if_pos h4]; rfl, rfl, rfl⟩
    · have h4 : ¬ ((refNum (rest1 s)).2.2 = 0 ∧ 32 < (refNum (rest1 s)).1) := by simpa using h3
      repeat (first | with_reducible (first | refine run_seq ?_ | refine run_region ?_ | refine runL_nil ?_ | refine run_skip ?_ | refine run_block ?_ | refine run_inBlock ?_) | refine run_exit rfl ?_ | refine runL_q (qt_pev tok rfl) rfl rfl rfl ?_ | refine runL_g rfl rfl (qt_pev tok rfl) rfl rfl rfl rfl rfl ?_ | refine runL_q (ql tok rfl) rfl rfl rfl ?_ | refine runL_g rfl rfl (ql tok rfl) rfl rfl rfl rfl rfl ?_ | (refine runL_op0 (sst tok rfl rfl rfl rfl rfl) ?_; rintro _ _ _ ⟨rfl, rfl, rfl⟩) | (refine runL_op (st_box rfl) rfl rfl rfl ?_; rintro _ _ _ ⟨_, rfl, rfl, rfl⟩) | (refine runL_op (st_alloc tok rfl) rfl rfl rfl ?_; rintro _ _ _ ⟨_, rfl, rfl, rfl⟩) | (refine runL_op (st_buildSlice tok rfl rfl rfl rfl rfl rfl rfl) rfl rfl rfl ?_; rintro _ _ _ ⟨_, rfl, rfl, rfl⟩))
      exact run_ret hC (rs := [.tmp 2, .tmp 3, .tmp 4]) rfl (resT rfl (resT rfl (resT rfl resN))) (fun _ h => h) ⟨by rw [headR, if_neg h, if_neg hb1, if_neg hb2, if_pos hb3, if_neg h4]; rfl, rfl, rfl⟩
  have hb3 : byte s 0 ≠ 114 := byte_eq hb0' h1
  repeat (first | with_reducible (first | refine run_seq ?_ | refine run_region ?_ | refine runL_nil ?_ | refine run_skip ?_ | refine run_block ?_ | refine run_inBlock ?_) | refine run_exit rfl ?_ | refine runL_q (qt_pev tok rfl) rfl rfl rfl ?_ | refine runL_g rfl rfl (qt_pev tok rfl) rfl rfl rfl rfl rfl ?_ | refine runL_q (ql tok rfl) rfl rfl rfl ?_ | refine runL_g rfl rfl (ql tok rfl) rfl rfl rfl rfl rfl ?_ | (refine runL_op0 (sst tok rfl rfl rfl rfl rfl) ?_; rintro _ _ _ ⟨rfl, rfl, rfl⟩) | (refine runL_op (st_box rfl) rfl rfl rfl ?_; rintro _ _ _ ⟨_, rfl, rfl, rfl⟩) | (refine runL_op (st_alloc tok rfl) rfl rfl rfl ?_; rintro _ _ _ ⟨_, rfl, rfl, rfl⟩) | (refine runL_op (st_buildSlice tok rfl rfl rfl rfl rfl rfl rfl) rfl rfl rfl ?_; rintro _ _ _ ⟨_, rfl, rfl, rfl⟩))
  refine run_cond rfl (fun h1 => ?_) (fun h1 => ?_)
  · have hb4 : byte s 0 = 104 := byte_eq hb0' h1
    repeat (first | with_reducible (first | refine run_seq ?_ | refine run_region ?_ | refine runL_nil ?_ | refine run_skip ?_ | refine run_block ?_ | refine run_inBlock ?_) | refine run_exit rfl ?_ | refine runL_q (qt_pev tok rfl) rfl rfl rfl ?_ | refine runL_g rfl rfl (qt_pev tok rfl) rfl rfl rfl rfl rfl ?_ | refine runL_q (ql tok rfl) rfl rfl rfl ?_ | refine runL_g rfl rfl (ql tok rfl) rfl rfl rfl rfl rfl ?_ | (refine runL_op0 (sst tok rfl rfl rfl rfl rfl) ?_; rintro _ _ _ ⟨rfl, rfl, rfl⟩) | (refine runL_op (st_box rfl) rfl rfl rfl ?_; rintro _ _ _ ⟨_, rfl, rfl, rfl⟩) | (refine runL_op (st_alloc tok rfl) rfl rfl rfl ?_; rintro _ _ _ ⟨_, rfl, rfl, rfl⟩) | (refine runL_op (st_buildSlice tok rfl rfl rfl rfl rfl rfl rfl) rfl rfl rfl ?_; rintro _ _ _ ⟨_, rfl, rfl, rfl⟩))
    exact run_ret hC (rs := [.tmp 2, .tmp 3, .tmp 4]) rfl (resT rfl (resT rfl (resT rfl resN))) (fun _ h => h) ⟨by rw [headR, if_neg h, if_neg hb1, if_neg hb2, if_neg hb3, if_pos hb4]; rfl, rfl, rfl⟩
  have hb4 : byte s 0 ≠ 104 := byte_eq hb0' h1
  repeat (first | with_reducible (first | refine run_seq ?_ | refine run_region ?_ | refine runL_nil ?_ | refine run_skip ?_ | refine run_block ?_ | refine run_inBlock ?_) | refine run_exit rfl ?_ | refine runL_q (qt_pev tok rfl) rfl rfl rfl ?_ | refine runL_g rfl rfl (qt_pev tok rfl) rfl rfl rfl rfl rfl ?_ | refine runL_q (ql tok rfl) rfl rfl rfl ?_ | refine runL_g rfl rfl (ql tok rfl) rfl rfl rfl rfl rfl ?_ | (refine runL_op0 (sst tok rfl rfl rfl rfl rfl) ?_; rintro _ _ _ ⟨rfl, rfl, rfl⟩) | (refine runL_op (st_box rfl) rfl rfl rfl ?_; rintro _ _ _ ⟨_, rfl, rfl, rfl⟩) | (refine runL_op (st_alloc tok rfl) rfl rfl rfl ?_; rintro _ _ _ ⟨_, rfl, rfl, rfl⟩) | (refine runL_op (st_buildSlice tok rfl rfl rfl rfl rfl rfl rfl) rfl rfl rfl ?_; rintro _ _ _ ⟨_, rfl, rfl, rfl⟩))
  refine run_cond rfl (fun h1 => ?_) (fun h1 => ?_)
  · have hb5 : byte s 0 = 109 := byte_eq hb0' h1
    repeat (first | with_reducible (first | refine run_seq ?_ | refine run_region ?_ | refine runL_nil ?_ | refine run_skip ?_ | refine run_block ?_ | refine run_inBlock ?_) | refine run_exit rfl ?_ | refine runL_q (qt_pev tok rfl) rfl rfl rfl ?_ | refine runL_g rfl rfl (qt_pev tok rfl) rfl rfl rfl rfl rfl ?_ | refine runL_q (ql tok rfl) rfl rfl rfl ?_ | refine runL_g rfl rfl (ql tok rfl) rfl rfl rfl rfl rfl ?_ | (refine runL_op0 (sst tok rfl rfl rfl rfl rfl) ?_; rintro _ _ _ ⟨rfl, rfl, rfl⟩) | (refine runL_op (st_box rfl) rfl rfl rfl ?_; rintro _ _ _ ⟨_, rfl, rfl, rfl⟩) | (refine runL_op (st_alloc tok rfl) rfl rfl rfl ?_; rintro _ _ _ ⟨_, rfl, rfl, rfl⟩) | (refine runL_op (st_buildSlice tok rfl rfl rfl rfl rfl rfl rfl) rfl rfl rfl ?_; rintro _ _ _ ⟨_, rfl, rfl, rfl⟩))
    exact run_ret hC (rs := [.tmp 2, .tmp 3, .tmp 4]) rfl (resT rfl (resT rfl (resT rfl resN))) (fun _ h => h) ⟨by rw [headR, if_neg h, if_neg hb1, if_neg hb2, if_neg hb3, if_neg hb4, if_pos hb5]; rfl, rfl, rfl⟩
  have hb5 : byte s 0 ≠ 109 := byte_eq hb0' h1
  repeat (first | with_reducible (first | refine run_seq ?_ | refine run_region ?_ | refine runL_nil ?_ | refine run_skip ?_ | refine run_block ?_ | refine run_inBlock ?_) | refine run_exit rfl ?_ | refine runL_q (qt_pev tok rfl) rfl rfl rfl ?_ | refine runL_g rfl rfl (qt_pev tok rfl) rfl rfl rfl rfl rfl ?_ | refine runL_q (ql tok rfl) rfl rfl rfl ?_ | refine runL_g rfl rfl (ql tok rfl) rfl rfl rfl rfl rfl ?_ | (refine runL_op0 (sst tok rfl rfl rfl rfl rfl) ?_; rintro _ _ _ ⟨rfl, rfl, rfl⟩) | (refine runL_op (st_box rfl) rfl rfl rfl ?_; rintro _ _ _ ⟨_, rfl, rfl, rfl⟩) | (refine runL_op (st_alloc tok rfl) rfl rfl rfl ?_; rintro _ _ _ ⟨_, rfl, rfl, rfl⟩) | (refine runL_op (st_buildSlice tok rfl rfl rfl rfl rfl rfl rfl) rfl rfl rfl ?_; rintro _ _ _ ⟨_, rfl, rfl, rfl⟩))
  refine run_cond rfl (fun h1 => ?_) (fun h1 => ?_)
  · have hb6 : byte s 0 = 115 := byte_eq hb0' h1
    repeat (first | with_reducible (first | refine run_seq ?_ | refine run_region ?_ | refine runL_nil ?_ | refine run_skip ?_ | refine run_block ?_ | refine run_inBlock ?_) | refine run_exit rfl ?_ | refine runL_q (qt_pev tok rfl) rfl rfl rfl ?_ | refine runL_g rfl rfl (qt_pev tok rfl) rfl rfl rfl rfl rfl ?_ | refine runL_q (ql tok rfl) rfl rfl rfl ?_ | refine runL_g rfl rfl (ql tok rfl) rfl rfl rfl rfl rfl ?_ | (refine runL_op0 (sst tok rfl rfl rfl rfl rfl) ?_; rintro _ _ _ ⟨rfl, rfl, rfl⟩) | (refine runL_op (st_box rfl) rfl rfl rfl ?_; rintro _ _ _ ⟨_, rfl, rfl, rfl⟩) | (refine runL_op (st_alloc tok rfl) rfl rfl rfl ?_; rintro _ _ _ ⟨_, rfl, rfl, rfl⟩) | (refine runL_op (st_buildSlice tok rfl rfl rfl rfl rfl rfl rfl) rfl rfl rfl ?_; rintro _ _ _ ⟨_, rfl, rfl, rfl⟩))
    exact run_ret hC (rs := [.tmp 2, .tmp 3, .tmp 4]) rfl (resT rfl (resT rfl (resT rfl resN))) (fun _ h => h) ⟨by rw [headR, if_neg h, if_neg hb1, if_neg hb2, if_neg hb3, if_neg hb4, if_neg hb5, if_pos hb6]; rfl, rfl, rfl⟩
  have hb6 : byte s 0 ≠ 115 := byte_eq hb0' h1
  repeat (first | with_reducible (first | refine run_seq ?_ | refine run_region ?_ | refine runL_nil ?_ | refine run_skip ?_ | refine run_block ?_ | refine run_inBlock ?_) | refine run_exit rfl ?_ | refine runL_q (qt_pev tok rfl) rfl rfl rfl ?_ | refine runL_g rfl rfl (qt_pev tok rfl) rfl rfl rfl rfl rfl ?_ | refine runL_q (ql tok rfl) rfl rfl rfl ?_ | refine runL_g rfl rfl (ql tok rfl) rfl rfl rfl rfl rfl ?_ | (refine runL_op0 (sst tok rfl rfl rfl rfl rfl) ?_; rintro _ _ _ ⟨rfl, rfl, rfl⟩) | (refine runL_op (st_box rfl) rfl rfl rfl ?_; rintro _ _ _ ⟨_, rfl, rfl, rfl⟩) | (refine runL_op (st_alloc tok rfl) rfl rfl rfl ?_; rintro _ _ _ ⟨_, rfl, rfl, rfl⟩) | (refine runL_op (st_buildSlice tok rfl rfl rfl rfl rfl rfl rfl) rfl rfl rfl ?_; rintro _ _ _ ⟨_, rfl, rfl, rfl⟩))
  exact run_ret hC (rs := [.tmp 2, .tmp 3, .tmp 4]) rfl (resT rfl (resT rfl (resT rfl resN))) (fun _ h => h) ⟨by rw [headR, if_neg h, if_neg hb1, if_neg hb2, if_neg hb3, if_neg hb4, if_neg hb5, if_neg hb6]; rfl, rfl, rfl⟩
end Go.Proofs.Ytpmepmdngdkafaa
namespace Go.Proofs.Ytpmepmdngdkafaa
open Go.Chi

def rloop (f : ByteArray → Int × Int) (s : ByteArray) : Nat → Int → Int → Int × Int
  | 0, n, e => (n, e)
  | i + 1, n, e => if e ≠ 0 then (n, e) else rloop f s i (IntKind.i64.wrap (n + (f (s.extract n.toNat s.size)).1)) (f (s.extract n.toNat s.size)).2
def finR (r : Int × Int) : Int × Int := if r.2 ≠ 0 then (0, r.2) else (r.1, 0)
def refRead : Nat → ByteArray → Int × Int
  | 0, _ => (0, 60)
  | k + 1, s => finR (rloop (refRead k) s (headR s).2.1.toNat (headR s).1 (headR s).2.2)
theorem rloop_err (f : ByteArray → Int × Int) (s : ByteArray) {e : Int} (he : e ≠ 0) : ∀ i n, rloop f s i n e = (n, e)
  | 0, _ => rfl
  | i + 1, n => by rw [rloop, if_pos he]
theorem ext_ext (w : ByteArray) {a n : Nat} (_ha : a ≤ w.size) (_hn : a + n ≤ w.size) : (w.extract a w.size).extract n (w.extract a w.size).size = w.extract (a + n) w.size := by
  have hz : (w.extract a w.size).size = w.size - a := by simp
  rw [hz]
  apply ByteArray.ext
  apply Array.ext'
  simp only [ByteArray.data_extract, Array.toList_extract, List.extract_eq_take_drop]
  have hl : w.data.toList.length = w.size := by simp
  generalize w.data.toList = l at *
  rw [← hl] at _ha _hn ⊢
  rw [List.take_of_length_le (l := l.drop a) (by simp), List.drop_drop, Nat.sub_sub]
theorem refNum_err {s : ByteArray} (h : (refNum s).2.2 ≠ 0) : (refNum s).1 = 0 := by
  unfold refNum at h ⊢
  repeat' split
  all_goals first | rfl | (rename_i h1 h2 h3 h4; simp [h1, h2, h3, h4] at h) | (rename_i h1 h2; simp [h1, h2] at h)
theorem headR_p32 (s : ByteArray) : (headR s).2.1 ≤ 32 := by
  unfold headR
  repeat' split
  all_goals try (simp; done)
  rename_i h1
  simp only
  by_cases he : (refNum (rest1 s)).2.2 = 0
  · have hv0 := numR_pos (rest1 s)
    rw [refNum_imp he] at hv0
    have h5 : ¬ 32 < (refNum (rest1 s)).1 := fun h5 => h1 ⟨he, h5⟩
    obtain ⟨v, hv⟩ : ∃ v : Nat, (refNum (rest1 s)).1 = v := ⟨(refNum (rest1 s)).1.toNat, by omega⟩
    rw [hv, wrap64_nat (by omega)]
    omega
  · rw [refNum_err he]; decide
theorem refRead_imp : ∀ (k : Nat) (s : ByteArray), s.size < 4611686018427387904 → (refRead k s).2 = 0 → ∃ n : Nat, (refRead k s).1 = n ∧ n ≤ s.size ∧ ∀ (w : ByteArray) (a : Nat), a ≤ w.size → w.extract a w.size = s → walkR w k a = .ok (a + n)
  | 0, s, _, h => by cases h
  | k + 1, s, hs, h => by
    rw [refRead] at h ⊢
    have h1 : (headR s).2.2 = 0 := by
      apply Classical.byContradiction
      intro h1
      rw [rloop_err _ _ h1, finR, if_pos h1] at h
      exact h1 h
    obtain ⟨n0, p0, hh, hf⟩ := headR_imp hs h1
    have hfl := frontR_len hf
    rw [hh] at h ⊢
    simp only [Int.toNat_natCast] at h ⊢
    have key : ∀ (i n : Nat), n ≤ s.size → (rloop (refRead k) s i (n : Int) 0).2 = 0 → ∃ m : Nat, (rloop (refRead k) s i (n : Int) 0).1 = m ∧ m ≤ s.size ∧ ∀ (w : ByteArray) (a : Nat), a ≤ w.size → w.extract a w.size = s → iter (walkR w k) i (a + n) = .ok (a + m) := by
      intro i
      induction i with
      | zero => intro n hn _; exact ⟨n, rfl, hn, fun w a _ _ => rfl⟩
      | succ i ih =>
        intro n hn hr
        rw [rloop, if_neg (by simp), Int.toNat_natCast] at hr ⊢
        have he : (refRead k (s.extract n s.size)).2 = 0 := by
          apply Classical.byContradiction
          intro he
          rw [rloop_err _ _ he] at hr
          exact he hr
        have hz : (s.extract n s.size).size = s.size - n := by simp
        obtain ⟨m, hm, hml, hmw⟩ := refRead_imp k (s.extract n s.size) (by omega) he
        rw [he, hm, show (n : Int) + (m : Int) = ((n + m : Nat) : Int) by omega, wrap64_nat (by omega)] at hr ⊢
        obtain ⟨m2, hm2, hm2l, hm2w⟩ := ih (n + m) (by omega) hr
        refine ⟨m2, hm2, hm2l, fun w a ha hw => ?_⟩
        have hws : w.size - a = s.size := by rw [← hw]; simp
        have h5 := hmw w (a + n) (by omega) (by rw [← hw, ext_ext w ha (by omega)])
        rw [iter, h5]
        have h6 := hm2w w a ha hw
        rw [← h6]
        simp only [Nat.add_assoc]
    have h2 : (rloop (refRead k) s p0 (n0 : Int) 0).2 = 0 := by
      apply Classical.byContradiction
      intro h2
      rw [finR, if_pos h2] at h
      exact h2 h
    obtain ⟨m, hm, hml, hmw⟩ := key p0 n0 hfl.2.1 h2
    refine ⟨m, by rw [finR, if_neg (by simp [h2])]; exact hm, hml, fun w a ha hw => ?_⟩
    rw [walkR, hw, hf]
    exact hmw w a ha hw
set_option maxRecDepth 10000 in
set_option maxHeartbeats 8000000 in
theorem refread_ok (M : Mem) (k : Nat) : k ≤ 16 → ∀ (L : HL) (s : ByteArray), s.size < 4611686018427387904 → TrQ Try.prog 81 [.string s, .int .i64 ((17 - k : Nat) : Int)] M L (.tuple ⟨[.int .i64 (refRead k s).1, .int .i64 (refRead k s).2]⟩) := by
  induction k with
  | zero =>
    intro _ L s hs
    refine Tr.intro 44 Try.func81 rfl rfl Try.call81 rfl ?_
    intro C hC hro
    repeat (first | with_reducible (first | refine run_seq ?_ | refine run_region ?_ | refine runL_nil ?_ | refine run_skip ?_ | refine run_block ?_ | refine run_inBlock ?_) | refine run_exit rfl ?_ | refine runL_q (qt_pev tok rfl) rfl rfl rfl ?_ | refine runL_g rfl rfl (qt_pev tok rfl) rfl rfl rfl rfl rfl ?_ | refine runL_q (ql tok rfl) rfl rfl rfl ?_ | refine runL_g rfl rfl (ql tok rfl) rfl rfl rfl rfl rfl ?_ | (refine runL_op0 (sst tok rfl rfl rfl rfl rfl) ?_; rintro _ _ _ ⟨rfl, rfl, rfl⟩) | (refine runL_op (st_box rfl) rfl rfl rfl ?_; rintro _ _ _ ⟨_, rfl, rfl, rfl⟩) | (refine runL_op (st_alloc tok rfl) rfl rfl rfl ?_; rintro _ _ _ ⟨_, rfl, rfl, rfl⟩) | (refine runL_op (st_buildSlice tok rfl rfl rfl rfl rfl rfl rfl) rfl rfl rfl ?_; rintro _ _ _ ⟨_, rfl, rfl, rfl⟩))
    refine run_cond rfl (fun h => ?_) (fun h => by cases h)
    repeat (first | with_reducible (first | refine run_seq ?_ | refine run_region ?_ | refine runL_nil ?_ | refine run_skip ?_ | refine run_block ?_ | refine run_inBlock ?_) | refine run_exit rfl ?_ | refine runL_q (qt_pev tok rfl) rfl rfl rfl ?_ | refine runL_g rfl rfl (qt_pev tok rfl) rfl rfl rfl rfl rfl ?_ | refine runL_q (ql tok rfl) rfl rfl rfl ?_ | refine runL_g rfl rfl (ql tok rfl) rfl rfl rfl rfl rfl ?_ | (refine runL_op0 (sst tok rfl rfl rfl rfl rfl) ?_; rintro _ _ _ ⟨rfl, rfl, rfl⟩) | (refine runL_op (st_box rfl) rfl rfl rfl ?_; rintro _ _ _ ⟨_, rfl, rfl, rfl⟩) | (refine runL_op (st_alloc tok rfl) rfl rfl rfl ?_; rintro _ _ _ ⟨_, rfl, rfl, rfl⟩) | (refine runL_op (st_buildSlice tok rfl rfl rfl rfl rfl rfl rfl) rfl rfl rfl ?_; rintro _ _ _ ⟨_, rfl, rfl, rfl⟩))
    exact run_ret hC (rs := [.tmp 4, .tmp 5]) rfl (resT rfl (resT rfl resN)) (fun _ h => h) ⟨rfl, rfl, rfl⟩
  | succ k ih =>
    intro hk L s hs
    refine Tr.intro 44 Try.func81 rfl rfl Try.call81 rfl ?_
    intro C hC hro
    repeat (first | with_reducible (first | refine run_seq ?_ | refine run_region ?_ | refine runL_nil ?_ | refine run_skip ?_ | refine run_block ?_ | refine run_inBlock ?_) | refine run_exit rfl ?_ | refine runL_q (qt_pev tok rfl) rfl rfl rfl ?_ | refine runL_g rfl rfl (qt_pev tok rfl) rfl rfl rfl rfl rfl ?_ | refine runL_q (ql tok rfl) rfl rfl rfl ?_ | refine runL_g rfl rfl (ql tok rfl) rfl rfl rfl rfl rfl ?_ | (refine runL_op0 (sst tok rfl rfl rfl rfl rfl) ?_; rintro _ _ _ ⟨rfl, rfl, rfl⟩) | (refine runL_op (st_box rfl) rfl rfl rfl ?_; rintro _ _ _ ⟨_, rfl, rfl, rfl⟩) | (refine runL_op (st_alloc tok rfl) rfl rfl rfl ?_; rintro _ _ _ ⟨_, rfl, rfl, rfl⟩) | (refine runL_op (st_buildSlice tok rfl rfl rfl rfl rfl rfl rfl) rfl rfl rfl ?_; rintro _ _ _ ⟨_, rfl, rfl, rfl⟩))
    refine run_cond rfl (fun h => ?_) (fun h => ?_)
    · exfalso
      have : (16 : Int) < ((17 - (k + 1) : Nat) : Int) := by simpa using h
      omega
    repeat (first | with_reducible (first | refine run_seq ?_ | refine run_region ?_ | refine runL_nil ?_ | refine run_skip ?_ | refine run_block ?_ | refine run_inBlock ?_) | refine run_exit rfl ?_ | refine runL_q (qt_pev tok rfl) rfl rfl rfl ?_ | refine runL_g rfl rfl (qt_pev tok rfl) rfl rfl rfl rfl rfl ?_ | refine runL_q (ql tok rfl) rfl rfl rfl ?_ | refine runL_g rfl rfl (ql tok rfl) rfl rfl rfl rfl rfl ?_ | (refine runL_op0 (sst tok rfl rfl rfl rfl rfl) ?_; rintro _ _ _ ⟨rfl, rfl, rfl⟩) | (refine runL_op (st_box rfl) rfl rfl rfl ?_; rintro _ _ _ ⟨_, rfl, rfl, rfl⟩) | (refine runL_op (st_alloc tok rfl) rfl rfl rfl ?_; rintro _ _ _ ⟨_, rfl, rfl, rfl⟩) | (refine runL_op (st_buildSlice tok rfl rfl rfl rfl rfl rfl rfl) rfl rfl rfl ?_; rintro _ _ _ ⟨_, rfl, rfl, rfl⟩) | refine runL_q (qt_callF rfl (fun _ => head_ok _ _ s hs)) rfl rfl rfl ?_)
    have hdef : refRead (k + 1) s = finR (rloop (refRead k) s (headR s).2.1.toNat (headR s).1 (headR s).2.2) := rfl
    have hini : (headR s).2.2 = 0 → ∃ m : Nat, (headR s).1 = m ∧ m ≤ s.size := fun h1 => by
      obtain ⟨n0, p0, hh, hf⟩ := headR_imp hs h1
      exact ⟨n0, by rw [hh], (frontR_len hf).2.1⟩
    obtain ⟨pt, hpt⟩ : ∃ p : Nat, (headR s).2.1.toNat = p := ⟨_, rfl⟩
    have hpt' : (headR s).2.1 ≤ (pt : Int) := by omega
    have h32 := headR_p32 s
    rw [hpt] at hdef
    generalize (headR s).2.1 = Z at *
    generalize (headR s).2.2 = e0 at *
    generalize (headR s).1 = n0 at *
    refine run_loopN (fun i σ1 M1 L1 => i ≤ pt ∧ ∃ n e : Int, (e = 0 → ∃ m : Nat, n = m ∧ m ≤ s.size) ∧ rloop (refRead k) s (pt - i) n e = rloop (refRead k) s pt n0 e0 ∧ σ1 = [(0, .string s), (1, .int .i64 ((17 - (k + 1) : Nat) : Int)), (6, .int .i64 n), (7, .int .i64 Z), (8, .int .i64 e), (9, .int .i64 (i : Int))] ∧ M = M1 ∧ L = L1) pt [(0, .string s), (1, .int .i64 ((17 - (k + 1) : Nat) : Int)), (6, .int .i64 n0), (7, .int .i64 Z), (8, .int .i64 e0), (9, .int .i64 ((0 : Nat) : Int))] ?_ ⟨Nat.zero_le _, n0, e0, hini, rfl, rfl, rfl, rfl⟩ (fun j _ _ _ h => h.1) ?_
    · exact ⟨rfl, rfl, rfl, rfl, rfl, rfl, trivial⟩
    rintro i _ _ _ ⟨hi, n, e, hne, hit, rfl, rfl, rfl⟩ hnext
    have hfin : ∀ σ' : Env, (i = pt ∨ e ≠ 0) → lks σ' 6 = some (.int .i64 n) → lks σ' 8 = some (.int .i64 e) → rloop (refRead k) s pt n0 e0 = (n, e) := by
      intro σ' h1 _ _
      rw [← hit]
      rcases h1 with h1 | h1
      · rw [h1, Nat.sub_self]; rfl
      · exact rloop_err _ _ h1 _ _
    repeat (first | with_reducible (first | refine run_seq ?_ | refine run_region ?_ | refine runL_nil ?_ | refine run_skip ?_ | refine run_block ?_ | refine run_inBlock ?_) | refine run_exit rfl ?_ | refine runL_q (qt_pev tok rfl) rfl rfl rfl ?_ | refine runL_g rfl rfl (qt_pev tok rfl) rfl rfl rfl rfl rfl ?_ | refine runL_q (ql tok rfl) rfl rfl rfl ?_ | refine runL_g rfl rfl (ql tok rfl) rfl rfl rfl rfl rfl ?_ | (refine runL_op0 (sst tok rfl rfl rfl rfl rfl) ?_; rintro _ _ _ ⟨rfl, rfl, rfl⟩) | (refine runL_op (st_box rfl) rfl rfl rfl ?_; rintro _ _ _ ⟨_, rfl, rfl, rfl⟩) | (refine runL_op (st_alloc tok rfl) rfl rfl rfl ?_; rintro _ _ _ ⟨_, rfl, rfl, rfl⟩) | (refine runL_op (st_buildSlice tok rfl rfl rfl rfl rfl rfl rfl) rfl rfl rfl ?_; rintro _ _ _ ⟨_, rfl, rfl, rfl⟩))
    refine run_cond rfl (fun h5 => ?_) (fun h5 => ?_)
    · have h6 : (i : Int) < Z ∧ e = 0 := by simpa using h5
      obtain ⟨hiz, rfl⟩ := h6
      have hik : i < pt := by omega
      obtain ⟨m, rfl, hm⟩ := hne rfl
      have hz : (s.extract m s.size).size = s.size - m := by simp
      repeat (first | with_reducible (first | refine run_seq ?_ | refine run_region ?_ | refine runL_nil ?_ | refine run_skip ?_ | refine run_block ?_ | refine run_inBlock ?_) | refine run_exit rfl ?_ | refine runL_q (qt_pev tok rfl) rfl rfl rfl ?_ | refine runL_g rfl rfl (qt_pev tok rfl) rfl rfl rfl rfl rfl ?_ | refine runL_q (ql tok rfl) rfl rfl rfl ?_ | refine runL_g rfl rfl (ql tok rfl) rfl rfl rfl rfl rfl ?_ | (refine runL_op0 (sst tok rfl rfl rfl rfl rfl) ?_; rintro _ _ _ ⟨rfl, rfl, rfl⟩) | (refine runL_op (st_box rfl) rfl rfl rfl ?_; rintro _ _ _ ⟨_, rfl, rfl, rfl⟩) | (refine runL_op (st_alloc tok rfl) rfl rfl rfl ?_; rintro _ _ _ ⟨_, rfl, rfl, rfl⟩) | (refine runL_op (st_buildSlice tok rfl rfl rfl rfl rfl rfl rfl) rfl rfl rfl ?_; rintro _ _ _ ⟨_, rfl, rfl, rfl⟩) | refine runL_q (qt_strLo (n := m) tok rfl rfl rfl (fun _ => hm)) rfl rfl rfl ?_)
      refine runL_as 33 (.int .i64 ((17 - k : Nat) : Int)) rfl (by rw [wrap64_succ (by omega), show 17 - (k + 1) + 1 = 17 - k by omega]) ?_
      repeat (first | with_reducible (first | refine run_seq ?_ | refine run_region ?_ | refine runL_nil ?_ | refine run_skip ?_ | refine run_block ?_ | refine run_inBlock ?_) | refine run_exit rfl ?_ | refine runL_q (qt_pev tok rfl) rfl rfl rfl ?_ | refine runL_g rfl rfl (qt_pev tok rfl) rfl rfl rfl rfl rfl ?_ | refine runL_q (ql tok rfl) rfl rfl rfl ?_ | refine runL_g rfl rfl (ql tok rfl) rfl rfl rfl rfl rfl ?_ | (refine runL_op0 (sst tok rfl rfl rfl rfl rfl) ?_; rintro _ _ _ ⟨rfl, rfl, rfl⟩) | (refine runL_op (st_box rfl) rfl rfl rfl ?_; rintro _ _ _ ⟨_, rfl, rfl, rfl⟩) | (refine runL_op (st_alloc tok rfl) rfl rfl rfl ?_; rintro _ _ _ ⟨_, rfl, rfl, rfl⟩) | (refine runL_op (st_buildSlice tok rfl rfl rfl rfl rfl rfl rfl) rfl rfl rfl ?_; rintro _ _ _ ⟨_, rfl, rfl, rfl⟩) | refine runL_q (qt_callF rfl (fun _ => ih (by omega) _ (s.extract m s.size) (by omega))) rfl rfl rfl ?_)
      refine run_sub' (hnext _ _ _ ⟨hik, IntKind.i64.wrap ((m : Int) + (refRead k (s.extract m s.size)).1), (refRead k (s.extract m s.size)).2, fun he => ?_, ?_, rfl, rfl, rfl⟩) ⟨rfl, rfl, rfl, rfl, rfl, lk_succ rfl (by omega), trivial⟩
      · obtain ⟨m2, hm2, hm2l, _⟩ := refRead_imp k (s.extract m s.size) (by omega) he
        exact ⟨m + m2, by rw [hm2, show (m : Int) + (m2 : Int) = ((m + m2 : Nat) : Int) by omega, wrap64_nat (by omega)], by omega⟩
      · rw [← hit, show pt - i = (pt - (i + 1)) + 1 by omega, rloop, if_neg (by simp), Int.toNat_natCast]
    · have h6 : i = pt ∨ e ≠ 0 := by
        by_cases he : e = 0
        · left
          subst he
          have : Z ≤ (i : Int) := by simpa using h5
          omega
        · exact .inr he
      have hr := hfin [(6, .int .i64 n), (8, .int .i64 e)] h6 rfl rfl
      repeat (first | with_reducible (first | refine run_seq ?_ | refine run_region ?_ | refine runL_nil ?_ | refine run_skip ?_ | refine run_block ?_ | refine run_inBlock ?_) | refine run_exit rfl ?_ | refine runL_q (qt_pev tok rfl) rfl rfl rfl ?_ | refine runL_g rfl rfl (qt_pev tok rfl) rfl rfl rfl rfl rfl ?_ | refine runL_q (ql tok rfl) rfl rfl rfl ?_ | refine runL_g rfl rfl (ql tok rfl) rfl rfl rfl rfl rfl ?_ | (refine runL_op0 (sst tok rfl rfl rfl rfl rfl) ?_; rintro _ _ _ ⟨rfl, rfl, rfl⟩) | (refine runL_op (st_box rfl) rfl rfl rfl ?_; rintro _ _ _ ⟨_, rfl, rfl, rfl⟩) | (refine runL_op (st_alloc tok rfl) rfl rfl rfl ?_; rintro _ _ _ ⟨_, rfl, rfl, rfl⟩) | (refine runL_op (st_buildSlice tok rfl rfl rfl rfl rfl rfl rfl) rfl rfl rfl ?_; rintro _ _ _ ⟨_, rfl, rfl, rfl⟩))
      refine run_cond rfl (fun h7 => ?_) (fun h7 => ?_)
      · have h8 : e ≠ 0 := by simpa using h7
        repeat (first | with_reducible (first | refine run_seq ?_ | refine run_region ?_ | refine runL_nil ?_ | refine run_skip ?_ | refine run_block ?_ | refine run_inBlock ?_) | refine run_exit rfl ?_ | refine runL_q (qt_pev tok rfl) rfl rfl rfl ?_ | refine runL_g rfl rfl (qt_pev tok rfl) rfl rfl rfl rfl rfl ?_ | refine runL_q (ql tok rfl) rfl rfl rfl ?_ | refine runL_g rfl rfl (ql tok rfl) rfl rfl rfl rfl rfl ?_ | (refine runL_op0 (sst tok rfl rfl rfl rfl rfl) ?_; rintro _ _ _ ⟨rfl, rfl, rfl⟩) | (refine runL_op (st_box rfl) rfl rfl rfl ?_; rintro _ _ _ ⟨_, rfl, rfl, rfl⟩) | (refine runL_op (st_alloc tok rfl) rfl rfl rfl ?_; rintro _ _ _ ⟨_, rfl, rfl, rfl⟩) | (refine runL_op (st_buildSlice tok rfl rfl rfl rfl rfl rfl rfl) rfl rfl rfl ?_; rintro _ _ _ ⟨_, rfl, rfl, rfl⟩))
        exact run_ret hC (rs := [.tmp 4, .tmp 5]) rfl (resT rfl (resT rfl resN)) (fun _ h => h) ⟨by rw [hdef, hr, finR, if_pos h8]; rfl, rfl, rfl⟩
      · have h8 : e = 0 := by simpa using h7
        subst h8
        repeat (first | with_reducible (first | refine run_seq ?_ | refine run_region ?_ | refine runL_nil ?_ | refine run_skip ?_ | refine run_block ?_ | refine run_inBlock ?_) | refine run_exit rfl ?_ | refine runL_q (qt_pev tok rfl) rfl rfl rfl ?_ | refine runL_g rfl rfl (qt_pev tok rfl) rfl rfl rfl rfl rfl ?_ | refine runL_q (ql tok rfl) rfl rfl rfl ?_ | refine runL_g rfl rfl (ql tok rfl) rfl rfl rfl rfl rfl ?_ | (refine runL_op0 (sst tok rfl rfl rfl rfl rfl) ?_; rintro _ _ _ ⟨rfl, rfl, rfl⟩) | (refine runL_op (st_box rfl) rfl rfl rfl ?_; rintro _ _ _ ⟨_, rfl, rfl, rfl⟩) | (refine runL_op (st_alloc tok rfl) rfl rfl rfl ?_; rintro _ _ _ ⟨_, rfl, rfl, rfl⟩) | (refine runL_op (st_buildSlice tok rfl rfl rfl rfl rfl rfl rfl) rfl rfl rfl ?_; rintro _ _ _ ⟨_, rfl, rfl, rfl⟩))
        exact run_ret hC (rs := [.tmp 4, .tmp 5]) rfl (resT rfl (resT rfl resN)) (fun _ h => h) ⟨by rw [hdef, hr, finR, if_neg (by simp)]; rfl, rfl, rfl⟩
def topR (s : ByteArray) : Int × Int := if (refRead 16 s).2 ≠ 0 then (0, (refRead 16 s).2) else if 16384 < (refRead 16 s).1 then (0, 5) else ((refRead 16 s).1, 0)
theorem refRd_ok (M : Mem) (L : HL) (s : ByteArray) (hs : s.size < 4611686018427387904) : TrQ Try.prog 75 [.string s] M L (.tuple ⟨[.int .i64 (topR s).1, .int .i64 (topR s).2]⟩) := by
  refine Tr.intro 17 Try.func75 rfl rfl Try.call75 rfl ?_
  intro C hC hro
  repeat (first | with_reducible (first | refine run_seq ?_ | refine run_region ?_ | refine runL_nil ?_ | refine run_skip ?_ | refine run_block ?_ | refine run_inBlock ?_) | refine run_exit rfl ?_ | refine runL_q (qt_pev tok rfl) rfl rfl rfl ?_ | refine runL_g rfl rfl (qt_pev tok rfl) rfl rfl rfl rfl rfl ?_ | refine runL_q (ql tok rfl) rfl rfl rfl ?_ | refine runL_g rfl rfl (ql tok rfl) rfl rfl rfl rfl rfl ?_ | (refine runL_op0 (sst tok rfl rfl rfl rfl rfl) ?_; rintro _ _ _ ⟨rfl, rfl, rfl⟩) | (refine runL_op (st_box rfl) rfl rfl rfl ?_; rintro _ _ _ ⟨_, rfl, rfl, rfl⟩) | (refine runL_op (st_alloc tok rfl) rfl rfl rfl ?_; rintro _ _ _ ⟨_, rfl, rfl, rfl⟩) | (refine runL_op (st_buildSlice tok rfl rfl rfl rfl rfl rfl rfl) rfl rfl rfl ?_; rintro _ _ _ ⟨_, rfl, rfl, rfl⟩) | refine runL_q (qt_callF rfl (fun _ => refread_ok _ 16 (by omega) _ s hs)) rfl rfl rfl ?_)
  refine run_cond rfl (fun h => ?_) (fun h => ?_)
  · have h1 : (refRead 16 s).2 ≠ 0 := by simpa using h
    repeat (first | with_reducible (first | refine run_seq ?_ | refine run_region ?_ | refine runL_nil ?_ | refine run_skip ?_ | refine run_block ?_ | refine run_inBlock ?_) | refine run_exit rfl ?_ | refine runL_q (qt_pev tok rfl) rfl rfl rfl ?_ | refine runL_g rfl rfl (qt_pev tok rfl) rfl rfl rfl rfl rfl ?_ | refine runL_q (ql tok rfl) rfl rfl rfl ?_ | refine runL_g rfl rfl (ql tok rfl) rfl rfl rfl rfl rfl ?_ | (refine runL_op0 (sst tok rfl rfl rfl rfl rfl) ?_; rintro _ _ _ ⟨rfl, rfl, rfl⟩) | (refine runL_op (st_box rfl) rfl rfl rfl ?_; rintro _ _ _ ⟨_, rfl, rfl, rfl⟩) | (refine runL_op (st_alloc tok rfl) rfl rfl rfl ?_; rintro _ _ _ ⟨_, rfl, rfl, rfl⟩) | (refine runL_op (st_buildSlice tok rfl rfl rfl rfl rfl rfl rfl) rfl rfl rfl ?_; rintro _ _ _ ⟨_, rfl, rfl, rfl⟩))
    exact run_ret hC (rs := [.tmp 2, .tmp 3]) rfl (resT rfl (resT rfl resN)) (fun _ h => h) ⟨by rw [topR, if_pos h1]; rfl, rfl, rfl⟩
  have h1 : ¬ (refRead 16 s).2 ≠ 0 := by simpa using h
  repeat (first | with_reducible (first | refine run_seq ?_ | refine run_region ?_ | refine runL_nil ?_ | refine run_skip ?_ | refine run_block ?_ | refine run_inBlock ?_) | refine run_exit rfl ?_ | refine runL_q (qt_pev tok rfl) rfl rfl rfl ?_ | refine runL_g rfl rfl (qt_pev tok rfl) rfl rfl rfl rfl rfl ?_ | refine runL_q (ql tok rfl) rfl rfl rfl ?_ | refine runL_g rfl rfl (ql tok rfl) rfl rfl rfl rfl rfl ?_ | (refine runL_op0 (sst tok rfl rfl rfl rfl rfl) ?_; rintro _ _ _ ⟨rfl, rfl, rfl⟩) | (refine runL_op (st_box rfl) rfl rfl rfl ?_; rintro _ _ _ ⟨_, rfl, rfl, rfl⟩) | (refine runL_op (st_alloc tok rfl) rfl rfl rfl ?_; rintro _ _ _ ⟨_, rfl, rfl, rfl⟩) | (refine runL_op (st_buildSlice tok rfl rfl rfl rfl rfl rfl rfl) rfl rfl rfl ?_; rintro _ _ _ ⟨_, rfl, rfl, rfl⟩))
  refine run_cond rfl (fun h => ?_) (fun h => ?_)
  · have h2 : 16384 < (refRead 16 s).1 := by simpa using h
    repeat (first | with_reducible (first | refine run_seq ?_ | refine run_region ?_ | refine runL_nil ?_ | refine run_skip ?_ | refine run_block ?_ | refine run_inBlock ?_) | refine run_exit rfl ?_ | refine runL_q (qt_pev tok rfl) rfl rfl rfl ?_ | refine runL_g rfl rfl (qt_pev tok rfl) rfl rfl rfl rfl rfl ?_ | refine runL_q (ql tok rfl) rfl rfl rfl ?_ | refine runL_g rfl rfl (ql tok rfl) rfl rfl rfl rfl rfl ?_ | (refine runL_op0 (sst tok rfl rfl rfl rfl rfl) ?_; rintro _ _ _ ⟨rfl, rfl, rfl⟩) | (refine runL_op (st_box rfl) rfl rfl rfl ?_; rintro _ _ _ ⟨_, rfl, rfl, rfl⟩) | (refine runL_op (st_alloc tok rfl) rfl rfl rfl ?_; rintro _ _ _ ⟨_, rfl, rfl, rfl⟩) | (refine runL_op (st_buildSlice tok rfl rfl rfl rfl rfl rfl rfl) rfl rfl rfl ?_; rintro _ _ _ ⟨_, rfl, rfl, rfl⟩))
    exact run_ret hC (rs := [.tmp 2, .tmp 3]) rfl (resT rfl (resT rfl resN)) (fun _ h => h) ⟨by rw [topR, if_neg h1, if_pos h2]; rfl, rfl, rfl⟩
  · have h2 : ¬ 16384 < (refRead 16 s).1 := by simpa using h
    repeat (first | with_reducible (first | refine run_seq ?_ | refine run_region ?_ | refine runL_nil ?_ | refine run_skip ?_ | refine run_block ?_ | refine run_inBlock ?_) | refine run_exit rfl ?_ | refine runL_q (qt_pev tok rfl) rfl rfl rfl ?_ | refine runL_g rfl rfl (qt_pev tok rfl) rfl rfl rfl rfl rfl ?_ | refine runL_q (ql tok rfl) rfl rfl rfl ?_ | refine runL_g rfl rfl (ql tok rfl) rfl rfl rfl rfl rfl ?_ | (refine runL_op0 (sst tok rfl rfl rfl rfl rfl) ?_; rintro _ _ _ ⟨rfl, rfl, rfl⟩) | (refine runL_op (st_box rfl) rfl rfl rfl ?_; rintro _ _ _ ⟨_, rfl, rfl, rfl⟩) | (refine runL_op (st_alloc tok rfl) rfl rfl rfl ?_; rintro _ _ _ ⟨_, rfl, rfl, rfl⟩) | (refine runL_op (st_buildSlice tok rfl rfl rfl rfl rfl rfl rfl) rfl rfl rfl ?_; rintro _ _ _ ⟨_, rfl, rfl, rfl⟩))
    exact run_ret hC (rs := [.tmp 2, .tmp 3]) rfl (resT rfl (resT rfl resN)) (fun _ h => h) ⟨by rw [topR, if_neg h1, if_neg h2]; rfl, rfl, rfl⟩
def refCheck (s : ByteArray) : Int := if (topR s).2 ≠ 0 then (topR s).2 else if (topR s).1 ≠ (s.size : Int) then 7 else 0
theorem refCheck_ok (M : Mem) (L : HL) (s : ByteArray) (hs : s.size < 4611686018427387904) : TrQ Try.prog 64 [.string s] M L (.int .i64 (refCheck s)) := by
  refine Tr.intro 17 Try.func64 rfl rfl Try.call64 rfl ?_
  intro C hC hro
  repeat (first | with_reducible (first | refine run_seq ?_ | refine run_region ?_ | refine runL_nil ?_ | refine run_skip ?_ | refine run_block ?_ | refine run_inBlock ?_) | refine run_exit rfl ?_ | refine runL_q (qt_pev tok rfl) rfl rfl rfl ?_ | refine runL_g rfl rfl (qt_pev tok rfl) rfl rfl rfl rfl rfl ?_ | refine runL_q (ql tok rfl) rfl rfl rfl ?_ | refine runL_g rfl rfl (ql tok rfl) rfl rfl rfl rfl rfl ?_ | (refine runL_op0 (sst tok rfl rfl rfl rfl rfl) ?_; rintro _ _ _ ⟨rfl, rfl, rfl⟩) | (refine runL_op (st_box rfl) rfl rfl rfl ?_; rintro _ _ _ ⟨_, rfl, rfl, rfl⟩) | (refine runL_op (st_alloc tok rfl) rfl rfl rfl ?_; rintro _ _ _ ⟨_, rfl, rfl, rfl⟩) | (refine runL_op (st_buildSlice tok rfl rfl rfl rfl rfl rfl rfl) rfl rfl rfl ?_; rintro _ _ _ ⟨_, rfl, rfl, rfl⟩) | refine runL_q (qt_callF rfl (fun _ => refRd_ok _ _ s hs)) rfl rfl rfl ?_)
  refine run_cond rfl (fun h => ?_) (fun h => ?_)
  · have h1 : (topR s).2 ≠ 0 := by simpa using h
    repeat (first | with_reducible (first | refine run_seq ?_ | refine run_region ?_ | refine runL_nil ?_ | refine run_skip ?_ | refine run_block ?_ | refine run_inBlock ?_) | refine run_exit rfl ?_ | refine runL_q (qt_pev tok rfl) rfl rfl rfl ?_ | refine runL_g rfl rfl (qt_pev tok rfl) rfl rfl rfl rfl rfl ?_ | refine runL_q (ql tok rfl) rfl rfl rfl ?_ | refine runL_g rfl rfl (ql tok rfl) rfl rfl rfl rfl rfl ?_ | (refine runL_op0 (sst tok rfl rfl rfl rfl rfl) ?_; rintro _ _ _ ⟨rfl, rfl, rfl⟩) | (refine runL_op (st_box rfl) rfl rfl rfl ?_; rintro _ _ _ ⟨_, rfl, rfl, rfl⟩) | (refine runL_op (st_alloc tok rfl) rfl rfl rfl ?_; rintro _ _ _ ⟨_, rfl, rfl, rfl⟩) | (refine runL_op (st_buildSlice tok rfl rfl rfl rfl rfl rfl rfl) rfl rfl rfl ?_; rintro _ _ _ ⟨_, rfl, rfl, rfl⟩))
    exact run_ret hC (rs := [.tmp 2]) rfl (resT rfl resN) (fun _ h => h) ⟨by rw [refCheck, if_pos h1]; rfl, rfl, rfl⟩
  have h1 : ¬ (topR s).2 ≠ 0 := by simpa using h
  repeat (first | with_reducible (first | refine run_seq ?_ | refine run_region ?_ | refine runL_nil ?_ | refine run_skip ?_ | refine run_block ?_ | refine run_inBlock ?_) | refine run_exit rfl ?_ | refine runL_q (qt_pev tok rfl) rfl rfl rfl ?_ | refine runL_g rfl rfl (qt_pev tok rfl) rfl rfl rfl rfl rfl ?_ | refine runL_q (ql tok rfl) rfl rfl rfl ?_ | refine runL_g rfl rfl (ql tok rfl) rfl rfl rfl rfl rfl ?_ | (refine runL_op0 (sst tok rfl rfl rfl rfl rfl) ?_; rintro _ _ _ ⟨rfl, rfl, rfl⟩) | (refine runL_op (st_box rfl) rfl rfl rfl ?_; rintro _ _ _ ⟨_, rfl, rfl, rfl⟩) | (refine runL_op (st_alloc tok rfl) rfl rfl rfl ?_; rintro _ _ _ ⟨_, rfl, rfl, rfl⟩) | (refine runL_op (st_buildSlice tok rfl rfl rfl rfl rfl rfl rfl) rfl rfl rfl ?_; rintro _ _ _ ⟨_, rfl, rfl, rfl⟩))
  refine run_cond rfl (fun h => ?_) (fun h => ?_)
  · have h2 : (topR s).1 ≠ (s.size : Int) := by simpa using h
    repeat (first | with_reducible (first | refine run_seq ?_ | refine run_region ?_ | refine runL_nil ?_ | refine run_skip ?_ | refine run_block ?_ | refine run_inBlock ?_) | refine run_exit rfl ?_ | refine runL_q (qt_pev tok rfl) rfl rfl rfl ?_ | refine runL_g rfl rfl (qt_pev tok rfl) rfl rfl rfl rfl rfl ?_ | refine runL_q (ql tok rfl) rfl rfl rfl ?_ | refine runL_g rfl rfl (ql tok rfl) rfl rfl rfl rfl rfl ?_ | (refine runL_op0 (sst tok rfl rfl rfl rfl rfl) ?_; rintro _ _ _ ⟨rfl, rfl, rfl⟩) | (refine runL_op (st_box rfl) rfl rfl rfl ?_; rintro _ _ _ ⟨_, rfl, rfl, rfl⟩) | (refine runL_op (st_alloc tok rfl) rfl rfl rfl ?_; rintro _ _ _ ⟨_, rfl, rfl, rfl⟩) | (refine runL_op (st_buildSlice tok rfl rfl rfl rfl rfl rfl rfl) rfl rfl rfl ?_; rintro _ _ _ ⟨_, rfl, rfl, rfl⟩))
    exact run_ret hC (rs := [.tmp 2]) rfl (resT rfl resN) (fun _ h => h) ⟨by rw [refCheck, if_neg h1, if_pos h2]; rfl, rfl, rfl⟩
  · have h2 : ¬ (topR s).1 ≠ (s.size : Int) := by simpa using h
    repeat (first | with_reducible (first | refine run_seq ?_ | refine run_region ?_ | refine runL_nil ?_ | refine run_skip ?_ | refine run_block ?_ | refine run_inBlock ?_) | refine run_exit rfl ?_ | refine runL_q (qt_pev tok rfl) rfl rfl rfl ?_ | refine runL_g rfl rfl (qt_pev tok rfl) rfl rfl rfl rfl rfl ?_ | refine runL_q (ql tok rfl) rfl rfl rfl ?_ | refine runL_g rfl rfl (ql tok rfl) rfl rfl rfl rfl rfl ?_ | (refine runL_op0 (sst tok rfl rfl rfl rfl rfl) ?_; rintro _ _ _ ⟨rfl, rfl, rfl⟩) | (refine runL_op (st_box rfl) rfl rfl rfl ?_; rintro _ _ _ ⟨_, rfl, rfl, rfl⟩) | (refine runL_op (st_alloc tok rfl) rfl rfl rfl ?_; rintro _ _ _ ⟨_, rfl, rfl, rfl⟩) | (refine runL_op (st_buildSlice tok rfl rfl rfl rfl rfl rfl rfl) rfl rfl rfl ?_; rintro _ _ _ ⟨_, rfl, rfl, rfl⟩))
    exact run_ret hC (rs := [.tmp 2]) rfl (resT rfl resN) (fun _ h => h) ⟨by rw [refCheck, if_neg h1, if_neg h2]; rfl, rfl, rfl⟩
theorem ext_all (s : ByteArray) : s.extract 0 s.size = s := by
  apply ByteArray.ext
  simp
theorem refCheck_imp {s : ByteArray} (hs : s.size < 4611686018427387904) (h : refCheck s = 0) : checkR s = 0 := by
  have h1 : ¬ (topR s).2 ≠ 0 := fun h1 => by rw [refCheck, if_pos h1] at h; exact h1 h
  have h2 : ¬ (topR s).1 ≠ (s.size : Int) := fun h2 => by rw [refCheck, if_neg h1, if_pos h2] at h; cases h
  have h3 : (refRead 16 s).2 = 0 := by
    apply Classical.byContradiction
    intro h3
    rw [topR, if_pos h3] at h1
    exact h1 h3
  have h4 : ¬ 16384 < (refRead 16 s).1 := fun h4 => by rw [topR, if_neg (by simp [h3]), if_pos h4] at h1; exact h1 (by decide)
  obtain ⟨n, hn, _, hw⟩ := refRead_imp 16 s hs h3
  have h5 := hw s 0 (Nat.zero_le _) (ext_all s)
  rw [topR, if_neg (by simp [h3]), if_neg h4] at h2
  have h6 : n = s.size := by
    have : (refRead 16 s).1 = (s.size : Int) := by simpa using h2
    omega
  have hrr : readR (walkR s 16 0) = ((n : Int), 0) := by
    rw [h5, readR]
    simp only [Nat.zero_add]
    rw [if_neg (by omega)]
  rw [checkR, hrr, if_neg (by simp [h6])]
end Go.Proofs.Ytpmepmdngdkafaa
namespace Go.Proofs.Ytpmepmdngdkafaa
open Go.Chi

/-! ### the document's readers answer as the program's -/
def rawV (s : ByteArray) : Nat → Nat
  | 0 => 0
  | i + 1 => rawV s i * 256 + (byte s (i + 1)).toNat
theorem rawV_lt (s : ByteArray) : ∀ i, rawV s i < 256 ^ i
  | 0 => show (0 : Nat) < 1 by decide
  | i + 1 => by
    have := rawV_lt s i
    have hb := byte_pos s (i + 1)
    rw [rawV, Nat.pow_succ]
    omega
theorem refV_raw (s : ByteArray) : ∀ i, i ≤ 8 → refV s i = (rawV s i : Int)
  | 0, _ => rfl
  | i + 1, h => by
    have ih := refV_raw s i (by omega)
    have hb := byte_pos s (i + 1)
    have hlt := rawV_lt s i
    have h7 : 256 ^ i ≤ 256 ^ 7 := Nat.pow_le_pow_right (by decide) (by omega)
    have h7' : rawV s i < 72057594037927936 := by
      have : (256 : Nat) ^ 7 = 72057594037927936 := by decide
      omega
    rw [refV, ih, rawV, u64_wrap, u64_wrap, u64_wrap]
    omega
theorem raw_one (s : ByteArray) : rawV s 1 = (byte s 1).toNat := by simp [rawV]
theorem raw_pos {s : ByteArray} (h : byte s 1 ≠ 0) : ∀ i, rawV s (i + 1) ≠ 0
  | 0 => by
    have hb := byte_pos s 1
    show rawV s 1 ≠ 0
    rw [raw_one]
    omega
  | i + 1 => by
    have := raw_pos h i
    rw [rawV]
    omega
theorem ext_snoc (s : ByteArray) {i : Nat} (h : i + 1 < s.size) : s.extract 1 (i + 2) = s.extract 1 (i + 1) ++ bytesI [byte s (i + 1)] := by
  have hb : bytesI [byte s (i + 1)] = ⟨#[s[i + 1]'h]⟩ := by
    have hx : byte s (i + 1) = ((s[i + 1]'h).toNat : Int) := by rw [byte, getElem?_pos s (i + 1) h]; rfl
    rw [hx]
    simp [bytesI]
    rfl
  rw [hb]
  apply ByteArray.ext
  apply Array.ext'
  simp only [ByteArray.data_append, ByteArray.data_extract, Array.toList_append, Array.toList_extract, List.extract_eq_take_drop]
  have hl : s.data.toList.length = s.size := by simp
  have hg : (s[i + 1]'h) = s.data.toList[i + 1]'(by omega) := rfl
  rw [hg]
  have h1 : i + 2 - 1 = i + 1 := by omega
  have h2 : i + 1 - 1 = i := by omega
  rw [h1, h2, List.take_add_one, List.getElem?_drop, show 1 + i = i + 1 by omega, List.getElem?_eq_getElem (by omega)]
  rfl
theorem dig_raw {s : ByteArray} (h : byte s 1 ≠ 0) : ∀ i, i + 1 < s.size → digN (rawV s (i + 1)) = s.extract 1 (i + 2)
  | 0, hs => by
    have hb := byte_pos s 1
    have h0 : rawV s 1 ≠ 0 := raw_pos h 0
    have hd : digN (rawV s 1) = digN (rawV s 1 / 256) ++ bytesI [((rawV s 1 % 256 : Nat) : Int)] := by rw [digN, if_neg h0]
    rw [hd, ext_snoc s hs]
    have e1 : rawV s 1 / 256 = 0 := by rw [raw_one]; omega
    have e2 : ((rawV s 1 % 256 : Nat) : Int) = byte s 1 := by rw [raw_one]; omega
    rw [e1, e2, digN_zero]
    congr 1
    apply ByteArray.ext
    simp
  | i + 1, hs => by
    have ih := dig_raw h i (by omega)
    have hb := byte_pos s (i + 2)
    have h0 : rawV s (i + 2) ≠ 0 := raw_pos h (i + 1)
    have hd : digN (rawV s (i + 2)) = digN (rawV s (i + 2) / 256) ++ bytesI [((rawV s (i + 2) % 256 : Nat) : Int)] := by rw [digN, if_neg h0]
    have e0 : rawV s (i + 2) = rawV s (i + 1) * 256 + (byte s (i + 2)).toNat := rfl
    have e1 : rawV s (i + 2) / 256 = rawV s (i + 1) := by omega
    have e2 : ((rawV s (i + 2) % 256 : Nat) : Int) = byte s (i + 2) := by omega
    rw [show i + 1 + 1 = i + 2 by omega, hd, e1, e2, ih, ext_snoc s hs]
theorem ext_head (s : ByteArray) {n : Nat} (h : 0 < s.size) (hn : 1 ≤ n) : s.extract 0 n = bytesI [byte s 0] ++ s.extract 1 n := by
  have hb : bytesI [byte s 0] = ⟨#[s[0]'h]⟩ := by
    have hx : byte s 0 = ((s[0]'h).toNat : Int) := by rw [byte, getElem?_pos s 0 h]; rfl
    rw [hx]
    simp [bytesI]
    rfl
  rw [hb]
  apply ByteArray.ext
  apply Array.ext'
  simp only [ByteArray.data_append, ByteArray.data_extract, Array.toList_append, Array.toList_extract, List.extract_eq_take_drop]
  have hl : s.data.toList.length = s.size := by simp
  have hg : s.data.toList[0]? = some (s[0]'h) := by rw [List.getElem?_eq_getElem (by omega)]; rfl
  generalize (s[0]'h) = y at hg ⊢
  cases hd : s.data.toList with
  | nil => rw [hd] at hl; simp at hl; omega
  | cons x l =>
    rw [hd] at hg
    simp at hg
    obtain ⟨m, rfl⟩ : ∃ m, n = m + 1 := ⟨n - 1, by omega⟩
    simp [hg]
theorem refNum_eq (s : ByteArray) : refNum s = numR s := by
  by_cases he : (refNum s).2.2 = 0
  · exact (refNum_imp he).symm
  have hb := byte_pos s 0
  have hr := rest1_size (s := s)
  unfold refNum at he ⊢
  unfold numR
  by_cases h0 : s.size = 0
  · rw [if_pos h0, if_pos h0]
  rw [if_neg h0] at he ⊢
  rw [if_neg h0]
  by_cases h1 : byte s 0 < 248
  · rw [if_pos h1] at he; exact absurd rfl he
  rw [if_neg h1] at he ⊢
  rw [if_neg (show ¬ byte s 0 ≤ 247 by omega)]
  have hk : (refK s : Int) = byte s 0 - 247 := by unfold refK; omega
  by_cases h2 : s.size < refK s + 1
  · rw [if_pos h2, if_pos (show ((rest1 s).size : Int) < byte s 0 - 247 by omega)]
  rw [if_neg h2] at he ⊢
  rw [if_neg (show ¬ ((rest1 s).size : Int) < byte s 0 - 247 by omega)]
  by_cases h3 : numB (refV s (refK s)).toNat ≠ s.extract 0 (refK s + 1)
  · rw [if_pos h3]
    have hz : (byte s 0 - 247).toNat = refK s := rfl
    rw [hz, ← refV_eq s (refK s), byte_rest]
    by_cases h4 : byte s (0 + 1) = 0 ∨ refV s (refK s) ≤ 247
    · rw [if_pos h4]
    · exfalso
      apply h3
      have h5 : byte s 1 ≠ 0 := fun e => h4 (.inl e)
      have h6 : ¬ refV s (refK s) ≤ 247 := fun e => h4 (.inr e)
      have hk8 : refK s ≤ 8 := by omega
      have hraw := refV_raw s (refK s) hk8
      obtain ⟨m, hm⟩ : ∃ m, refK s = m + 1 := ⟨refK s - 1, by omega⟩
      have hd := dig_raw h5 m (by omega)
      rw [hraw, Int.toNat_natCast, numB, if_neg (by omega), hm, hd, show m + 1 + 1 = m + 2 by omega, ext_head s (n := m + 2) (by omega) (by omega)]
      congr 2
      have hsz : (s.extract 1 (m + 2)).size = m + 1 := by simp; omega
      rw [hsz]
      have e1 : IntKind.i64.wrap (247 + ((m + 1 : Nat) : Int)) = ((248 + m : Nat) : Int) := by
        rw [show (247 : Int) + ((m + 1 : Nat) : Int) = ((248 + m : Nat) : Int) by omega, wrap64_nat (by omega)]
      rw [e1, u8_nat (by omega)]
      congr 1
      omega
  · rw [if_neg h3] at he
    exact absurd rfl he
theorem refText_eq (s : ByteArray) (most : Nat) : refText s most = textR s most := by
  rw [refText, textR, refNum_eq]
theorem abc_all' : ∀ n : Fin 128, inAbc ((n.val : Nat) : Int) = true → nameB ((n.val : Nat) : Int) = true := by decide +kernel
theorem named_imp {s : ByteArray} : ∀ f p, s.size < p + f → namedAt s f p = true → ∀ i, p ≤ i → i < s.size → nameB (byte s i) = true
  | 0, p, hf, _, i, hi, hs => by omega
  | f + 1, p, hf, h, i, hi, hs => by
    have hp : p < s.size := by omega
    rw [namedAt, if_pos hp, Bool.and_eq_true] at h
    have hlow : (s[p]'hp).toNat < 128 := by
      apply Classical.byContradiction
      intro hn
      have := (decode_high s p hp (by omega)).1
      have h1 := h.1
      rw [inAbc, decide_eq_true_eq, runeIx, if_neg (by omega)] at h1
      omega
    rw [decode_ascii s p hp hlow] at h
    by_cases e : i = p
    · subst e
      have hx : byte s i = ((s[i]'hp).toNat : Int) := by rw [byte, getElem?_pos s i hp]; rfl
      rw [hx]
      exact abc_all' ⟨_, hlow⟩ h.1
    · exact named_imp f (p + 1) (by omega) h.2 i (by omega) hs
theorem name_eq (s : ByteArray) : nameR s = namedR s := by
  rw [Bool.eq_iff_iff]
  constructor
  · exact nameR_imp
  · intro h
    rw [namedR, Bool.and_eq_true] at h
    rw [nameR, h.2, Bool.and_true, List.all_eq_true]
    intro i hi
    exact named_imp _ 0 (by omega) h.1 i (Nat.zero_le _) (List.mem_range.1 hi)
end Go.Proofs.Ytpmepmdngdkafaa
namespace Go.Proofs.Ytpmepmdngdkafaa
open Go.Chi

theorem numR_err {s : ByteArray} (h : (numR s).2.2 ≠ 0) : (numR s).1 = 0 ∧ (numR s).2.1 = 0 := by
  unfold numR at h ⊢
  repeat' split
  all_goals first | exact ⟨rfl, rfl⟩ | (rename_i h1 h2 h3 h4; simp [h1, h2, h3, h4] at h) | (rename_i h1 h2; simp [h1, h2] at h)
/-- what stands ahead of a term's parts: the document's answer, error by error -/
theorem head_eq (s : ByteArray) (hs : s.size < 4611686018427387904) : match frontR s with | .ok x => headR s = ((x.1 : Int), (x.2 : Int), 0) | .error e => (headR s).2.2 = e ∧ e ≠ 0 := by
  by_cases he : (headR s).2.2 = 0
  · obtain ⟨n, p, h1, h2⟩ := headR_imp hs he
    rw [h2]; exact h1
  · have hr := rest1_size (s := s)
    unfold headR at he ⊢
    unfold frontR
    by_cases h0 : s.size = 0
    · rw [if_pos h0, if_pos h0]; exact ⟨rfl, by decide⟩
    rw [if_neg h0] at he ⊢
    rw [if_neg h0]
    by_cases h1 : byte s 0 = 100
    · rw [if_pos h1] at he ⊢
      rw [if_pos h1, refText_eq] at *
      have he' : (textR (rest1 s) 1024).2.2 ≠ 0 := he
      rw [if_pos he']
      exact ⟨rfl, he'⟩
    rw [if_neg h1] at he ⊢
    rw [if_neg h1]
    by_cases h2 : byte s 0 = 97
    · rw [if_pos h2] at he ⊢
      rw [if_pos h2]
      rw [refText_eq, name_eq] at he ⊢
      by_cases h3 : (textR (rest1 s) 32).2.2 ≠ 0
      · rw [if_pos h3, if_neg (fun h => h3 h.1)]
        exact ⟨rfl, h3⟩
      · rw [if_neg h3]
        have h3' : (textR (rest1 s) 32).2.2 = 0 := by simpa using h3
        by_cases h4 : namedR (textR (rest1 s) 32).1 = false
        · rw [if_pos h4, if_pos ⟨h3', h4⟩]; exact ⟨rfl, by decide⟩
        · rw [if_neg (fun h => h4 h.2)] at he
          exact absurd h3' he
    rw [if_neg h2] at he ⊢
    rw [if_neg h2]
    by_cases h3 : byte s 0 = 114
    · rw [if_pos h3] at he ⊢
      rw [if_pos h3]
      rw [refNum_eq] at he ⊢
      by_cases h4 : (numR (rest1 s)).2.2 ≠ 0
      · rw [if_pos h4, if_neg (fun h => h4 h.1)]
        exact ⟨rfl, h4⟩
      · rw [if_neg h4]
        have h4' : (numR (rest1 s)).2.2 = 0 := by simpa using h4
        by_cases h5 : 32 < (numR (rest1 s)).1
        · rw [if_pos h5, if_pos ⟨h4', h5⟩]; exact ⟨rfl, by decide⟩
        · rw [if_neg (fun h => h5 h.2)] at he
          exact absurd h4' he
    rw [if_neg h3] at he ⊢
    rw [if_neg h3]
    by_cases h4 : byte s 0 = 104
    · rw [if_pos h4] at he; exact absurd rfl he
    rw [if_neg h4] at he ⊢
    rw [if_neg h4]
    by_cases h5 : byte s 0 = 109
    · rw [if_pos h5] at he; exact absurd rfl he
    rw [if_neg h5] at he ⊢
    rw [if_neg h5]
    by_cases h6 : byte s 0 = 115
    · rw [if_pos h6] at he; exact absurd rfl he
    rw [if_neg h6, if_neg h6]
    exact ⟨rfl, by decide⟩
/-- a reading of the document's at a place -/
theorem refRead_eq : ∀ (k : Nat) (w : ByteArray) (a : Nat), w.size < 4611686018427387904 → a ≤ w.size → match walkR w k a with | .ok y => refRead k (w.extract a w.size) = (((y - a : Nat) : Int), 0) ∧ a ≤ y | .error e => refRead k (w.extract a w.size) = (0, e) ∧ e ≠ 0
  | 0, w, a, _, _ => ⟨rfl, by decide⟩
  | k + 1, w, a, hw, ha => by
    have hz : (w.extract a w.size).size = w.size - a := by simp
    have hh := head_eq (w.extract a w.size) (by omega)
    rw [walkR, refRead]
    cases hf : frontR (w.extract a w.size) with
    | error e =>
      rw [hf] at hh
      simp only at hh ⊢
      rw [rloop_err _ _ (by rw [hh.1]; exact hh.2), finR, if_pos (by rw [hh.1]; exact hh.2), hh.1]
      exact ⟨rfl, hh.2⟩
    | ok x =>
      rw [hf] at hh
      simp only at hh ⊢
      have hfl := frontR_len (n := x.1) (p := x.2) hf
      rw [hh]
      simp only [Int.toNat_natCast]
      have key : ∀ (i n : Nat), a + n ≤ w.size → match iter (walkR w k) i (a + n) with | .ok y => rloop (refRead k) (w.extract a w.size) i (n : Int) 0 = (((y - a : Nat) : Int), 0) ∧ a ≤ y | .error e => (rloop (refRead k) (w.extract a w.size) i (n : Int) 0).2 = e ∧ e ≠ 0 := by
        intro i
        induction i with
        | zero => intro n hn; exact ⟨by rw [rloop, show a + n - a = n by omega], by omega⟩
        | succ i ih =>
          intro n hn
          rw [iter, rloop, if_neg (by simp), Int.toNat_natCast]
          have hx := ext_ext w ha hn
          rw [hx]
          have hr := refRead_eq k w (a + n) hw hn
          cases hwk : walkR w k (a + n) with
          | error e =>
            rw [hwk] at hr
            simp only at hr ⊢
            rw [hr.1, rloop_err _ _ hr.2]
            exact ⟨rfl, hr.2⟩
          | ok y =>
            rw [hwk] at hr
            simp only at hr ⊢
            have hyl := walkR_len w k (a + n) y hn hwk
            rw [hr.1]
            have e1 : IntKind.i64.wrap ((n : Int) + ((y - (a + n) : Nat) : Int)) = ((y - a : Nat) : Int) := by
              rw [show (n : Int) + ((y - (a + n) : Nat) : Int) = ((y - a : Nat) : Int) by omega, wrap64_nat (by omega)]
            simp only [e1]
            have := ih (y - a) (by omega)
            rw [show a + (y - a) = y by omega] at this
            exact this
      have hk := key x.2 x.1 (by omega)
      cases hit : iter (walkR w k) x.2 (a + x.1) with
      | error e =>
        rw [hit] at hk
        simp only at hk ⊢
        rw [finR, if_pos (by rw [hk.1]; exact hk.2), hk.1]
        exact ⟨rfl, hk.2⟩
      | ok y =>
        rw [hit] at hk
        simp only at hk ⊢
        rw [finR, hk.1, if_neg (by simp)]
        exact ⟨rfl, hk.2⟩
/-- whether a text is a term: the document's answer -/
theorem refCheck_eq (s : ByteArray) (hs : s.size < 4611686018427387904) : refCheck s = checkR s := by
  have h := refRead_eq 16 s 0 hs (Nat.zero_le _)
  rw [ext_all] at h
  unfold refCheck checkR topR
  cases hw : walkR s 16 0 with
  | error e =>
    rw [hw] at h
    simp only at h
    rw [h.1]
    simp [readR, h.2]
  | ok y =>
    rw [hw] at h
    simp only [Nat.sub_zero] at h
    rw [h.1]
    by_cases hy : 16384 < y
    · have hy' : (16384 : Int) < (y : Int) := by omega
      simp [readR, hy, hy']
    · have hy' : ¬ (16384 : Int) < (y : Int) := by omega
      simp only [readR, hy, hy', if_false]
      by_cases e : (y : Int) = (s.size : Int) <;> simp [e]
end Go.Proofs.Ytpmepmdngdkafaa
namespace Go.Proofs.Ytpmepmdngdkafaa
open Go.Chi

/-! ### the document's answer: which transactions may be -/
theorem ref06May_ok (M : Mem) (L : HL) (t : ByteArray) (ht : t.size < 4611686018427387904) : TrQ Try.prog 37 [.string t] M L (.bool (isT t)) := by
  refine Tr.intro 6 Try.func37 rfl rfl Try.call37 rfl ?_
  intro C hC hro
  repeat (first | with_reducible (first | refine run_seq ?_ | refine run_region ?_ | refine runL_nil ?_ | refine run_skip ?_ | refine run_block ?_ | refine run_inBlock ?_) | refine run_exit rfl ?_ | refine runL_q (qt_pev tok rfl) rfl rfl rfl ?_ | refine runL_g rfl rfl (qt_pev tok rfl) rfl rfl rfl rfl rfl ?_ | refine runL_q (ql tok rfl) rfl rfl rfl ?_ | refine runL_g rfl rfl (ql tok rfl) rfl rfl rfl rfl rfl ?_ | (refine runL_op0 (sst tok rfl rfl rfl rfl rfl) ?_; rintro _ _ _ ⟨rfl, rfl, rfl⟩) | (refine runL_op (st_box rfl) rfl rfl rfl ?_; rintro _ _ _ ⟨_, rfl, rfl, rfl⟩) | (refine runL_op (st_alloc tok rfl) rfl rfl rfl ?_; rintro _ _ _ ⟨_, rfl, rfl, rfl⟩) | (refine runL_op (st_buildSlice tok rfl rfl rfl rfl rfl rfl rfl) rfl rfl rfl ?_; rintro _ _ _ ⟨_, rfl, rfl, rfl⟩) | refine runL_q (qt_callF rfl (fun _ => refCheck_ok _ _ t ht)) rfl rfl rfl ?_)
  exact run_ret hC (rs := [.tmp 2]) rfl (resT rfl resN) (fun _ h => h) ⟨by rw [isT, ← refCheck_eq _ ht]; rfl, rfl, rfl⟩
theorem refOrg_ok (M : Mem) (L : HL) (n : Int) : TrQ Try.prog 52 [.int .i64 n] M L (.bool (orgW n)) := by
  refine Tr.intro 9 Try.func52 rfl rfl Try.call52 rfl ?_
  intro C hC hro
  repeat (first | with_reducible (first | refine run_seq ?_ | refine run_region ?_ | refine runL_nil ?_ | refine run_skip ?_ | refine run_block ?_ | refine run_inBlock ?_) | refine run_exit rfl ?_ | refine runL_q (qt_pev tok rfl) rfl rfl rfl ?_ | refine runL_g rfl rfl (qt_pev tok rfl) rfl rfl rfl rfl rfl ?_ | refine runL_q (ql tok rfl) rfl rfl rfl ?_ | refine runL_g rfl rfl (ql tok rfl) rfl rfl rfl rfl rfl ?_ | (refine runL_op0 (sst tok rfl rfl rfl rfl rfl) ?_; rintro _ _ _ ⟨rfl, rfl, rfl⟩) | (refine runL_op (st_box rfl) rfl rfl rfl ?_; rintro _ _ _ ⟨_, rfl, rfl, rfl⟩) | (refine runL_op (st_alloc tok rfl) rfl rfl rfl ?_; rintro _ _ _ ⟨_, rfl, rfl, rfl⟩) | (refine runL_op (st_buildSlice tok rfl rfl rfl rfl rfl rfl rfl) rfl rfl rfl ?_; rintro _ _ _ ⟨_, rfl, rfl, rfl⟩))
  exact run_ret hC (rs := [.tmp 2]) rfl (resT rfl resN) (fun _ h => h) ⟨rfl, rfl, rfl⟩
theorem refTx_ok (M : Mem) (L : HL) (t : Tx) : TrQ Try.prog 51 [.agg ⟨txC t⟩] M L (.bool (mayTx t)) := by
  refine Tr.intro 26 Try.func51 rfl rfl Try.call51 rfl ?_
  intro C hC hro
  repeat (first | with_reducible (first | refine run_seq ?_ | refine run_region ?_ | refine runL_nil ?_ | refine run_skip ?_ | refine run_block ?_ | refine run_inBlock ?_) | refine run_exit rfl ?_ | refine runL_q (qt_pev tok rfl) rfl rfl rfl ?_ | refine runL_g rfl rfl (qt_pev tok rfl) rfl rfl rfl rfl rfl ?_ | refine runL_q (ql tok rfl) rfl rfl rfl ?_ | refine runL_g rfl rfl (ql tok rfl) rfl rfl rfl rfl rfl ?_ | (refine runL_op0 (sst tok rfl rfl rfl rfl rfl) ?_; rintro _ _ _ ⟨rfl, rfl, rfl⟩) | (refine runL_op (st_box rfl) rfl rfl rfl ?_; rintro _ _ _ ⟨_, rfl, rfl, rfl⟩) | (refine runL_op (st_alloc tok rfl) rfl rfl rfl ?_; rintro _ _ _ ⟨_, rfl, rfl, rfl⟩) | (refine runL_op (st_buildSlice tok rfl rfl rfl rfl rfl rfl rfl) rfl rfl rfl ?_; rintro _ _ _ ⟨_, rfl, rfl, rfl⟩) | refine runL_q (qt_callF rfl (fun _ => refOrg_ok _ _ _)) rfl rfl rfl ?_)
  exact run_ret hC (rs := [.tmp 2]) rfl (resT rfl resN) (fun _ h => h.drop) ⟨rfl, rfl, rfl⟩
def badM2 (t : Tx) (first : Bool) (last : Int) (x : Mb) : Bool := (((!orgW x.org) || (x.org == t.coord)) || ((!first) && decide (x.org ≤ last))) || (!isT x.digest)
theorem memGo_first (t : Tx) (x : Mb) : badM t (-1) x = badM2 t true 0 x := by
  unfold badM badM2 isT
  cases h : orgW x.org
  · simp
  · have : decide (x.org ≤ -1) = false := by simp [orgW] at h ⊢; omega
    rw [this]
    simp [bne]
theorem memGo_next (t : Tx) (x : Mb) (last : Int) : badM t last x = badM2 t false last x := by
  unfold badM badM2 isT
  simp [bne]
set_option maxRecDepth 10000 in
set_option maxHeartbeats 8000000 in
theorem refMb_ok (M : Mem) (L : HL) (t : Tx) (s : SMb) (hs : MbOk M s) (hd : ∀ m ∈ s.xs, m.digest.size < 4611686018427387904) : TrQ Try.prog 53 [.agg ⟨txC t⟩, s.v] M L (.bool (mayMb t s.xs)) := by
  have hl := hs.len
  have h6 := hs.2
  refine Tr.intro 64 Try.func53 rfl rfl Try.call53 rfl ?_
  intro C hC hro
  repeat (first | with_reducible (first | refine run_seq ?_ | refine run_region ?_ | refine runL_nil ?_ | refine run_skip ?_ | refine run_block ?_ | refine run_inBlock ?_) | refine run_exit rfl ?_ | refine runL_q (qt_pev tok rfl) rfl rfl rfl ?_ | refine runL_g rfl rfl (qt_pev tok rfl) rfl rfl rfl rfl rfl ?_ | refine runL_q (ql tok rfl) rfl rfl rfl ?_ | refine runL_g rfl rfl (ql tok rfl) rfl rfl rfl rfl rfl ?_ | (refine runL_op0 (sst tok rfl rfl rfl rfl rfl) ?_; rintro _ _ _ ⟨rfl, rfl, rfl⟩) | (refine runL_op (st_box rfl) rfl rfl rfl ?_; rintro _ _ _ ⟨_, rfl, rfl, rfl⟩) | (refine runL_op (st_alloc tok rfl) rfl rfl rfl ?_; rintro _ _ _ ⟨_, rfl, rfl, rfl⟩) | (refine runL_op (st_buildSlice tok rfl rfl rfl rfl rfl rfl rfl) rfl rfl rfl ?_; rintro _ _ _ ⟨_, rfl, rfl, rfl⟩))
  rename_i b2
  refine run_cond rfl (fun h => ?_) (fun h => ?_)
  · have h1 : (decide ((s.len : Int) < 1) || decide ((s.len : Int) > 6)) = true := h
    have h2 : mayMb t s.xs = false := by
      have : (decide ((s.xs.length : Int) ≥ 1) && decide ((s.xs.length : Int) ≤ 6)) = false := by rw [hl]; simp at h1 ⊢; omega
      rw [mayMb, this, Bool.and_false]
    rw [h2] at hC
    repeat (first | with_reducible (first | refine run_seq ?_ | refine run_region ?_ | refine runL_nil ?_ | refine run_skip ?_ | refine run_block ?_ | refine run_inBlock ?_) | refine run_exit rfl ?_ | refine runL_q (qt_pev tok rfl) rfl rfl rfl ?_ | refine runL_g rfl rfl (qt_pev tok rfl) rfl rfl rfl rfl rfl ?_ | refine runL_q (ql tok rfl) rfl rfl rfl ?_ | refine runL_g rfl rfl (ql tok rfl) rfl rfl rfl rfl rfl ?_ | (refine runL_op0 (sst tok rfl rfl rfl rfl rfl) ?_; rintro _ _ _ ⟨rfl, rfl, rfl⟩) | (refine runL_op (st_box rfl) rfl rfl rfl ?_; rintro _ _ _ ⟨_, rfl, rfl, rfl⟩) | (refine runL_op (st_alloc tok rfl) rfl rfl rfl ?_; rintro _ _ _ ⟨_, rfl, rfl, rfl⟩) | (refine runL_op (st_buildSlice tok rfl rfl rfl rfl rfl rfl rfl) rfl rfl rfl ?_; rintro _ _ _ ⟨_, rfl, rfl, rfl⟩))
    exact run_ret hC (rs := [.tmp 4]) rfl (resT rfl resN) (fun _ h => h.drop) ⟨rfl, rfl, rfl⟩
  have h1 : (decide ((s.len : Int) < 1) || decide ((s.len : Int) > 6)) = false := h
  have h2 : mayMb t s.xs = memGo t (-1) s.xs := by
    have : (decide ((s.xs.length : Int) ≥ 1) && decide ((s.xs.length : Int) ≤ 6)) = true := by rw [hl]; simp at h1 ⊢; omega
    rw [mayMb, this, Bool.and_true]
  rw [h2] at hC
  repeat (first | with_reducible (first | refine run_seq ?_ | refine run_region ?_ | refine runL_nil ?_ | refine run_skip ?_ | refine run_block ?_ | refine run_inBlock ?_) | refine run_exit rfl ?_ | refine runL_q (qt_pev tok rfl) rfl rfl rfl ?_ | refine runL_g rfl rfl (qt_pev tok rfl) rfl rfl rfl rfl rfl ?_ | refine runL_q (ql tok rfl) rfl rfl rfl ?_ | refine runL_g rfl rfl (ql tok rfl) rfl rfl rfl rfl rfl ?_ | (refine runL_op0 (sst tok rfl rfl rfl rfl rfl) ?_; rintro _ _ _ ⟨rfl, rfl, rfl⟩) | (refine runL_op (st_box rfl) rfl rfl rfl ?_; rintro _ _ _ ⟨_, rfl, rfl, rfl⟩) | (refine runL_op (st_alloc tok rfl) rfl rfl rfl ?_; rintro _ _ _ ⟨_, rfl, rfl, rfl⟩) | (refine runL_op (st_buildSlice tok rfl rfl rfl rfl rfl rfl rfl) rfl rfl rfl ?_; rintro _ _ _ ⟨_, rfl, rfl, rfl⟩))
  refine run_loopN (fun j σ1 M1 L1 => j ≤ s.len ∧ (∃ last, (j = 0 → last = -1) ∧ (∀ i, j = i + 1 → ∀ m, s.xs[i]? = some m → last = m.org) ∧ memGo t last (s.xs.drop j) = memGo t (-1) s.xs) ∧ M = M1 ∧ L1 = (b2, .cells ⟨txC t⟩ 23 (0, 0)) :: L ∧ σ1 = [(5, .int .i64 (j : Int)), (1, s.v), (2, .pointer (some ⟨b2, 0, none⟩))]) s.len [(5, .int .i64 ((0 : Nat) : Int)), (1, s.v), (2, .pointer (some ⟨b2, 0, none⟩))] ?_ ⟨Nat.zero_le _, ⟨-1, fun _ => rfl, fun i hi => by omega, rfl⟩, rfl, rfl, rfl⟩ (fun j _ _ _ h => h.1) ?_
  · exact ⟨rfl, rfl, rfl, trivial⟩
  rintro j _ _ _ ⟨hj, ⟨last, hl0, hl1, hgo⟩, rfl, rfl, rfl⟩ hnext
  repeat (first | with_reducible (first | refine run_seq ?_ | refine run_region ?_ | refine runL_nil ?_ | refine run_skip ?_ | refine run_block ?_ | refine run_inBlock ?_) | refine run_exit rfl ?_ | refine runL_q (qt_pev tok rfl) rfl rfl rfl ?_ | refine runL_g rfl rfl (qt_pev tok rfl) rfl rfl rfl rfl rfl ?_ | refine runL_q (ql tok rfl) rfl rfl rfl ?_ | refine runL_g rfl rfl (ql tok rfl) rfl rfl rfl rfl rfl ?_ | (refine runL_op0 (sst tok rfl rfl rfl rfl rfl) ?_; rintro _ _ _ ⟨rfl, rfl, rfl⟩) | (refine runL_op (st_box rfl) rfl rfl rfl ?_; rintro _ _ _ ⟨_, rfl, rfl, rfl⟩) | (refine runL_op (st_alloc tok rfl) rfl rfl rfl ?_; rintro _ _ _ ⟨_, rfl, rfl, rfl⟩) | (refine runL_op (st_buildSlice tok rfl rfl rfl rfl rfl rfl rfl) rfl rfl rfl ?_; rintro _ _ _ ⟨_, rfl, rfl, rfl⟩))
  refine run_cond rfl (fun h => ?_) (fun h => ?_)
  · have hlt : j < s.len := by simpa using h
    obtain ⟨b, off, m, hma, hm, hc⟩ := SMb.at_ hs.1 hlt
    have hv : s.v = .slice (some ⟨b, off, none⟩) s.len s.cap := by rw [← hma]; rfl
    have hdr : s.xs.drop j = m :: s.xs.drop (j + 1) := by
      obtain ⟨hl, he⟩ := List.getElem?_eq_some_iff.1 hm
      rw [← he]; exact (List.getElem_cons_drop (h := hl)).symm
    rw [hdr, memGo] at hgo
    have hmd := hd m (List.mem_of_getElem? hm)
    have hnx : badM t last m = false → (∃ last, (j + 1 = 0 → last = -1) ∧ (∀ i, j + 1 = i + 1 → ∀ m, s.xs[i]? = some m → last = m.org) ∧ memGo t last (s.xs.drop (j + 1)) = memGo t (-1) s.xs) := fun hb => ⟨m.org, fun h => by omega, fun i hi m' hm' => by
      obtain rfl : j = i := by omega
      rw [hm] at hm'; cases hm'; rfl, by rw [← hgo, if_neg (by rw [hb]; simp)]⟩
    refine run_as 1 (.slice (some ⟨b, off, none⟩) s.len s.cap) rfl hv ?_
    cases j with
    | zero =>
      have e0 := hl0 rfl
      subst e0
      rw [memGo_first] at hgo hnx
      repeat (first | with_reducible (first | refine run_seq ?_ | refine run_region ?_ | refine runL_nil ?_ | refine run_skip ?_ | refine run_block ?_ | refine run_inBlock ?_) | refine run_exit rfl ?_ | refine runL_q (qt_pev tok rfl) rfl rfl rfl ?_ | refine runL_gK rfl rfl (qt_pev tok rfl) rfl rfl rfl ?_ | refine runL_gF rfl rfl rfl rfl rfl ?_ | refine runL_g rfl rfl (qt_pev tok rfl) rfl rfl rfl rfl rfl ?_ | refine runL_q (ql tok rfl) rfl rfl rfl ?_ | refine runL_gK rfl rfl (ql tok rfl) rfl rfl rfl ?_ | refine runL_gF rfl rfl rfl rfl rfl ?_ | refine runL_g rfl rfl (ql tok rfl) rfl rfl rfl rfl rfl ?_ | (refine runL_op0 (sst tok rfl rfl rfl rfl rfl) ?_; rintro _ _ _ ⟨rfl, rfl, rfl⟩) | (refine runL_op (st_box rfl) rfl rfl rfl ?_; rintro _ _ _ ⟨_, rfl, rfl, rfl⟩) | (refine runL_op (st_alloc tok rfl) rfl rfl rfl ?_; rintro _ _ _ ⟨_, rfl, rfl, rfl⟩) | (refine runL_op (st_buildSlice tok rfl rfl rfl rfl rfl rfl rfl) rfl rfl rfl ?_; rintro _ _ _ ⟨_, rfl, rfl, rfl⟩) | refine prn_start mixed ?_ | refine prn_end (by decide +kernel) ?_ | refine prn_q rfl (qt_pev tok rfl) (by decide +kernel) rfl rfl rfl ?_ | refine prn_gK rfl rfl rfl (qt_pev tok rfl) (by decide +kernel) rfl rfl rfl ?_ | refine prn_gF rfl rfl rfl (by decide +kernel) rfl rfl rfl ?_ | refine prn_g rfl rfl rfl (qt_pev tok rfl) (by decide +kernel) rfl rfl rfl rfl rfl ?_ | refine prn_q rfl (ql tok rfl) (by decide +kernel) rfl rfl rfl ?_ | refine prn_gK rfl rfl rfl (ql tok rfl) (by decide +kernel) rfl rfl rfl ?_ | refine prn_gF rfl rfl rfl (by decide +kernel) rfl rfl rfl ?_ | refine prn_g rfl rfl rfl (ql tok rfl) (by decide +kernel) rfl rfl rfl rfl rfl ?_ | (refine prn_e0 rfl (sst tok rfl rfl rfl rfl rfl) (by decide +kernel) ?_; rintro _ _ _ ⟨rfl, rfl, rfl⟩) | (refine prn_e1 rfl (st_box rfl) (by decide +kernel) rfl rfl rfl ?_; rintro _ _ _ ⟨_, rfl, rfl, rfl⟩) | (refine prn_e1 rfl (st_alloc tok rfl) (by decide +kernel) rfl rfl rfl ?_; rintro _ _ _ ⟨_, rfl, rfl, rfl⟩) | (refine prn_e1 rfl (st_buildSlice tok rfl rfl rfl rfl rfl rfl rfl) (by decide +kernel) rfl rfl rfl ?_; rintro _ _ _ ⟨_, rfl, rfl, rfl⟩) | (refine prn_o0 rfl (sst tok rfl rfl rfl rfl rfl) (by decide +kernel) ?_; rintro _ _ _ ⟨rfl, rfl, rfl⟩; refine ⟨by (repeat (first | exact trivial | refine And.intro (pend_q rfl rfl rfl (qt_pev tok rfl)) ?_ | refine And.intro (pend_q rfl rfl rfl (ql tok rfl)) ?_)), ?_⟩) | (refine prn_o1 rfl (st_box rfl) (by decide +kernel) rfl rfl rfl ?_; rintro _ _ _ ⟨_, rfl, rfl, rfl⟩; refine ⟨by (repeat (first | exact trivial | refine And.intro (pend_q rfl rfl rfl (qt_pev tok rfl)) ?_ | refine And.intro (pend_q rfl rfl rfl (ql tok rfl)) ?_)), ?_⟩) | (refine prn_o1 rfl (st_alloc tok rfl) (by decide +kernel) rfl rfl rfl ?_; rintro _ _ _ ⟨_, rfl, rfl, rfl⟩; refine ⟨by (repeat (first | exact trivial | refine And.intro (pend_q rfl rfl rfl (qt_pev tok rfl)) ?_ | refine And.intro (pend_q rfl rfl rfl (ql tok rfl)) ?_)), ?_⟩) | (refine prn_o1 rfl (st_buildSlice tok rfl rfl rfl rfl rfl rfl rfl) (by decide +kernel) rfl rfl rfl ?_; rintro _ _ _ ⟨_, rfl, rfl, rfl⟩; refine ⟨by (repeat (first | exact trivial | refine And.intro (pend_q rfl rfl rfl (qt_pev tok rfl)) ?_ | refine And.intro (pend_q rfl rfl rfl (ql tok rfl)) ?_)), ?_⟩) | (refine prn_e1 rfl (qt_pev tok rfl) (by decide +kernel) rfl rfl rfl ?_; rintro _ _ _ ⟨rfl, rfl, rfl⟩) | refine prn_q rfl (qt_indexN tok rfl rfl rfl rfl (fun _ => by omega)) (by decide +kernel) rfl rfl rfl ?_ | refine prn_gK rfl rfl rfl (qt_indexN tok rfl rfl rfl rfl (fun _ => by omega)) (by decide +kernel) rfl rfl rfl ?_ | refine prn_gF rfl rfl rfl (by decide +kernel) rfl rfl rfl ?_ | refine prn_g rfl rfl rfl (qt_indexN tok rfl rfl rfl rfl (fun _ => by omega)) (by decide +kernel) rfl rfl rfl rfl rfl ?_ | refine prn_q rfl (qt_ldM tok rfl hc rfl) (by decide +kernel) rfl rfl rfl ?_ | refine prn_gK rfl rfl rfl (qt_ldM tok rfl hc rfl) (by decide +kernel) rfl rfl rfl ?_ | refine prn_gF rfl rfl rfl (by decide +kernel) rfl rfl rfl ?_ | refine prn_g rfl rfl rfl (qt_ldM tok rfl hc rfl) (by decide +kernel) rfl rfl rfl rfl rfl ?_ | refine prn_q rfl (qt_ldM0 tok rfl hc rfl) (by decide +kernel) rfl rfl rfl ?_ | refine prn_gK rfl rfl rfl (qt_ldM0 tok rfl hc rfl) (by decide +kernel) rfl rfl rfl ?_ | refine prn_gF rfl rfl rfl (by decide +kernel) rfl rfl rfl ?_ | refine prn_g rfl rfl rfl (qt_ldM0 tok rfl hc rfl) (by decide +kernel) rfl rfl rfl rfl rfl ?_ | refine prn_q rfl (qt_callF rfl (fun _ => refOrg_ok _ _ _)) (by decide +kernel) rfl rfl rfl ?_ | refine prn_g rfl rfl rfl (qt_callF rfl (fun _ => ref06May_ok _ _ _ hmd)) (by decide +kernel) rfl rfl rfl rfl rfl ?_ | refine prn_g rfl rfl rfl (qt_dead (s := 40) (b := true) (b' := false) (v := .bool false) rfl List.mem_cons_self (by decide)) (by decide +kernel) rfl rfl rfl rfl rfl ?_)
      refine run_cond rfl (fun h => ?_) (fun h => ?_)
      · repeat (first | with_reducible (first | refine run_seq ?_ | refine run_region ?_ | refine runL_nil ?_ | refine run_skip ?_ | refine run_block ?_ | refine run_inBlock ?_) | refine run_exit rfl ?_ | refine runL_q (qt_pev tok rfl) rfl rfl rfl ?_ | refine runL_g rfl rfl (qt_pev tok rfl) rfl rfl rfl rfl rfl ?_ | refine runL_q (ql tok rfl) rfl rfl rfl ?_ | refine runL_g rfl rfl (ql tok rfl) rfl rfl rfl rfl rfl ?_ | (refine runL_op0 (sst tok rfl rfl rfl rfl rfl) ?_; rintro _ _ _ ⟨rfl, rfl, rfl⟩) | (refine runL_op (st_box rfl) rfl rfl rfl ?_; rintro _ _ _ ⟨_, rfl, rfl, rfl⟩) | (refine runL_op (st_alloc tok rfl) rfl rfl rfl ?_; rintro _ _ _ ⟨_, rfl, rfl, rfl⟩) | (refine runL_op (st_buildSlice tok rfl rfl rfl rfl rfl rfl rfl) rfl rfl rfl ?_; rintro _ _ _ ⟨_, rfl, rfl, rfl⟩))
        refine run_ret hC (rs := [.tmp 4]) rfl (resT rfl resN) (fun _ h => h.drop) ⟨?_, rfl, rfl⟩
        rw [if_pos (show badM2 t true 0 m = true from h)] at hgo
        rw [← hgo]; rfl
      · repeat (first | with_reducible (first | refine run_seq ?_ | refine run_region ?_ | refine runL_nil ?_ | refine run_skip ?_ | refine run_block ?_ | refine run_inBlock ?_) | refine run_exit rfl ?_ | refine runL_q (qt_pev tok rfl) rfl rfl rfl ?_ | refine runL_g rfl rfl (qt_pev tok rfl) rfl rfl rfl rfl rfl ?_ | refine runL_q (ql tok rfl) rfl rfl rfl ?_ | refine runL_g rfl rfl (ql tok rfl) rfl rfl rfl rfl rfl ?_ | (refine runL_op0 (sst tok rfl rfl rfl rfl rfl) ?_; rintro _ _ _ ⟨rfl, rfl, rfl⟩) | (refine runL_op (st_box rfl) rfl rfl rfl ?_; rintro _ _ _ ⟨_, rfl, rfl, rfl⟩) | (refine runL_op (st_alloc tok rfl) rfl rfl rfl ?_; rintro _ _ _ ⟨_, rfl, rfl, rfl⟩) | (refine runL_op (st_buildSlice tok rfl rfl rfl rfl rfl rfl rfl) rfl rfl rfl ?_; rintro _ _ _ ⟨_, rfl, rfl, rfl⟩))
        exact run_sub' (hnext _ _ _ ⟨hlt, hnx h, rfl, rfl, rfl⟩) ⟨lk_succ rfl (by omega), by rw [hv]; rfl, rfl, trivial⟩
    | succ i =>
      obtain ⟨b', off', m0, hma0, hm0, hc0⟩ := SMb.at_ hs.1 (show i < s.len by omega)
      rw [hma] at hma0
      cases hma0
      have e0 := hl1 i rfl m0 hm0
      subst e0
      rw [memGo_next] at hgo hnx
      repeat (first | with_reducible (first | refine run_seq ?_ | refine run_region ?_ | refine runL_nil ?_ | refine run_skip ?_ | refine run_block ?_ | refine run_inBlock ?_) | refine run_exit rfl ?_)
      refine prn_start mixed ?_
      iterate 28 (first | refine prn_q rfl (qt_pev tok rfl) (by decide +kernel) rfl rfl rfl ?_ | refine prn_gK rfl rfl rfl (qt_pev tok rfl) (by decide +kernel) rfl rfl rfl ?_ | refine prn_gF rfl rfl rfl (by decide +kernel) rfl rfl rfl ?_ | refine prn_g rfl rfl rfl (qt_pev tok rfl) (by decide +kernel) rfl rfl rfl rfl rfl ?_ | refine prn_q rfl (ql tok rfl) (by decide +kernel) rfl rfl rfl ?_ | refine prn_gK rfl rfl rfl (ql tok rfl) (by decide +kernel) rfl rfl rfl ?_ | refine prn_gF rfl rfl rfl (by decide +kernel) rfl rfl rfl ?_ | refine prn_g rfl rfl rfl (ql tok rfl) (by decide +kernel) rfl rfl rfl rfl rfl ?_ | (refine prn_e0 rfl (sst tok rfl rfl rfl rfl rfl) (by decide +kernel) ?_; rintro _ _ _ ⟨rfl, rfl, rfl⟩) | (refine prn_e1 rfl (st_box rfl) (by decide +kernel) rfl rfl rfl ?_; rintro _ _ _ ⟨_, rfl, rfl, rfl⟩) | (refine prn_e1 rfl (st_alloc tok rfl) (by decide +kernel) rfl rfl rfl ?_; rintro _ _ _ ⟨_, rfl, rfl, rfl⟩) | (refine prn_e1 rfl (st_buildSlice tok rfl rfl rfl rfl rfl rfl rfl) (by decide +kernel) rfl rfl rfl ?_; rintro _ _ _ ⟨_, rfl, rfl, rfl⟩) | (refine prn_o0 rfl (sst tok rfl rfl rfl rfl rfl) (by decide +kernel) ?_; rintro _ _ _ ⟨rfl, rfl, rfl⟩; refine ⟨by (repeat (first | exact trivial | refine And.intro (pend_q rfl rfl rfl (qt_pev tok rfl)) ?_ | refine And.intro (pend_q rfl rfl rfl (ql tok rfl)) ?_)), ?_⟩) | (refine prn_o1 rfl (st_box rfl) (by decide +kernel) rfl rfl rfl ?_; rintro _ _ _ ⟨_, rfl, rfl, rfl⟩; refine ⟨by (repeat (first | exact trivial | refine And.intro (pend_q rfl rfl rfl (qt_pev tok rfl)) ?_ | refine And.intro (pend_q rfl rfl rfl (ql tok rfl)) ?_)), ?_⟩) | (refine prn_o1 rfl (st_alloc tok rfl) (by decide +kernel) rfl rfl rfl ?_; rintro _ _ _ ⟨_, rfl, rfl, rfl⟩; refine ⟨by (repeat (first | exact trivial | refine And.intro (pend_q rfl rfl rfl (qt_pev tok rfl)) ?_ | refine And.intro (pend_q rfl rfl rfl (ql tok rfl)) ?_)), ?_⟩) | (refine prn_o1 rfl (st_buildSlice tok rfl rfl rfl rfl rfl rfl rfl) (by decide +kernel) rfl rfl rfl ?_; rintro _ _ _ ⟨_, rfl, rfl, rfl⟩; refine ⟨by (repeat (first | exact trivial | refine And.intro (pend_q rfl rfl rfl (qt_pev tok rfl)) ?_ | refine And.intro (pend_q rfl rfl rfl (ql tok rfl)) ?_)), ?_⟩) | (refine prn_e1 rfl (qt_pev tok rfl) (by decide +kernel) rfl rfl rfl ?_; rintro _ _ _ ⟨rfl, rfl, rfl⟩) | refine prn_q rfl (qt_indexN tok rfl rfl rfl rfl (fun _ => by omega)) (by decide +kernel) rfl rfl rfl ?_ | refine prn_gK rfl rfl rfl (qt_indexN tok rfl rfl rfl rfl (fun _ => by omega)) (by decide +kernel) rfl rfl rfl ?_ | refine prn_gF rfl rfl rfl (by decide +kernel) rfl rfl rfl ?_ | refine prn_g rfl rfl rfl (qt_indexN tok rfl rfl rfl rfl (fun _ => by omega)) (by decide +kernel) rfl rfl rfl rfl rfl ?_ | refine prn_q rfl (qt_ldM tok rfl hc rfl) (by decide +kernel) rfl rfl rfl ?_ | refine prn_gK rfl rfl rfl (qt_ldM tok rfl hc rfl) (by decide +kernel) rfl rfl rfl ?_ | refine prn_gF rfl rfl rfl (by decide +kernel) rfl rfl rfl ?_ | refine prn_g rfl rfl rfl (qt_ldM tok rfl hc rfl) (by decide +kernel) rfl rfl rfl rfl rfl ?_ | refine prn_q rfl (qt_ldM0 tok rfl hc rfl) (by decide +kernel) rfl rfl rfl ?_ | refine prn_gK rfl rfl rfl (qt_ldM0 tok rfl hc rfl) (by decide +kernel) rfl rfl rfl ?_ | refine prn_gF rfl rfl rfl (by decide +kernel) rfl rfl rfl ?_ | refine prn_g rfl rfl rfl (qt_ldM0 tok rfl hc rfl) (by decide +kernel) rfl rfl rfl rfl rfl ?_ | refine prn_q rfl (qt_callF rfl (fun _ => refOrg_ok _ _ _)) (by decide +kernel) rfl rfl rfl ?_)
      refine prn_g rfl rfl rfl (Qt.as (v' := .int .i64 (i : Int)) (qt_pev tok rfl) (by rw [show ((i + 1 : Nat) : Int) - 1 = (i : Int) by omega, wrap64_nat (by omega)])) (by decide +kernel) rfl rfl rfl rfl rfl ?_
      repeat (first | with_reducible (first | refine run_seq ?_ | refine run_region ?_ | refine runL_nil ?_ | refine run_skip ?_ | refine run_block ?_ | refine run_inBlock ?_) | refine run_exit rfl ?_ | refine runL_q (qt_pev tok rfl) rfl rfl rfl ?_ | refine runL_gK rfl rfl (qt_pev tok rfl) rfl rfl rfl ?_ | refine runL_gF rfl rfl rfl rfl rfl ?_ | refine runL_g rfl rfl (qt_pev tok rfl) rfl rfl rfl rfl rfl ?_ | refine runL_q (ql tok rfl) rfl rfl rfl ?_ | refine runL_gK rfl rfl (ql tok rfl) rfl rfl rfl ?_ | refine runL_gF rfl rfl rfl rfl rfl ?_ | refine runL_g rfl rfl (ql tok rfl) rfl rfl rfl rfl rfl ?_ | (refine runL_op0 (sst tok rfl rfl rfl rfl rfl) ?_; rintro _ _ _ ⟨rfl, rfl, rfl⟩) | (refine runL_op (st_box rfl) rfl rfl rfl ?_; rintro _ _ _ ⟨_, rfl, rfl, rfl⟩) | (refine runL_op (st_alloc tok rfl) rfl rfl rfl ?_; rintro _ _ _ ⟨_, rfl, rfl, rfl⟩) | (refine runL_op (st_buildSlice tok rfl rfl rfl rfl rfl rfl rfl) rfl rfl rfl ?_; rintro _ _ _ ⟨_, rfl, rfl, rfl⟩) | refine prn_start mixed ?_ | refine prn_end (by decide +kernel) ?_ | refine prn_q rfl (qt_pev tok rfl) (by decide +kernel) rfl rfl rfl ?_ | refine prn_gK rfl rfl rfl (qt_pev tok rfl) (by decide +kernel) rfl rfl rfl ?_ | refine prn_gF rfl rfl rfl (by decide +kernel) rfl rfl rfl ?_ | refine prn_g rfl rfl rfl (qt_pev tok rfl) (by decide +kernel) rfl rfl rfl rfl rfl ?_ | refine prn_q rfl (ql tok rfl) (by decide +kernel) rfl rfl rfl ?_ | refine prn_gK rfl rfl rfl (ql tok rfl) (by decide +kernel) rfl rfl rfl ?_ | refine prn_gF rfl rfl rfl (by decide +kernel) rfl rfl rfl ?_ | refine prn_g rfl rfl rfl (ql tok rfl) (by decide +kernel) rfl rfl rfl rfl rfl ?_ | (refine prn_e0 rfl (sst tok rfl rfl rfl rfl rfl) (by decide +kernel) ?_; rintro _ _ _ ⟨rfl, rfl, rfl⟩) | (refine prn_e1 rfl (st_box rfl) (by decide +kernel) rfl rfl rfl ?_; rintro _ _ _ ⟨_, rfl, rfl, rfl⟩) | (refine prn_e1 rfl (st_alloc tok rfl) (by decide +kernel) rfl rfl rfl ?_; rintro _ _ _ ⟨_, rfl, rfl, rfl⟩) | (refine prn_e1 rfl (st_buildSlice tok rfl rfl rfl rfl rfl rfl rfl) (by decide +kernel) rfl rfl rfl ?_; rintro _ _ _ ⟨_, rfl, rfl, rfl⟩) | (refine prn_o0 rfl (sst tok rfl rfl rfl rfl rfl) (by decide +kernel) ?_; rintro _ _ _ ⟨rfl, rfl, rfl⟩; refine ⟨by (repeat (first | exact trivial | refine And.intro (pend_q rfl rfl rfl (qt_pev tok rfl)) ?_ | refine And.intro (pend_q rfl rfl rfl (ql tok rfl)) ?_)), ?_⟩) | (refine prn_o1 rfl (st_box rfl) (by decide +kernel) rfl rfl rfl ?_; rintro _ _ _ ⟨_, rfl, rfl, rfl⟩; refine ⟨by (repeat (first | exact trivial | refine And.intro (pend_q rfl rfl rfl (qt_pev tok rfl)) ?_ | refine And.intro (pend_q rfl rfl rfl (ql tok rfl)) ?_)), ?_⟩) | (refine prn_o1 rfl (st_alloc tok rfl) (by decide +kernel) rfl rfl rfl ?_; rintro _ _ _ ⟨_, rfl, rfl, rfl⟩; refine ⟨by (repeat (first | exact trivial | refine And.intro (pend_q rfl rfl rfl (qt_pev tok rfl)) ?_ | refine And.intro (pend_q rfl rfl rfl (ql tok rfl)) ?_)), ?_⟩) | (refine prn_o1 rfl (st_buildSlice tok rfl rfl rfl rfl rfl rfl rfl) (by decide +kernel) rfl rfl rfl ?_; rintro _ _ _ ⟨_, rfl, rfl, rfl⟩; refine ⟨by (repeat (first | exact trivial | refine And.intro (pend_q rfl rfl rfl (qt_pev tok rfl)) ?_ | refine And.intro (pend_q rfl rfl rfl (ql tok rfl)) ?_)), ?_⟩) | (refine prn_e1 rfl (qt_pev tok rfl) (by decide +kernel) rfl rfl rfl ?_; rintro _ _ _ ⟨rfl, rfl, rfl⟩) | refine prn_q rfl (qt_indexN tok rfl rfl rfl rfl (fun _ => by omega)) (by decide +kernel) rfl rfl rfl ?_ | refine prn_gK rfl rfl rfl (qt_indexN tok rfl rfl rfl rfl (fun _ => by omega)) (by decide +kernel) rfl rfl rfl ?_ | refine prn_gF rfl rfl rfl (by decide +kernel) rfl rfl rfl ?_ | refine prn_g rfl rfl rfl (qt_indexN tok rfl rfl rfl rfl (fun _ => by omega)) (by decide +kernel) rfl rfl rfl rfl rfl ?_ | refine prn_q rfl (qt_ldM tok rfl hc0 rfl) (by decide +kernel) rfl rfl rfl ?_ | refine prn_gK rfl rfl rfl (qt_ldM tok rfl hc0 rfl) (by decide +kernel) rfl rfl rfl ?_ | refine prn_gF rfl rfl rfl (by decide +kernel) rfl rfl rfl ?_ | refine prn_g rfl rfl rfl (qt_ldM tok rfl hc0 rfl) (by decide +kernel) rfl rfl rfl rfl rfl ?_ | refine prn_q rfl (qt_ldM0 tok rfl hc0 rfl) (by decide +kernel) rfl rfl rfl ?_ | refine prn_gK rfl rfl rfl (qt_ldM0 tok rfl hc0 rfl) (by decide +kernel) rfl rfl rfl ?_ | refine prn_gF rfl rfl rfl (by decide +kernel) rfl rfl rfl ?_ | refine prn_g rfl rfl rfl (qt_ldM0 tok rfl hc0 rfl) (by decide +kernel) rfl rfl rfl rfl rfl ?_ | refine prn_q rfl (qt_ldM tok rfl hc rfl) (by decide +kernel) rfl rfl rfl ?_ | refine prn_gK rfl rfl rfl (qt_ldM tok rfl hc rfl) (by decide +kernel) rfl rfl rfl ?_ | refine prn_gF rfl rfl rfl (by decide +kernel) rfl rfl rfl ?_ | refine prn_g rfl rfl rfl (qt_ldM tok rfl hc rfl) (by decide +kernel) rfl rfl rfl rfl rfl ?_ | refine prn_q rfl (qt_ldM0 tok rfl hc rfl) (by decide +kernel) rfl rfl rfl ?_ | refine prn_gK rfl rfl rfl (qt_ldM0 tok rfl hc rfl) (by decide +kernel) rfl rfl rfl ?_ | refine prn_gF rfl rfl rfl (by decide +kernel) rfl rfl rfl ?_ | refine prn_g rfl rfl rfl (qt_ldM0 tok rfl hc rfl) (by decide +kernel) rfl rfl rfl rfl rfl ?_ | refine prn_g rfl rfl rfl (qt_callF rfl (fun _ => ref06May_ok _ _ _ hmd)) (by decide +kernel) rfl rfl rfl rfl rfl ?_)
      have hpos : decide (((i + 1 : Nat) : Int) > 0) = true := decide_eq_true (by omega)
      refine run_cond rfl (fun h => ?_) (fun h => ?_)
      · repeat (first | with_reducible (first | refine run_seq ?_ | refine run_region ?_ | refine runL_nil ?_ | refine run_skip ?_ | refine run_block ?_ | refine run_inBlock ?_) | refine run_exit rfl ?_ | refine runL_q (qt_pev tok rfl) rfl rfl rfl ?_ | refine runL_g rfl rfl (qt_pev tok rfl) rfl rfl rfl rfl rfl ?_ | refine runL_q (ql tok rfl) rfl rfl rfl ?_ | refine runL_g rfl rfl (ql tok rfl) rfl rfl rfl rfl rfl ?_ | (refine runL_op0 (sst tok rfl rfl rfl rfl rfl) ?_; rintro _ _ _ ⟨rfl, rfl, rfl⟩) | (refine runL_op (st_box rfl) rfl rfl rfl ?_; rintro _ _ _ ⟨_, rfl, rfl, rfl⟩) | (refine runL_op (st_alloc tok rfl) rfl rfl rfl ?_; rintro _ _ _ ⟨_, rfl, rfl, rfl⟩) | (refine runL_op (st_buildSlice tok rfl rfl rfl rfl rfl rfl rfl) rfl rfl rfl ?_; rintro _ _ _ ⟨_, rfl, rfl, rfl⟩))
        refine run_ret hC (rs := [.tmp 4]) rfl (resT rfl resN) (fun _ h => h.drop) ⟨?_, rfl, rfl⟩
        rw [hpos, Bool.true_and] at h
        rw [if_pos (show badM2 t false m0.org m = true from h)] at hgo
        rw [← hgo]; rfl
      · rw [hpos, Bool.true_and] at h
        repeat (first | with_reducible (first | refine run_seq ?_ | refine run_region ?_ | refine runL_nil ?_ | refine run_skip ?_ | refine run_block ?_ | refine run_inBlock ?_) | refine run_exit rfl ?_ | refine runL_q (qt_pev tok rfl) rfl rfl rfl ?_ | refine runL_g rfl rfl (qt_pev tok rfl) rfl rfl rfl rfl rfl ?_ | refine runL_q (ql tok rfl) rfl rfl rfl ?_ | refine runL_g rfl rfl (ql tok rfl) rfl rfl rfl rfl rfl ?_ | (refine runL_op0 (sst tok rfl rfl rfl rfl rfl) ?_; rintro _ _ _ ⟨rfl, rfl, rfl⟩) | (refine runL_op (st_box rfl) rfl rfl rfl ?_; rintro _ _ _ ⟨_, rfl, rfl, rfl⟩) | (refine runL_op (st_alloc tok rfl) rfl rfl rfl ?_; rintro _ _ _ ⟨_, rfl, rfl, rfl⟩) | (refine runL_op (st_buildSlice tok rfl rfl rfl rfl rfl rfl rfl) rfl rfl rfl ?_; rintro _ _ _ ⟨_, rfl, rfl, rfl⟩))
        exact run_sub' (hnext _ _ _ ⟨hlt, hnx h, rfl, rfl, rfl⟩) ⟨lk_succ rfl (by omega), by rw [hv]; rfl, rfl, trivial⟩
  · have hge : j = s.len := by simp at h; omega
    rw [hge, List.drop_eq_nil_of_le (by omega)] at hgo
    repeat (first | with_reducible (first | refine run_seq ?_ | refine run_region ?_ | refine runL_nil ?_ | refine run_skip ?_ | refine run_block ?_ | refine run_inBlock ?_) | refine run_exit rfl ?_ | refine runL_q (qt_pev tok rfl) rfl rfl rfl ?_ | refine runL_g rfl rfl (qt_pev tok rfl) rfl rfl rfl rfl rfl ?_ | refine runL_q (ql tok rfl) rfl rfl rfl ?_ | refine runL_g rfl rfl (ql tok rfl) rfl rfl rfl rfl rfl ?_ | (refine runL_op0 (sst tok rfl rfl rfl rfl rfl) ?_; rintro _ _ _ ⟨rfl, rfl, rfl⟩) | (refine runL_op (st_box rfl) rfl rfl rfl ?_; rintro _ _ _ ⟨_, rfl, rfl, rfl⟩) | (refine runL_op (st_alloc tok rfl) rfl rfl rfl ?_; rintro _ _ _ ⟨_, rfl, rfl, rfl⟩) | (refine runL_op (st_buildSlice tok rfl rfl rfl rfl rfl rfl rfl) rfl rfl rfl ?_; rintro _ _ _ ⟨_, rfl, rfl, rfl⟩))
    exact run_ret hC (rs := [.tmp 4]) rfl (resT rfl resN) (fun _ h => h.drop) ⟨by rw [← hgo]; rfl, rfl, rfl⟩
end Go.Proofs.Ytpmepmdngdkafaa
