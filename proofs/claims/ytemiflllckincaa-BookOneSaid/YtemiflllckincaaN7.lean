import Derived.Test.YtemiflllckincaaN6
namespace Go.Proofs.Ytemiflllckincaa
open Go.Chi

theorem frontR_len {s : ByteArray} {n p : Nat} (h : frontR s = .ok (n, p)) : 1 ≤ n ∧ n ≤ s.size ∧ p ≤ 32 := by
  have hr := rest1_size (s := s)
  unfold frontR at h
  split at h
  · cases h
  rename_i h0
  split at h
  · split at h
    · cases h
    · rename_i h2
      obtain ⟨m, hm, _, _⟩ := textR_len (rest1 s) 1024 (by simpa using h2)
      simp only [Except.ok.injEq, Prod.mk.injEq] at h
      omega
  split at h
  · split at h
    · cases h
    · split at h
      · cases h
      · rename_i h2 _
        obtain ⟨m, hm, _, _⟩ := textR_len (rest1 s) 32 (by simpa using h2)
        simp only [Except.ok.injEq, Prod.mk.injEq] at h
        omega
  split at h
  · split at h
    · cases h
    · split at h
      · cases h
      · rename_i h2 _
        obtain ⟨m, hm, _, _⟩ := numR_len (rest1 s) (by simpa using h2)
        simp only [Except.ok.injEq, Prod.mk.injEq] at h
        have := numR_pos (rest1 s)
        omega
  split at h
  · simp only [Except.ok.injEq, Prod.mk.injEq] at h; omega
  split at h
  · simp only [Except.ok.injEq, Prod.mk.injEq] at h; omega
  split at h
  · simp only [Except.ok.injEq, Prod.mk.injEq] at h; omega
  · cases h
/-- one reading behind the other -/
def iter (f : Nat → Except Int Nat) : Nat → Nat → Except Int Nat
  | 0, x => .ok x
  | i + 1, x => match f x with
    | .error e => .error e
    | .ok y => iter f i y
/-- where the term at a place ends, which has so many depths left -/
def walkR (s : ByteArray) : Nat → Nat → Except Int Nat
  | 0, _ => .error 60
  | k + 1, a => match frontR (s.extract a s.size) with
    | .error e => .error e
    | .ok x => iter (walkR s k) x.2 (a + x.1)
theorem iter_len {f : Nat → Except Int Nat} {N : Nat} (hf : ∀ x y, x ≤ N → f x = .ok y → y ≤ N) : ∀ i x y, x ≤ N → iter f i x = .ok y → y ≤ N
  | 0, x, y, hx, h => by rw [iter, Except.ok.injEq] at h; omega
  | i + 1, x, y, hx, h => by
    rw [iter] at h
    split at h
    · cases h
    · rename_i z hz
      exact iter_len hf i z y (hf _ _ hx hz) h
theorem walkR_len (s : ByteArray) : ∀ k a y, a ≤ s.size → walkR s k a = .ok y → y ≤ s.size
  | 0, a, y, _, h => by cases h
  | k + 1, a, y, ha, h => by
    rw [walkR] at h
    split at h
    · cases h
    · rename_i x hx
      have := frontR_len (n := x.1) (p := x.2) hx
      have hz : (s.extract a s.size).size = s.size - a := by simp
      exact iter_len (walkR_len s k) _ _ _ (by omega) h
set_option maxHeartbeats 4000000 in
theorem walk_ok (M : Mem) (s : ByteArray) (hs : s.size < 4611686018427387904) : ∀ (k : Nat), k ≤ 16 → ∀ (L : HL) (a : Nat), a ≤ s.size → TrE Try.prog 50 [.string s, .int .i64 (a : Int), .int .i64 ((17 - k : Nat) : Int), fv 51] M L (walkK (walkR s k a) M L) := by
  intro k
  induction k with
  | zero =>
    intro _ L a ha
    refine TrE.intro 41 Try.func50 rfl rfl Try.call50 rfl ?_
    intro C hC hro
    repeat (first | with_reducible refine run_seq ?_ | with_reducible refine run_region ?_ | with_reducible refine runL_nil ?_ | with_reducible refine run_skip ?_ | with_reducible refine run_block ?_ | with_reducible refine run_inBlock ?_ | refine run_exit rfl ?_ | refine runL_q (qt_pev tok rfl) rfl rfl rfl ?_ | refine runL_g rfl rfl (qt_pev tok rfl) rfl rfl rfl rfl rfl ?_ | refine runL_q (qt_ld tok rfl (by (repeat (first | with_reducible apply List.mem_cons_self | with_reducible assumption | with_reducible apply List.mem_cons_of_mem | with_reducible apply List.mem_append_right))) (by rfl)) rfl rfl rfl ?_ | refine runL_g rfl rfl (qt_ld tok rfl (by (repeat (first | with_reducible apply List.mem_cons_self | with_reducible assumption | with_reducible apply List.mem_cons_of_mem | with_reducible apply List.mem_append_right))) (by rfl)) rfl rfl rfl rfl rfl ?_ | (refine runL_op0 (st_store tok rfl rfl rfl rfl rfl (by (repeat (first | with_reducible apply Upd.here | with_reducible apply Upd.there | with_reducible apply Upd.append_left))) (by rfl)) ?_; rintro _ _ _ ⟨rfl, rfl, rfl⟩) | (refine runL_op (st_box rfl) rfl rfl rfl ?_; rintro _ _ _ ⟨_, rfl, rfl, rfl⟩) | (refine runL_op (st_alloc tok rfl) rfl rfl rfl ?_; rintro _ _ _ ⟨_, rfl, rfl, rfl⟩) | (refine runL_op (st_buildSlice tok rfl rfl rfl rfl rfl rfl rfl) rfl rfl rfl ?_; rintro _ _ _ ⟨_, rfl, rfl, rfl⟩))
    refine run_cond rfl (fun h => ?_) (fun h => by cases h)
    repeat (first | with_reducible refine run_seq ?_ | with_reducible refine run_region ?_ | with_reducible refine runL_nil ?_ | with_reducible refine run_skip ?_ | with_reducible refine run_block ?_ | with_reducible refine run_inBlock ?_ | refine run_exit rfl ?_ | refine runL_q (qt_pev tok rfl) rfl rfl rfl ?_ | refine runL_g rfl rfl (qt_pev tok rfl) rfl rfl rfl rfl rfl ?_ | refine runL_q (qt_ld tok rfl (by (repeat (first | with_reducible apply List.mem_cons_self | with_reducible assumption | with_reducible apply List.mem_cons_of_mem | with_reducible apply List.mem_append_right))) (by rfl)) rfl rfl rfl ?_ | refine runL_g rfl rfl (qt_ld tok rfl (by (repeat (first | with_reducible apply List.mem_cons_self | with_reducible assumption | with_reducible apply List.mem_cons_of_mem | with_reducible apply List.mem_append_right))) (by rfl)) rfl rfl rfl rfl rfl ?_ | (refine runL_op0 (st_store tok rfl rfl rfl rfl rfl (by (repeat (first | with_reducible apply Upd.here | with_reducible apply Upd.there | with_reducible apply Upd.append_left))) (by rfl)) ?_; rintro _ _ _ ⟨rfl, rfl, rfl⟩) | (refine runL_op (st_box rfl) rfl rfl rfl ?_; rintro _ _ _ ⟨_, rfl, rfl, rfl⟩) | (refine runL_op (st_alloc tok rfl) rfl rfl rfl ?_; rintro _ _ _ ⟨_, rfl, rfl, rfl⟩) | (refine runL_op (st_buildSlice tok rfl rfl rfl rfl rfl rfl rfl) rfl rfl rfl ?_; rintro _ _ _ ⟨_, rfl, rfl, rfl⟩))
    refine runL_must rfl rfl rfl rfl (fun h => by cases h) (fun _ => ?_)
    exact runX_pan hC (fun _ h => h) ⟨rfl, rfl, rfl⟩
  | succ k ih =>
    intro hk L a ha
    refine TrE.intro 41 Try.func50 rfl rfl Try.call50 rfl ?_
    intro C hC hro
    repeat (first | with_reducible refine run_seq ?_ | with_reducible refine run_region ?_ | with_reducible refine runL_nil ?_ | with_reducible refine run_skip ?_ | with_reducible refine run_block ?_ | with_reducible refine run_inBlock ?_ | refine run_exit rfl ?_ | refine runL_q (qt_pev tok rfl) rfl rfl rfl ?_ | refine runL_g rfl rfl (qt_pev tok rfl) rfl rfl rfl rfl rfl ?_ | refine runL_q (qt_ld tok rfl (by (repeat (first | with_reducible apply List.mem_cons_self | with_reducible assumption | with_reducible apply List.mem_cons_of_mem | with_reducible apply List.mem_append_right))) (by rfl)) rfl rfl rfl ?_ | refine runL_g rfl rfl (qt_ld tok rfl (by (repeat (first | with_reducible apply List.mem_cons_self | with_reducible assumption | with_reducible apply List.mem_cons_of_mem | with_reducible apply List.mem_append_right))) (by rfl)) rfl rfl rfl rfl rfl ?_ | (refine runL_op0 (st_store tok rfl rfl rfl rfl rfl (by (repeat (first | with_reducible apply Upd.here | with_reducible apply Upd.there | with_reducible apply Upd.append_left))) (by rfl)) ?_; rintro _ _ _ ⟨rfl, rfl, rfl⟩) | (refine runL_op (st_box rfl) rfl rfl rfl ?_; rintro _ _ _ ⟨_, rfl, rfl, rfl⟩) | (refine runL_op (st_alloc tok rfl) rfl rfl rfl ?_; rintro _ _ _ ⟨_, rfl, rfl, rfl⟩) | (refine runL_op (st_buildSlice tok rfl rfl rfl rfl rfl rfl rfl) rfl rfl rfl ?_; rintro _ _ _ ⟨_, rfl, rfl, rfl⟩))
    refine run_cond rfl (fun h => ?_) (fun h => ?_)
    · exfalso
      have : (16 : Int) < ((17 - (k + 1) : Nat) : Int) := by simpa using h
      omega
    have hz : (s.extract a s.size).size = s.size - a := by simp
    repeat (first | with_reducible refine run_seq ?_ | with_reducible refine run_region ?_ | with_reducible refine runL_nil ?_ | with_reducible refine run_skip ?_ | with_reducible refine run_block ?_ | with_reducible refine run_inBlock ?_ | refine run_exit rfl ?_ | refine runL_q (qt_pev tok rfl) rfl rfl rfl ?_ | refine runL_g rfl rfl (qt_pev tok rfl) rfl rfl rfl rfl rfl ?_ | refine runL_q (qt_ld tok rfl (by (repeat (first | with_reducible apply List.mem_cons_self | with_reducible assumption | with_reducible apply List.mem_cons_of_mem | with_reducible apply List.mem_append_right))) (by rfl)) rfl rfl rfl ?_ | refine runL_g rfl rfl (qt_ld tok rfl (by (repeat (first | with_reducible apply List.mem_cons_self | with_reducible assumption | with_reducible apply List.mem_cons_of_mem | with_reducible apply List.mem_append_right))) (by rfl)) rfl rfl rfl rfl rfl ?_ | (refine runL_op0 (st_store tok rfl rfl rfl rfl rfl (by (repeat (first | with_reducible apply Upd.here | with_reducible apply Upd.there | with_reducible apply Upd.append_left))) (by rfl)) ?_; rintro _ _ _ ⟨rfl, rfl, rfl⟩) | (refine runL_op (st_box rfl) rfl rfl rfl ?_; rintro _ _ _ ⟨_, rfl, rfl, rfl⟩) | (refine runL_op (st_alloc tok rfl) rfl rfl rfl ?_; rintro _ _ _ ⟨_, rfl, rfl, rfl⟩) | (refine runL_op (st_buildSlice tok rfl rfl rfl rfl rfl rfl rfl) rfl rfl rfl ?_; rintro _ _ _ ⟨_, rfl, rfl, rfl⟩) | refine runL_q (qt_strLo tok rfl rfl rfl (fun _ => ha)) rfl rfl rfl ?_)
    refine runL_callE rfl (front_ok _ _ _ (by omega)) rfl rfl rfl ?_ ?_
    rotate_left
    · rintro ch _ _ ⟨rfl, rfl, hv⟩
      cases hf : frontR (s.extract a s.size) with
      | ok x => rw [hf] at hv; cases hv
      | error e =>
        rw [hf] at hv
        simp only [Ending.panicked.injEq] at hv
        subst hv
        exact runX_pan hC (fun _ h => h) ⟨rfl, rfl, by rw [walkR, hf]⟩
    rintro v _ _ ⟨rfl, rfl, hv⟩
    cases hf : frontR (s.extract a s.size) with
    | error e => rw [hf] at hv; cases hv
    | ok x =>
      rw [hf] at hv
      simp only [Ending.returned.injEq] at hv
      subst hv
      have hx := frontR_len (n := x.1) (p := x.2) hf
      have hw : walkR s (k + 1) a = iter (walkR s k) x.2 (a + x.1) := by rw [walkR, hf]
      have e1 : IntKind.i64.wrap ((a : Int) + (x.1 : Int)) = ((a + x.1 : Nat) : Int) := by
        rw [show (a : Int) + (x.1 : Int) = ((a + x.1 : Nat) : Int) by omega, wrap64_nat (by omega)]
      repeat (first | with_reducible refine run_seq ?_ | with_reducible refine run_region ?_ | with_reducible refine runL_nil ?_ | with_reducible refine run_skip ?_ | with_reducible refine run_block ?_ | with_reducible refine run_inBlock ?_ | refine run_exit rfl ?_ | refine runL_q (qt_pev tok rfl) rfl rfl rfl ?_ | refine runL_g rfl rfl (qt_pev tok rfl) rfl rfl rfl rfl rfl ?_ | refine runL_q (qt_ld tok rfl (by (repeat (first | with_reducible apply List.mem_cons_self | with_reducible assumption | with_reducible apply List.mem_cons_of_mem | with_reducible apply List.mem_append_right))) (by rfl)) rfl rfl rfl ?_ | refine runL_g rfl rfl (qt_ld tok rfl (by (repeat (first | with_reducible apply List.mem_cons_self | with_reducible assumption | with_reducible apply List.mem_cons_of_mem | with_reducible apply List.mem_append_right))) (by rfl)) rfl rfl rfl rfl rfl ?_ | (refine runL_op0 (st_store tok rfl rfl rfl rfl rfl (by (repeat (first | with_reducible apply Upd.here | with_reducible apply Upd.there | with_reducible apply Upd.append_left))) (by rfl)) ?_; rintro _ _ _ ⟨rfl, rfl, rfl⟩) | (refine runL_op (st_box rfl) rfl rfl rfl ?_; rintro _ _ _ ⟨_, rfl, rfl, rfl⟩) | (refine runL_op (st_alloc tok rfl) rfl rfl rfl ?_; rintro _ _ _ ⟨_, rfl, rfl, rfl⟩) | (refine runL_op (st_buildSlice tok rfl rfl rfl rfl rfl rfl rfl) rfl rfl rfl ?_; rintro _ _ _ ⟨_, rfl, rfl, rfl⟩))
      refine run_loopN (fun i σ1 M1 L1 => i ≤ x.2 ∧ ∃ y, y ≤ s.size ∧ iter (walkR s k) (x.2 - i) y = walkR s (k + 1) a ∧ σ1 = [(0, .string s), (1, .int .i64 (a : Int)), (2, .int .i64 ((17 - (k + 1) : Nat) : Int)), (3, fv 51), (11, .int .i64 (y : Int)), (25, .int .i64 (x.2 : Int)), (26, .int .i64 (i : Int))] ∧ M = M1 ∧ L = L1) x.2 [(0, .string s), (1, .int .i64 (a : Int)), (2, .int .i64 ((17 - (k + 1) : Nat) : Int)), (3, fv 51), (11, .int .i64 ((a + x.1 : Nat) : Int)), (25, .int .i64 (x.2 : Int)), (26, .int .i64 ((0 : Nat) : Int))] ?_ ⟨Nat.zero_le _, a + x.1, by omega, hw.symm, rfl, rfl, rfl⟩ (fun j _ _ _ h => h.1) ?_
      · exact ⟨rfl, rfl, rfl, rfl, by rw [← e1]; rfl, rfl, rfl, trivial⟩
      rintro i _ _ _ ⟨hi, y, hy, hit, rfl, rfl, rfl⟩ hnext
      repeat (first | with_reducible refine run_seq ?_ | with_reducible refine run_region ?_ | with_reducible refine runL_nil ?_ | with_reducible refine run_skip ?_ | with_reducible refine run_block ?_ | with_reducible refine run_inBlock ?_ | refine run_exit rfl ?_ | refine runL_q (qt_pev tok rfl) rfl rfl rfl ?_ | refine runL_g rfl rfl (qt_pev tok rfl) rfl rfl rfl rfl rfl ?_ | refine runL_q (qt_ld tok rfl (by (repeat (first | with_reducible apply List.mem_cons_self | with_reducible assumption | with_reducible apply List.mem_cons_of_mem | with_reducible apply List.mem_append_right))) (by rfl)) rfl rfl rfl ?_ | refine runL_g rfl rfl (qt_ld tok rfl (by (repeat (first | with_reducible apply List.mem_cons_self | with_reducible assumption | with_reducible apply List.mem_cons_of_mem | with_reducible apply List.mem_append_right))) (by rfl)) rfl rfl rfl rfl rfl ?_ | (refine runL_op0 (st_store tok rfl rfl rfl rfl rfl (by (repeat (first | with_reducible apply Upd.here | with_reducible apply Upd.there | with_reducible apply Upd.append_left))) (by rfl)) ?_; rintro _ _ _ ⟨rfl, rfl, rfl⟩) | (refine runL_op (st_box rfl) rfl rfl rfl ?_; rintro _ _ _ ⟨_, rfl, rfl, rfl⟩) | (refine runL_op (st_alloc tok rfl) rfl rfl rfl ?_; rintro _ _ _ ⟨_, rfl, rfl, rfl⟩) | (refine runL_op (st_buildSlice tok rfl rfl rfl rfl rfl rfl rfl) rfl rfl rfl ?_; rintro _ _ _ ⟨_, rfl, rfl, rfl⟩))
      refine run_cond rfl (fun h5 => ?_) (fun h5 => ?_)
      · have hik : i < x.2 := by simpa using h5
        rw [show x.2 - i = (x.2 - (i + 1)) + 1 by omega, iter] at hit
        repeat (first | with_reducible refine run_seq ?_ | with_reducible refine run_region ?_ | with_reducible refine runL_nil ?_ | with_reducible refine run_skip ?_ | with_reducible refine run_block ?_ | with_reducible refine run_inBlock ?_ | refine run_exit rfl ?_ | refine runL_q (qt_pev tok rfl) rfl rfl rfl ?_ | refine runL_g rfl rfl (qt_pev tok rfl) rfl rfl rfl rfl rfl ?_ | refine runL_q (qt_ld tok rfl (by (repeat (first | with_reducible apply List.mem_cons_self | with_reducible assumption | with_reducible apply List.mem_cons_of_mem | with_reducible apply List.mem_append_right))) (by rfl)) rfl rfl rfl ?_ | refine runL_g rfl rfl (qt_ld tok rfl (by (repeat (first | with_reducible apply List.mem_cons_self | with_reducible assumption | with_reducible apply List.mem_cons_of_mem | with_reducible apply List.mem_append_right))) (by rfl)) rfl rfl rfl rfl rfl ?_ | (refine runL_op0 (st_store tok rfl rfl rfl rfl rfl (by (repeat (first | with_reducible apply Upd.here | with_reducible apply Upd.there | with_reducible apply Upd.append_left))) (by rfl)) ?_; rintro _ _ _ ⟨rfl, rfl, rfl⟩) | (refine runL_op (st_box rfl) rfl rfl rfl ?_; rintro _ _ _ ⟨_, rfl, rfl, rfl⟩) | (refine runL_op (st_alloc tok rfl) rfl rfl rfl ?_; rintro _ _ _ ⟨_, rfl, rfl, rfl⟩) | (refine runL_op (st_buildSlice tok rfl rfl rfl rfl rfl rfl rfl) rfl rfl rfl ?_; rintro _ _ _ ⟨_, rfl, rfl, rfl⟩))
        refine runL_as 31 (.int .i64 ((17 - k : Nat) : Int)) rfl (by rw [wrap64_succ (by omega), show 17 - (k + 1) + 1 = 17 - k by omega]) ?_
        repeat (first | with_reducible refine run_seq ?_ | with_reducible refine run_region ?_ | with_reducible refine runL_nil ?_ | with_reducible refine run_skip ?_ | with_reducible refine run_block ?_ | with_reducible refine run_inBlock ?_ | refine run_exit rfl ?_ | refine runL_q (qt_pev tok rfl) rfl rfl rfl ?_ | refine runL_g rfl rfl (qt_pev tok rfl) rfl rfl rfl rfl rfl ?_ | refine runL_q (qt_ld tok rfl (by (repeat (first | with_reducible apply List.mem_cons_self | with_reducible assumption | with_reducible apply List.mem_cons_of_mem | with_reducible apply List.mem_append_right))) (by rfl)) rfl rfl rfl ?_ | refine runL_g rfl rfl (qt_ld tok rfl (by (repeat (first | with_reducible apply List.mem_cons_self | with_reducible assumption | with_reducible apply List.mem_cons_of_mem | with_reducible apply List.mem_append_right))) (by rfl)) rfl rfl rfl rfl rfl ?_ | (refine runL_op0 (st_store tok rfl rfl rfl rfl rfl (by (repeat (first | with_reducible apply Upd.here | with_reducible apply Upd.there | with_reducible apply Upd.append_left))) (by rfl)) ?_; rintro _ _ _ ⟨rfl, rfl, rfl⟩) | (refine runL_op (st_box rfl) rfl rfl rfl ?_; rintro _ _ _ ⟨_, rfl, rfl, rfl⟩) | (refine runL_op (st_alloc tok rfl) rfl rfl rfl ?_; rintro _ _ _ ⟨_, rfl, rfl, rfl⟩) | (refine runL_op (st_buildSlice tok rfl rfl rfl rfl rfl rfl rfl) rfl rfl rfl ?_; rintro _ _ _ ⟨_, rfl, rfl, rfl⟩))
        refine runL_callE rfl (ih (by omega) _ _ hy) rfl rfl rfl ?_ ?_
        rotate_left
        · rintro ch _ _ ⟨rfl, rfl, hv⟩
          cases hg : walkR s k y with
          | ok z => rw [hg] at hv; cases hv
          | error e =>
            rw [hg] at hv hit
            simp only [Ending.panicked.injEq] at hv
            subst hv
            exact runX_pan hC (fun _ h => h) ⟨rfl, rfl, by rw [← hit]⟩
        rintro v _ _ ⟨rfl, rfl, hv⟩
        cases hg : walkR s k y with
        | error e => rw [hg] at hv; cases hv
        | ok z =>
          rw [hg] at hv hit
          simp only [Ending.returned.injEq] at hv
          subst hv
          have hzz := walkR_len s k y z hy hg
          repeat (first | with_reducible refine run_seq ?_ | with_reducible refine run_region ?_ | with_reducible refine runL_nil ?_ | with_reducible refine run_skip ?_ | with_reducible refine run_block ?_ | with_reducible refine run_inBlock ?_ | refine run_exit rfl ?_ | refine runL_q (qt_pev tok rfl) rfl rfl rfl ?_ | refine runL_g rfl rfl (qt_pev tok rfl) rfl rfl rfl rfl rfl ?_ | refine runL_q (qt_ld tok rfl (by (repeat (first | with_reducible apply List.mem_cons_self | with_reducible assumption | with_reducible apply List.mem_cons_of_mem | with_reducible apply List.mem_append_right))) (by rfl)) rfl rfl rfl ?_ | refine runL_g rfl rfl (qt_ld tok rfl (by (repeat (first | with_reducible apply List.mem_cons_self | with_reducible assumption | with_reducible apply List.mem_cons_of_mem | with_reducible apply List.mem_append_right))) (by rfl)) rfl rfl rfl rfl rfl ?_ | (refine runL_op0 (st_store tok rfl rfl rfl rfl rfl (by (repeat (first | with_reducible apply Upd.here | with_reducible apply Upd.there | with_reducible apply Upd.append_left))) (by rfl)) ?_; rintro _ _ _ ⟨rfl, rfl, rfl⟩) | (refine runL_op (st_box rfl) rfl rfl rfl ?_; rintro _ _ _ ⟨_, rfl, rfl, rfl⟩) | (refine runL_op (st_alloc tok rfl) rfl rfl rfl ?_; rintro _ _ _ ⟨_, rfl, rfl, rfl⟩) | (refine runL_op (st_buildSlice tok rfl rfl rfl rfl rfl rfl rfl) rfl rfl rfl ?_; rintro _ _ _ ⟨_, rfl, rfl, rfl⟩))
          exact run_sub' (hnext _ _ _ ⟨hik, z, hzz, hit, rfl, rfl, rfl⟩) ⟨rfl, rfl, rfl, rfl, rfl, rfl, lk_succ rfl (by omega), trivial⟩
      · have hik : i = x.2 := by simp at h5; omega
        subst hik
        rw [Nat.sub_self, iter] at hit
        repeat (first | with_reducible refine run_seq ?_ | with_reducible refine run_region ?_ | with_reducible refine runL_nil ?_ | with_reducible refine run_skip ?_ | with_reducible refine run_block ?_ | with_reducible refine run_inBlock ?_ | refine run_exit rfl ?_ | refine runL_q (qt_pev tok rfl) rfl rfl rfl ?_ | refine runL_g rfl rfl (qt_pev tok rfl) rfl rfl rfl rfl rfl ?_ | refine runL_q (qt_ld tok rfl (by (repeat (first | with_reducible apply List.mem_cons_self | with_reducible assumption | with_reducible apply List.mem_cons_of_mem | with_reducible apply List.mem_append_right))) (by rfl)) rfl rfl rfl ?_ | refine runL_g rfl rfl (qt_ld tok rfl (by (repeat (first | with_reducible apply List.mem_cons_self | with_reducible assumption | with_reducible apply List.mem_cons_of_mem | with_reducible apply List.mem_append_right))) (by rfl)) rfl rfl rfl rfl rfl ?_ | (refine runL_op0 (st_store tok rfl rfl rfl rfl rfl (by (repeat (first | with_reducible apply Upd.here | with_reducible apply Upd.there | with_reducible apply Upd.append_left))) (by rfl)) ?_; rintro _ _ _ ⟨rfl, rfl, rfl⟩) | (refine runL_op (st_box rfl) rfl rfl rfl ?_; rintro _ _ _ ⟨_, rfl, rfl, rfl⟩) | (refine runL_op (st_alloc tok rfl) rfl rfl rfl ?_; rintro _ _ _ ⟨_, rfl, rfl, rfl⟩) | (refine runL_op (st_buildSlice tok rfl rfl rfl rfl rfl rfl rfl) rfl rfl rfl ?_; rintro _ _ _ ⟨_, rfl, rfl, rfl⟩) | (refine runL_op (st_callV rfl rfl (fun _ => tell_ok _ _ _ _ _)) rfl rfl rfl ?_; rintro _ _ _ ⟨rfl, rfl, rfl⟩))
        refine run_retX hro ?_
        exact runX_ret hC (rs := [.tmp 8]) rfl (resT rfl resN) (fun _ h => h) ⟨rfl, rfl, by rw [← hit]; rfl⟩
/-- whether a text is a term, or why not -/
def checkR (s : ByteArray) : Int := if (readR (walkR s 16 0)).2 = 0 ∧ (readR (walkR s 16 0)).1 ≠ (s.size : Int) then 7 else (readR (walkR s 16 0)).2
theorem check_ok (M : Mem) (L : HL) (s : ByteArray) (hs : s.size < 4611686018427387904) : TrQ Try.prog 45 [.string s] M L (.int .i64 (checkR s)) := by
  refine Tr.intro 19 Try.func45 rfl rfl Try.call45 rfl ?_
  intro C hC hro
  repeat (first | with_reducible refine run_seq ?_ | with_reducible refine run_region ?_ | with_reducible refine runL_nil ?_ | with_reducible refine run_skip ?_ | with_reducible refine run_block ?_ | with_reducible refine run_inBlock ?_ | refine run_exit rfl ?_ | refine runL_q (qt_pev tok rfl) rfl rfl rfl ?_ | refine runL_g rfl rfl (qt_pev tok rfl) rfl rfl rfl rfl rfl ?_ | refine runL_q (qt_ld tok rfl (by (repeat (first | with_reducible apply List.mem_cons_self | with_reducible assumption | with_reducible apply List.mem_cons_of_mem | with_reducible apply List.mem_append_right))) (by rfl)) rfl rfl rfl ?_ | refine runL_g rfl rfl (qt_ld tok rfl (by (repeat (first | with_reducible apply List.mem_cons_self | with_reducible assumption | with_reducible apply List.mem_cons_of_mem | with_reducible apply List.mem_append_right))) (by rfl)) rfl rfl rfl rfl rfl ?_ | (refine runL_op0 (st_store tok rfl rfl rfl rfl rfl (by (repeat (first | with_reducible apply Upd.here | with_reducible apply Upd.there | with_reducible apply Upd.append_left))) (by rfl)) ?_; rintro _ _ _ ⟨rfl, rfl, rfl⟩) | (refine runL_op (st_box rfl) rfl rfl rfl ?_; rintro _ _ _ ⟨_, rfl, rfl, rfl⟩) | (refine runL_op (st_alloc tok rfl) rfl rfl rfl ?_; rintro _ _ _ ⟨_, rfl, rfl, rfl⟩) | (refine runL_op (st_buildSlice tok rfl rfl rfl rfl rfl rfl rfl) rfl rfl rfl ?_; rintro _ _ _ ⟨_, rfl, rfl, rfl⟩) | refine runL_q (qt_callF rfl (fun _ => read_ok _ _ s (walkR s 16 0) (fun L => walk_ok _ s hs 16 (by omega) L 0 (Nat.zero_le _)))) rfl rfl rfl ?_)
  refine run_cond rfl (fun h => ?_) (fun h => ?_)
  · have h1 : (readR (walkR s 16 0)).2 = 0 ∧ (readR (walkR s 16 0)).1 ≠ (s.size : Int) := by simpa using h
    repeat (first | with_reducible refine run_seq ?_ | with_reducible refine run_region ?_ | with_reducible refine runL_nil ?_ | with_reducible refine run_skip ?_ | with_reducible refine run_block ?_ | with_reducible refine run_inBlock ?_ | refine run_exit rfl ?_ | refine runL_q (qt_pev tok rfl) rfl rfl rfl ?_ | refine runL_g rfl rfl (qt_pev tok rfl) rfl rfl rfl rfl rfl ?_ | refine runL_q (qt_ld tok rfl (by (repeat (first | with_reducible apply List.mem_cons_self | with_reducible assumption | with_reducible apply List.mem_cons_of_mem | with_reducible apply List.mem_append_right))) (by rfl)) rfl rfl rfl ?_ | refine runL_g rfl rfl (qt_ld tok rfl (by (repeat (first | with_reducible apply List.mem_cons_self | with_reducible assumption | with_reducible apply List.mem_cons_of_mem | with_reducible apply List.mem_append_right))) (by rfl)) rfl rfl rfl rfl rfl ?_ | (refine runL_op0 (st_store tok rfl rfl rfl rfl rfl (by (repeat (first | with_reducible apply Upd.here | with_reducible apply Upd.there | with_reducible apply Upd.append_left))) (by rfl)) ?_; rintro _ _ _ ⟨rfl, rfl, rfl⟩) | (refine runL_op (st_box rfl) rfl rfl rfl ?_; rintro _ _ _ ⟨_, rfl, rfl, rfl⟩) | (refine runL_op (st_alloc tok rfl) rfl rfl rfl ?_; rintro _ _ _ ⟨_, rfl, rfl, rfl⟩) | (refine runL_op (st_buildSlice tok rfl rfl rfl rfl rfl rfl rfl) rfl rfl rfl ?_; rintro _ _ _ ⟨_, rfl, rfl, rfl⟩))
    exact run_ret hC (rs := [.tmp 2]) rfl (resT rfl resN) (fun _ h => h) ⟨by rw [checkR, if_pos h1]; rfl, rfl, rfl⟩
  · have h1 : ¬ ((readR (walkR s 16 0)).2 = 0 ∧ (readR (walkR s 16 0)).1 ≠ (s.size : Int)) := by simpa using h
    repeat (first | with_reducible refine run_seq ?_ | with_reducible refine run_region ?_ | with_reducible refine runL_nil ?_ | with_reducible refine run_skip ?_ | with_reducible refine run_block ?_ | with_reducible refine run_inBlock ?_ | refine run_exit rfl ?_ | refine runL_q (qt_pev tok rfl) rfl rfl rfl ?_ | refine runL_g rfl rfl (qt_pev tok rfl) rfl rfl rfl rfl rfl ?_ | refine runL_q (qt_ld tok rfl (by (repeat (first | with_reducible apply List.mem_cons_self | with_reducible assumption | with_reducible apply List.mem_cons_of_mem | with_reducible apply List.mem_append_right))) (by rfl)) rfl rfl rfl ?_ | refine runL_g rfl rfl (qt_ld tok rfl (by (repeat (first | with_reducible apply List.mem_cons_self | with_reducible assumption | with_reducible apply List.mem_cons_of_mem | with_reducible apply List.mem_append_right))) (by rfl)) rfl rfl rfl rfl rfl ?_ | (refine runL_op0 (st_store tok rfl rfl rfl rfl rfl (by (repeat (first | with_reducible apply Upd.here | with_reducible apply Upd.there | with_reducible apply Upd.append_left))) (by rfl)) ?_; rintro _ _ _ ⟨rfl, rfl, rfl⟩) | (refine runL_op (st_box rfl) rfl rfl rfl ?_; rintro _ _ _ ⟨_, rfl, rfl, rfl⟩) | (refine runL_op (st_alloc tok rfl) rfl rfl rfl ?_; rintro _ _ _ ⟨_, rfl, rfl, rfl⟩) | (refine runL_op (st_buildSlice tok rfl rfl rfl rfl rfl rfl rfl) rfl rfl rfl ?_; rintro _ _ _ ⟨_, rfl, rfl, rfl⟩))
    exact run_ret hC (rs := [.tmp 2]) rfl (resT rfl resN) (fun _ h => h) ⟨by rw [checkR, if_neg h1]; rfl, rfl, rfl⟩
end Go.Proofs.Ytemiflllckincaa
