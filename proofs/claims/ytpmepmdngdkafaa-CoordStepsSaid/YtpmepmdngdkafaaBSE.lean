import Derived.Test.YtpmepmdngdkafaaBSA
import Derived.Test.YtpmepmdngdkafaaBSD
namespace Go.Proofs.Ytpmepmdngdkafaa
open Go.Chi

def rloop (f : ByteArray → Int × Int) (s : ByteArray) : Nat → Int → Int → Int × Int
  | 0, n, e => (n, e)
  | i + 1, n, e => if e ≠ 0 then (n, e) else rloop f s i (IntKind.i64.wrap (n + (f (s.extract n.toNat s.size)).1)) (f (s.extract n.toNat s.size)).2
def finR (r : Int × Int) : Int × Int := if r.2 ≠ 0 then (0, r.2) else (r.1, 0)
def refRead : Nat → ByteArray → Int × Int
  | 0, _ => (0, 60)
  | k + 1, s => finR (rloop (refRead k) s (headR s).2.1.toNat (headR s).1 (headR s).2.2)
theorem rloop_err (f : ByteArray → Int × Int) (s : ByteArray) {e : Int} (he : e ≠ 0) : ∀ i n, rloop f s i n e = (n, e)
  | 0, _ => rfl
  | i + 1, n => by rw [rloop, if_pos he]
theorem ext_ext (w : ByteArray) {a n : Nat} (ha : a ≤ w.size) (hn : a + n ≤ w.size) : (w.extract a w.size).extract n (w.extract a w.size).size = w.extract (a + n) w.size := by
  have hz : (w.extract a w.size).size = w.size - a := by simp
  rw [hz]
  apply ByteArray.ext
  apply Array.ext'
  simp only [ByteArray.data_extract, Array.toList_extract, List.extract_eq_take_drop]
  have hl : w.data.toList.length = w.size := by simp
  generalize w.data.toList = l at *
  rw [← hl] at ha hn ⊢
  rw [List.take_of_length_le (l := l.drop a) (by simp), List.drop_drop, Nat.sub_sub]
theorem refNum_err {s : ByteArray} (h : (refNum s).2.2 ≠ 0) : (refNum s).1 = 0 := by
  unfold refNum at h ⊢
  repeat' split
  all_goals first | rfl | (rename_i h1 h2 h3 h4; simp [h1, h2, h3, h4] at h) | (rename_i h1 h2; simp [h1, h2] at h)
theorem headR_p32 (s : ByteArray) : (headR s).2.1 ≤ 32 := by
  unfold headR
  repeat' split
  all_goals try (simp; done)
  rename_i h1
  simp only
  by_cases he : (refNum (rest1 s)).2.2 = 0
  · have hv0 := numR_pos (rest1 s)
    rw [refNum_imp he] at hv0
    have h5 : ¬ 32 < (refNum (rest1 s)).1 := fun h5 => h1 ⟨he, h5⟩
    obtain ⟨v, hv⟩ : ∃ v : Nat, (refNum (rest1 s)).1 = v := ⟨(refNum (rest1 s)).1.toNat, by omega⟩
    rw [hv, wrap64_nat (by omega)]
    omega
  · rw [refNum_err he]; decide
theorem refRead_imp : ∀ (k : Nat) (s : ByteArray), s.size < 4611686018427387904 → (refRead k s).2 = 0 → ∃ n : Nat, (refRead k s).1 = n ∧ n ≤ s.size ∧ ∀ (w : ByteArray) (a : Nat), a ≤ w.size → w.extract a w.size = s → walkR w k a = .ok (a + n)
  | 0, s, _, h => by cases h
  | k + 1, s, hs, h => by
    rw [refRead] at h ⊢
    have h1 : (headR s).2.2 = 0 := by
      apply Classical.byContradiction
      intro h1
      rw [rloop_err _ _ h1, finR, if_pos h1] at h
      exact h1 h
    obtain ⟨n0, p0, hh, hf⟩ := headR_imp hs h1
    have hfl := frontR_len hf
    rw [hh] at h ⊢
    simp only [Int.toNat_natCast] at h ⊢
    have key : ∀ (i n : Nat), n ≤ s.size → (rloop (refRead k) s i (n : Int) 0).2 = 0 → ∃ m : Nat, (rloop (refRead k) s i (n : Int) 0).1 = m ∧ m ≤ s.size ∧ ∀ (w : ByteArray) (a : Nat), a ≤ w.size → w.extract a w.size = s → iter (walkR w k) i (a + n) = .ok (a + m) := by
      intro i
      induction i with
      | zero => intro n hn _; exact ⟨n, rfl, hn, fun w a _ _ => rfl⟩
      | succ i ih =>
        intro n hn hr
        rw [rloop, if_neg (by simp), Int.toNat_natCast] at hr ⊢
        have he : (refRead k (s.extract n s.size)).2 = 0 := by
          apply Classical.byContradiction
          intro he
          rw [rloop_err _ _ he] at hr
          exact he hr
        have hz : (s.extract n s.size).size = s.size - n := by simp
        obtain ⟨m, hm, hml, hmw⟩ := refRead_imp k (s.extract n s.size) (by omega) he
        rw [he, hm, show (n : Int) + (m : Int) = ((n + m : Nat) : Int) by omega, wrap64_nat (by omega)] at hr ⊢
        obtain ⟨m2, hm2, hm2l, hm2w⟩ := ih (n + m) (by omega) hr
        refine ⟨m2, hm2, hm2l, fun w a ha hw => ?_⟩
        have hws : w.size - a = s.size := by rw [← hw]; simp
        have h5 := hmw w (a + n) (by omega) (by rw [← hw, ext_ext w ha (by omega)])
        rw [iter, h5]
        have h6 := hm2w w a ha hw
        rw [← h6]
        simp only [Nat.add_assoc]
    have h2 : (rloop (refRead k) s p0 (n0 : Int) 0).2 = 0 := by
      apply Classical.byContradiction
      intro h2
      rw [finR, if_pos h2] at h
      exact h2 h
    obtain ⟨m, hm, hml, hmw⟩ := key p0 n0 hfl.2.1 h2
    refine ⟨m, by rw [finR, if_neg (by simp [h2])]; exact hm, hml, fun w a ha hw => ?_⟩
    rw [walkR, hw, hf]
    exact hmw w a ha hw
set_option maxRecDepth 10000 in
set_option maxHeartbeats 8000000 in
theorem refread_ok (M : Mem) (k : Nat) : k ≤ 16 → ∀ (L : HL) (s : ByteArray), s.size < 4611686018427387904 → TrQ Try.prog 81 [.string s, .int .i64 ((17 - k : Nat) : Int)] M L (.tuple ⟨[.int .i64 (refRead k s).1, .int .i64 (refRead k s).2]⟩) := by
  induction k with
  | zero =>
    intro _ L s hs
    refine Tr.intro 44 Try.func81 rfl rfl Try.call81 rfl ?_
    intro C hC hro
    repeat (first | with_reducible (first | refine run_seq ?_ | refine run_region ?_ | refine runL_nil ?_ | refine run_skip ?_ | refine run_block ?_ | refine run_inBlock ?_) | refine run_exit rfl ?_ | refine runL_q (qt_pev tok rfl) rfl rfl rfl ?_ | refine runL_g rfl rfl (qt_pev tok rfl) rfl rfl rfl rfl rfl ?_ | refine runL_q (ql tok rfl) rfl rfl rfl ?_ | refine runL_g rfl rfl (ql tok rfl) rfl rfl rfl rfl rfl ?_ | (refine runL_op0 (sst tok rfl rfl rfl rfl rfl) ?_; rintro _ _ _ ⟨rfl, rfl, rfl⟩) | (refine runL_op (st_box rfl) rfl rfl rfl ?_; rintro _ _ _ ⟨_, rfl, rfl, rfl⟩) | (refine runL_op (st_alloc tok rfl) rfl rfl rfl ?_; rintro _ _ _ ⟨_, rfl, rfl, rfl⟩) | (refine runL_op (st_buildSlice tok rfl rfl rfl rfl rfl rfl rfl) rfl rfl rfl ?_; rintro _ _ _ ⟨_, rfl, rfl, rfl⟩))
    refine run_cond rfl (fun h => ?_) (fun h => by cases h)
    repeat (first | with_reducible (first | refine run_seq ?_ | refine run_region ?_ | refine runL_nil ?_ | refine run_skip ?_ | refine run_block ?_ | refine run_inBlock ?_) | refine run_exit rfl ?_ | refine runL_q (qt_pev tok rfl) rfl rfl rfl ?_ | refine runL_g rfl rfl (qt_pev tok rfl) rfl rfl rfl rfl rfl ?_ | refine runL_q (ql tok rfl) rfl rfl rfl ?_ | refine runL_g rfl rfl (ql tok rfl) rfl rfl rfl rfl rfl ?_ | (refine runL_op0 (sst tok rfl rfl rfl rfl rfl) ?_; rintro _ _ _ ⟨rfl, rfl, rfl⟩) | (refine runL_op (st_box rfl) rfl rfl rfl ?_; rintro _ _ _ ⟨_, rfl, rfl, rfl⟩) | (refine runL_op (st_alloc tok rfl) rfl rfl rfl ?_; rintro _ _ _ ⟨_, rfl, rfl, rfl⟩) | (refine runL_op (st_buildSlice tok rfl rfl rfl rfl rfl rfl rfl) rfl rfl rfl ?_; rintro _ _ _ ⟨_, rfl, rfl, rfl⟩))
    exact run_ret hC (rs := [.tmp 4, .tmp 5]) rfl (resT rfl (resT rfl resN)) (fun _ h => h) ⟨rfl, rfl, rfl⟩
  | succ k ih =>
    intro hk L s hs
    refine Tr.intro 44 Try.func81 rfl rfl Try.call81 rfl ?_
    intro C hC hro
    repeat (first | with_reducible (first | refine run_seq ?_ | refine run_region ?_ | refine runL_nil ?_ | refine run_skip ?_ | refine run_block ?_ | refine run_inBlock ?_) | refine run_exit rfl ?_ | refine runL_q (qt_pev tok rfl) rfl rfl rfl ?_ | refine runL_g rfl rfl (qt_pev tok rfl) rfl rfl rfl rfl rfl ?_ | refine runL_q (ql tok rfl) rfl rfl rfl ?_ | refine runL_g rfl rfl (ql tok rfl) rfl rfl rfl rfl rfl ?_ | (refine runL_op0 (sst tok rfl rfl rfl rfl rfl) ?_; rintro _ _ _ ⟨rfl, rfl, rfl⟩) | (refine runL_op (st_box rfl) rfl rfl rfl ?_; rintro _ _ _ ⟨_, rfl, rfl, rfl⟩) | (refine runL_op (st_alloc tok rfl) rfl rfl rfl ?_; rintro _ _ _ ⟨_, rfl, rfl, rfl⟩) | (refine runL_op (st_buildSlice tok rfl rfl rfl rfl rfl rfl rfl) rfl rfl rfl ?_; rintro _ _ _ ⟨_, rfl, rfl, rfl⟩))
    refine run_cond rfl (fun h => ?_) (fun h => ?_)
    · exfalso
      have : (16 : Int) < ((17 - (k + 1) : Nat) : Int) := by simpa using h
      omega
    repeat (first | with_reducible (first | refine run_seq ?_ | refine run_region ?_ | refine runL_nil ?_ | refine run_skip ?_ | refine run_block ?_ | refine run_inBlock ?_) | refine run_exit rfl ?_ | refine runL_q (qt_pev tok rfl) rfl rfl rfl ?_ | refine runL_g rfl rfl (qt_pev tok rfl) rfl rfl rfl rfl rfl ?_ | refine runL_q (ql tok rfl) rfl rfl rfl ?_ | refine runL_g rfl rfl (ql tok rfl) rfl rfl rfl rfl rfl ?_ | (refine runL_op0 (sst tok rfl rfl rfl rfl rfl) ?_; rintro _ _ _ ⟨rfl, rfl, rfl⟩) | (refine runL_op (st_box rfl) rfl rfl rfl ?_; rintro _ _ _ ⟨_, rfl, rfl, rfl⟩) | (refine runL_op (st_alloc tok rfl) rfl rfl rfl ?_; rintro _ _ _ ⟨_, rfl, rfl, rfl⟩) | (refine runL_op (st_buildSlice tok rfl rfl rfl rfl rfl rfl rfl) rfl rfl rfl ?_; rintro _ _ _ ⟨_, rfl, rfl, rfl⟩) | refine runL_q (qt_callF rfl (fun _ => head_ok _ _ s hs)) rfl rfl rfl ?_)
    have hdef : refRead (k + 1) s = finR (rloop (refRead k) s (headR s).2.1.toNat (headR s).1 (headR s).2.2) := rfl
    have hini : (headR s).2.2 = 0 → ∃ m : Nat, (headR s).1 = m ∧ m ≤ s.size := fun h1 => by
      obtain ⟨n0, p0, hh, hf⟩ := headR_imp hs h1
      exact ⟨n0, by rw [hh], (frontR_len hf).2.1⟩
    obtain ⟨pt, hpt⟩ : ∃ p : Nat, (headR s).2.1.toNat = p := ⟨_, rfl⟩
    have hpt' : (headR s).2.1 ≤ (pt : Int) := by omega
    have h32 := headR_p32 s
    rw [hpt] at hdef
    generalize (headR s).2.1 = Z at *
    generalize (headR s).2.2 = e0 at *
    generalize (headR s).1 = n0 at *
    refine run_loopN (fun i σ1 M1 L1 => i ≤ pt ∧ ∃ n e : Int, (e = 0 → ∃ m : Nat, n = m ∧ m ≤ s.size) ∧ rloop (refRead k) s (pt - i) n e = rloop (refRead k) s pt n0 e0 ∧ σ1 = [(0, .string s), (1, .int .i64 ((17 - (k + 1) : Nat) : Int)), (6, .int .i64 n), (7, .int .i64 Z), (8, .int .i64 e), (9, .int .i64 (i : Int))] ∧ M = M1 ∧ L = L1) pt [(0, .string s), (1, .int .i64 ((17 - (k + 1) : Nat) : Int)), (6, .int .i64 n0), (7, .int .i64 Z), (8, .int .i64 e0), (9, .int .i64 ((0 : Nat) : Int))] ?_ ⟨Nat.zero_le _, n0, e0, hini, rfl, rfl, rfl, rfl⟩ (fun j _ _ _ h => h.1) ?_
    · exact ⟨rfl, rfl, rfl, rfl, rfl, rfl, trivial⟩
    rintro i _ _ _ ⟨hi, n, e, hne, hit, rfl, rfl, rfl⟩ hnext
    have hfin : ∀ σ' : Env, (i = pt ∨ e ≠ 0) → lks σ' 6 = some (.int .i64 n) → lks σ' 8 = some (.int .i64 e) → rloop (refRead k) s pt n0 e0 = (n, e) := by
      intro σ' h1 _ _
      rw [← hit]
      rcases h1 with h1 | h1
      · rw [h1, Nat.sub_self]; rfl
      · exact rloop_err _ _ h1 _ _
    repeat (first | with_reducible (first | refine run_seq ?_ | refine run_region ?_ | refine runL_nil ?_ | refine run_skip ?_ | refine run_block ?_ | refine run_inBlock ?_) | refine run_exit rfl ?_ | refine runL_q (qt_pev tok rfl) rfl rfl rfl ?_ | refine runL_g rfl rfl (qt_pev tok rfl) rfl rfl rfl rfl rfl ?_ | refine runL_q (ql tok rfl) rfl rfl rfl ?_ | refine runL_g rfl rfl (ql tok rfl) rfl rfl rfl rfl rfl ?_ | (refine runL_op0 (sst tok rfl rfl rfl rfl rfl) ?_; rintro _ _ _ ⟨rfl, rfl, rfl⟩) | (refine runL_op (st_box rfl) rfl rfl rfl ?_; rintro _ _ _ ⟨_, rfl, rfl, rfl⟩) | (refine runL_op (st_alloc tok rfl) rfl rfl rfl ?_; rintro _ _ _ ⟨_, rfl, rfl, rfl⟩) | (refine runL_op (st_buildSlice tok rfl rfl rfl rfl rfl rfl rfl) rfl rfl rfl ?_; rintro _ _ _ ⟨_, rfl, rfl, rfl⟩))
    refine run_cond rfl (fun h5 => ?_) (fun h5 => ?_)
    · have h6 : (i : Int) < Z ∧ e = 0 := by simpa using h5
      obtain ⟨hiz, rfl⟩ := h6
      have hik : i < pt := by omega
      obtain ⟨m, rfl, hm⟩ := hne rfl
      have hz : (s.extract m s.size).size = s.size - m := by simp
      repeat (first | with_reducible (first | refine run_seq ?_ | refine run_region ?_ | refine runL_nil ?_ | refine run_skip ?_ | refine run_block ?_ | refine run_inBlock ?_) | refine run_exit rfl ?_ | refine runL_q (qt_pev tok rfl) rfl rfl rfl ?_ | refine runL_g rfl rfl (qt_pev tok rfl) rfl rfl rfl rfl rfl ?_ | refine runL_q (ql tok rfl) rfl rfl rfl ?_ | refine runL_g rfl rfl (ql tok rfl) rfl rfl rfl rfl rfl ?_ | (refine runL_op0 (sst tok rfl rfl rfl rfl rfl) ?_; rintro _ _ _ ⟨rfl, rfl, rfl⟩) | (refine runL_op (st_box rfl) rfl rfl rfl ?_; rintro _ _ _ ⟨_, rfl, rfl, rfl⟩) | (refine runL_op (st_alloc tok rfl) rfl rfl rfl ?_; rintro _ _ _ ⟨_, rfl, rfl, rfl⟩) | (refine runL_op (st_buildSlice tok rfl rfl rfl rfl rfl rfl rfl) rfl rfl rfl ?_; rintro _ _ _ ⟨_, rfl, rfl, rfl⟩) | refine runL_q (qt_strLo (n := m) tok rfl rfl rfl (fun _ => hm)) rfl rfl rfl ?_)
      refine runL_as 33 (.int .i64 ((17 - k : Nat) : Int)) rfl (by rw [wrap64_succ (by omega), show 17 - (k + 1) + 1 = 17 - k by omega]) ?_
      repeat (first | with_reducible (first | refine run_seq ?_ | refine run_region ?_ | refine runL_nil ?_ | refine run_skip ?_ | refine run_block ?_ | refine run_inBlock ?_) | refine run_exit rfl ?_ | refine runL_q (qt_pev tok rfl) rfl rfl rfl ?_ | refine runL_g rfl rfl (qt_pev tok rfl) rfl rfl rfl rfl rfl ?_ | refine runL_q (ql tok rfl) rfl rfl rfl ?_ | refine runL_g rfl rfl (ql tok rfl) rfl rfl rfl rfl rfl ?_ | (refine runL_op0 (sst tok rfl rfl rfl rfl rfl) ?_; rintro _ _ _ ⟨rfl, rfl, rfl⟩) | (refine runL_op (st_box rfl) rfl rfl rfl ?_; rintro _ _ _ ⟨_, rfl, rfl, rfl⟩) | (refine runL_op (st_alloc tok rfl) rfl rfl rfl ?_; rintro _ _ _ ⟨_, rfl, rfl, rfl⟩) | (refine runL_op (st_buildSlice tok rfl rfl rfl rfl rfl rfl rfl) rfl rfl rfl ?_; rintro _ _ _ ⟨_, rfl, rfl, rfl⟩) | refine runL_q (qt_callF rfl (fun _ => ih (by omega) _ (s.extract m s.size) (by omega))) rfl rfl rfl ?_)
      refine run_sub' (hnext _ _ _ ⟨hik, IntKind.i64.wrap ((m : Int) + (refRead k (s.extract m s.size)).1), (refRead k (s.extract m s.size)).2, fun he => ?_, ?_, rfl, rfl, rfl⟩) ⟨rfl, rfl, rfl, rfl, rfl, lk_succ rfl (by omega), trivial⟩
      · obtain ⟨m2, hm2, hm2l, _⟩ := refRead_imp k (s.extract m s.size) (by omega) he
        exact ⟨m + m2, by rw [hm2, show (m : Int) + (m2 : Int) = ((m + m2 : Nat) : Int) by omega, wrap64_nat (by omega)], by omega⟩
      · rw [← hit, show pt - i = (pt - (i + 1)) + 1 by omega, rloop, if_neg (by simp), Int.toNat_natCast]
    · have h6 : i = pt ∨ e ≠ 0 := by
        by_cases he : e = 0
        · left
          subst he
          have : Z ≤ (i : Int) := by simpa using h5
          omega
        · exact .inr he
      have hr := hfin [(6, .int .i64 n), (8, .int .i64 e)] h6 rfl rfl
      repeat (first | with_reducible (first | refine run_seq ?_ | refine run_region ?_ | refine runL_nil ?_ | refine run_skip ?_ | refine run_block ?_ | refine run_inBlock ?_) | refine run_exit rfl ?_ | refine runL_q (qt_pev tok rfl) rfl rfl rfl ?_ | refine runL_g rfl rfl (qt_pev tok rfl) rfl rfl rfl rfl rfl ?_ | refine runL_q (ql tok rfl) rfl rfl rfl ?_ | refine runL_g rfl rfl (ql tok rfl) rfl rfl rfl rfl rfl ?_ | (refine runL_op0 (sst tok rfl rfl rfl rfl rfl) ?_; rintro _ _ _ ⟨rfl, rfl, rfl⟩) | (refine runL_op (st_box rfl) rfl rfl rfl ?_; rintro _ _ _ ⟨_, rfl, rfl, rfl⟩) | (refine runL_op (st_alloc tok rfl) rfl rfl rfl ?_; rintro _ _ _ ⟨_, rfl, rfl, rfl⟩) | (refine runL_op (st_buildSlice tok rfl rfl rfl rfl rfl rfl rfl) rfl rfl rfl ?_; rintro _ _ _ ⟨_, rfl, rfl, rfl⟩))
      refine run_cond rfl (fun h7 => ?_) (fun h7 => ?_)
      · have h8 : e ≠ 0 := by simpa using h7
        repeat (first | with_reducible (first | refine run_seq ?_ | refine run_region ?_ | refine runL_nil ?_ | refine run_skip ?_ | refine run_block ?_ | refine run_inBlock ?_) | refine run_exit rfl ?_ | refine runL_q (qt_pev tok rfl) rfl rfl rfl ?_ | refine runL_g rfl rfl (qt_pev tok rfl) rfl rfl rfl rfl rfl ?_ | refine runL_q (ql tok rfl) rfl rfl rfl ?_ | refine runL_g rfl rfl (ql tok rfl) rfl rfl rfl rfl rfl ?_ | (refine runL_op0 (sst tok rfl rfl rfl rfl rfl) ?_; rintro _ _ _ ⟨rfl, rfl, rfl⟩) | (refine runL_op (st_box rfl) rfl rfl rfl ?_; rintro _ _ _ ⟨_, rfl, rfl, rfl⟩) | (refine runL_op (st_alloc tok rfl) rfl rfl rfl ?_; rintro _ _ _ ⟨_, rfl, rfl, rfl⟩) | (refine runL_op (st_buildSlice tok rfl rfl rfl rfl rfl rfl rfl) rfl rfl rfl ?_; rintro _ _ _ ⟨_, rfl, rfl, rfl⟩))
        exact run_ret hC (rs := [.tmp 4, .tmp 5]) rfl (resT rfl (resT rfl resN)) (fun _ h => h) ⟨by rw [hdef, hr, finR, if_pos h8]; rfl, rfl, rfl⟩
      · have h8 : e = 0 := by simpa using h7
        subst h8
        repeat (first | with_reducible (first | refine run_seq ?_ | refine run_region ?_ | refine runL_nil ?_ | refine run_skip ?_ | refine run_block ?_ | refine run_inBlock ?_) | refine run_exit rfl ?_ | refine runL_q (qt_pev tok rfl) rfl rfl rfl ?_ | refine runL_g rfl rfl (qt_pev tok rfl) rfl rfl rfl rfl rfl ?_ | refine runL_q (ql tok rfl) rfl rfl rfl ?_ | refine runL_g rfl rfl (ql tok rfl) rfl rfl rfl rfl rfl ?_ | (refine runL_op0 (sst tok rfl rfl rfl rfl rfl) ?_; rintro _ _ _ ⟨rfl, rfl, rfl⟩) | (refine runL_op (st_box rfl) rfl rfl rfl ?_; rintro _ _ _ ⟨_, rfl, rfl, rfl⟩) | (refine runL_op (st_alloc tok rfl) rfl rfl rfl ?_; rintro _ _ _ ⟨_, rfl, rfl, rfl⟩) | (refine runL_op (st_buildSlice tok rfl rfl rfl rfl rfl rfl rfl) rfl rfl rfl ?_; rintro _ _ _ ⟨_, rfl, rfl, rfl⟩))
        exact run_ret hC (rs := [.tmp 4, .tmp 5]) rfl (resT rfl (resT rfl resN)) (fun _ h => h) ⟨by rw [hdef, hr, finR, if_neg (by simp)]; rfl, rfl, rfl⟩
def topR (s : ByteArray) : Int × Int := if (refRead 16 s).2 ≠ 0 then (0, (refRead 16 s).2) else if 16384 < (refRead 16 s).1 then (0, 5) else ((refRead 16 s).1, 0)
theorem refRd_ok (M : Mem) (L : HL) (s : ByteArray) (hs : s.size < 4611686018427387904) : TrQ Try.prog 75 [.string s] M L (.tuple ⟨[.int .i64 (topR s).1, .int .i64 (topR s).2]⟩) := by
  refine Tr.intro 17 Try.func75 rfl rfl Try.call75 rfl ?_
  intro C hC hro
  repeat (first | with_reducible (first | refine run_seq ?_ | refine run_region ?_ | refine runL_nil ?_ | refine run_skip ?_ | refine run_block ?_ | refine run_inBlock ?_) | refine run_exit rfl ?_ | refine runL_q (qt_pev tok rfl) rfl rfl rfl ?_ | refine runL_g rfl rfl (qt_pev tok rfl) rfl rfl rfl rfl rfl ?_ | refine runL_q (ql tok rfl) rfl rfl rfl ?_ | refine runL_g rfl rfl (ql tok rfl) rfl rfl rfl rfl rfl ?_ | (refine runL_op0 (sst tok rfl rfl rfl rfl rfl) ?_; rintro _ _ _ ⟨rfl, rfl, rfl⟩) | (refine runL_op (st_box rfl) rfl rfl rfl ?_; rintro _ _ _ ⟨_, rfl, rfl, rfl⟩) | (refine runL_op (st_alloc tok rfl) rfl rfl rfl ?_; rintro _ _ _ ⟨_, rfl, rfl, rfl⟩) | (refine runL_op (st_buildSlice tok rfl rfl rfl rfl rfl rfl rfl) rfl rfl rfl ?_; rintro _ _ _ ⟨_, rfl, rfl, rfl⟩) | refine runL_q (qt_callF rfl (fun _ => refread_ok _ 16 (by omega) _ s hs)) rfl rfl rfl ?_)
  refine run_cond rfl (fun h => ?_) (fun h => ?_)
  · have h1 : (refRead 16 s).2 ≠ 0 := by simpa using h
    repeat (first | with_reducible (first | refine run_seq ?_ | refine run_region ?_ | refine runL_nil ?_ | refine run_skip ?_ | refine run_block ?_ | refine run_inBlock ?_) | refine run_exit rfl ?_ | refine runL_q (qt_pev tok rfl) rfl rfl rfl ?_ | refine runL_g rfl rfl (qt_pev tok rfl) rfl rfl rfl rfl rfl ?_ | refine runL_q (ql tok rfl) rfl rfl rfl ?_ | refine runL_g rfl rfl (ql tok rfl) rfl rfl rfl rfl rfl ?_ | (refine runL_op0 (sst tok rfl rfl rfl rfl rfl) ?_; rintro _ _ _ ⟨rfl, rfl, rfl⟩) | (refine runL_op (st_box rfl) rfl rfl rfl ?_; rintro _ _ _ ⟨_, rfl, rfl, rfl⟩) | (refine runL_op (st_alloc tok rfl) rfl rfl rfl ?_; rintro _ _ _ ⟨_, rfl, rfl, rfl⟩) | (refine runL_op (st_buildSlice tok rfl rfl rfl rfl rfl rfl rfl) rfl rfl rfl ?_; rintro _ _ _ ⟨_, rfl, rfl, rfl⟩))
    exact run_ret hC (rs := [.tmp 2, .tmp 3]) rfl (resT rfl (resT rfl resN)) (fun _ h => h) ⟨by rw [topR, if_pos h1]; rfl, rfl, rfl⟩
  have h1 : ¬ (refRead 16 s).2 ≠ 0 := by simpa using h
  repeat (first | with_reducible (first | refine run_seq ?_ | refine run_region ?_ | refine runL_nil ?_ | refine run_skip ?_ | refine run_block ?_ | refine run_inBlock ?_) | refine run_exit rfl ?_ | refine runL_q (qt_pev tok rfl) rfl rfl rfl ?_ | refine runL_g rfl rfl (qt_pev tok rfl) rfl rfl rfl rfl rfl ?_ | refine runL_q (ql tok rfl) rfl rfl rfl ?_ | refine runL_g rfl rfl (ql tok rfl) rfl rfl rfl rfl rfl ?_ | (refine runL_op0 (sst tok rfl rfl rfl rfl rfl) ?_; rintro _ _ _ ⟨rfl, rfl, rfl⟩) | (refine runL_op (st_box rfl) rfl rfl rfl ?_; rintro _ _ _ ⟨_, rfl, rfl, rfl⟩) | (refine runL_op (st_alloc tok rfl) rfl rfl rfl ?_; rintro _ _ _ ⟨_, rfl, rfl, rfl⟩) | (refine runL_op (st_buildSlice tok rfl rfl rfl rfl rfl rfl rfl) rfl rfl rfl ?_; rintro _ _ _ ⟨_, rfl, rfl, rfl⟩))
  refine run_cond rfl (fun h => ?_) (fun h => ?_)
  · have h2 : 16384 < (refRead 16 s).1 := by simpa using h
    repeat (first | with_reducible (first | refine run_seq ?_ | refine run_region ?_ | refine runL_nil ?_ | refine run_skip ?_ | refine run_block ?_ | refine run_inBlock ?_) | refine run_exit rfl ?_ | refine runL_q (qt_pev tok rfl) rfl rfl rfl ?_ | refine runL_g rfl rfl (qt_pev tok rfl) rfl rfl rfl rfl rfl ?_ | refine runL_q (ql tok rfl) rfl rfl rfl ?_ | refine runL_g rfl rfl (ql tok rfl) rfl rfl rfl rfl rfl ?_ | (refine runL_op0 (sst tok rfl rfl rfl rfl rfl) ?_; rintro _ _ _ ⟨rfl, rfl, rfl⟩) | (refine runL_op (st_box rfl) rfl rfl rfl ?_; rintro _ _ _ ⟨_, rfl, rfl, rfl⟩) | (refine runL_op (st_alloc tok rfl) rfl rfl rfl ?_; rintro _ _ _ ⟨_, rfl, rfl, rfl⟩) | (refine runL_op (st_buildSlice tok rfl rfl rfl rfl rfl rfl rfl) rfl rfl rfl ?_; rintro _ _ _ ⟨_, rfl, rfl, rfl⟩))
    exact run_ret hC (rs := [.tmp 2, .tmp 3]) rfl (resT rfl (resT rfl resN)) (fun _ h => h) ⟨by rw [topR, if_neg h1, if_pos h2]; rfl, rfl, rfl⟩
  · have h2 : ¬ 16384 < (refRead 16 s).1 := by simpa using h
    repeat (first | with_reducible (first | refine run_seq ?_ | refine run_region ?_ | refine runL_nil ?_ | refine run_skip ?_ | refine run_block ?_ | refine run_inBlock ?_) | refine run_exit rfl ?_ | refine runL_q (qt_pev tok rfl) rfl rfl rfl ?_ | refine runL_g rfl rfl (qt_pev tok rfl) rfl rfl rfl rfl rfl ?_ | refine runL_q (ql tok rfl) rfl rfl rfl ?_ | refine runL_g rfl rfl (ql tok rfl) rfl rfl rfl rfl rfl ?_ | (refine runL_op0 (sst tok rfl rfl rfl rfl rfl) ?_; rintro _ _ _ ⟨rfl, rfl, rfl⟩) | (refine runL_op (st_box rfl) rfl rfl rfl ?_; rintro _ _ _ ⟨_, rfl, rfl, rfl⟩) | (refine runL_op (st_alloc tok rfl) rfl rfl rfl ?_; rintro _ _ _ ⟨_, rfl, rfl, rfl⟩) | (refine runL_op (st_buildSlice tok rfl rfl rfl rfl rfl rfl rfl) rfl rfl rfl ?_; rintro _ _ _ ⟨_, rfl, rfl, rfl⟩))
    exact run_ret hC (rs := [.tmp 2, .tmp 3]) rfl (resT rfl (resT rfl resN)) (fun _ h => h) ⟨by rw [topR, if_neg h1, if_neg h2]; rfl, rfl, rfl⟩
def refCheck (s : ByteArray) : Int := if (topR s).2 ≠ 0 then (topR s).2 else if (topR s).1 ≠ (s.size : Int) then 7 else 0
theorem refCheck_ok (M : Mem) (L : HL) (s : ByteArray) (hs : s.size < 4611686018427387904) : TrQ Try.prog 64 [.string s] M L (.int .i64 (refCheck s)) := by
  refine Tr.intro 17 Try.func64 rfl rfl Try.call64 rfl ?_
  intro C hC hro
  repeat (first | with_reducible (first | refine run_seq ?_ | refine run_region ?_ | refine runL_nil ?_ | refine run_skip ?_ | refine run_block ?_ | refine run_inBlock ?_) | refine run_exit rfl ?_ | refine runL_q (qt_pev tok rfl) rfl rfl rfl ?_ | refine runL_g rfl rfl (qt_pev tok rfl) rfl rfl rfl rfl rfl ?_ | refine runL_q (ql tok rfl) rfl rfl rfl ?_ | refine runL_g rfl rfl (ql tok rfl) rfl rfl rfl rfl rfl ?_ | (refine runL_op0 (sst tok rfl rfl rfl rfl rfl) ?_; rintro _ _ _ ⟨rfl, rfl, rfl⟩) | (refine runL_op (st_box rfl) rfl rfl rfl ?_; rintro _ _ _ ⟨_, rfl, rfl, rfl⟩) | (refine runL_op (st_alloc tok rfl) rfl rfl rfl ?_; rintro _ _ _ ⟨_, rfl, rfl, rfl⟩) | (refine runL_op (st_buildSlice tok rfl rfl rfl rfl rfl rfl rfl) rfl rfl rfl ?_; rintro _ _ _ ⟨_, rfl, rfl, rfl⟩) | refine runL_q (qt_callF rfl (fun _ => refRd_ok _ _ s hs)) rfl rfl rfl ?_)
  refine run_cond rfl (fun h => ?_) (fun h => ?_)
  · have h1 : (topR s).2 ≠ 0 := by simpa using h
    repeat (first | with_reducible (first | refine run_seq ?_ | refine run_region ?_ | refine runL_nil ?_ | refine run_skip ?_ | refine run_block ?_ | refine run_inBlock ?_) | refine run_exit rfl ?_ | refine runL_q (qt_pev tok rfl) rfl rfl rfl ?_ | refine runL_g rfl rfl (qt_pev tok rfl) rfl rfl rfl rfl rfl ?_ | refine runL_q (ql tok rfl) rfl rfl rfl ?_ | refine runL_g rfl rfl (ql tok rfl) rfl rfl rfl rfl rfl ?_ | (refine runL_op0 (sst tok rfl rfl rfl rfl rfl) ?_; rintro _ _ _ ⟨rfl, rfl, rfl⟩) | (refine runL_op (st_box rfl) rfl rfl rfl ?_; rintro _ _ _ ⟨_, rfl, rfl, rfl⟩) | (refine runL_op (st_alloc tok rfl) rfl rfl rfl ?_; rintro _ _ _ ⟨_, rfl, rfl, rfl⟩) | (refine runL_op (st_buildSlice tok rfl rfl rfl rfl rfl rfl rfl) rfl rfl rfl ?_; rintro _ _ _ ⟨_, rfl, rfl, rfl⟩))
    exact run_ret hC (rs := [.tmp 2]) rfl (resT rfl resN) (fun _ h => h) ⟨by rw [refCheck, if_pos h1]; rfl, rfl, rfl⟩
  have h1 : ¬ (topR s).2 ≠ 0 := by simpa using h
  repeat (first | with_reducible (first | refine run_seq ?_ | refine run_region ?_ | refine runL_nil ?_ | refine run_skip ?_ | refine run_block ?_ | refine run_inBlock ?_) | refine run_exit rfl ?_ | refine runL_q (qt_pev tok rfl) rfl rfl rfl ?_ | refine runL_g rfl rfl (qt_pev tok rfl) rfl rfl rfl rfl rfl ?_ | refine runL_q (ql tok rfl) rfl rfl rfl ?_ | refine runL_g rfl rfl (ql tok rfl) rfl rfl rfl rfl rfl ?_ | (refine runL_op0 (sst tok rfl rfl rfl rfl rfl) ?_; rintro _ _ _ ⟨rfl, rfl, rfl⟩) | (refine runL_op (st_box rfl) rfl rfl rfl ?_; rintro _ _ _ ⟨_, rfl, rfl, rfl⟩) | (refine runL_op (st_alloc tok rfl) rfl rfl rfl ?_; rintro _ _ _ ⟨_, rfl, rfl, rfl⟩) | (refine runL_op (st_buildSlice tok rfl rfl rfl rfl rfl rfl rfl) rfl rfl rfl ?_; rintro _ _ _ ⟨_, rfl, rfl, rfl⟩))
  refine run_cond rfl (fun h => ?_) (fun h => ?_)
  · have h2 : (topR s).1 ≠ (s.size : Int) := by simpa using h
    repeat (first | with_reducible (first | refine run_seq ?_ | refine run_region ?_ | refine runL_nil ?_ | refine run_skip ?_ | refine run_block ?_ | refine run_inBlock ?_) | refine run_exit rfl ?_ | refine runL_q (qt_pev tok rfl) rfl rfl rfl ?_ | refine runL_g rfl rfl (qt_pev tok rfl) rfl rfl rfl rfl rfl ?_ | refine runL_q (ql tok rfl) rfl rfl rfl ?_ | refine runL_g rfl rfl (ql tok rfl) rfl rfl rfl rfl rfl ?_ | (refine runL_op0 (sst tok rfl rfl rfl rfl rfl) ?_; rintro _ _ _ ⟨rfl, rfl, rfl⟩) | (refine runL_op (st_box rfl) rfl rfl rfl ?_; rintro _ _ _ ⟨_, rfl, rfl, rfl⟩) | (refine runL_op (st_alloc tok rfl) rfl rfl rfl ?_; rintro _ _ _ ⟨_, rfl, rfl, rfl⟩) | (refine runL_op (st_buildSlice tok rfl rfl rfl rfl rfl rfl rfl) rfl rfl rfl ?_; rintro _ _ _ ⟨_, rfl, rfl, rfl⟩))
    exact run_ret hC (rs := [.tmp 2]) rfl (resT rfl resN) (fun _ h => h) ⟨by rw [refCheck, if_neg h1, if_pos h2]; rfl, rfl, rfl⟩
  · have h2 : ¬ (topR s).1 ≠ (s.size : Int) := by simpa using h
    repeat (first | with_reducible (first | refine run_seq ?_ | refine run_region ?_ | refine runL_nil ?_ | refine run_skip ?_ | refine run_block ?_ | refine run_inBlock ?_) | refine run_exit rfl ?_ | refine runL_q (qt_pev tok rfl) rfl rfl rfl ?_ | refine runL_g rfl rfl (qt_pev tok rfl) rfl rfl rfl rfl rfl ?_ | refine runL_q (ql tok rfl) rfl rfl rfl ?_ | refine runL_g rfl rfl (ql tok rfl) rfl rfl rfl rfl rfl ?_ | (refine runL_op0 (sst tok rfl rfl rfl rfl rfl) ?_; rintro _ _ _ ⟨rfl, rfl, rfl⟩) | (refine runL_op (st_box rfl) rfl rfl rfl ?_; rintro _ _ _ ⟨_, rfl, rfl, rfl⟩) | (refine runL_op (st_alloc tok rfl) rfl rfl rfl ?_; rintro _ _ _ ⟨_, rfl, rfl, rfl⟩) | (refine runL_op (st_buildSlice tok rfl rfl rfl rfl rfl rfl rfl) rfl rfl rfl ?_; rintro _ _ _ ⟨_, rfl, rfl, rfl⟩))
    exact run_ret hC (rs := [.tmp 2]) rfl (resT rfl resN) (fun _ h => h) ⟨by rw [refCheck, if_neg h1, if_neg h2]; rfl, rfl, rfl⟩
theorem ext_all (s : ByteArray) : s.extract 0 s.size = s := by
  apply ByteArray.ext
  simp
theorem refCheck_imp {s : ByteArray} (hs : s.size < 4611686018427387904) (h : refCheck s = 0) : checkR s = 0 := by
  have h1 : ¬ (topR s).2 ≠ 0 := fun h1 => by rw [refCheck, if_pos h1] at h; exact h1 h
  have h2 : ¬ (topR s).1 ≠ (s.size : Int) := fun h2 => by rw [refCheck, if_neg h1, if_pos h2] at h; cases h
  have h3 : (refRead 16 s).2 = 0 := by
    apply Classical.byContradiction
    intro h3
    rw [topR, if_pos h3] at h1
    exact h1 h3
  have h4 : ¬ 16384 < (refRead 16 s).1 := fun h4 => by rw [topR, if_neg (by simp [h3]), if_pos h4] at h1; exact h1 (by decide)
  obtain ⟨n, hn, _, hw⟩ := refRead_imp 16 s hs h3
  have h5 := hw s 0 (Nat.zero_le _) (ext_all s)
  rw [topR, if_neg (by simp [h3]), if_neg h4] at h2
  have h6 : n = s.size := by
    have : (refRead 16 s).1 = (s.size : Int) := by simpa using h2
    omega
  have hrr : readR (walkR s 16 0) = ((n : Int), 0) := by
    rw [h5, readR]
    simp only [Nat.zero_add]
    rw [if_neg (by omega)]
  rw [checkR, hrr, if_neg (by simp [h6])]
end Go.Proofs.Ytpmepmdngdkafaa
namespace Go.Proofs.Ytpmepmdngdkafaa
open Go.Chi

/-! ### the document's readers answer as the program's -/
def rawV (s : ByteArray) : Nat → Nat
  | 0 => 0
  | i + 1 => rawV s i * 256 + (byte s (i + 1)).toNat
theorem rawV_lt (s : ByteArray) : ∀ i, rawV s i < 256 ^ i
  | 0 => show (0 : Nat) < 1 by decide
  | i + 1 => by
    have := rawV_lt s i
    have hb := byte_pos s (i + 1)
    rw [rawV, Nat.pow_succ]
    omega
theorem refV_raw (s : ByteArray) : ∀ i, i ≤ 8 → refV s i = (rawV s i : Int)
  | 0, _ => rfl
  | i + 1, h => by
    have ih := refV_raw s i (by omega)
    have hb := byte_pos s (i + 1)
    have hlt := rawV_lt s i
    have h7 : 256 ^ i ≤ 256 ^ 7 := Nat.pow_le_pow_right (by decide) (by omega)
    have h7' : rawV s i < 72057594037927936 := by
      have : (256 : Nat) ^ 7 = 72057594037927936 := by decide
      omega
    rw [refV, ih, rawV, u64_wrap, u64_wrap, u64_wrap]
    omega
theorem raw_one (s : ByteArray) : rawV s 1 = (byte s 1).toNat := by simp [rawV]
theorem raw_pos {s : ByteArray} (h : byte s 1 ≠ 0) : ∀ i, rawV s (i + 1) ≠ 0
  | 0 => by
    have hb := byte_pos s 1
    show rawV s 1 ≠ 0
    rw [raw_one]
    omega
  | i + 1 => by
    have := raw_pos h i
    rw [rawV]
    omega
theorem ext_snoc (s : ByteArray) {i : Nat} (h : i + 1 < s.size) : s.extract 1 (i + 2) = s.extract 1 (i + 1) ++ bytesI [byte s (i + 1)] := by
  have hb : bytesI [byte s (i + 1)] = ⟨#[s[i + 1]'h]⟩ := by
    have hx : byte s (i + 1) = ((s[i + 1]'h).toNat : Int) := by rw [byte, getElem?_pos s (i + 1) h]; rfl
    rw [hx]
    simp [bytesI]
    rfl
  rw [hb]
  apply ByteArray.ext
  apply Array.ext'
  simp only [ByteArray.data_append, ByteArray.data_extract, Array.toList_append, Array.toList_extract, List.extract_eq_take_drop]
  have hl : s.data.toList.length = s.size := by simp
  have hg : (s[i + 1]'h) = s.data.toList[i + 1]'(by omega) := rfl
  rw [hg]
  have h1 : i + 2 - 1 = i + 1 := by omega
  have h2 : i + 1 - 1 = i := by omega
  rw [h1, h2, List.take_add_one, List.getElem?_drop, show 1 + i = i + 1 by omega, List.getElem?_eq_getElem (by omega)]
  rfl
theorem dig_raw {s : ByteArray} (h : byte s 1 ≠ 0) : ∀ i, i + 1 < s.size → digN (rawV s (i + 1)) = s.extract 1 (i + 2)
  | 0, hs => by
    have hb := byte_pos s 1
    have h0 : rawV s 1 ≠ 0 := raw_pos h 0
    have hd : digN (rawV s 1) = digN (rawV s 1 / 256) ++ bytesI [((rawV s 1 % 256 : Nat) : Int)] := by rw [digN, if_neg h0]
    rw [hd, ext_snoc s hs]
    have e1 : rawV s 1 / 256 = 0 := by rw [raw_one]; omega
    have e2 : ((rawV s 1 % 256 : Nat) : Int) = byte s 1 := by rw [raw_one]; omega
    rw [e1, e2, digN_zero]
    congr 1
    apply ByteArray.ext
    simp
  | i + 1, hs => by
    have ih := dig_raw h i (by omega)
    have hb := byte_pos s (i + 2)
    have h0 : rawV s (i + 2) ≠ 0 := raw_pos h (i + 1)
    have hd : digN (rawV s (i + 2)) = digN (rawV s (i + 2) / 256) ++ bytesI [((rawV s (i + 2) % 256 : Nat) : Int)] := by rw [digN, if_neg h0]
    have e0 : rawV s (i + 2) = rawV s (i + 1) * 256 + (byte s (i + 2)).toNat := rfl
    have e1 : rawV s (i + 2) / 256 = rawV s (i + 1) := by omega
    have e2 : ((rawV s (i + 2) % 256 : Nat) : Int) = byte s (i + 2) := by omega
    rw [show i + 1 + 1 = i + 2 by omega, hd, e1, e2, ih, ext_snoc s hs]
theorem ext_head (s : ByteArray) {n : Nat} (h : 0 < s.size) (hn : 1 ≤ n) : s.extract 0 n = bytesI [byte s 0] ++ s.extract 1 n := by
  have hb : bytesI [byte s 0] = ⟨#[s[0]'h]⟩ := by
    have hx : byte s 0 = ((s[0]'h).toNat : Int) := by rw [byte, getElem?_pos s 0 h]; rfl
    rw [hx]
    simp [bytesI]
    rfl
  rw [hb]
  apply ByteArray.ext
  apply Array.ext'
  simp only [ByteArray.data_append, ByteArray.data_extract, Array.toList_append, Array.toList_extract, List.extract_eq_take_drop]
  have hl : s.data.toList.length = s.size := by simp
  have hg : s.data.toList[0]? = some (s[0]'h) := by rw [List.getElem?_eq_getElem (by omega)]; rfl
  generalize (s[0]'h) = y at hg ⊢
  cases hd : s.data.toList with
  | nil => rw [hd] at hl; simp at hl; omega
  | cons x l =>
    rw [hd] at hg
    simp at hg
    obtain ⟨m, rfl⟩ : ∃ m, n = m + 1 := ⟨n - 1, by omega⟩
    simp [hg]
theorem refNum_eq (s : ByteArray) : refNum s = numR s := by
  by_cases he : (refNum s).2.2 = 0
  · exact (refNum_imp he).symm
  have hb := byte_pos s 0
  have hr := rest1_size (s := s)
  unfold refNum at he ⊢
  unfold numR
  by_cases h0 : s.size = 0
  · rw [if_pos h0, if_pos h0]
  rw [if_neg h0] at he ⊢
  rw [if_neg h0]
  by_cases h1 : byte s 0 < 248
  · rw [if_pos h1] at he; exact absurd rfl he
  rw [if_neg h1] at he ⊢
  rw [if_neg (show ¬ byte s 0 ≤ 247 by omega)]
  have hk : (refK s : Int) = byte s 0 - 247 := by unfold refK; omega
  by_cases h2 : s.size < refK s + 1
  · rw [if_pos h2, if_pos (show ((rest1 s).size : Int) < byte s 0 - 247 by omega)]
  rw [if_neg h2] at he ⊢
  rw [if_neg (show ¬ ((rest1 s).size : Int) < byte s 0 - 247 by omega)]
  by_cases h3 : numB (refV s (refK s)).toNat ≠ s.extract 0 (refK s + 1)
  · rw [if_pos h3]
    have hz : (byte s 0 - 247).toNat = refK s := rfl
    rw [hz, ← refV_eq s (refK s), byte_rest]
    by_cases h4 : byte s (0 + 1) = 0 ∨ refV s (refK s) ≤ 247
    · rw [if_pos h4]
    · exfalso
      apply h3
      have h5 : byte s 1 ≠ 0 := fun e => h4 (.inl e)
      have h6 : ¬ refV s (refK s) ≤ 247 := fun e => h4 (.inr e)
      have hk8 : refK s ≤ 8 := by omega
      have hraw := refV_raw s (refK s) hk8
      obtain ⟨m, hm⟩ : ∃ m, refK s = m + 1 := ⟨refK s - 1, by omega⟩
      have hd := dig_raw h5 m (by omega)
      rw [hraw, Int.toNat_natCast, numB, if_neg (by omega), hm, hd, show m + 1 + 1 = m + 2 by omega, ext_head s (n := m + 2) (by omega) (by omega)]
      congr 2
      have hsz : (s.extract 1 (m + 2)).size = m + 1 := by simp; omega
      rw [hsz]
      have e1 : IntKind.i64.wrap (247 + ((m + 1 : Nat) : Int)) = ((248 + m : Nat) : Int) := by
        rw [show (247 : Int) + ((m + 1 : Nat) : Int) = ((248 + m : Nat) : Int) by omega, wrap64_nat (by omega)]
      rw [e1, u8_nat (by omega)]
      congr 1
      omega
  · rw [if_neg h3] at he
    exact absurd rfl he
theorem refText_eq (s : ByteArray) (most : Nat) : refText s most = textR s most := by
  rw [refText, textR, refNum_eq]
theorem abc_all' : ∀ n : Fin 128, inAbc ((n.val : Nat) : Int) = true → nameB ((n.val : Nat) : Int) = true := by decide +kernel
theorem named_imp {s : ByteArray} : ∀ f p, s.size < p + f → namedAt s f p = true → ∀ i, p ≤ i → i < s.size → nameB (byte s i) = true
  | 0, p, hf, _, i, hi, hs => by omega
  | f + 1, p, hf, h, i, hi, hs => by
    have hp : p < s.size := by omega
    rw [namedAt, if_pos hp, Bool.and_eq_true] at h
    have hlow : (s[p]'hp).toNat < 128 := by
      apply Classical.byContradiction
      intro hn
      have := (decode_high s p hp (by omega)).1
      have h1 := h.1
      rw [inAbc, decide_eq_true_eq, runeIx, if_neg (by omega)] at h1
      omega
    rw [decode_ascii s p hp hlow] at h
    by_cases e : i = p
    · subst e
      have hx : byte s i = ((s[i]'hp).toNat : Int) := by rw [byte, getElem?_pos s i hp]; rfl
      rw [hx]
      exact abc_all' ⟨_, hlow⟩ h.1
    · exact named_imp f (p + 1) (by omega) h.2 i (by omega) hs
theorem name_eq (s : ByteArray) : nameR s = namedR s := by
  rw [Bool.eq_iff_iff]
  constructor
  · exact nameR_imp
  · intro h
    rw [namedR, Bool.and_eq_true] at h
    rw [nameR, h.2, Bool.and_true, List.all_eq_true]
    intro i hi
    exact named_imp _ 0 (by omega) h.1 i (Nat.zero_le _) (List.mem_range.1 hi)
end Go.Proofs.Ytpmepmdngdkafaa
namespace Go.Proofs.Ytpmepmdngdkafaa
open Go.Chi

theorem numR_err {s : ByteArray} (h : (numR s).2.2 ≠ 0) : (numR s).1 = 0 ∧ (numR s).2.1 = 0 := by
  unfold numR at h ⊢
  repeat' split
  all_goals first | exact ⟨rfl, rfl⟩ | (rename_i h1 h2 h3 h4; simp [h1, h2, h3, h4] at h) | (rename_i h1 h2; simp [h1, h2] at h)
/-- what stands ahead of a term's parts: the document's answer, error by error -/
theorem head_eq (s : ByteArray) (hs : s.size < 4611686018427387904) : match frontR s with | .ok x => headR s = ((x.1 : Int), (x.2 : Int), 0) | .error e => (headR s).2.2 = e ∧ e ≠ 0 := by
  by_cases he : (headR s).2.2 = 0
  · obtain ⟨n, p, h1, h2⟩ := headR_imp hs he
    rw [h2]; exact h1
  · have hr := rest1_size (s := s)
    unfold headR at he ⊢
    unfold frontR
    by_cases h0 : s.size = 0
    · rw [if_pos h0, if_pos h0]; exact ⟨rfl, by decide⟩
    rw [if_neg h0] at he ⊢
    rw [if_neg h0]
    by_cases h1 : byte s 0 = 100
    · rw [if_pos h1] at he ⊢
      rw [if_pos h1, refText_eq] at *
      have he' : (textR (rest1 s) 1024).2.2 ≠ 0 := he
      rw [if_pos he']
      exact ⟨rfl, he'⟩
    rw [if_neg h1] at he ⊢
    rw [if_neg h1]
    by_cases h2 : byte s 0 = 97
    · rw [if_pos h2] at he ⊢
      rw [if_pos h2]
      rw [refText_eq, name_eq] at he ⊢
      by_cases h3 : (textR (rest1 s) 32).2.2 ≠ 0
      · rw [if_pos h3, if_neg (fun h => h3 h.1)]
        exact ⟨rfl, h3⟩
      · rw [if_neg h3]
        have h3' : (textR (rest1 s) 32).2.2 = 0 := by simpa using h3
        by_cases h4 : namedR (textR (rest1 s) 32).1 = false
        · rw [if_pos h4, if_pos ⟨h3', h4⟩]; exact ⟨rfl, by decide⟩
        · rw [if_neg (fun h => h4 h.2)] at he
          exact absurd h3' he
    rw [if_neg h2] at he ⊢
    rw [if_neg h2]
    by_cases h3 : byte s 0 = 114
    · rw [if_pos h3] at he ⊢
      rw [if_pos h3]
      rw [refNum_eq] at he ⊢
      by_cases h4 : (numR (rest1 s)).2.2 ≠ 0
      · rw [if_pos h4, if_neg (fun h => h4 h.1)]
        exact ⟨rfl, h4⟩
      · rw [if_neg h4]
        have h4' : (numR (rest1 s)).2.2 = 0 := by simpa using h4
        by_cases h5 : 32 < (numR (rest1 s)).1
        · rw [if_pos h5, if_pos ⟨h4', h5⟩]; exact ⟨rfl, by decide⟩
        · rw [if_neg (fun h => h5 h.2)] at he
          exact absurd h4' he
    rw [if_neg h3] at he ⊢
    rw [if_neg h3]
    by_cases h4 : byte s 0 = 104
    · rw [if_pos h4] at he; exact absurd rfl he
    rw [if_neg h4] at he ⊢
    rw [if_neg h4]
    by_cases h5 : byte s 0 = 109
    · rw [if_pos h5] at he; exact absurd rfl he
    rw [if_neg h5] at he ⊢
    rw [if_neg h5]
    by_cases h6 : byte s 0 = 115
    · rw [if_pos h6] at he; exact absurd rfl he
    rw [if_neg h6, if_neg h6]
    exact ⟨rfl, by decide⟩
/-- a reading of the document's at a place -/
theorem refRead_eq : ∀ (k : Nat) (w : ByteArray) (a : Nat), w.size < 4611686018427387904 → a ≤ w.size → match walkR w k a with | .ok y => refRead k (w.extract a w.size) = (((y - a : Nat) : Int), 0) ∧ a ≤ y | .error e => refRead k (w.extract a w.size) = (0, e) ∧ e ≠ 0
  | 0, w, a, _, _ => ⟨rfl, by decide⟩
  | k + 1, w, a, hw, ha => by
    have hz : (w.extract a w.size).size = w.size - a := by simp
    have hh := head_eq (w.extract a w.size) (by omega)
    rw [walkR, refRead]
    cases hf : frontR (w.extract a w.size) with
    | error e =>
      rw [hf] at hh
      simp only at hh ⊢
      rw [rloop_err _ _ (by rw [hh.1]; exact hh.2), finR, if_pos (by rw [hh.1]; exact hh.2), hh.1]
      exact ⟨rfl, hh.2⟩
    | ok x =>
      rw [hf] at hh
      simp only at hh ⊢
      have hfl := frontR_len (n := x.1) (p := x.2) hf
      rw [hh]
      simp only [Int.toNat_natCast]
      have key : ∀ (i n : Nat), a + n ≤ w.size → match iter (walkR w k) i (a + n) with | .ok y => rloop (refRead k) (w.extract a w.size) i (n : Int) 0 = (((y - a : Nat) : Int), 0) ∧ a ≤ y | .error e => (rloop (refRead k) (w.extract a w.size) i (n : Int) 0).2 = e ∧ e ≠ 0 := by
        intro i
        induction i with
        | zero => intro n hn; exact ⟨by rw [rloop, show a + n - a = n by omega], by omega⟩
        | succ i ih =>
          intro n hn
          rw [iter, rloop, if_neg (by simp), Int.toNat_natCast]
          have hx := ext_ext w ha hn
          rw [hx]
          have hr := refRead_eq k w (a + n) hw hn
          cases hwk : walkR w k (a + n) with
          | error e =>
            rw [hwk] at hr
            simp only at hr ⊢
            rw [hr.1, rloop_err _ _ hr.2]
            exact ⟨rfl, hr.2⟩
          | ok y =>
            rw [hwk] at hr
            simp only at hr ⊢
            have hyl := walkR_len w k (a + n) y hn hwk
            rw [hr.1]
            have e1 : IntKind.i64.wrap ((n : Int) + ((y - (a + n) : Nat) : Int)) = ((y - a : Nat) : Int) := by
              rw [show (n : Int) + ((y - (a + n) : Nat) : Int) = ((y - a : Nat) : Int) by omega, wrap64_nat (by omega)]
            simp only [e1]
            have := ih (y - a) (by omega)
            rw [show a + (y - a) = y by omega] at this
            exact this
      have hk := key x.2 x.1 (by omega)
      cases hit : iter (walkR w k) x.2 (a + x.1) with
      | error e =>
        rw [hit] at hk
        simp only at hk ⊢
        rw [finR, if_pos (by rw [hk.1]; exact hk.2), hk.1]
        exact ⟨rfl, hk.2⟩
      | ok y =>
        rw [hit] at hk
        simp only at hk ⊢
        rw [finR, hk.1, if_neg (by simp)]
        exact ⟨rfl, hk.2⟩
/-- whether a text is a term: the document's answer -/
theorem refCheck_eq (s : ByteArray) (hs : s.size < 4611686018427387904) : refCheck s = checkR s := by
  have h := refRead_eq 16 s 0 hs (Nat.zero_le _)
  rw [ext_all] at h
  unfold refCheck checkR topR
  cases hw : walkR s 16 0 with
  | error e =>
    rw [hw] at h
    simp only at h
    rw [h.1]
    simp [readR, h.2]
  | ok y =>
    rw [hw] at h
    simp only [Nat.sub_zero] at h
    rw [h.1]
    by_cases hy : 16384 < y
    · have hy' : (16384 : Int) < (y : Int) := by omega
      simp [readR, hy, hy']
    · have hy' : ¬ (16384 : Int) < (y : Int) := by omega
      simp only [readR, hy, hy', if_false]
      by_cases e : (y : Int) = (s.size : Int) <;> simp [e]
end Go.Proofs.Ytpmepmdngdkafaa
namespace Go.Proofs.Ytpmepmdngdkafaa
open Go.Chi

/-! ### the document's answer: which transactions may be -/
theorem ref06May_ok (M : Mem) (L : HL) (t : ByteArray) (ht : t.size < 4611686018427387904) : TrQ Try.prog 37 [.string t] M L (.bool (isT t)) := by
  refine Tr.intro 6 Try.func37 rfl rfl Try.call37 rfl ?_
  intro C hC hro
  repeat (first | with_reducible (first | refine run_seq ?_ | refine run_region ?_ | refine runL_nil ?_ | refine run_skip ?_ | refine run_block ?_ | refine run_inBlock ?_) | refine run_exit rfl ?_ | refine runL_q (qt_pev tok rfl) rfl rfl rfl ?_ | refine runL_g rfl rfl (qt_pev tok rfl) rfl rfl rfl rfl rfl ?_ | refine runL_q (ql tok rfl) rfl rfl rfl ?_ | refine runL_g rfl rfl (ql tok rfl) rfl rfl rfl rfl rfl ?_ | (refine runL_op0 (sst tok rfl rfl rfl rfl rfl) ?_; rintro _ _ _ ⟨rfl, rfl, rfl⟩) | (refine runL_op (st_box rfl) rfl rfl rfl ?_; rintro _ _ _ ⟨_, rfl, rfl, rfl⟩) | (refine runL_op (st_alloc tok rfl) rfl rfl rfl ?_; rintro _ _ _ ⟨_, rfl, rfl, rfl⟩) | (refine runL_op (st_buildSlice tok rfl rfl rfl rfl rfl rfl rfl) rfl rfl rfl ?_; rintro _ _ _ ⟨_, rfl, rfl, rfl⟩) | refine runL_q (qt_callF rfl (fun _ => refCheck_ok _ _ t ht)) rfl rfl rfl ?_)
  exact run_ret hC (rs := [.tmp 2]) rfl (resT rfl resN) (fun _ h => h) ⟨by rw [isT, ← refCheck_eq _ ht]; rfl, rfl, rfl⟩
theorem refOrg_ok (M : Mem) (L : HL) (n : Int) : TrQ Try.prog 52 [.int .i64 n] M L (.bool (orgW n)) := by
  refine Tr.intro 9 Try.func52 rfl rfl Try.call52 rfl ?_
  intro C hC hro
  repeat (first | with_reducible (first | refine run_seq ?_ | refine run_region ?_ | refine runL_nil ?_ | refine run_skip ?_ | refine run_block ?_ | refine run_inBlock ?_) | refine run_exit rfl ?_ | refine runL_q (qt_pev tok rfl) rfl rfl rfl ?_ | refine runL_g rfl rfl (qt_pev tok rfl) rfl rfl rfl rfl rfl ?_ | refine runL_q (ql tok rfl) rfl rfl rfl ?_ | refine runL_g rfl rfl (ql tok rfl) rfl rfl rfl rfl rfl ?_ | (refine runL_op0 (sst tok rfl rfl rfl rfl rfl) ?_; rintro _ _ _ ⟨rfl, rfl, rfl⟩) | (refine runL_op (st_box rfl) rfl rfl rfl ?_; rintro _ _ _ ⟨_, rfl, rfl, rfl⟩) | (refine runL_op (st_alloc tok rfl) rfl rfl rfl ?_; rintro _ _ _ ⟨_, rfl, rfl, rfl⟩) | (refine runL_op (st_buildSlice tok rfl rfl rfl rfl rfl rfl rfl) rfl rfl rfl ?_; rintro _ _ _ ⟨_, rfl, rfl, rfl⟩))
  exact run_ret hC (rs := [.tmp 2]) rfl (resT rfl resN) (fun _ h => h) ⟨rfl, rfl, rfl⟩
theorem refTx_ok (M : Mem) (L : HL) (t : Tx) : TrQ Try.prog 51 [.agg ⟨txC t⟩] M L (.bool (mayTx t)) := by
  refine Tr.intro 26 Try.func51 rfl rfl Try.call51 rfl ?_
  intro C hC hro
  repeat (first | with_reducible (first | refine run_seq ?_ | refine run_region ?_ | refine runL_nil ?_ | refine run_skip ?_ | refine run_block ?_ | refine run_inBlock ?_) | refine run_exit rfl ?_ | refine runL_q (qt_pev tok rfl) rfl rfl rfl ?_ | refine runL_g rfl rfl (qt_pev tok rfl) rfl rfl rfl rfl rfl ?_ | refine runL_q (ql tok rfl) rfl rfl rfl ?_ | refine runL_g rfl rfl (ql tok rfl) rfl rfl rfl rfl rfl ?_ | (refine runL_op0 (sst tok rfl rfl rfl rfl rfl) ?_; rintro _ _ _ ⟨rfl, rfl, rfl⟩) | (refine runL_op (st_box rfl) rfl rfl rfl ?_; rintro _ _ _ ⟨_, rfl, rfl, rfl⟩) | (refine runL_op (st_alloc tok rfl) rfl rfl rfl ?_; rintro _ _ _ ⟨_, rfl, rfl, rfl⟩) | (refine runL_op (st_buildSlice tok rfl rfl rfl rfl rfl rfl rfl) rfl rfl rfl ?_; rintro _ _ _ ⟨_, rfl, rfl, rfl⟩) | refine runL_q (qt_callF rfl (fun _ => refOrg_ok _ _ _)) rfl rfl rfl ?_)
  exact run_ret hC (rs := [.tmp 2]) rfl (resT rfl resN) (fun _ h => h.drop) ⟨rfl, rfl, rfl⟩
def badM2 (t : Tx) (first : Bool) (last : Int) (x : Mb) : Bool := (((!orgW x.org) || (x.org == t.coord)) || ((!first) && decide (x.org ≤ last))) || (!isT x.digest)
theorem memGo_first (t : Tx) (x : Mb) : badM t (-1) x = badM2 t true 0 x := by
  unfold badM badM2 isT
  cases h : orgW x.org
  · simp
  · have : decide (x.org ≤ -1) = false := by simp [orgW] at h ⊢; omega
    rw [this]
    simp [bne]
theorem memGo_next (t : Tx) (x : Mb) (last : Int) : badM t last x = badM2 t false last x := by
  unfold badM badM2 isT
  simp [bne]
set_option maxRecDepth 10000 in
set_option maxHeartbeats 8000000 in
theorem refMb_ok (M : Mem) (L : HL) (t : Tx) (s : SMb) (hs : MbOk M s) (hd : ∀ m ∈ s.xs, m.digest.size < 4611686018427387904) : TrQ Try.prog 53 [.agg ⟨txC t⟩, s.v] M L (.bool (mayMb t s.xs)) := by
  have hl := hs.len
  have h6 := hs.2
  refine Tr.intro 64 Try.func53 rfl rfl Try.call53 rfl ?_
  intro C hC hro
  repeat (first | with_reducible (first | refine run_seq ?_ | refine run_region ?_ | refine runL_nil ?_ | refine run_skip ?_ | refine run_block ?_ | refine run_inBlock ?_) | refine run_exit rfl ?_ | refine runL_q (qt_pev tok rfl) rfl rfl rfl ?_ | refine runL_g rfl rfl (qt_pev tok rfl) rfl rfl rfl rfl rfl ?_ | refine runL_q (ql tok rfl) rfl rfl rfl ?_ | refine runL_g rfl rfl (ql tok rfl) rfl rfl rfl rfl rfl ?_ | (refine runL_op0 (sst tok rfl rfl rfl rfl rfl) ?_; rintro _ _ _ ⟨rfl, rfl, rfl⟩) | (refine runL_op (st_box rfl) rfl rfl rfl ?_; rintro _ _ _ ⟨_, rfl, rfl, rfl⟩) | (refine runL_op (st_alloc tok rfl) rfl rfl rfl ?_; rintro _ _ _ ⟨_, rfl, rfl, rfl⟩) | (refine runL_op (st_buildSlice tok rfl rfl rfl rfl rfl rfl rfl) rfl rfl rfl ?_; rintro _ _ _ ⟨_, rfl, rfl, rfl⟩))
  rename_i b2
  refine run_cond rfl (fun h => ?_) (fun h => ?_)
  · have h1 : (decide ((s.len : Int) < 1) || decide ((s.len : Int) > 6)) = true := h
    have h2 : mayMb t s.xs = false := by
      have : (decide ((s.xs.length : Int) ≥ 1) && decide ((s.xs.length : Int) ≤ 6)) = false := by rw [hl]; simp at h1 ⊢; omega
      rw [mayMb, this, Bool.and_false]
    rw [h2] at hC
    repeat (first | with_reducible (first | refine run_seq ?_ | refine run_region ?_ | refine runL_nil ?_ | refine run_skip ?_ | refine run_block ?_ | refine run_inBlock ?_) | refine run_exit rfl ?_ | refine runL_q (qt_pev tok rfl) rfl rfl rfl ?_ | refine runL_g rfl rfl (qt_pev tok rfl) rfl rfl rfl rfl rfl ?_ | refine runL_q (ql tok rfl) rfl rfl rfl ?_ | refine runL_g rfl rfl (ql tok rfl) rfl rfl rfl rfl rfl ?_ | (refine runL_op0 (sst tok rfl rfl rfl rfl rfl) ?_; rintro _ _ _ ⟨rfl, rfl, rfl⟩) | (refine runL_op (st_box rfl) rfl rfl rfl ?_; rintro _ _ _ ⟨_, rfl, rfl, rfl⟩) | (refine runL_op (st_alloc tok rfl) rfl rfl rfl ?_; rintro _ _ _ ⟨_, rfl, rfl, rfl⟩) | (refine runL_op (st_buildSlice tok rfl rfl rfl rfl rfl rfl rfl) rfl rfl rfl ?_; rintro _ _ _ ⟨_, rfl, rfl, rfl⟩))
    exact run_ret hC (rs := [.tmp 4]) rfl (resT rfl resN) (fun _ h => h.drop) ⟨rfl, rfl, rfl⟩
  have h1 : (decide ((s.len : Int) < 1) || decide ((s.len : Int) > 6)) = false := h
  have h2 : mayMb t s.xs = memGo t (-1) s.xs := by
    have : (decide ((s.xs.length : Int) ≥ 1) && decide ((s.xs.length : Int) ≤ 6)) = true := by rw [hl]; simp at h1 ⊢; omega
    rw [mayMb, this, Bool.and_true]
  rw [h2] at hC
  repeat (first | with_reducible (first | refine run_seq ?_ | refine run_region ?_ | refine runL_nil ?_ | refine run_skip ?_ | refine run_block ?_ | refine run_inBlock ?_) | refine run_exit rfl ?_ | refine runL_q (qt_pev tok rfl) rfl rfl rfl ?_ | refine runL_g rfl rfl (qt_pev tok rfl) rfl rfl rfl rfl rfl ?_ | refine runL_q (ql tok rfl) rfl rfl rfl ?_ | refine runL_g rfl rfl (ql tok rfl) rfl rfl rfl rfl rfl ?_ | (refine runL_op0 (sst tok rfl rfl rfl rfl rfl) ?_; rintro _ _ _ ⟨rfl, rfl, rfl⟩) | (refine runL_op (st_box rfl) rfl rfl rfl ?_; rintro _ _ _ ⟨_, rfl, rfl, rfl⟩) | (refine runL_op (st_alloc tok rfl) rfl rfl rfl ?_; rintro _ _ _ ⟨_, rfl, rfl, rfl⟩) | (refine runL_op (st_buildSlice tok rfl rfl rfl rfl rfl rfl rfl) rfl rfl rfl ?_; rintro _ _ _ ⟨_, rfl, rfl, rfl⟩))
  refine run_loopN (fun j σ1 M1 L1 => j ≤ s.len ∧ (∃ last, (j = 0 → last = -1) ∧ (∀ i, j = i + 1 → ∀ m, s.xs[i]? = some m → last = m.org) ∧ memGo t last (s.xs.drop j) = memGo t (-1) s.xs) ∧ M = M1 ∧ L1 = (b2, .cells ⟨txC t⟩ 23 (0, 0)) :: L ∧ σ1 = [(5, .int .i64 (j : Int)), (1, s.v), (2, .pointer (some ⟨b2, 0, none⟩))]) s.len [(5, .int .i64 ((0 : Nat) : Int)), (1, s.v), (2, .pointer (some ⟨b2, 0, none⟩))] ?_ ⟨Nat.zero_le _, ⟨-1, fun _ => rfl, fun i hi => by omega, rfl⟩, rfl, rfl, rfl⟩ (fun j _ _ _ h => h.1) ?_
  · exact ⟨rfl, rfl, rfl, trivial⟩
  rintro j _ _ _ ⟨hj, ⟨last, hl0, hl1, hgo⟩, rfl, rfl, rfl⟩ hnext
  repeat (first | with_reducible (first | refine run_seq ?_ | refine run_region ?_ | refine runL_nil ?_ | refine run_skip ?_ | refine run_block ?_ | refine run_inBlock ?_) | refine run_exit rfl ?_ | refine runL_q (qt_pev tok rfl) rfl rfl rfl ?_ | refine runL_g rfl rfl (qt_pev tok rfl) rfl rfl rfl rfl rfl ?_ | refine runL_q (ql tok rfl) rfl rfl rfl ?_ | refine runL_g rfl rfl (ql tok rfl) rfl rfl rfl rfl rfl ?_ | (refine runL_op0 (sst tok rfl rfl rfl rfl rfl) ?_; rintro _ _ _ ⟨rfl, rfl, rfl⟩) | (refine runL_op (st_box rfl) rfl rfl rfl ?_; rintro _ _ _ ⟨_, rfl, rfl, rfl⟩) | (refine runL_op (st_alloc tok rfl) rfl rfl rfl ?_; rintro _ _ _ ⟨_, rfl, rfl, rfl⟩) | (refine runL_op (st_buildSlice tok rfl rfl rfl rfl rfl rfl rfl) rfl rfl rfl ?_; rintro _ _ _ ⟨_, rfl, rfl, rfl⟩))
  refine run_cond rfl (fun h => ?_) (fun h => ?_)
  · have hlt : j < s.len := by simpa using h
    obtain ⟨b, off, m, hma, hm, hc⟩ := SMb.at_ hs.1 hlt
    have hv : s.v = .slice (some ⟨b, off, none⟩) s.len s.cap := by rw [← hma]; rfl
    have hdr : s.xs.drop j = m :: s.xs.drop (j + 1) := by
      obtain ⟨hl, he⟩ := List.getElem?_eq_some_iff.1 hm
      rw [← he]; exact (List.getElem_cons_drop (h := hl)).symm
    rw [hdr, memGo] at hgo
    have hmd := hd m (List.mem_of_getElem? hm)
    have hnx : badM t last m = false → (∃ last, (j + 1 = 0 → last = -1) ∧ (∀ i, j + 1 = i + 1 → ∀ m, s.xs[i]? = some m → last = m.org) ∧ memGo t last (s.xs.drop (j + 1)) = memGo t (-1) s.xs) := fun hb => ⟨m.org, fun h => by omega, fun i hi m' hm' => by
      obtain rfl : j = i := by omega
      rw [hm] at hm'; cases hm'; rfl, by rw [← hgo, if_neg (by rw [hb]; simp)]⟩
    refine run_as 1 (.slice (some ⟨b, off, none⟩) s.len s.cap) rfl hv ?_
    cases j with
    | zero =>
      have e0 := hl0 rfl
      subst e0
      rw [memGo_first] at hgo hnx
      repeat (first | with_reducible (first | refine run_seq ?_ | refine run_region ?_ | refine runL_nil ?_ | refine run_skip ?_ | refine run_block ?_ | refine run_inBlock ?_) | refine run_exit rfl ?_ | refine runL_q (qt_pev tok rfl) rfl rfl rfl ?_ | refine runL_gK rfl rfl (qt_pev tok rfl) rfl rfl rfl ?_ | refine runL_gF rfl rfl rfl rfl rfl ?_ | refine runL_g rfl rfl (qt_pev tok rfl) rfl rfl rfl rfl rfl ?_ | refine runL_q (ql tok rfl) rfl rfl rfl ?_ | refine runL_gK rfl rfl (ql tok rfl) rfl rfl rfl ?_ | refine runL_gF rfl rfl rfl rfl rfl ?_ | refine runL_g rfl rfl (ql tok rfl) rfl rfl rfl rfl rfl ?_ | (refine runL_op0 (sst tok rfl rfl rfl rfl rfl) ?_; rintro _ _ _ ⟨rfl, rfl, rfl⟩) | (refine runL_op (st_box rfl) rfl rfl rfl ?_; rintro _ _ _ ⟨_, rfl, rfl, rfl⟩) | (refine runL_op (st_alloc tok rfl) rfl rfl rfl ?_; rintro _ _ _ ⟨_, rfl, rfl, rfl⟩) | (refine runL_op (st_buildSlice tok rfl rfl rfl rfl rfl rfl rfl) rfl rfl rfl ?_; rintro _ _ _ ⟨_, rfl, rfl, rfl⟩) | refine prn_start mixed ?_ | refine prn_end (by decide +kernel) ?_ | refine prn_q rfl (qt_pev tok rfl) (by decide +kernel) rfl rfl rfl ?_ | refine prn_gK rfl rfl rfl (qt_pev tok rfl) (by decide +kernel) rfl rfl rfl ?_ | refine prn_gF rfl rfl rfl (by decide +kernel) rfl rfl rfl ?_ | refine prn_g rfl rfl rfl (qt_pev tok rfl) (by decide +kernel) rfl rfl rfl rfl rfl ?_ | refine prn_q rfl (ql tok rfl) (by decide +kernel) rfl rfl rfl ?_ | refine prn_gK rfl rfl rfl (ql tok rfl) (by decide +kernel) rfl rfl rfl ?_ | refine prn_gF rfl rfl rfl (by decide +kernel) rfl rfl rfl ?_ | refine prn_g rfl rfl rfl (ql tok rfl) (by decide +kernel) rfl rfl rfl rfl rfl ?_ | (refine prn_e0 rfl (sst tok rfl rfl rfl rfl rfl) (by decide +kernel) ?_; rintro _ _ _ ⟨rfl, rfl, rfl⟩) | (refine prn_e1 rfl (st_box rfl) (by decide +kernel) rfl rfl rfl ?_; rintro _ _ _ ⟨_, rfl, rfl, rfl⟩) | (refine prn_e1 rfl (st_alloc tok rfl) (by decide +kernel) rfl rfl rfl ?_; rintro _ _ _ ⟨_, rfl, rfl, rfl⟩) | (refine prn_e1 rfl (st_buildSlice tok rfl rfl rfl rfl rfl rfl rfl) (by decide +kernel) rfl rfl rfl ?_; rintro _ _ _ ⟨_, rfl, rfl, rfl⟩) | (refine prn_o0 rfl (sst tok rfl rfl rfl rfl rfl) (by decide +kernel) ?_; rintro _ _ _ ⟨rfl, rfl, rfl⟩; refine ⟨by (repeat (first | exact trivial | refine And.intro (pend_q rfl rfl rfl (qt_pev tok rfl)) ?_ | refine And.intro (pend_q rfl rfl rfl (ql tok rfl)) ?_)), ?_⟩) | (refine prn_o1 rfl (st_box rfl) (by decide +kernel) rfl rfl rfl ?_; rintro _ _ _ ⟨_, rfl, rfl, rfl⟩; refine ⟨by (repeat (first | exact trivial | refine And.intro (pend_q rfl rfl rfl (qt_pev tok rfl)) ?_ | refine And.intro (pend_q rfl rfl rfl (ql tok rfl)) ?_)), ?_⟩) | (refine prn_o1 rfl (st_alloc tok rfl) (by decide +kernel) rfl rfl rfl ?_; rintro _ _ _ ⟨_, rfl, rfl, rfl⟩; refine ⟨by (repeat (first | exact trivial | refine And.intro (pend_q rfl rfl rfl (qt_pev tok rfl)) ?_ | refine And.intro (pend_q rfl rfl rfl (ql tok rfl)) ?_)), ?_⟩) | (refine prn_o1 rfl (st_buildSlice tok rfl rfl rfl rfl rfl rfl rfl) (by decide +kernel) rfl rfl rfl ?_; rintro _ _ _ ⟨_, rfl, rfl, rfl⟩; refine ⟨by (repeat (first | exact trivial | refine And.intro (pend_q rfl rfl rfl (qt_pev tok rfl)) ?_ | refine And.intro (pend_q rfl rfl rfl (ql tok rfl)) ?_)), ?_⟩) | (refine prn_e1 rfl (qt_pev tok rfl) (by decide +kernel) rfl rfl rfl ?_; rintro _ _ _ ⟨rfl, rfl, rfl⟩) | refine prn_q rfl (qt_indexN tok rfl rfl rfl rfl (fun _ => by omega)) (by decide +kernel) rfl rfl rfl ?_ | refine prn_gK rfl rfl rfl (qt_indexN tok rfl rfl rfl rfl (fun _ => by omega)) (by decide +kernel) rfl rfl rfl ?_ | refine prn_gF rfl rfl rfl (by decide +kernel) rfl rfl rfl ?_ | refine prn_g rfl rfl rfl (qt_indexN tok rfl rfl rfl rfl (fun _ => by omega)) (by decide +kernel) rfl rfl rfl rfl rfl ?_ | refine prn_q rfl (qt_ldM tok rfl hc rfl) (by decide +kernel) rfl rfl rfl ?_ | refine prn_gK rfl rfl rfl (qt_ldM tok rfl hc rfl) (by decide +kernel) rfl rfl rfl ?_ | refine prn_gF rfl rfl rfl (by decide +kernel) rfl rfl rfl ?_ | refine prn_g rfl rfl rfl (qt_ldM tok rfl hc rfl) (by decide +kernel) rfl rfl rfl rfl rfl ?_ | refine prn_q rfl (qt_ldM0 tok rfl hc rfl) (by decide +kernel) rfl rfl rfl ?_ | refine prn_gK rfl rfl rfl (qt_ldM0 tok rfl hc rfl) (by decide +kernel) rfl rfl rfl ?_ | refine prn_gF rfl rfl rfl (by decide +kernel) rfl rfl rfl ?_ | refine prn_g rfl rfl rfl (qt_ldM0 tok rfl hc rfl) (by decide +kernel) rfl rfl rfl rfl rfl ?_ | refine prn_q rfl (qt_callF rfl (fun _ => refOrg_ok _ _ _)) (by decide +kernel) rfl rfl rfl ?_ | refine prn_g rfl rfl rfl (qt_callF rfl (fun _ => ref06May_ok _ _ _ hmd)) (by decide +kernel) rfl rfl rfl rfl rfl ?_ | refine prn_g rfl rfl rfl (qt_dead (s := 40) (b := true) (b' := false) (v := .bool false) rfl List.mem_cons_self (by decide)) (by decide +kernel) rfl rfl rfl rfl rfl ?_)
      refine run_cond rfl (fun h => ?_) (fun h => ?_)
      · repeat (first | with_reducible (first | refine run_seq ?_ | refine run_region ?_ | refine runL_nil ?_ | refine run_skip ?_ | refine run_block ?_ | refine run_inBlock ?_) | refine run_exit rfl ?_ | refine runL_q (qt_pev tok rfl) rfl rfl rfl ?_ | refine runL_g rfl rfl (qt_pev tok rfl) rfl rfl rfl rfl rfl ?_ | refine runL_q (ql tok rfl) rfl rfl rfl ?_ | refine runL_g rfl rfl (ql tok rfl) rfl rfl rfl rfl rfl ?_ | (refine runL_op0 (sst tok rfl rfl rfl rfl rfl) ?_; rintro _ _ _ ⟨rfl, rfl, rfl⟩) | (refine runL_op (st_box rfl) rfl rfl rfl ?_; rintro _ _ _ ⟨_, rfl, rfl, rfl⟩) | (refine runL_op (st_alloc tok rfl) rfl rfl rfl ?_; rintro _ _ _ ⟨_, rfl, rfl, rfl⟩) | (refine runL_op (st_buildSlice tok rfl rfl rfl rfl rfl rfl rfl) rfl rfl rfl ?_; rintro _ _ _ ⟨_, rfl, rfl, rfl⟩))
        refine run_ret hC (rs := [.tmp 4]) rfl (resT rfl resN) (fun _ h => h.drop) ⟨?_, rfl, rfl⟩
        rw [if_pos (show badM2 t true 0 m = true from h)] at hgo
        rw [← hgo]; rfl
      · repeat (first | with_reducible (first | refine run_seq ?_ | refine run_region ?_ | refine runL_nil ?_ | refine run_skip ?_ | refine run_block ?_ | refine run_inBlock ?_) | refine run_exit rfl ?_ | refine runL_q (qt_pev tok rfl) rfl rfl rfl ?_ | refine runL_g rfl rfl (qt_pev tok rfl) rfl rfl rfl rfl rfl ?_ | refine runL_q (ql tok rfl) rfl rfl rfl ?_ | refine runL_g rfl rfl (ql tok rfl) rfl rfl rfl rfl rfl ?_ | (refine runL_op0 (sst tok rfl rfl rfl rfl rfl) ?_; rintro _ _ _ ⟨rfl, rfl, rfl⟩) | (refine runL_op (st_box rfl) rfl rfl rfl ?_; rintro _ _ _ ⟨_, rfl, rfl, rfl⟩) | (refine runL_op (st_alloc tok rfl) rfl rfl rfl ?_; rintro _ _ _ ⟨_, rfl, rfl, rfl⟩) | (refine runL_op (st_buildSlice tok rfl rfl rfl rfl rfl rfl rfl) rfl rfl rfl ?_; rintro _ _ _ ⟨_, rfl, rfl, rfl⟩))
        exact run_sub' (hnext _ _ _ ⟨hlt, hnx h, rfl, rfl, rfl⟩) ⟨lk_succ rfl (by omega), by rw [hv]; rfl, rfl, trivial⟩
    | succ i =>
      obtain ⟨b', off', m0, hma0, hm0, hc0⟩ := SMb.at_ hs.1 (show i < s.len by omega)
      rw [hma] at hma0
      cases hma0
      have e0 := hl1 i rfl m0 hm0
      subst e0
      rw [memGo_next] at hgo hnx
      repeat (first | with_reducible (first | refine run_seq ?_ | refine run_region ?_ | refine runL_nil ?_ | refine run_skip ?_ | refine run_block ?_ | refine run_inBlock ?_) | refine run_exit rfl ?_)
      refine prn_start mixed ?_
      iterate 28 (first | refine prn_q rfl (qt_pev tok rfl) (by decide +kernel) rfl rfl rfl ?_ | refine prn_gK rfl rfl rfl (qt_pev tok rfl) (by decide +kernel) rfl rfl rfl ?_ | refine prn_gF rfl rfl rfl (by decide +kernel) rfl rfl rfl ?_ | refine prn_g rfl rfl rfl (qt_pev tok rfl) (by decide +kernel) rfl rfl rfl rfl rfl ?_ | refine prn_q rfl (ql tok rfl) (by decide +kernel) rfl rfl rfl ?_ | refine prn_gK rfl rfl rfl (ql tok rfl) (by decide +kernel) rfl rfl rfl ?_ | refine prn_gF rfl rfl rfl (by decide +kernel) rfl rfl rfl ?_ | refine prn_g rfl rfl rfl (ql tok rfl) (by decide +kernel) rfl rfl rfl rfl rfl ?_ | (refine prn_e0 rfl (sst tok rfl rfl rfl rfl rfl) (by decide +kernel) ?_; rintro _ _ _ ⟨rfl, rfl, rfl⟩) | (refine prn_e1 rfl (st_box rfl) (by decide +kernel) rfl rfl rfl ?_; rintro _ _ _ ⟨_, rfl, rfl, rfl⟩) | (refine prn_e1 rfl (st_alloc tok rfl) (by decide +kernel) rfl rfl rfl ?_; rintro _ _ _ ⟨_, rfl, rfl, rfl⟩) | (refine prn_e1 rfl (st_buildSlice tok rfl rfl rfl rfl rfl rfl rfl) (by decide +kernel) rfl rfl rfl ?_; rintro _ _ _ ⟨_, rfl, rfl, rfl⟩) | (refine prn_o0 rfl (sst tok rfl rfl rfl rfl rfl) (by decide +kernel) ?_; rintro _ _ _ ⟨rfl, rfl, rfl⟩; refine ⟨by (repeat (first | exact trivial | refine And.intro (pend_q rfl rfl rfl (qt_pev tok rfl)) ?_ | refine And.intro (pend_q rfl rfl rfl (ql tok rfl)) ?_)), ?_⟩) | (refine prn_o1 rfl (st_box rfl) (by decide +kernel) rfl rfl rfl ?_; rintro _ _ _ ⟨_, rfl, rfl, rfl⟩; refine ⟨by (repeat (first | exact trivial | refine And.intro (pend_q rfl rfl rfl (qt_pev tok rfl)) ?_ | refine And.intro (pend_q rfl rfl rfl (ql tok rfl)) ?_)), ?_⟩) | (refine prn_o1 rfl (st_alloc tok rfl) (by decide +kernel) rfl rfl rfl ?_; rintro _ _ _ ⟨_, rfl, rfl, rfl⟩; refine ⟨by (repeat (first | exact trivial | refine And.intro (pend_q rfl rfl rfl (qt_pev tok rfl)) ?_ | refine And.intro (pend_q rfl rfl rfl (ql tok rfl)) ?_)), ?_⟩) | (refine prn_o1 rfl (st_buildSlice tok rfl rfl rfl rfl rfl rfl rfl) (by decide +kernel) rfl rfl rfl ?_; rintro _ _ _ ⟨_, rfl, rfl, rfl⟩; refine ⟨by (repeat (first | exact trivial | refine And.intro (pend_q rfl rfl rfl (qt_pev tok rfl)) ?_ | refine And.intro (pend_q rfl rfl rfl (ql tok rfl)) ?_)), ?_⟩) | (refine prn_e1 rfl (qt_pev tok rfl) (by decide +kernel) rfl rfl rfl ?_; rintro _ _ _ ⟨rfl, rfl, rfl⟩) | refine prn_q rfl (qt_indexN tok rfl rfl rfl rfl (fun _ => by omega)) (by decide +kernel) rfl rfl rfl ?_ | refine prn_gK rfl rfl rfl (qt_indexN tok rfl rfl rfl rfl (fun _ => by omega)) (by decide +kernel) rfl rfl rfl ?_ | refine prn_gF rfl rfl rfl (by decide +kernel) rfl rfl rfl ?_ | refine prn_g rfl rfl rfl (qt_indexN tok rfl rfl rfl rfl (fun _ => by omega)) (by decide +kernel) rfl rfl rfl rfl rfl ?_ | refine prn_q rfl (qt_ldM tok rfl hc rfl) (by decide +kernel) rfl rfl rfl ?_ | refine prn_gK rfl rfl rfl (qt_ldM tok rfl hc rfl) (by decide +kernel) rfl rfl rfl ?_ | refine prn_gF rfl rfl rfl (by decide +kernel) rfl rfl rfl ?_ | refine prn_g rfl rfl rfl (qt_ldM tok rfl hc rfl) (by decide +kernel) rfl rfl rfl rfl rfl ?_ | refine prn_q rfl (qt_ldM0 tok rfl hc rfl) (by decide +kernel) rfl rfl rfl ?_ | refine prn_gK rfl rfl rfl (qt_ldM0 tok rfl hc rfl) (by decide +kernel) rfl rfl rfl ?_ | refine prn_gF rfl rfl rfl (by decide +kernel) rfl rfl rfl ?_ | refine prn_g rfl rfl rfl (qt_ldM0 tok rfl hc rfl) (by decide +kernel) rfl rfl rfl rfl rfl ?_ | refine prn_q rfl (qt_callF rfl (fun _ => refOrg_ok _ _ _)) (by decide +kernel) rfl rfl rfl ?_)
      refine prn_g rfl rfl rfl (Qt.as (v' := .int .i64 (i : Int)) (qt_pev tok rfl) (by rw [show ((i + 1 : Nat) : Int) - 1 = (i : Int) by omega, wrap64_nat (by omega)])) (by decide +kernel) rfl rfl rfl rfl rfl ?_
      repeat (first | with_reducible (first | refine run_seq ?_ | refine run_region ?_ | refine runL_nil ?_ | refine run_skip ?_ | refine run_block ?_ | refine run_inBlock ?_) | refine run_exit rfl ?_ | refine runL_q (qt_pev tok rfl) rfl rfl rfl ?_ | refine runL_gK rfl rfl (qt_pev tok rfl) rfl rfl rfl ?_ | refine runL_gF rfl rfl rfl rfl rfl ?_ | refine runL_g rfl rfl (qt_pev tok rfl) rfl rfl rfl rfl rfl ?_ | refine runL_q (ql tok rfl) rfl rfl rfl ?_ | refine runL_gK rfl rfl (ql tok rfl) rfl rfl rfl ?_ | refine runL_gF rfl rfl rfl rfl rfl ?_ | refine runL_g rfl rfl (ql tok rfl) rfl rfl rfl rfl rfl ?_ | (refine runL_op0 (sst tok rfl rfl rfl rfl rfl) ?_; rintro _ _ _ ⟨rfl, rfl, rfl⟩) | (refine runL_op (st_box rfl) rfl rfl rfl ?_; rintro _ _ _ ⟨_, rfl, rfl, rfl⟩) | (refine runL_op (st_alloc tok rfl) rfl rfl rfl ?_; rintro _ _ _ ⟨_, rfl, rfl, rfl⟩) | (refine runL_op (st_buildSlice tok rfl rfl rfl rfl rfl rfl rfl) rfl rfl rfl ?_; rintro _ _ _ ⟨_, rfl, rfl, rfl⟩) | refine prn_start mixed ?_ | refine prn_end (by decide +kernel) ?_ | refine prn_q rfl (qt_pev tok rfl) (by decide +kernel) rfl rfl rfl ?_ | refine prn_gK rfl rfl rfl (qt_pev tok rfl) (by decide +kernel) rfl rfl rfl ?_ | refine prn_gF rfl rfl rfl (by decide +kernel) rfl rfl rfl ?_ | refine prn_g rfl rfl rfl (qt_pev tok rfl) (by decide +kernel) rfl rfl rfl rfl rfl ?_ | refine prn_q rfl (ql tok rfl) (by decide +kernel) rfl rfl rfl ?_ | refine prn_gK rfl rfl rfl (ql tok rfl) (by decide +kernel) rfl rfl rfl ?_ | refine prn_gF rfl rfl rfl (by decide +kernel) rfl rfl rfl ?_ | refine prn_g rfl rfl rfl (ql tok rfl) (by decide +kernel) rfl rfl rfl rfl rfl ?_ | (refine prn_e0 rfl (sst tok rfl rfl rfl rfl rfl) (by decide +kernel) ?_; rintro _ _ _ ⟨rfl, rfl, rfl⟩) | (refine prn_e1 rfl (st_box rfl) (by decide +kernel) rfl rfl rfl ?_; rintro _ _ _ ⟨_, rfl, rfl, rfl⟩) | (refine prn_e1 rfl (st_alloc tok rfl) (by decide +kernel) rfl rfl rfl ?_; rintro _ _ _ ⟨_, rfl, rfl, rfl⟩) | (refine prn_e1 rfl (st_buildSlice tok rfl rfl rfl rfl rfl rfl rfl) (by decide +kernel) rfl rfl rfl ?_; rintro _ _ _ ⟨_, rfl, rfl, rfl⟩) | (refine prn_o0 rfl (sst tok rfl rfl rfl rfl rfl) (by decide +kernel) ?_; rintro _ _ _ ⟨rfl, rfl, rfl⟩; refine ⟨by (repeat (first | exact trivial | refine And.intro (pend_q rfl rfl rfl (qt_pev tok rfl)) ?_ | refine And.intro (pend_q rfl rfl rfl (ql tok rfl)) ?_)), ?_⟩) | (refine prn_o1 rfl (st_box rfl) (by decide +kernel) rfl rfl rfl ?_; rintro _ _ _ ⟨_, rfl, rfl, rfl⟩; refine ⟨by (repeat (first | exact trivial | refine And.intro (pend_q rfl rfl rfl (qt_pev tok rfl)) ?_ | refine And.intro (pend_q rfl rfl rfl (ql tok rfl)) ?_)), ?_⟩) | (refine prn_o1 rfl (st_alloc tok rfl) (by decide +kernel) rfl rfl rfl ?_; rintro _ _ _ ⟨_, rfl, rfl, rfl⟩; refine ⟨by (repeat (first | exact trivial | refine And.intro (pend_q rfl rfl rfl (qt_pev tok rfl)) ?_ | refine And.intro (pend_q rfl rfl rfl (ql tok rfl)) ?_)), ?_⟩) | (refine prn_o1 rfl (st_buildSlice tok rfl rfl rfl rfl rfl rfl rfl) (by decide +kernel) rfl rfl rfl ?_; rintro _ _ _ ⟨_, rfl, rfl, rfl⟩; refine ⟨by (repeat (first | exact trivial | refine And.intro (pend_q rfl rfl rfl (qt_pev tok rfl)) ?_ | refine And.intro (pend_q rfl rfl rfl (ql tok rfl)) ?_)), ?_⟩) | (refine prn_e1 rfl (qt_pev tok rfl) (by decide +kernel) rfl rfl rfl ?_; rintro _ _ _ ⟨rfl, rfl, rfl⟩) | refine prn_q rfl (qt_indexN tok rfl rfl rfl rfl (fun _ => by omega)) (by decide +kernel) rfl rfl rfl ?_ | refine prn_gK rfl rfl rfl (qt_indexN tok rfl rfl rfl rfl (fun _ => by omega)) (by decide +kernel) rfl rfl rfl ?_ | refine prn_gF rfl rfl rfl (by decide +kernel) rfl rfl rfl ?_ | refine prn_g rfl rfl rfl (qt_indexN tok rfl rfl rfl rfl (fun _ => by omega)) (by decide +kernel) rfl rfl rfl rfl rfl ?_ | refine prn_q rfl (qt_ldM tok rfl hc0 rfl) (by decide +kernel) rfl rfl rfl ?_ | refine prn_gK rfl rfl rfl (qt_ldM tok rfl hc0 rfl) (by decide +kernel) rfl rfl rfl ?_ | refine prn_gF rfl rfl rfl (by decide +kernel) rfl rfl rfl ?_ | refine prn_g rfl rfl rfl (qt_ldM tok rfl hc0 rfl) (by decide +kernel) rfl rfl rfl rfl rfl ?_ | refine prn_q rfl (qt_ldM0 tok rfl hc0 rfl) (by decide +kernel) rfl rfl rfl ?_ | refine prn_gK rfl rfl rfl (qt_ldM0 tok rfl hc0 rfl) (by decide +kernel) rfl rfl rfl ?_ | refine prn_gF rfl rfl rfl (by decide +kernel) rfl rfl rfl ?_ | refine prn_g rfl rfl rfl (qt_ldM0 tok rfl hc0 rfl) (by decide +kernel) rfl rfl rfl rfl rfl ?_ | refine prn_q rfl (qt_ldM tok rfl hc rfl) (by decide +kernel) rfl rfl rfl ?_ | refine prn_gK rfl rfl rfl (qt_ldM tok rfl hc rfl) (by decide +kernel) rfl rfl rfl ?_ | refine prn_gF rfl rfl rfl (by decide +kernel) rfl rfl rfl ?_ | refine prn_g rfl rfl rfl (qt_ldM tok rfl hc rfl) (by decide +kernel) rfl rfl rfl rfl rfl ?_ | refine prn_q rfl (qt_ldM0 tok rfl hc rfl) (by decide +kernel) rfl rfl rfl ?_ | refine prn_gK rfl rfl rfl (qt_ldM0 tok rfl hc rfl) (by decide +kernel) rfl rfl rfl ?_ | refine prn_gF rfl rfl rfl (by decide +kernel) rfl rfl rfl ?_ | refine prn_g rfl rfl rfl (qt_ldM0 tok rfl hc rfl) (by decide +kernel) rfl rfl rfl rfl rfl ?_ | refine prn_g rfl rfl rfl (qt_callF rfl (fun _ => ref06May_ok _ _ _ hmd)) (by decide +kernel) rfl rfl rfl rfl rfl ?_)
      have hpos : decide (((i + 1 : Nat) : Int) > 0) = true := decide_eq_true (by omega)
      refine run_cond rfl (fun h => ?_) (fun h => ?_)
      · repeat (first | with_reducible (first | refine run_seq ?_ | refine run_region ?_ | refine runL_nil ?_ | refine run_skip ?_ | refine run_block ?_ | refine run_inBlock ?_) | refine run_exit rfl ?_ | refine runL_q (qt_pev tok rfl) rfl rfl rfl ?_ | refine runL_g rfl rfl (qt_pev tok rfl) rfl rfl rfl rfl rfl ?_ | refine runL_q (ql tok rfl) rfl rfl rfl ?_ | refine runL_g rfl rfl (ql tok rfl) rfl rfl rfl rfl rfl ?_ | (refine runL_op0 (sst tok rfl rfl rfl rfl rfl) ?_; rintro _ _ _ ⟨rfl, rfl, rfl⟩) | (refine runL_op (st_box rfl) rfl rfl rfl ?_; rintro _ _ _ ⟨_, rfl, rfl, rfl⟩) | (refine runL_op (st_alloc tok rfl) rfl rfl rfl ?_; rintro _ _ _ ⟨_, rfl, rfl, rfl⟩) | (refine runL_op (st_buildSlice tok rfl rfl rfl rfl rfl rfl rfl) rfl rfl rfl ?_; rintro _ _ _ ⟨_, rfl, rfl, rfl⟩))
        refine run_ret hC (rs := [.tmp 4]) rfl (resT rfl resN) (fun _ h => h.drop) ⟨?_, rfl, rfl⟩
        rw [hpos, Bool.true_and] at h
        rw [if_pos (show badM2 t false m0.org m = true from h)] at hgo
        rw [← hgo]; rfl
      · rw [hpos, Bool.true_and] at h
        repeat (first | with_reducible (first | refine run_seq ?_ | refine run_region ?_ | refine runL_nil ?_ | refine run_skip ?_ | refine run_block ?_ | refine run_inBlock ?_) | refine run_exit rfl ?_ | refine runL_q (qt_pev tok rfl) rfl rfl rfl ?_ | refine runL_g rfl rfl (qt_pev tok rfl) rfl rfl rfl rfl rfl ?_ | refine runL_q (ql tok rfl) rfl rfl rfl ?_ | refine runL_g rfl rfl (ql tok rfl) rfl rfl rfl rfl rfl ?_ | (refine runL_op0 (sst tok rfl rfl rfl rfl rfl) ?_; rintro _ _ _ ⟨rfl, rfl, rfl⟩) | (refine runL_op (st_box rfl) rfl rfl rfl ?_; rintro _ _ _ ⟨_, rfl, rfl, rfl⟩) | (refine runL_op (st_alloc tok rfl) rfl rfl rfl ?_; rintro _ _ _ ⟨_, rfl, rfl, rfl⟩) | (refine runL_op (st_buildSlice tok rfl rfl rfl rfl rfl rfl rfl) rfl rfl rfl ?_; rintro _ _ _ ⟨_, rfl, rfl, rfl⟩))
        exact run_sub' (hnext _ _ _ ⟨hlt, hnx h, rfl, rfl, rfl⟩) ⟨lk_succ rfl (by omega), by rw [hv]; rfl, rfl, trivial⟩
  · have hge : j = s.len := by simp at h; omega
    rw [hge, List.drop_eq_nil_of_le (by omega)] at hgo
    repeat (first | with_reducible (first | refine run_seq ?_ | refine run_region ?_ | refine runL_nil ?_ | refine run_skip ?_ | refine run_block ?_ | refine run_inBlock ?_) | refine run_exit rfl ?_ | refine runL_q (qt_pev tok rfl) rfl rfl rfl ?_ | refine runL_g rfl rfl (qt_pev tok rfl) rfl rfl rfl rfl rfl ?_ | refine runL_q (ql tok rfl) rfl rfl rfl ?_ | refine runL_g rfl rfl (ql tok rfl) rfl rfl rfl rfl rfl ?_ | (refine runL_op0 (sst tok rfl rfl rfl rfl rfl) ?_; rintro _ _ _ ⟨rfl, rfl, rfl⟩) | (refine runL_op (st_box rfl) rfl rfl rfl ?_; rintro _ _ _ ⟨_, rfl, rfl, rfl⟩) | (refine runL_op (st_alloc tok rfl) rfl rfl rfl ?_; rintro _ _ _ ⟨_, rfl, rfl, rfl⟩) | (refine runL_op (st_buildSlice tok rfl rfl rfl rfl rfl rfl rfl) rfl rfl rfl ?_; rintro _ _ _ ⟨_, rfl, rfl, rfl⟩))
    exact run_ret hC (rs := [.tmp 4]) rfl (resT rfl resN) (fun _ h => h.drop) ⟨by rw [← hgo]; rfl, rfl, rfl⟩
end Go.Proofs.Ytpmepmdngdkafaa
namespace Go.Proofs.Ytpmepmdngdkafaa
open Go.Chi

/-! ### what says the same is the same to the document -/
set_option maxRecDepth 10000 in
set_option maxHeartbeats 4000000 in
theorem sameMb_ok (M : Mem) (L : HL) (s u : SMb) (hs : MbOk M s) (hu : MbOk M u) (he : s.xs = u.xs) : TrQ Try.prog 41 [s.v, u.v] M L (.bool true) := by
  have hx1 := hs.len
  have hy1 := hu.len
  have hlt6 := hs.2
  have hll : s.len = u.len := by rw [← hx1, ← hy1, he]
  refine Tr.intro 26 Try.func41 rfl rfl Try.call41 rfl ?_
  intro C hC hro
  repeat (first | with_reducible (first | refine run_seq ?_ | refine run_region ?_ | refine runL_nil ?_ | refine run_skip ?_ | refine run_block ?_ | refine run_inBlock ?_) | refine run_exit rfl ?_ | refine runL_q (qt_pev tok rfl) rfl rfl rfl ?_ | refine runL_g rfl rfl (qt_pev tok rfl) rfl rfl rfl rfl rfl ?_ | refine runL_q (ql tok rfl) rfl rfl rfl ?_ | refine runL_g rfl rfl (ql tok rfl) rfl rfl rfl rfl rfl ?_ | (refine runL_op0 (sst tok rfl rfl rfl rfl rfl) ?_; rintro _ _ _ ⟨rfl, rfl, rfl⟩) | (refine runL_op (st_box rfl) rfl rfl rfl ?_; rintro _ _ _ ⟨_, rfl, rfl, rfl⟩) | (refine runL_op (st_alloc tok rfl) rfl rfl rfl ?_; rintro _ _ _ ⟨_, rfl, rfl, rfl⟩) | (refine runL_op (st_buildSlice tok rfl rfl rfl rfl rfl rfl rfl) rfl rfl rfl ?_; rintro _ _ _ ⟨_, rfl, rfl, rfl⟩))
  refine run_cond rfl (fun h => ?_) (fun _ => ?_)
  · rw [hll] at h
    simp at h
  repeat (first | with_reducible (first | refine run_seq ?_ | refine run_region ?_ | refine runL_nil ?_ | refine run_skip ?_ | refine run_block ?_ | refine run_inBlock ?_) | refine run_exit rfl ?_ | refine runL_q (qt_pev tok rfl) rfl rfl rfl ?_ | refine runL_g rfl rfl (qt_pev tok rfl) rfl rfl rfl rfl rfl ?_ | refine runL_q (ql tok rfl) rfl rfl rfl ?_ | refine runL_g rfl rfl (ql tok rfl) rfl rfl rfl rfl rfl ?_ | (refine runL_op0 (sst tok rfl rfl rfl rfl rfl) ?_; rintro _ _ _ ⟨rfl, rfl, rfl⟩) | (refine runL_op (st_box rfl) rfl rfl rfl ?_; rintro _ _ _ ⟨_, rfl, rfl, rfl⟩) | (refine runL_op (st_alloc tok rfl) rfl rfl rfl ?_; rintro _ _ _ ⟨_, rfl, rfl, rfl⟩) | (refine runL_op (st_buildSlice tok rfl rfl rfl rfl rfl rfl rfl) rfl rfl rfl ?_; rintro _ _ _ ⟨_, rfl, rfl, rfl⟩))
  refine run_loopN (fun j σ1 M1 L1 => j ≤ s.len ∧ M = M1 ∧ L = L1 ∧ σ1 = [(5, .int .i64 (j : Int)), (0, s.v), (1, u.v)]) s.len [(5, .int .i64 ((0 : Nat) : Int)), (0, s.v), (1, u.v)] ?_ ⟨Nat.zero_le _, rfl, rfl, rfl⟩ (fun j _ _ _ h => h.1) ?_
  · exact ⟨rfl, rfl, rfl, trivial⟩
  rintro j _ _ _ ⟨hj, rfl, rfl, rfl⟩ hnext
  repeat (first | with_reducible (first | refine run_seq ?_ | refine run_region ?_ | refine runL_nil ?_ | refine run_skip ?_ | refine run_block ?_ | refine run_inBlock ?_) | refine run_exit rfl ?_ | refine runL_q (qt_pev tok rfl) rfl rfl rfl ?_ | refine runL_g rfl rfl (qt_pev tok rfl) rfl rfl rfl rfl rfl ?_ | refine runL_q (ql tok rfl) rfl rfl rfl ?_ | refine runL_g rfl rfl (ql tok rfl) rfl rfl rfl rfl rfl ?_ | (refine runL_op0 (sst tok rfl rfl rfl rfl rfl) ?_; rintro _ _ _ ⟨rfl, rfl, rfl⟩) | (refine runL_op (st_box rfl) rfl rfl rfl ?_; rintro _ _ _ ⟨_, rfl, rfl, rfl⟩) | (refine runL_op (st_alloc tok rfl) rfl rfl rfl ?_; rintro _ _ _ ⟨_, rfl, rfl, rfl⟩) | (refine runL_op (st_buildSlice tok rfl rfl rfl rfl rfl rfl rfl) rfl rfl rfl ?_; rintro _ _ _ ⟨_, rfl, rfl, rfl⟩))
  refine run_cond rfl (fun h => ?_) (fun h => ?_)
  · have hlt : j < s.len := by simpa using h
    have hlt2 : j < u.len := by omega
    obtain ⟨b, off, m, ha, hm, hc⟩ := SMb.at_ hs.1 hlt
    obtain ⟨b2, off2, m2, ha2, hm2, hc2⟩ := SMb.at_ hu.1 hlt2
    have hmm : m2 = m := by rw [he, hm2] at hm; exact Option.some.inj hm
    subst hmm
    have hv : s.v = .slice (some ⟨b, off, none⟩) s.len s.cap := by rw [← ha]; rfl
    have hv2 : u.v = .slice (some ⟨b2, off2, none⟩) u.len u.cap := by rw [← ha2]; rfl
    refine run_as 0 (.slice (some ⟨b, off, none⟩) s.len s.cap) rfl hv ?_
    refine run_as 1 (.slice (some ⟨b2, off2, none⟩) u.len u.cap) rfl hv2 ?_
    repeat (first | with_reducible (first | refine run_seq ?_ | refine run_region ?_ | refine runL_nil ?_ | refine run_skip ?_ | refine run_block ?_ | refine run_inBlock ?_) | refine run_exit rfl ?_ | refine runL_q (qt_pev tok rfl) rfl rfl rfl ?_ | refine runL_g rfl rfl (qt_pev tok rfl) rfl rfl rfl rfl rfl ?_ | refine runL_q (ql tok rfl) rfl rfl rfl ?_ | refine runL_g rfl rfl (ql tok rfl) rfl rfl rfl rfl rfl ?_ | (refine runL_op0 (sst tok rfl rfl rfl rfl rfl) ?_; rintro _ _ _ ⟨rfl, rfl, rfl⟩) | (refine runL_op (st_box rfl) rfl rfl rfl ?_; rintro _ _ _ ⟨_, rfl, rfl, rfl⟩) | (refine runL_op (st_alloc tok rfl) rfl rfl rfl ?_; rintro _ _ _ ⟨_, rfl, rfl, rfl⟩) | (refine runL_op (st_buildSlice tok rfl rfl rfl rfl rfl rfl rfl) rfl rfl rfl ?_; rintro _ _ _ ⟨_, rfl, rfl, rfl⟩) | refine prn_start mixed ?_ | refine prn_end (by decide +kernel) ?_ | refine prn_q rfl (qt_pev tok rfl) (by decide +kernel) rfl rfl rfl ?_ | refine prn_g rfl rfl rfl (qt_pev tok rfl) (by decide +kernel) rfl rfl rfl rfl rfl ?_ | refine prn_q rfl (ql tok rfl) (by decide +kernel) rfl rfl rfl ?_ | refine prn_g rfl rfl rfl (ql tok rfl) (by decide +kernel) rfl rfl rfl rfl rfl ?_ | (refine prn_e0 rfl (sst tok rfl rfl rfl rfl rfl) (by decide +kernel) ?_; rintro _ _ _ ⟨rfl, rfl, rfl⟩) | (refine prn_e1 rfl (st_box rfl) (by decide +kernel) rfl rfl rfl ?_; rintro _ _ _ ⟨_, rfl, rfl, rfl⟩) | (refine prn_e1 rfl (st_alloc tok rfl) (by decide +kernel) rfl rfl rfl ?_; rintro _ _ _ ⟨_, rfl, rfl, rfl⟩) | (refine prn_e1 rfl (st_buildSlice tok rfl rfl rfl rfl rfl rfl rfl) (by decide +kernel) rfl rfl rfl ?_; rintro _ _ _ ⟨_, rfl, rfl, rfl⟩) | (refine prn_o0 rfl (sst tok rfl rfl rfl rfl rfl) (by decide +kernel) ?_; rintro _ _ _ ⟨rfl, rfl, rfl⟩; refine ⟨by (repeat (first | exact trivial | refine And.intro (pend_q rfl rfl rfl (qt_pev tok rfl)) ?_ | refine And.intro (pend_q rfl rfl rfl (ql tok rfl)) ?_)), ?_⟩) | (refine prn_o1 rfl (st_box rfl) (by decide +kernel) rfl rfl rfl ?_; rintro _ _ _ ⟨_, rfl, rfl, rfl⟩; refine ⟨by (repeat (first | exact trivial | refine And.intro (pend_q rfl rfl rfl (qt_pev tok rfl)) ?_ | refine And.intro (pend_q rfl rfl rfl (ql tok rfl)) ?_)), ?_⟩) | (refine prn_o1 rfl (st_alloc tok rfl) (by decide +kernel) rfl rfl rfl ?_; rintro _ _ _ ⟨_, rfl, rfl, rfl⟩; refine ⟨by (repeat (first | exact trivial | refine And.intro (pend_q rfl rfl rfl (qt_pev tok rfl)) ?_ | refine And.intro (pend_q rfl rfl rfl (ql tok rfl)) ?_)), ?_⟩) | (refine prn_o1 rfl (st_buildSlice tok rfl rfl rfl rfl rfl rfl rfl) (by decide +kernel) rfl rfl rfl ?_; rintro _ _ _ ⟨_, rfl, rfl, rfl⟩; refine ⟨by (repeat (first | exact trivial | refine And.intro (pend_q rfl rfl rfl (qt_pev tok rfl)) ?_ | refine And.intro (pend_q rfl rfl rfl (ql tok rfl)) ?_)), ?_⟩) | (refine prn_e1 rfl (qt_pev tok rfl) (by decide +kernel) rfl rfl rfl ?_; rintro _ _ _ ⟨rfl, rfl, rfl⟩) | refine prn_q rfl (qt_indexN tok rfl rfl rfl rfl (fun _ => by omega)) (by decide +kernel) rfl rfl rfl ?_ | refine prn_g rfl rfl rfl (qt_indexN tok rfl rfl rfl rfl (fun _ => by omega)) (by decide +kernel) rfl rfl rfl rfl rfl ?_ | refine prn_q rfl (qt_ldM tok rfl hc rfl) (by decide +kernel) rfl rfl rfl ?_ | refine prn_g rfl rfl rfl (qt_ldM tok rfl hc rfl) (by decide +kernel) rfl rfl rfl rfl rfl ?_ | refine prn_q rfl (qt_ldM0 tok rfl hc rfl) (by decide +kernel) rfl rfl rfl ?_ | refine prn_g rfl rfl rfl (qt_ldM0 tok rfl hc rfl) (by decide +kernel) rfl rfl rfl rfl rfl ?_ | refine prn_q rfl (qt_ldM tok rfl hc2 rfl) (by decide +kernel) rfl rfl rfl ?_ | refine prn_g rfl rfl rfl (qt_ldM tok rfl hc2 rfl) (by decide +kernel) rfl rfl rfl rfl rfl ?_ | refine prn_q rfl (qt_ldM0 tok rfl hc2 rfl) (by decide +kernel) rfl rfl rfl ?_ | refine prn_g rfl rfl rfl (qt_ldM0 tok rfl hc2 rfl) (by decide +kernel) rfl rfl rfl rfl rfl ?_)
    refine run_cond rfl (fun h => ?_) (fun h => ?_)
    · simp at h
    · repeat (first | with_reducible (first | refine run_seq ?_ | refine run_region ?_ | refine runL_nil ?_ | refine run_skip ?_ | refine run_block ?_ | refine run_inBlock ?_) | refine run_exit rfl ?_ | refine runL_q (qt_pev tok rfl) rfl rfl rfl ?_ | refine runL_g rfl rfl (qt_pev tok rfl) rfl rfl rfl rfl rfl ?_ | refine runL_q (ql tok rfl) rfl rfl rfl ?_ | refine runL_g rfl rfl (ql tok rfl) rfl rfl rfl rfl rfl ?_ | (refine runL_op0 (sst tok rfl rfl rfl rfl rfl) ?_; rintro _ _ _ ⟨rfl, rfl, rfl⟩) | (refine runL_op (st_box rfl) rfl rfl rfl ?_; rintro _ _ _ ⟨_, rfl, rfl, rfl⟩) | (refine runL_op (st_alloc tok rfl) rfl rfl rfl ?_; rintro _ _ _ ⟨_, rfl, rfl, rfl⟩) | (refine runL_op (st_buildSlice tok rfl rfl rfl rfl rfl rfl rfl) rfl rfl rfl ?_; rintro _ _ _ ⟨_, rfl, rfl, rfl⟩))
      exact run_sub' (hnext _ _ _ ⟨hlt, rfl, rfl, rfl⟩) ⟨lk_succ rfl (by omega), by rw [hv]; rfl, by rw [hv2]; rfl, trivial⟩
  · repeat (first | with_reducible (first | refine run_seq ?_ | refine run_region ?_ | refine runL_nil ?_ | refine run_skip ?_ | refine run_block ?_ | refine run_inBlock ?_) | refine run_exit rfl ?_ | refine runL_q (qt_pev tok rfl) rfl rfl rfl ?_ | refine runL_g rfl rfl (qt_pev tok rfl) rfl rfl rfl rfl rfl ?_ | refine runL_q (ql tok rfl) rfl rfl rfl ?_ | refine runL_g rfl rfl (ql tok rfl) rfl rfl rfl rfl rfl ?_ | (refine runL_op0 (sst tok rfl rfl rfl rfl rfl) ?_; rintro _ _ _ ⟨rfl, rfl, rfl⟩) | (refine runL_op (st_box rfl) rfl rfl rfl ?_; rintro _ _ _ ⟨_, rfl, rfl, rfl⟩) | (refine runL_op (st_alloc tok rfl) rfl rfl rfl ?_; rintro _ _ _ ⟨_, rfl, rfl, rfl⟩) | (refine runL_op (st_buildSlice tok rfl rfl rfl rfl rfl rfl rfl) rfl rfl rfl ?_; rintro _ _ _ ⟨_, rfl, rfl, rfl⟩))
    exact run_ret hC (rs := [.tmp 4]) rfl (resT rfl resN) (fun _ h => h) ⟨rfl, rfl, rfl⟩

set_option maxRecDepth 10000 in
set_option maxHeartbeats 4000000 in
theorem sameSt_ok (M : Mem) (L : HL) (s u : SStr) (hs : StOk M s) (hu : StOk M u) (he : s.xs = u.xs) : TrQ Try.prog 42 [s.v, u.v] M L (.bool true) := by
  have hx1 := hs.len
  have hy1 := hu.len
  have hlt6 := hs.2
  have hll : s.len = u.len := by rw [← hx1, ← hy1, he]
  refine Tr.intro 26 Try.func42 rfl rfl Try.call42 rfl ?_
  intro C hC hro
  repeat (first | with_reducible (first | refine run_seq ?_ | refine run_region ?_ | refine runL_nil ?_ | refine run_skip ?_ | refine run_block ?_ | refine run_inBlock ?_) | refine run_exit rfl ?_ | refine runL_q (qt_pev tok rfl) rfl rfl rfl ?_ | refine runL_g rfl rfl (qt_pev tok rfl) rfl rfl rfl rfl rfl ?_ | refine runL_q (ql tok rfl) rfl rfl rfl ?_ | refine runL_g rfl rfl (ql tok rfl) rfl rfl rfl rfl rfl ?_ | (refine runL_op0 (sst tok rfl rfl rfl rfl rfl) ?_; rintro _ _ _ ⟨rfl, rfl, rfl⟩) | (refine runL_op (st_box rfl) rfl rfl rfl ?_; rintro _ _ _ ⟨_, rfl, rfl, rfl⟩) | (refine runL_op (st_alloc tok rfl) rfl rfl rfl ?_; rintro _ _ _ ⟨_, rfl, rfl, rfl⟩) | (refine runL_op (st_buildSlice tok rfl rfl rfl rfl rfl rfl rfl) rfl rfl rfl ?_; rintro _ _ _ ⟨_, rfl, rfl, rfl⟩))
  refine run_cond rfl (fun h => ?_) (fun _ => ?_)
  · rw [hll] at h
    simp at h
  repeat (first | with_reducible (first | refine run_seq ?_ | refine run_region ?_ | refine runL_nil ?_ | refine run_skip ?_ | refine run_block ?_ | refine run_inBlock ?_) | refine run_exit rfl ?_ | refine runL_q (qt_pev tok rfl) rfl rfl rfl ?_ | refine runL_g rfl rfl (qt_pev tok rfl) rfl rfl rfl rfl rfl ?_ | refine runL_q (ql tok rfl) rfl rfl rfl ?_ | refine runL_g rfl rfl (ql tok rfl) rfl rfl rfl rfl rfl ?_ | (refine runL_op0 (sst tok rfl rfl rfl rfl rfl) ?_; rintro _ _ _ ⟨rfl, rfl, rfl⟩) | (refine runL_op (st_box rfl) rfl rfl rfl ?_; rintro _ _ _ ⟨_, rfl, rfl, rfl⟩) | (refine runL_op (st_alloc tok rfl) rfl rfl rfl ?_; rintro _ _ _ ⟨_, rfl, rfl, rfl⟩) | (refine runL_op (st_buildSlice tok rfl rfl rfl rfl rfl rfl rfl) rfl rfl rfl ?_; rintro _ _ _ ⟨_, rfl, rfl, rfl⟩))
  refine run_loopN (fun j σ1 M1 L1 => j ≤ s.len ∧ M = M1 ∧ L = L1 ∧ σ1 = [(5, .int .i64 (j : Int)), (0, s.v), (1, u.v)]) s.len [(5, .int .i64 ((0 : Nat) : Int)), (0, s.v), (1, u.v)] ?_ ⟨Nat.zero_le _, rfl, rfl, rfl⟩ (fun j _ _ _ h => h.1) ?_
  · exact ⟨rfl, rfl, rfl, trivial⟩
  rintro j _ _ _ ⟨hj, rfl, rfl, rfl⟩ hnext
  repeat (first | with_reducible (first | refine run_seq ?_ | refine run_region ?_ | refine runL_nil ?_ | refine run_skip ?_ | refine run_block ?_ | refine run_inBlock ?_) | refine run_exit rfl ?_ | refine runL_q (qt_pev tok rfl) rfl rfl rfl ?_ | refine runL_g rfl rfl (qt_pev tok rfl) rfl rfl rfl rfl rfl ?_ | refine runL_q (ql tok rfl) rfl rfl rfl ?_ | refine runL_g rfl rfl (ql tok rfl) rfl rfl rfl rfl rfl ?_ | (refine runL_op0 (sst tok rfl rfl rfl rfl rfl) ?_; rintro _ _ _ ⟨rfl, rfl, rfl⟩) | (refine runL_op (st_box rfl) rfl rfl rfl ?_; rintro _ _ _ ⟨_, rfl, rfl, rfl⟩) | (refine runL_op (st_alloc tok rfl) rfl rfl rfl ?_; rintro _ _ _ ⟨_, rfl, rfl, rfl⟩) | (refine runL_op (st_buildSlice tok rfl rfl rfl rfl rfl rfl rfl) rfl rfl rfl ?_; rintro _ _ _ ⟨_, rfl, rfl, rfl⟩))
  refine run_cond rfl (fun h => ?_) (fun h => ?_)
  · have hlt : j < s.len := by simpa using h
    have hlt2 : j < u.len := by omega
    obtain ⟨b, off, m, ha, hm, hc⟩ := SStr.at_ hs.1 hlt
    obtain ⟨b2, off2, m2, ha2, hm2, hc2⟩ := SStr.at_ hu.1 hlt2
    have hmm : m2 = m := by rw [he, hm2] at hm; exact Option.some.inj hm
    subst hmm
    have hv : s.v = .slice (some ⟨b, off, none⟩) s.len s.cap := by rw [← ha]; rfl
    have hv2 : u.v = .slice (some ⟨b2, off2, none⟩) u.len u.cap := by rw [← ha2]; rfl
    refine run_as 0 (.slice (some ⟨b, off, none⟩) s.len s.cap) rfl hv ?_
    refine run_as 1 (.slice (some ⟨b2, off2, none⟩) u.len u.cap) rfl hv2 ?_
    repeat (first | with_reducible (first | refine run_seq ?_ | refine run_region ?_ | refine runL_nil ?_ | refine run_skip ?_ | refine run_block ?_ | refine run_inBlock ?_) | refine run_exit rfl ?_ | refine runL_q (qt_pev tok rfl) rfl rfl rfl ?_ | refine runL_g rfl rfl (qt_pev tok rfl) rfl rfl rfl rfl rfl ?_ | refine runL_q (ql tok rfl) rfl rfl rfl ?_ | refine runL_g rfl rfl (ql tok rfl) rfl rfl rfl rfl rfl ?_ | (refine runL_op0 (sst tok rfl rfl rfl rfl rfl) ?_; rintro _ _ _ ⟨rfl, rfl, rfl⟩) | (refine runL_op (st_box rfl) rfl rfl rfl ?_; rintro _ _ _ ⟨_, rfl, rfl, rfl⟩) | (refine runL_op (st_alloc tok rfl) rfl rfl rfl ?_; rintro _ _ _ ⟨_, rfl, rfl, rfl⟩) | (refine runL_op (st_buildSlice tok rfl rfl rfl rfl rfl rfl rfl) rfl rfl rfl ?_; rintro _ _ _ ⟨_, rfl, rfl, rfl⟩) | refine prn_start mixed ?_ | refine prn_end (by decide +kernel) ?_ | refine prn_q rfl (qt_pev tok rfl) (by decide +kernel) rfl rfl rfl ?_ | refine prn_g rfl rfl rfl (qt_pev tok rfl) (by decide +kernel) rfl rfl rfl rfl rfl ?_ | refine prn_q rfl (ql tok rfl) (by decide +kernel) rfl rfl rfl ?_ | refine prn_g rfl rfl rfl (ql tok rfl) (by decide +kernel) rfl rfl rfl rfl rfl ?_ | (refine prn_e0 rfl (sst tok rfl rfl rfl rfl rfl) (by decide +kernel) ?_; rintro _ _ _ ⟨rfl, rfl, rfl⟩) | (refine prn_e1 rfl (st_box rfl) (by decide +kernel) rfl rfl rfl ?_; rintro _ _ _ ⟨_, rfl, rfl, rfl⟩) | (refine prn_e1 rfl (st_alloc tok rfl) (by decide +kernel) rfl rfl rfl ?_; rintro _ _ _ ⟨_, rfl, rfl, rfl⟩) | (refine prn_e1 rfl (st_buildSlice tok rfl rfl rfl rfl rfl rfl rfl) (by decide +kernel) rfl rfl rfl ?_; rintro _ _ _ ⟨_, rfl, rfl, rfl⟩) | (refine prn_o0 rfl (sst tok rfl rfl rfl rfl rfl) (by decide +kernel) ?_; rintro _ _ _ ⟨rfl, rfl, rfl⟩; refine ⟨by (repeat (first | exact trivial | refine And.intro (pend_q rfl rfl rfl (qt_pev tok rfl)) ?_ | refine And.intro (pend_q rfl rfl rfl (ql tok rfl)) ?_)), ?_⟩) | (refine prn_o1 rfl (st_box rfl) (by decide +kernel) rfl rfl rfl ?_; rintro _ _ _ ⟨_, rfl, rfl, rfl⟩; refine ⟨by (repeat (first | exact trivial | refine And.intro (pend_q rfl rfl rfl (qt_pev tok rfl)) ?_ | refine And.intro (pend_q rfl rfl rfl (ql tok rfl)) ?_)), ?_⟩) | (refine prn_o1 rfl (st_alloc tok rfl) (by decide +kernel) rfl rfl rfl ?_; rintro _ _ _ ⟨_, rfl, rfl, rfl⟩; refine ⟨by (repeat (first | exact trivial | refine And.intro (pend_q rfl rfl rfl (qt_pev tok rfl)) ?_ | refine And.intro (pend_q rfl rfl rfl (ql tok rfl)) ?_)), ?_⟩) | (refine prn_o1 rfl (st_buildSlice tok rfl rfl rfl rfl rfl rfl rfl) (by decide +kernel) rfl rfl rfl ?_; rintro _ _ _ ⟨_, rfl, rfl, rfl⟩; refine ⟨by (repeat (first | exact trivial | refine And.intro (pend_q rfl rfl rfl (qt_pev tok rfl)) ?_ | refine And.intro (pend_q rfl rfl rfl (ql tok rfl)) ?_)), ?_⟩) | (refine prn_e1 rfl (qt_pev tok rfl) (by decide +kernel) rfl rfl rfl ?_; rintro _ _ _ ⟨rfl, rfl, rfl⟩) | refine prn_q rfl (qt_indexN tok rfl rfl rfl rfl (fun _ => by omega)) (by decide +kernel) rfl rfl rfl ?_ | refine prn_g rfl rfl rfl (qt_indexN tok rfl rfl rfl rfl (fun _ => by omega)) (by decide +kernel) rfl rfl rfl rfl rfl ?_ | refine prn_q rfl (qt_ldM tok rfl hc rfl) (by decide +kernel) rfl rfl rfl ?_ | refine prn_g rfl rfl rfl (qt_ldM tok rfl hc rfl) (by decide +kernel) rfl rfl rfl rfl rfl ?_ | refine prn_q rfl (qt_ldM0 tok rfl hc rfl) (by decide +kernel) rfl rfl rfl ?_ | refine prn_g rfl rfl rfl (qt_ldM0 tok rfl hc rfl) (by decide +kernel) rfl rfl rfl rfl rfl ?_ | refine prn_q rfl (qt_ldM tok rfl hc2 rfl) (by decide +kernel) rfl rfl rfl ?_ | refine prn_g rfl rfl rfl (qt_ldM tok rfl hc2 rfl) (by decide +kernel) rfl rfl rfl rfl rfl ?_ | refine prn_q rfl (qt_ldM0 tok rfl hc2 rfl) (by decide +kernel) rfl rfl rfl ?_ | refine prn_g rfl rfl rfl (qt_ldM0 tok rfl hc2 rfl) (by decide +kernel) rfl rfl rfl rfl rfl ?_)
    refine run_cond rfl (fun h => ?_) (fun h => ?_)
    · simp at h
    · repeat (first | with_reducible (first | refine run_seq ?_ | refine run_region ?_ | refine runL_nil ?_ | refine run_skip ?_ | refine run_block ?_ | refine run_inBlock ?_) | refine run_exit rfl ?_ | refine runL_q (qt_pev tok rfl) rfl rfl rfl ?_ | refine runL_g rfl rfl (qt_pev tok rfl) rfl rfl rfl rfl rfl ?_ | refine runL_q (ql tok rfl) rfl rfl rfl ?_ | refine runL_g rfl rfl (ql tok rfl) rfl rfl rfl rfl rfl ?_ | (refine runL_op0 (sst tok rfl rfl rfl rfl rfl) ?_; rintro _ _ _ ⟨rfl, rfl, rfl⟩) | (refine runL_op (st_box rfl) rfl rfl rfl ?_; rintro _ _ _ ⟨_, rfl, rfl, rfl⟩) | (refine runL_op (st_alloc tok rfl) rfl rfl rfl ?_; rintro _ _ _ ⟨_, rfl, rfl, rfl⟩) | (refine runL_op (st_buildSlice tok rfl rfl rfl rfl rfl rfl rfl) rfl rfl rfl ?_; rintro _ _ _ ⟨_, rfl, rfl, rfl⟩))
      exact run_sub' (hnext _ _ _ ⟨hlt, rfl, rfl, rfl⟩) ⟨lk_succ rfl (by omega), by rw [hv]; rfl, by rw [hv2]; rfl, trivial⟩
  · repeat (first | with_reducible (first | refine run_seq ?_ | refine run_region ?_ | refine runL_nil ?_ | refine run_skip ?_ | refine run_block ?_ | refine run_inBlock ?_) | refine run_exit rfl ?_ | refine runL_q (qt_pev tok rfl) rfl rfl rfl ?_ | refine runL_g rfl rfl (qt_pev tok rfl) rfl rfl rfl rfl rfl ?_ | refine runL_q (ql tok rfl) rfl rfl rfl ?_ | refine runL_g rfl rfl (ql tok rfl) rfl rfl rfl rfl rfl ?_ | (refine runL_op0 (sst tok rfl rfl rfl rfl rfl) ?_; rintro _ _ _ ⟨rfl, rfl, rfl⟩) | (refine runL_op (st_box rfl) rfl rfl rfl ?_; rintro _ _ _ ⟨_, rfl, rfl, rfl⟩) | (refine runL_op (st_alloc tok rfl) rfl rfl rfl ?_; rintro _ _ _ ⟨_, rfl, rfl, rfl⟩) | (refine runL_op (st_buildSlice tok rfl rfl rfl rfl rfl rfl rfl) rfl rfl rfl ?_; rintro _ _ _ ⟨_, rfl, rfl, rfl⟩))
    exact run_ret hC (rs := [.tmp 4]) rfl (resT rfl resN) (fun _ h => h) ⟨rfl, rfl, rfl⟩

theorem of_natlt {j n : Nat} (h : decide ((j : Int) < (n : Int)) = true) : j < n := by have := of_decide_eq_true h; omega
theorem SU8.at' {M : Mem} {s : SU8} (h : U8Ok M s) {j : Nat} (hj : j < s.len) : ∃ b off x, s.v = .slice (some ⟨b, off, none⟩) s.len s.cap ∧ s.xs[j]? = some x ∧ Cells M [] b (off + j * 1) (u8C x) := by
  obtain ⟨b, off, cv, hma, hcv, _, hc⟩ := h.1.at_ hj
  obtain ⟨x, hx, rfl⟩ : ∃ y, s.xs[j]? = some y ∧ u8C y = cv := by simpa using hcv
  exact ⟨b, off, x, by rw [← hma]; rfl, hx, hc⟩
theorem SBl.at' {M : Mem} {s : SBl} (h : BlOk M s) {j : Nat} (hj : j < s.len) : ∃ b off x, s.v = .slice (some ⟨b, off, none⟩) s.len s.cap ∧ s.xs[j]? = some x ∧ Cells M [] b (off + j * 1) (blC x) := by
  obtain ⟨b, off, cv, hma, hcv, _, hc⟩ := h.1.at_ hj
  obtain ⟨x, hx, rfl⟩ : ∃ y, s.xs[j]? = some y ∧ blC y = cv := by simpa using hcv
  exact ⟨b, off, x, by rw [← hma]; rfl, hx, hc⟩
set_option maxRecDepth 10000 in
set_option maxHeartbeats 8000000 in
theorem sameCo_ok (M : Mem) (L : HL) (c d : Co) (hc : CoOk M c) (hd : CoOk M d) (he : c.ab = d.ab) : TrQ Try.prog 17 [.agg ⟨coC c⟩, .agg ⟨coC d⟩] M L (.bool true) := by
  obtain ⟨l1, l2, l3, l4, l5⟩ := hc.lens
  obtain ⟨k1, k2, k3, k4, k5⟩ := hd.lens
  have hv6 := hc.votes.2
  have ha6 := hc.acks.2
  simp only [Co.ab, Ca.mk.injEq] at he
  obtain ⟨e1, e2, e3, e4, e5, e6, e7, e8, e9, e10⟩ := he
  have hvl : c.votes.len = d.votes.len := by rw [← l3, ← k3, e5]
  have hal : c.acks.len = d.acks.len := by rw [← l5, ← k5, e7]
  refine Tr.intro 113 Try.func17 rfl rfl Try.call17 rfl ?_
  intro C hC hro
  repeat (first | with_reducible (first | refine run_seq ?_ | refine run_region ?_ | refine runL_nil ?_ | refine run_skip ?_ | refine run_block ?_ | refine run_inBlock ?_) | refine run_exit rfl ?_ | refine runL_q (qt_pev tok rfl) rfl rfl rfl ?_ | refine runL_g rfl rfl (qt_pev tok rfl) rfl rfl rfl rfl rfl ?_ | refine runL_q (ql tok rfl) rfl rfl rfl ?_ | refine runL_g rfl rfl (ql tok rfl) rfl rfl rfl rfl rfl ?_ | (refine runL_op0 (sst tok rfl rfl rfl rfl rfl) ?_; rintro _ _ _ ⟨rfl, rfl, rfl⟩) | (refine runL_op (st_box rfl) rfl rfl rfl ?_; rintro _ _ _ ⟨_, rfl, rfl, rfl⟩) | (refine runL_op (st_alloc tok rfl) rfl rfl rfl ?_; rintro _ _ _ ⟨_, rfl, rfl, rfl⟩) | (refine runL_op (st_buildSlice tok rfl rfl rfl rfl rfl rfl rfl) rfl rfl rfl ?_; rintro _ _ _ ⟨_, rfl, rfl, rfl⟩))
  rename_i b2 b3
  refine run_cond rfl (fun h => ?_) (fun _ => ?_)
  · rw [e1, e2, e8, e9, e10, hvl, hal] at h
    simp at h
  repeat (first | with_reducible (first | refine run_seq ?_ | refine run_region ?_ | refine runL_nil ?_ | refine run_skip ?_ | refine run_block ?_ | refine run_inBlock ?_) | refine run_exit rfl ?_ | refine runL_q (qt_pev tok rfl) rfl rfl rfl ?_ | refine runL_g rfl rfl (qt_pev tok rfl) rfl rfl rfl rfl rfl ?_ | refine runL_q (ql tok rfl) rfl rfl rfl ?_ | refine runL_g rfl rfl (ql tok rfl) rfl rfl rfl rfl rfl ?_ | (refine runL_op0 (sst tok rfl rfl rfl rfl rfl) ?_; rintro _ _ _ ⟨rfl, rfl, rfl⟩) | (refine runL_op (st_box rfl) rfl rfl rfl ?_; rintro _ _ _ ⟨_, rfl, rfl, rfl⟩) | (refine runL_op (st_alloc tok rfl) rfl rfl rfl ?_; rintro _ _ _ ⟨_, rfl, rfl, rfl⟩) | (refine runL_op (st_buildSlice tok rfl rfl rfl rfl rfl rfl rfl) rfl rfl rfl ?_; rintro _ _ _ ⟨_, rfl, rfl, rfl⟩))
  refine run_loopN (fun j σ1 M1 L1 => j ≤ c.votes.len ∧ M = M1 ∧ L1 = (b3, .cells ⟨coC d⟩ 29 (0, 0)) :: (b2, .cells ⟨coC c⟩ 29 (0, 0)) :: L ∧ σ1 = [(5, .int .i64 (j : Int)), (2, .pointer (some ⟨b2, 0, none⟩)), (3, .pointer (some ⟨b3, 0, none⟩))]) c.votes.len [(5, .int .i64 ((0 : Nat) : Int)), (2, .pointer (some ⟨b2, 0, none⟩)), (3, .pointer (some ⟨b3, 0, none⟩))] ?_ ⟨Nat.zero_le _, rfl, rfl, rfl⟩ (fun j _ _ _ h => h.1) ?_
  · exact ⟨rfl, rfl, rfl, trivial⟩
  rintro j _ _ _ ⟨hj, rfl, rfl, rfl⟩ hnext
  repeat (first | with_reducible (first | refine run_seq ?_ | refine run_region ?_ | refine runL_nil ?_ | refine run_skip ?_ | refine run_block ?_ | refine run_inBlock ?_) | refine run_exit rfl ?_ | refine runL_q (qt_pev tok rfl) rfl rfl rfl ?_ | refine runL_g rfl rfl (qt_pev tok rfl) rfl rfl rfl rfl rfl ?_ | refine runL_q (ql tok rfl) rfl rfl rfl ?_ | refine runL_g rfl rfl (ql tok rfl) rfl rfl rfl rfl rfl ?_ | (refine runL_op0 (sst tok rfl rfl rfl rfl rfl) ?_; rintro _ _ _ ⟨rfl, rfl, rfl⟩) | (refine runL_op (st_box rfl) rfl rfl rfl ?_; rintro _ _ _ ⟨_, rfl, rfl, rfl⟩) | (refine runL_op (st_alloc tok rfl) rfl rfl rfl ?_; rintro _ _ _ ⟨_, rfl, rfl, rfl⟩) | (refine runL_op (st_buildSlice tok rfl rfl rfl rfl rfl rfl rfl) rfl rfl rfl ?_; rintro _ _ _ ⟨_, rfl, rfl, rfl⟩))
  refine run_cond rfl (fun h => ?_) (fun h => ?_)
  · have hlt : j < c.votes.len := of_natlt h
    obtain ⟨b, off, x, hv, hx, hcc⟩ := SU8.at' hc.votes hlt
    obtain ⟨b', off', x', hv', hx', hcc'⟩ := SU8.at' hd.votes (show j < d.votes.len by omega)
    have hxx : x' = x := by rw [e5, hx'] at hx; exact Option.some.inj hx
    subst hxx
    repeat (first | with_reducible (first | refine run_seq ?_ | refine run_region ?_ | refine runL_nil ?_ | refine run_skip ?_ | refine run_block ?_ | refine run_inBlock ?_) | refine run_exit rfl ?_)
    refine prn_start mixed ?_
    iterate 2 (first | refine prn_q rfl (qt_pev tok rfl) (by decide +kernel) rfl rfl rfl ?_ | refine prn_gK rfl rfl rfl (qt_pev tok rfl) (by decide +kernel) rfl rfl rfl ?_ | refine prn_gF rfl rfl rfl (by decide +kernel) rfl rfl rfl ?_ | refine prn_g rfl rfl rfl (qt_pev tok rfl) (by decide +kernel) rfl rfl rfl rfl rfl ?_ | refine prn_q rfl (ql tok rfl) (by decide +kernel) rfl rfl rfl ?_ | refine prn_gK rfl rfl rfl (ql tok rfl) (by decide +kernel) rfl rfl rfl ?_ | refine prn_gF rfl rfl rfl (by decide +kernel) rfl rfl rfl ?_ | refine prn_g rfl rfl rfl (ql tok rfl) (by decide +kernel) rfl rfl rfl rfl rfl ?_ | (refine prn_e0 rfl (sst tok rfl rfl rfl rfl rfl) (by decide +kernel) ?_; rintro _ _ _ ⟨rfl, rfl, rfl⟩) | (refine prn_e1 rfl (st_box rfl) (by decide +kernel) rfl rfl rfl ?_; rintro _ _ _ ⟨_, rfl, rfl, rfl⟩) | (refine prn_e1 rfl (st_alloc tok rfl) (by decide +kernel) rfl rfl rfl ?_; rintro _ _ _ ⟨_, rfl, rfl, rfl⟩) | (refine prn_e1 rfl (st_buildSlice tok rfl rfl rfl rfl rfl rfl rfl) (by decide +kernel) rfl rfl rfl ?_; rintro _ _ _ ⟨_, rfl, rfl, rfl⟩) | (refine prn_o0 rfl (sst tok rfl rfl rfl rfl rfl) (by decide +kernel) ?_; rintro _ _ _ ⟨rfl, rfl, rfl⟩; refine ⟨by (repeat (first | exact trivial | refine And.intro (pend_q rfl rfl rfl (qt_pev tok rfl)) ?_ | refine And.intro (pend_q rfl rfl rfl (ql tok rfl)) ?_)), ?_⟩) | (refine prn_o1 rfl (st_box rfl) (by decide +kernel) rfl rfl rfl ?_; rintro _ _ _ ⟨_, rfl, rfl, rfl⟩; refine ⟨by (repeat (first | exact trivial | refine And.intro (pend_q rfl rfl rfl (qt_pev tok rfl)) ?_ | refine And.intro (pend_q rfl rfl rfl (ql tok rfl)) ?_)), ?_⟩) | (refine prn_o1 rfl (st_alloc tok rfl) (by decide +kernel) rfl rfl rfl ?_; rintro _ _ _ ⟨_, rfl, rfl, rfl⟩; refine ⟨by (repeat (first | exact trivial | refine And.intro (pend_q rfl rfl rfl (qt_pev tok rfl)) ?_ | refine And.intro (pend_q rfl rfl rfl (ql tok rfl)) ?_)), ?_⟩) | (refine prn_o1 rfl (st_buildSlice tok rfl rfl rfl rfl rfl rfl rfl) (by decide +kernel) rfl rfl rfl ?_; rintro _ _ _ ⟨_, rfl, rfl, rfl⟩; refine ⟨by (repeat (first | exact trivial | refine And.intro (pend_q rfl rfl rfl (qt_pev tok rfl)) ?_ | refine And.intro (pend_q rfl rfl rfl (ql tok rfl)) ?_)), ?_⟩) | (refine prn_e1 rfl (qt_pev tok rfl) (by decide +kernel) rfl rfl rfl ?_; rintro _ _ _ ⟨rfl, rfl, rfl⟩))
    refine pr_as 66 (.slice (some ⟨b, off, none⟩) c.votes.len c.votes.cap) rfl hv ?_
    iterate 5 (first | refine prn_q rfl (qt_pev tok rfl) (by decide +kernel) rfl rfl rfl ?_ | refine prn_gK rfl rfl rfl (qt_pev tok rfl) (by decide +kernel) rfl rfl rfl ?_ | refine prn_gF rfl rfl rfl (by decide +kernel) rfl rfl rfl ?_ | refine prn_g rfl rfl rfl (qt_pev tok rfl) (by decide +kernel) rfl rfl rfl rfl rfl ?_ | refine prn_q rfl (ql tok rfl) (by decide +kernel) rfl rfl rfl ?_ | refine prn_gK rfl rfl rfl (ql tok rfl) (by decide +kernel) rfl rfl rfl ?_ | refine prn_gF rfl rfl rfl (by decide +kernel) rfl rfl rfl ?_ | refine prn_g rfl rfl rfl (ql tok rfl) (by decide +kernel) rfl rfl rfl rfl rfl ?_ | (refine prn_e0 rfl (sst tok rfl rfl rfl rfl rfl) (by decide +kernel) ?_; rintro _ _ _ ⟨rfl, rfl, rfl⟩) | (refine prn_e1 rfl (st_box rfl) (by decide +kernel) rfl rfl rfl ?_; rintro _ _ _ ⟨_, rfl, rfl, rfl⟩) | (refine prn_e1 rfl (st_alloc tok rfl) (by decide +kernel) rfl rfl rfl ?_; rintro _ _ _ ⟨_, rfl, rfl, rfl⟩) | (refine prn_e1 rfl (st_buildSlice tok rfl rfl rfl rfl rfl rfl rfl) (by decide +kernel) rfl rfl rfl ?_; rintro _ _ _ ⟨_, rfl, rfl, rfl⟩) | (refine prn_o0 rfl (sst tok rfl rfl rfl rfl rfl) (by decide +kernel) ?_; rintro _ _ _ ⟨rfl, rfl, rfl⟩; refine ⟨by (repeat (first | exact trivial | refine And.intro (pend_q rfl rfl rfl (qt_pev tok rfl)) ?_ | refine And.intro (pend_q rfl rfl rfl (ql tok rfl)) ?_)), ?_⟩) | (refine prn_o1 rfl (st_box rfl) (by decide +kernel) rfl rfl rfl ?_; rintro _ _ _ ⟨_, rfl, rfl, rfl⟩; refine ⟨by (repeat (first | exact trivial | refine And.intro (pend_q rfl rfl rfl (qt_pev tok rfl)) ?_ | refine And.intro (pend_q rfl rfl rfl (ql tok rfl)) ?_)), ?_⟩) | (refine prn_o1 rfl (st_alloc tok rfl) (by decide +kernel) rfl rfl rfl ?_; rintro _ _ _ ⟨_, rfl, rfl, rfl⟩; refine ⟨by (repeat (first | exact trivial | refine And.intro (pend_q rfl rfl rfl (qt_pev tok rfl)) ?_ | refine And.intro (pend_q rfl rfl rfl (ql tok rfl)) ?_)), ?_⟩) | (refine prn_o1 rfl (st_buildSlice tok rfl rfl rfl rfl rfl rfl rfl) (by decide +kernel) rfl rfl rfl ?_; rintro _ _ _ ⟨_, rfl, rfl, rfl⟩; refine ⟨by (repeat (first | exact trivial | refine And.intro (pend_q rfl rfl rfl (qt_pev tok rfl)) ?_ | refine And.intro (pend_q rfl rfl rfl (ql tok rfl)) ?_)), ?_⟩) | (refine prn_e1 rfl (qt_pev tok rfl) (by decide +kernel) rfl rfl rfl ?_; rintro _ _ _ ⟨rfl, rfl, rfl⟩) | refine prn_q rfl (qt_indexN tok rfl rfl rfl rfl (fun _ => by omega)) (by decide +kernel) rfl rfl rfl ?_ | refine prn_g rfl rfl rfl (qt_indexN tok rfl rfl rfl rfl (fun _ => by omega)) (by decide +kernel) rfl rfl rfl rfl rfl ?_ | refine prn_q rfl (qt_ldM tok rfl hcc rfl) (by decide +kernel) rfl rfl rfl ?_ | refine prn_g rfl rfl rfl (qt_ldM tok rfl hcc rfl) (by decide +kernel) rfl rfl rfl rfl rfl ?_ | refine prn_q rfl (qt_ldM0 tok rfl hcc rfl) (by decide +kernel) rfl rfl rfl ?_ | refine prn_g rfl rfl rfl (qt_ldM0 tok rfl hcc rfl) (by decide +kernel) rfl rfl rfl rfl rfl ?_)
    refine pr_as 71 (.slice (some ⟨b', off', none⟩) d.votes.len d.votes.cap) rfl hv' ?_
    repeat (first | with_reducible (first | refine run_seq ?_ | refine run_region ?_ | refine runL_nil ?_ | refine run_skip ?_ | refine run_block ?_ | refine run_inBlock ?_) | refine run_exit rfl ?_ | refine runL_q (qt_pev tok rfl) rfl rfl rfl ?_ | refine runL_g rfl rfl (qt_pev tok rfl) rfl rfl rfl rfl rfl ?_ | refine runL_q (ql tok rfl) rfl rfl rfl ?_ | refine runL_g rfl rfl (ql tok rfl) rfl rfl rfl rfl rfl ?_ | (refine runL_op0 (sst tok rfl rfl rfl rfl rfl) ?_; rintro _ _ _ ⟨rfl, rfl, rfl⟩) | (refine runL_op (st_box rfl) rfl rfl rfl ?_; rintro _ _ _ ⟨_, rfl, rfl, rfl⟩) | (refine runL_op (st_alloc tok rfl) rfl rfl rfl ?_; rintro _ _ _ ⟨_, rfl, rfl, rfl⟩) | (refine runL_op (st_buildSlice tok rfl rfl rfl rfl rfl rfl rfl) rfl rfl rfl ?_; rintro _ _ _ ⟨_, rfl, rfl, rfl⟩) | refine prn_start mixed ?_ | refine prn_end (by decide +kernel) ?_ | refine prn_q rfl (qt_pev tok rfl) (by decide +kernel) rfl rfl rfl ?_ | refine prn_g rfl rfl rfl (qt_pev tok rfl) (by decide +kernel) rfl rfl rfl rfl rfl ?_ | refine prn_q rfl (ql tok rfl) (by decide +kernel) rfl rfl rfl ?_ | refine prn_g rfl rfl rfl (ql tok rfl) (by decide +kernel) rfl rfl rfl rfl rfl ?_ | (refine prn_e0 rfl (sst tok rfl rfl rfl rfl rfl) (by decide +kernel) ?_; rintro _ _ _ ⟨rfl, rfl, rfl⟩) | (refine prn_e1 rfl (st_box rfl) (by decide +kernel) rfl rfl rfl ?_; rintro _ _ _ ⟨_, rfl, rfl, rfl⟩) | (refine prn_e1 rfl (st_alloc tok rfl) (by decide +kernel) rfl rfl rfl ?_; rintro _ _ _ ⟨_, rfl, rfl, rfl⟩) | (refine prn_e1 rfl (st_buildSlice tok rfl rfl rfl rfl rfl rfl rfl) (by decide +kernel) rfl rfl rfl ?_; rintro _ _ _ ⟨_, rfl, rfl, rfl⟩) | (refine prn_o0 rfl (sst tok rfl rfl rfl rfl rfl) (by decide +kernel) ?_; rintro _ _ _ ⟨rfl, rfl, rfl⟩; refine ⟨by (repeat (first | exact trivial | refine And.intro (pend_q rfl rfl rfl (qt_pev tok rfl)) ?_ | refine And.intro (pend_q rfl rfl rfl (ql tok rfl)) ?_)), ?_⟩) | (refine prn_o1 rfl (st_box rfl) (by decide +kernel) rfl rfl rfl ?_; rintro _ _ _ ⟨_, rfl, rfl, rfl⟩; refine ⟨by (repeat (first | exact trivial | refine And.intro (pend_q rfl rfl rfl (qt_pev tok rfl)) ?_ | refine And.intro (pend_q rfl rfl rfl (ql tok rfl)) ?_)), ?_⟩) | (refine prn_o1 rfl (st_alloc tok rfl) (by decide +kernel) rfl rfl rfl ?_; rintro _ _ _ ⟨_, rfl, rfl, rfl⟩; refine ⟨by (repeat (first | exact trivial | refine And.intro (pend_q rfl rfl rfl (qt_pev tok rfl)) ?_ | refine And.intro (pend_q rfl rfl rfl (ql tok rfl)) ?_)), ?_⟩) | (refine prn_o1 rfl (st_buildSlice tok rfl rfl rfl rfl rfl rfl rfl) (by decide +kernel) rfl rfl rfl ?_; rintro _ _ _ ⟨_, rfl, rfl, rfl⟩; refine ⟨by (repeat (first | exact trivial | refine And.intro (pend_q rfl rfl rfl (qt_pev tok rfl)) ?_ | refine And.intro (pend_q rfl rfl rfl (ql tok rfl)) ?_)), ?_⟩) | (refine prn_e1 rfl (qt_pev tok rfl) (by decide +kernel) rfl rfl rfl ?_; rintro _ _ _ ⟨rfl, rfl, rfl⟩) | refine prn_q rfl (qt_indexN tok rfl rfl rfl rfl (fun _ => by omega)) (by decide +kernel) rfl rfl rfl ?_ | refine prn_g rfl rfl rfl (qt_indexN tok rfl rfl rfl rfl (fun _ => by omega)) (by decide +kernel) rfl rfl rfl rfl rfl ?_ | refine prn_q rfl (qt_ldM tok rfl hcc' rfl) (by decide +kernel) rfl rfl rfl ?_ | refine prn_g rfl rfl rfl (qt_ldM tok rfl hcc' rfl) (by decide +kernel) rfl rfl rfl rfl rfl ?_ | refine prn_q rfl (qt_ldM0 tok rfl hcc' rfl) (by decide +kernel) rfl rfl rfl ?_ | refine prn_g rfl rfl rfl (qt_ldM0 tok rfl hcc' rfl) (by decide +kernel) rfl rfl rfl rfl rfl ?_)
    refine run_cond rfl (fun h => ?_) (fun h => ?_)
    · simp at h
    · repeat (first | with_reducible (first | refine run_seq ?_ | refine run_region ?_ | refine runL_nil ?_ | refine run_skip ?_ | refine run_block ?_ | refine run_inBlock ?_) | refine run_exit rfl ?_ | refine runL_q (qt_pev tok rfl) rfl rfl rfl ?_ | refine runL_g rfl rfl (qt_pev tok rfl) rfl rfl rfl rfl rfl ?_ | refine runL_q (ql tok rfl) rfl rfl rfl ?_ | refine runL_g rfl rfl (ql tok rfl) rfl rfl rfl rfl rfl ?_ | (refine runL_op0 (sst tok rfl rfl rfl rfl rfl) ?_; rintro _ _ _ ⟨rfl, rfl, rfl⟩) | (refine runL_op (st_box rfl) rfl rfl rfl ?_; rintro _ _ _ ⟨_, rfl, rfl, rfl⟩) | (refine runL_op (st_alloc tok rfl) rfl rfl rfl ?_; rintro _ _ _ ⟨_, rfl, rfl, rfl⟩) | (refine runL_op (st_buildSlice tok rfl rfl rfl rfl rfl rfl rfl) rfl rfl rfl ?_; rintro _ _ _ ⟨_, rfl, rfl, rfl⟩))
      exact run_sub' (hnext _ _ _ ⟨hlt, rfl, rfl, rfl⟩) ⟨lk_succ rfl (by omega), rfl, rfl, trivial⟩
  clear hnext
  repeat (first | with_reducible (first | refine run_seq ?_ | refine run_region ?_ | refine runL_nil ?_ | refine run_skip ?_ | refine run_block ?_ | refine run_inBlock ?_) | refine run_exit rfl ?_ | refine runL_q (qt_pev tok rfl) rfl rfl rfl ?_ | refine runL_g rfl rfl (qt_pev tok rfl) rfl rfl rfl rfl rfl ?_ | refine runL_q (ql tok rfl) rfl rfl rfl ?_ | refine runL_g rfl rfl (ql tok rfl) rfl rfl rfl rfl rfl ?_ | (refine runL_op0 (sst tok rfl rfl rfl rfl rfl) ?_; rintro _ _ _ ⟨rfl, rfl, rfl⟩) | (refine runL_op (st_box rfl) rfl rfl rfl ?_; rintro _ _ _ ⟨_, rfl, rfl, rfl⟩) | (refine runL_op (st_alloc tok rfl) rfl rfl rfl ?_; rintro _ _ _ ⟨_, rfl, rfl, rfl⟩) | (refine runL_op (st_buildSlice tok rfl rfl rfl rfl rfl rfl rfl) rfl rfl rfl ?_; rintro _ _ _ ⟨_, rfl, rfl, rfl⟩))
  refine run_loopN (fun j σ1 M1 L1 => j ≤ c.acks.len ∧ M = M1 ∧ L1 = (b3, .cells ⟨coC d⟩ 29 (0, 0)) :: (b2, .cells ⟨coC c⟩ 29 (0, 0)) :: L ∧ σ1 = [(6, .int .i64 (j : Int)), (2, .pointer (some ⟨b2, 0, none⟩)), (3, .pointer (some ⟨b3, 0, none⟩))]) c.acks.len [(6, .int .i64 ((0 : Nat) : Int)), (2, .pointer (some ⟨b2, 0, none⟩)), (3, .pointer (some ⟨b3, 0, none⟩))] ?_ ⟨Nat.zero_le _, rfl, rfl, rfl⟩ (fun j _ _ _ h => h.1) ?_
  · exact ⟨rfl, rfl, rfl, trivial⟩
  rintro j _ _ _ ⟨hj, rfl, rfl, rfl⟩ hnext
  repeat (first | with_reducible (first | refine run_seq ?_ | refine run_region ?_ | refine runL_nil ?_ | refine run_skip ?_ | refine run_block ?_ | refine run_inBlock ?_) | refine run_exit rfl ?_ | refine runL_q (qt_pev tok rfl) rfl rfl rfl ?_ | refine runL_g rfl rfl (qt_pev tok rfl) rfl rfl rfl rfl rfl ?_ | refine runL_q (ql tok rfl) rfl rfl rfl ?_ | refine runL_g rfl rfl (ql tok rfl) rfl rfl rfl rfl rfl ?_ | (refine runL_op0 (sst tok rfl rfl rfl rfl rfl) ?_; rintro _ _ _ ⟨rfl, rfl, rfl⟩) | (refine runL_op (st_box rfl) rfl rfl rfl ?_; rintro _ _ _ ⟨_, rfl, rfl, rfl⟩) | (refine runL_op (st_alloc tok rfl) rfl rfl rfl ?_; rintro _ _ _ ⟨_, rfl, rfl, rfl⟩) | (refine runL_op (st_buildSlice tok rfl rfl rfl rfl rfl rfl rfl) rfl rfl rfl ?_; rintro _ _ _ ⟨_, rfl, rfl, rfl⟩))
  refine run_cond rfl (fun h => ?_) (fun h => ?_)
  · have hlt : j < c.acks.len := of_natlt h
    obtain ⟨b, off, x, hv, hx, hcc⟩ := SBl.at' hc.acks hlt
    obtain ⟨b', off', x', hv', hx', hcc'⟩ := SBl.at' hd.acks (show j < d.acks.len by omega)
    have hxx : x' = x := by rw [e7, hx'] at hx; exact Option.some.inj hx
    subst hxx
    repeat (first | with_reducible (first | refine run_seq ?_ | refine run_region ?_ | refine runL_nil ?_ | refine run_skip ?_ | refine run_block ?_ | refine run_inBlock ?_) | refine run_exit rfl ?_)
    refine prn_start mixed ?_
    iterate 2 (first | refine prn_q rfl (qt_pev tok rfl) (by decide +kernel) rfl rfl rfl ?_ | refine prn_gK rfl rfl rfl (qt_pev tok rfl) (by decide +kernel) rfl rfl rfl ?_ | refine prn_gF rfl rfl rfl (by decide +kernel) rfl rfl rfl ?_ | refine prn_g rfl rfl rfl (qt_pev tok rfl) (by decide +kernel) rfl rfl rfl rfl rfl ?_ | refine prn_q rfl (ql tok rfl) (by decide +kernel) rfl rfl rfl ?_ | refine prn_gK rfl rfl rfl (ql tok rfl) (by decide +kernel) rfl rfl rfl ?_ | refine prn_gF rfl rfl rfl (by decide +kernel) rfl rfl rfl ?_ | refine prn_g rfl rfl rfl (ql tok rfl) (by decide +kernel) rfl rfl rfl rfl rfl ?_ | (refine prn_e0 rfl (sst tok rfl rfl rfl rfl rfl) (by decide +kernel) ?_; rintro _ _ _ ⟨rfl, rfl, rfl⟩) | (refine prn_e1 rfl (st_box rfl) (by decide +kernel) rfl rfl rfl ?_; rintro _ _ _ ⟨_, rfl, rfl, rfl⟩) | (refine prn_e1 rfl (st_alloc tok rfl) (by decide +kernel) rfl rfl rfl ?_; rintro _ _ _ ⟨_, rfl, rfl, rfl⟩) | (refine prn_e1 rfl (st_buildSlice tok rfl rfl rfl rfl rfl rfl rfl) (by decide +kernel) rfl rfl rfl ?_; rintro _ _ _ ⟨_, rfl, rfl, rfl⟩) | (refine prn_o0 rfl (sst tok rfl rfl rfl rfl rfl) (by decide +kernel) ?_; rintro _ _ _ ⟨rfl, rfl, rfl⟩; refine ⟨by (repeat (first | exact trivial | refine And.intro (pend_q rfl rfl rfl (qt_pev tok rfl)) ?_ | refine And.intro (pend_q rfl rfl rfl (ql tok rfl)) ?_)), ?_⟩) | (refine prn_o1 rfl (st_box rfl) (by decide +kernel) rfl rfl rfl ?_; rintro _ _ _ ⟨_, rfl, rfl, rfl⟩; refine ⟨by (repeat (first | exact trivial | refine And.intro (pend_q rfl rfl rfl (qt_pev tok rfl)) ?_ | refine And.intro (pend_q rfl rfl rfl (ql tok rfl)) ?_)), ?_⟩) | (refine prn_o1 rfl (st_alloc tok rfl) (by decide +kernel) rfl rfl rfl ?_; rintro _ _ _ ⟨_, rfl, rfl, rfl⟩; refine ⟨by (repeat (first | exact trivial | refine And.intro (pend_q rfl rfl rfl (qt_pev tok rfl)) ?_ | refine And.intro (pend_q rfl rfl rfl (ql tok rfl)) ?_)), ?_⟩) | (refine prn_o1 rfl (st_buildSlice tok rfl rfl rfl rfl rfl rfl rfl) (by decide +kernel) rfl rfl rfl ?_; rintro _ _ _ ⟨_, rfl, rfl, rfl⟩; refine ⟨by (repeat (first | exact trivial | refine And.intro (pend_q rfl rfl rfl (qt_pev tok rfl)) ?_ | refine And.intro (pend_q rfl rfl rfl (ql tok rfl)) ?_)), ?_⟩) | (refine prn_e1 rfl (qt_pev tok rfl) (by decide +kernel) rfl rfl rfl ?_; rintro _ _ _ ⟨rfl, rfl, rfl⟩))
    refine pr_as 84 (.slice (some ⟨b, off, none⟩) c.acks.len c.acks.cap) rfl hv ?_
    iterate 5 (first | refine prn_q rfl (qt_pev tok rfl) (by decide +kernel) rfl rfl rfl ?_ | refine prn_gK rfl rfl rfl (qt_pev tok rfl) (by decide +kernel) rfl rfl rfl ?_ | refine prn_gF rfl rfl rfl (by decide +kernel) rfl rfl rfl ?_ | refine prn_g rfl rfl rfl (qt_pev tok rfl) (by decide +kernel) rfl rfl rfl rfl rfl ?_ | refine prn_q rfl (ql tok rfl) (by decide +kernel) rfl rfl rfl ?_ | refine prn_gK rfl rfl rfl (ql tok rfl) (by decide +kernel) rfl rfl rfl ?_ | refine prn_gF rfl rfl rfl (by decide +kernel) rfl rfl rfl ?_ | refine prn_g rfl rfl rfl (ql tok rfl) (by decide +kernel) rfl rfl rfl rfl rfl ?_ | (refine prn_e0 rfl (sst tok rfl rfl rfl rfl rfl) (by decide +kernel) ?_; rintro _ _ _ ⟨rfl, rfl, rfl⟩) | (refine prn_e1 rfl (st_box rfl) (by decide +kernel) rfl rfl rfl ?_; rintro _ _ _ ⟨_, rfl, rfl, rfl⟩) | (refine prn_e1 rfl (st_alloc tok rfl) (by decide +kernel) rfl rfl rfl ?_; rintro _ _ _ ⟨_, rfl, rfl, rfl⟩) | (refine prn_e1 rfl (st_buildSlice tok rfl rfl rfl rfl rfl rfl rfl) (by decide +kernel) rfl rfl rfl ?_; rintro _ _ _ ⟨_, rfl, rfl, rfl⟩) | (refine prn_o0 rfl (sst tok rfl rfl rfl rfl rfl) (by decide +kernel) ?_; rintro _ _ _ ⟨rfl, rfl, rfl⟩; refine ⟨by (repeat (first | exact trivial | refine And.intro (pend_q rfl rfl rfl (qt_pev tok rfl)) ?_ | refine And.intro (pend_q rfl rfl rfl (ql tok rfl)) ?_)), ?_⟩) | (refine prn_o1 rfl (st_box rfl) (by decide +kernel) rfl rfl rfl ?_; rintro _ _ _ ⟨_, rfl, rfl, rfl⟩; refine ⟨by (repeat (first | exact trivial | refine And.intro (pend_q rfl rfl rfl (qt_pev tok rfl)) ?_ | refine And.intro (pend_q rfl rfl rfl (ql tok rfl)) ?_)), ?_⟩) | (refine prn_o1 rfl (st_alloc tok rfl) (by decide +kernel) rfl rfl rfl ?_; rintro _ _ _ ⟨_, rfl, rfl, rfl⟩; refine ⟨by (repeat (first | exact trivial | refine And.intro (pend_q rfl rfl rfl (qt_pev tok rfl)) ?_ | refine And.intro (pend_q rfl rfl rfl (ql tok rfl)) ?_)), ?_⟩) | (refine prn_o1 rfl (st_buildSlice tok rfl rfl rfl rfl rfl rfl rfl) (by decide +kernel) rfl rfl rfl ?_; rintro _ _ _ ⟨_, rfl, rfl, rfl⟩; refine ⟨by (repeat (first | exact trivial | refine And.intro (pend_q rfl rfl rfl (qt_pev tok rfl)) ?_ | refine And.intro (pend_q rfl rfl rfl (ql tok rfl)) ?_)), ?_⟩) | (refine prn_e1 rfl (qt_pev tok rfl) (by decide +kernel) rfl rfl rfl ?_; rintro _ _ _ ⟨rfl, rfl, rfl⟩) | refine prn_q rfl (qt_indexN tok rfl rfl rfl rfl (fun _ => by omega)) (by decide +kernel) rfl rfl rfl ?_ | refine prn_g rfl rfl rfl (qt_indexN tok rfl rfl rfl rfl (fun _ => by omega)) (by decide +kernel) rfl rfl rfl rfl rfl ?_ | refine prn_q rfl (qt_ldM tok rfl hcc rfl) (by decide +kernel) rfl rfl rfl ?_ | refine prn_g rfl rfl rfl (qt_ldM tok rfl hcc rfl) (by decide +kernel) rfl rfl rfl rfl rfl ?_ | refine prn_q rfl (qt_ldM0 tok rfl hcc rfl) (by decide +kernel) rfl rfl rfl ?_ | refine prn_g rfl rfl rfl (qt_ldM0 tok rfl hcc rfl) (by decide +kernel) rfl rfl rfl rfl rfl ?_)
    refine pr_as 89 (.slice (some ⟨b', off', none⟩) d.acks.len d.acks.cap) rfl hv' ?_
    repeat (first | with_reducible (first | refine run_seq ?_ | refine run_region ?_ | refine runL_nil ?_ | refine run_skip ?_ | refine run_block ?_ | refine run_inBlock ?_) | refine run_exit rfl ?_ | refine runL_q (qt_pev tok rfl) rfl rfl rfl ?_ | refine runL_g rfl rfl (qt_pev tok rfl) rfl rfl rfl rfl rfl ?_ | refine runL_q (ql tok rfl) rfl rfl rfl ?_ | refine runL_g rfl rfl (ql tok rfl) rfl rfl rfl rfl rfl ?_ | (refine runL_op0 (sst tok rfl rfl rfl rfl rfl) ?_; rintro _ _ _ ⟨rfl, rfl, rfl⟩) | (refine runL_op (st_box rfl) rfl rfl rfl ?_; rintro _ _ _ ⟨_, rfl, rfl, rfl⟩) | (refine runL_op (st_alloc tok rfl) rfl rfl rfl ?_; rintro _ _ _ ⟨_, rfl, rfl, rfl⟩) | (refine runL_op (st_buildSlice tok rfl rfl rfl rfl rfl rfl rfl) rfl rfl rfl ?_; rintro _ _ _ ⟨_, rfl, rfl, rfl⟩) | refine prn_start mixed ?_ | refine prn_end (by decide +kernel) ?_ | refine prn_q rfl (qt_pev tok rfl) (by decide +kernel) rfl rfl rfl ?_ | refine prn_g rfl rfl rfl (qt_pev tok rfl) (by decide +kernel) rfl rfl rfl rfl rfl ?_ | refine prn_q rfl (ql tok rfl) (by decide +kernel) rfl rfl rfl ?_ | refine prn_g rfl rfl rfl (ql tok rfl) (by decide +kernel) rfl rfl rfl rfl rfl ?_ | (refine prn_e0 rfl (sst tok rfl rfl rfl rfl rfl) (by decide +kernel) ?_; rintro _ _ _ ⟨rfl, rfl, rfl⟩) | (refine prn_e1 rfl (st_box rfl) (by decide +kernel) rfl rfl rfl ?_; rintro _ _ _ ⟨_, rfl, rfl, rfl⟩) | (refine prn_e1 rfl (st_alloc tok rfl) (by decide +kernel) rfl rfl rfl ?_; rintro _ _ _ ⟨_, rfl, rfl, rfl⟩) | (refine prn_e1 rfl (st_buildSlice tok rfl rfl rfl rfl rfl rfl rfl) (by decide +kernel) rfl rfl rfl ?_; rintro _ _ _ ⟨_, rfl, rfl, rfl⟩) | (refine prn_o0 rfl (sst tok rfl rfl rfl rfl rfl) (by decide +kernel) ?_; rintro _ _ _ ⟨rfl, rfl, rfl⟩; refine ⟨by (repeat (first | exact trivial | refine And.intro (pend_q rfl rfl rfl (qt_pev tok rfl)) ?_ | refine And.intro (pend_q rfl rfl rfl (ql tok rfl)) ?_)), ?_⟩) | (refine prn_o1 rfl (st_box rfl) (by decide +kernel) rfl rfl rfl ?_; rintro _ _ _ ⟨_, rfl, rfl, rfl⟩; refine ⟨by (repeat (first | exact trivial | refine And.intro (pend_q rfl rfl rfl (qt_pev tok rfl)) ?_ | refine And.intro (pend_q rfl rfl rfl (ql tok rfl)) ?_)), ?_⟩) | (refine prn_o1 rfl (st_alloc tok rfl) (by decide +kernel) rfl rfl rfl ?_; rintro _ _ _ ⟨_, rfl, rfl, rfl⟩; refine ⟨by (repeat (first | exact trivial | refine And.intro (pend_q rfl rfl rfl (qt_pev tok rfl)) ?_ | refine And.intro (pend_q rfl rfl rfl (ql tok rfl)) ?_)), ?_⟩) | (refine prn_o1 rfl (st_buildSlice tok rfl rfl rfl rfl rfl rfl rfl) (by decide +kernel) rfl rfl rfl ?_; rintro _ _ _ ⟨_, rfl, rfl, rfl⟩; refine ⟨by (repeat (first | exact trivial | refine And.intro (pend_q rfl rfl rfl (qt_pev tok rfl)) ?_ | refine And.intro (pend_q rfl rfl rfl (ql tok rfl)) ?_)), ?_⟩) | (refine prn_e1 rfl (qt_pev tok rfl) (by decide +kernel) rfl rfl rfl ?_; rintro _ _ _ ⟨rfl, rfl, rfl⟩) | refine prn_q rfl (qt_indexN tok rfl rfl rfl rfl (fun _ => by omega)) (by decide +kernel) rfl rfl rfl ?_ | refine prn_g rfl rfl rfl (qt_indexN tok rfl rfl rfl rfl (fun _ => by omega)) (by decide +kernel) rfl rfl rfl rfl rfl ?_ | refine prn_q rfl (qt_ldM tok rfl hcc' rfl) (by decide +kernel) rfl rfl rfl ?_ | refine prn_g rfl rfl rfl (qt_ldM tok rfl hcc' rfl) (by decide +kernel) rfl rfl rfl rfl rfl ?_ | refine prn_q rfl (qt_ldM0 tok rfl hcc' rfl) (by decide +kernel) rfl rfl rfl ?_ | refine prn_g rfl rfl rfl (qt_ldM0 tok rfl hcc' rfl) (by decide +kernel) rfl rfl rfl rfl rfl ?_)
    refine run_cond rfl (fun h => ?_) (fun h => ?_)
    · exfalso
      revert h
      cases x' <;> simp
    · repeat (first | with_reducible (first | refine run_seq ?_ | refine run_region ?_ | refine runL_nil ?_ | refine run_skip ?_ | refine run_block ?_ | refine run_inBlock ?_) | refine run_exit rfl ?_ | refine runL_q (qt_pev tok rfl) rfl rfl rfl ?_ | refine runL_g rfl rfl (qt_pev tok rfl) rfl rfl rfl rfl rfl ?_ | refine runL_q (ql tok rfl) rfl rfl rfl ?_ | refine runL_g rfl rfl (ql tok rfl) rfl rfl rfl rfl rfl ?_ | (refine runL_op0 (sst tok rfl rfl rfl rfl rfl) ?_; rintro _ _ _ ⟨rfl, rfl, rfl⟩) | (refine runL_op (st_box rfl) rfl rfl rfl ?_; rintro _ _ _ ⟨_, rfl, rfl, rfl⟩) | (refine runL_op (st_alloc tok rfl) rfl rfl rfl ?_; rintro _ _ _ ⟨_, rfl, rfl, rfl⟩) | (refine runL_op (st_buildSlice tok rfl rfl rfl rfl rfl rfl rfl) rfl rfl rfl ?_; rintro _ _ _ ⟨_, rfl, rfl, rfl⟩))
      exact run_sub' (hnext _ _ _ ⟨hlt, rfl, rfl, rfl⟩) ⟨lk_succ rfl (by omega), rfl, rfl, trivial⟩
  clear hnext
  repeat (first | with_reducible (first | refine run_seq ?_ | refine run_region ?_ | refine runL_nil ?_ | refine run_skip ?_ | refine run_block ?_ | refine run_inBlock ?_) | refine run_exit rfl ?_ | refine runL_q (qt_pev tok rfl) rfl rfl rfl ?_ | refine runL_g rfl rfl (qt_pev tok rfl) rfl rfl rfl rfl rfl ?_ | refine runL_q (ql tok rfl) rfl rfl rfl ?_ | refine runL_g rfl rfl (ql tok rfl) rfl rfl rfl rfl rfl ?_ | (refine runL_op0 (sst tok rfl rfl rfl rfl rfl) ?_; rintro _ _ _ ⟨rfl, rfl, rfl⟩) | (refine runL_op (st_box rfl) rfl rfl rfl ?_; rintro _ _ _ ⟨_, rfl, rfl, rfl⟩) | (refine runL_op (st_alloc tok rfl) rfl rfl rfl ?_; rintro _ _ _ ⟨_, rfl, rfl, rfl⟩) | (refine runL_op (st_buildSlice tok rfl rfl rfl rfl rfl rfl rfl) rfl rfl rfl ?_; rintro _ _ _ ⟨_, rfl, rfl, rfl⟩) | refine runL_q (qt_callF rfl (fun _ => sameMb_ok _ _ c.mem d.mem hc.mem hd.mem e3)) rfl rfl rfl ?_ | refine runL_g rfl rfl (qt_callF rfl (fun _ => sameSt_ok _ _ c.bodies d.bodies hc.bodies hd.bodies e4)) rfl rfl rfl rfl rfl ?_ | refine runL_g rfl rfl (qt_callF rfl (fun _ => sameSt_ok _ _ c.tags d.tags hc.tags hd.tags e6)) rfl rfl rfl rfl rfl ?_)
  exact run_ret hC (rs := [.tmp 4]) rfl (resT rfl resN) (fun _ h => h.drop.drop) ⟨rfl, rfl, rfl⟩

/-! ### a member's place, by the document -/
set_option maxHeartbeats 4000000 in
theorem place_ok (M : Mem) (L : HL) (s : SMb) (hs : MbOk M s) (org : Int) : TrQ Try.prog 38 [s.v, .int .i64 org] M L (.int .i64 (ixI (memR s.xs org))) := by
  have hl := hs.len
  have h6 := hs.2
  refine Tr.intro 20 Try.func38 rfl rfl Try.call38 rfl ?_
  intro C hC hro
  repeat (first | with_reducible (first | refine run_seq ?_ | refine run_region ?_ | refine runL_nil ?_ | refine run_skip ?_ | refine run_block ?_ | refine run_inBlock ?_) | refine run_exit rfl ?_ | refine runL_q (qt_pev tok rfl) rfl rfl rfl ?_ | refine runL_g rfl rfl (qt_pev tok rfl) rfl rfl rfl rfl rfl ?_ | refine runL_q (ql tok rfl) rfl rfl rfl ?_ | refine runL_g rfl rfl (ql tok rfl) rfl rfl rfl rfl rfl ?_ | (refine runL_op0 (sst tok rfl rfl rfl rfl rfl) ?_; rintro _ _ _ ⟨rfl, rfl, rfl⟩) | (refine runL_op (st_box rfl) rfl rfl rfl ?_; rintro _ _ _ ⟨_, rfl, rfl, rfl⟩) | (refine runL_op (st_alloc tok rfl) rfl rfl rfl ?_; rintro _ _ _ ⟨_, rfl, rfl, rfl⟩) | (refine runL_op (st_buildSlice tok rfl rfl rfl rfl rfl rfl rfl) rfl rfl rfl ?_; rintro _ _ _ ⟨_, rfl, rfl, rfl⟩))
  refine run_loopN (fun j σ1 M1 L1 => j ≤ s.len ∧ (∀ x ∈ s.xs.take j, (x.org == org) = false) ∧ M = M1 ∧ L = L1 ∧ σ1 = [(5, .int .i64 (j : Int)), (0, s.v), (1, .int .i64 org)]) s.len [(5, .int .i64 ((0 : Nat) : Int)), (0, s.v), (1, .int .i64 org)] ?_ ⟨Nat.zero_le _, by simp, rfl, rfl, rfl⟩ (fun j _ _ _ h => h.1) ?_
  · exact ⟨rfl, rfl, rfl, trivial⟩
  rintro j _ _ _ ⟨hj, hp, rfl, rfl, rfl⟩ hnext
  repeat (first | with_reducible (first | refine run_seq ?_ | refine run_region ?_ | refine runL_nil ?_ | refine run_skip ?_ | refine run_block ?_ | refine run_inBlock ?_) | refine run_exit rfl ?_ | refine runL_q (qt_pev tok rfl) rfl rfl rfl ?_ | refine runL_g rfl rfl (qt_pev tok rfl) rfl rfl rfl rfl rfl ?_ | refine runL_q (ql tok rfl) rfl rfl rfl ?_ | refine runL_g rfl rfl (ql tok rfl) rfl rfl rfl rfl rfl ?_ | (refine runL_op0 (sst tok rfl rfl rfl rfl rfl) ?_; rintro _ _ _ ⟨rfl, rfl, rfl⟩) | (refine runL_op (st_box rfl) rfl rfl rfl ?_; rintro _ _ _ ⟨_, rfl, rfl, rfl⟩) | (refine runL_op (st_alloc tok rfl) rfl rfl rfl ?_; rintro _ _ _ ⟨_, rfl, rfl, rfl⟩) | (refine runL_op (st_buildSlice tok rfl rfl rfl rfl rfl rfl rfl) rfl rfl rfl ?_; rintro _ _ _ ⟨_, rfl, rfl, rfl⟩))
  refine run_cond rfl (fun h1 => ?_) (fun h1 => ?_)
  · have hlt : j < s.len := of_natlt h1
    obtain ⟨b, off, m, hma, hm, hc⟩ := SMb.at_ hs.1 hlt
    have hv : s.v = .slice (some ⟨b, off, none⟩) s.len s.cap := by rw [← hma]; rfl
    refine run_as 0 (.slice (some ⟨b, off, none⟩) s.len s.cap) rfl hv ?_
    repeat (first | with_reducible (first | refine run_seq ?_ | refine run_region ?_ | refine runL_nil ?_ | refine run_skip ?_ | refine run_block ?_ | refine run_inBlock ?_) | refine run_exit rfl ?_ | refine runL_q (qt_pev tok rfl) rfl rfl rfl ?_ | refine runL_g rfl rfl (qt_pev tok rfl) rfl rfl rfl rfl rfl ?_ | refine runL_q (ql tok rfl) rfl rfl rfl ?_ | refine runL_g rfl rfl (ql tok rfl) rfl rfl rfl rfl rfl ?_ | (refine runL_op0 (sst tok rfl rfl rfl rfl rfl) ?_; rintro _ _ _ ⟨rfl, rfl, rfl⟩) | (refine runL_op (st_box rfl) rfl rfl rfl ?_; rintro _ _ _ ⟨_, rfl, rfl, rfl⟩) | (refine runL_op (st_alloc tok rfl) rfl rfl rfl ?_; rintro _ _ _ ⟨_, rfl, rfl, rfl⟩) | (refine runL_op (st_buildSlice tok rfl rfl rfl rfl rfl rfl rfl) rfl rfl rfl ?_; rintro _ _ _ ⟨_, rfl, rfl, rfl⟩) | refine runL_q (qt_indexN tok rfl rfl rfl rfl (fun _ => by omega)) rfl rfl rfl ?_ | refine runL_g rfl rfl (qt_indexN tok rfl rfl rfl rfl (fun _ => by omega)) rfl rfl rfl rfl rfl ?_ | refine runL_q (qt_ldM tok rfl hc rfl) rfl rfl rfl ?_ | refine runL_g rfl rfl (qt_ldM tok rfl hc rfl) rfl rfl rfl rfl rfl ?_ | refine runL_q (qt_ldM0 tok rfl hc rfl) rfl rfl rfl ?_ | refine runL_g rfl rfl (qt_ldM0 tok rfl hc rfl) rfl rfl rfl rfl rfl ?_)
    refine run_cond rfl (fun h2 => ?_) (fun h2 => ?_)
    · repeat (first | with_reducible (first | refine run_seq ?_ | refine run_region ?_ | refine runL_nil ?_ | refine run_skip ?_ | refine run_block ?_ | refine run_inBlock ?_) | refine run_exit rfl ?_ | refine runL_q (qt_pev tok rfl) rfl rfl rfl ?_ | refine runL_g rfl rfl (qt_pev tok rfl) rfl rfl rfl rfl rfl ?_ | refine runL_q (ql tok rfl) rfl rfl rfl ?_ | refine runL_g rfl rfl (ql tok rfl) rfl rfl rfl rfl rfl ?_ | (refine runL_op0 (sst tok rfl rfl rfl rfl rfl) ?_; rintro _ _ _ ⟨rfl, rfl, rfl⟩) | (refine runL_op (st_box rfl) rfl rfl rfl ?_; rintro _ _ _ ⟨_, rfl, rfl, rfl⟩) | (refine runL_op (st_alloc tok rfl) rfl rfl rfl ?_; rintro _ _ _ ⟨_, rfl, rfl, rfl⟩) | (refine runL_op (st_buildSlice tok rfl rfl rfl rfl rfl rfl rfl) rfl rfl rfl ?_; rintro _ _ _ ⟨_, rfl, rfl, rfl⟩))
      exact run_ret hC (rs := [.tmp 4]) rfl (resT rfl resN) (fun _ h => h) ⟨by rw [memR_at hm hp h2]; rfl, rfl, rfl⟩
    · repeat (first | with_reducible (first | refine run_seq ?_ | refine run_region ?_ | refine runL_nil ?_ | refine run_skip ?_ | refine run_block ?_ | refine run_inBlock ?_) | refine run_exit rfl ?_ | refine runL_q (qt_pev tok rfl) rfl rfl rfl ?_ | refine runL_g rfl rfl (qt_pev tok rfl) rfl rfl rfl rfl rfl ?_ | refine runL_q (ql tok rfl) rfl rfl rfl ?_ | refine runL_g rfl rfl (ql tok rfl) rfl rfl rfl rfl rfl ?_ | (refine runL_op0 (sst tok rfl rfl rfl rfl rfl) ?_; rintro _ _ _ ⟨rfl, rfl, rfl⟩) | (refine runL_op (st_box rfl) rfl rfl rfl ?_; rintro _ _ _ ⟨_, rfl, rfl, rfl⟩) | (refine runL_op (st_alloc tok rfl) rfl rfl rfl ?_; rintro _ _ _ ⟨_, rfl, rfl, rfl⟩) | (refine runL_op (st_buildSlice tok rfl rfl rfl rfl rfl rfl rfl) rfl rfl rfl ?_; rintro _ _ _ ⟨_, rfl, rfl, rfl⟩))
      refine run_sub' (hnext _ _ _ ⟨hlt, fun x hx => ?_, rfl, rfl, rfl⟩) ⟨lk_succ rfl (by omega), by rw [hv]; rfl, rfl, trivial⟩
      rw [take_snoc hm] at hx
      rcases List.mem_append.1 hx with hx | hx
      · exact hp x hx
      · simp at hx; subst hx; exact h2
  · have hge : j = s.len := by simp at h1; omega
    rw [hge, List.take_of_length_le (by omega)] at hp
    repeat (first | with_reducible (first | refine run_seq ?_ | refine run_region ?_ | refine runL_nil ?_ | refine run_skip ?_ | refine run_block ?_ | refine run_inBlock ?_) | refine run_exit rfl ?_ | refine runL_q (qt_pev tok rfl) rfl rfl rfl ?_ | refine runL_g rfl rfl (qt_pev tok rfl) rfl rfl rfl rfl rfl ?_ | refine runL_q (ql tok rfl) rfl rfl rfl ?_ | refine runL_g rfl rfl (ql tok rfl) rfl rfl rfl rfl rfl ?_ | (refine runL_op0 (sst tok rfl rfl rfl rfl rfl) ?_; rintro _ _ _ ⟨rfl, rfl, rfl⟩) | (refine runL_op (st_box rfl) rfl rfl rfl ?_; rintro _ _ _ ⟨_, rfl, rfl, rfl⟩) | (refine runL_op (st_alloc tok rfl) rfl rfl rfl ?_; rintro _ _ _ ⟨_, rfl, rfl, rfl⟩) | (refine runL_op (st_buildSlice tok rfl rfl rfl rfl rfl rfl rfl) rfl rfl rfl ?_; rintro _ _ _ ⟨_, rfl, rfl, rfl⟩))
    exact run_ret hC (rs := [.tmp 4]) rfl (resT rfl resN) (fun _ h => h) ⟨by rw [memR_none hp]; rfl, rfl, rfl⟩
end Go.Proofs.Ytpmepmdngdkafaa
namespace Go.Proofs.Ytpmepmdngdkafaa
open Go.Chi

/-! ### the document's rows -/
def okI (c : Co) (m : On) : Bool := !(decide (m.vote > 2) || (m.ack && (c.state == 1))) && !(((m.vote == 1) && !isT m.tag) || ((m.vote != 1) && neT m.tag))
def lensB (c : Co) : Bool := ((((c.votes.len : Int) != (c.mem.len : Int)) || ((c.tags.len : Int) != (c.mem.len : Int))) || ((c.acks.len : Int) != (c.mem.len : Int)))
def bodB (c : Co) : Bool := ((c.bodies.len : Int) != (c.mem.len : Int)) && (((c.bodies.len : Int) != 0) || (c.state == 1))
def refRowsR (c : Co) : Bool := (!lensB c && !bodB c) && (c.bodies.xs.all isT && (ons c).all (okI c))
theorem lensB_rows {c : Co} (h : lensB c = false) : Rows c := by
  simp only [lensB, Bool.or_eq_false_iff, bne_eq_false_iff_eq] at h
  exact ⟨by omega, by omega, by omega⟩
theorem all_snoc {α : Type} {xs : List α} {j : Nat} {x : α} (p : α → Bool) (hx : xs[j]? = some x) (hp : (xs.take j).all p = true) (h : p x = true) : (xs.take (j + 1)).all p = true := by rw [take_snoc hx, List.all_append, hp]; simp [h]
theorem all_false {α : Type} {xs : List α} {j : Nat} {x : α} (p : α → Bool) (hx : xs[j]? = some x) (h : p x = false) : xs.all p = false := List.all_eq_false.2 ⟨x, List.mem_of_getElem? hx, by rw [h]; simp⟩
theorem ons_at {c : Co} {j : Nat} (h : j < c.mem.len) : (ons c)[j]? = some (onAt c j) := by rw [ons, List.getElem?_map, List.getElem?_range h]; rfl
theorem ons_len (c : Co) : (ons c).length = c.mem.len := by simp [ons]
set_option maxRecDepth 10000 in
set_option maxHeartbeats 16000000 in
theorem refRows_ok (M : Mem) (L : HL) (c : Co) (h : CoOk M c) : TrQ Try.prog 54 [.agg ⟨coC c⟩] M L (.bool (refRowsR c)) := by
  have hm6 := h.mem.2
  have hb6 := h.bodies.2
  have hbl := h.bodies.len
  refine Tr.intro 112 Try.func54 rfl rfl Try.call54 rfl ?_
  intro C hC hro
  repeat (first | with_reducible (first | refine run_seq ?_ | refine run_region ?_ | refine runL_nil ?_ | refine run_skip ?_ | refine run_block ?_ | refine run_inBlock ?_) | refine run_exit rfl ?_ | refine runL_q (qt_pev tok rfl) rfl rfl rfl ?_ | refine runL_g rfl rfl (qt_pev tok rfl) rfl rfl rfl rfl rfl ?_ | refine runL_q (ql tok rfl) rfl rfl rfl ?_ | refine runL_g rfl rfl (ql tok rfl) rfl rfl rfl rfl rfl ?_ | (refine runL_op0 (sst tok rfl rfl rfl rfl rfl) ?_; rintro _ _ _ ⟨rfl, rfl, rfl⟩) | (refine runL_op (st_box rfl) rfl rfl rfl ?_; rintro _ _ _ ⟨_, rfl, rfl, rfl⟩) | (refine runL_op (st_alloc tok rfl) rfl rfl rfl ?_; rintro _ _ _ ⟨_, rfl, rfl, rfl⟩) | (refine runL_op (st_buildSlice tok rfl rfl rfl rfl rfl rfl rfl) rfl rfl rfl ?_; rintro _ _ _ ⟨_, rfl, rfl, rfl⟩))
  rename_i b1
  refine run_cond rfl (fun h1 => ?_) (fun h1 => ?_)
  · have h2 : lensB c = true := h1
    repeat (first | with_reducible (first | refine run_seq ?_ | refine run_region ?_ | refine runL_nil ?_ | refine run_skip ?_ | refine run_block ?_ | refine run_inBlock ?_) | refine run_exit rfl ?_ | refine runL_q (qt_pev tok rfl) rfl rfl rfl ?_ | refine runL_g rfl rfl (qt_pev tok rfl) rfl rfl rfl rfl rfl ?_ | refine runL_q (ql tok rfl) rfl rfl rfl ?_ | refine runL_g rfl rfl (ql tok rfl) rfl rfl rfl rfl rfl ?_ | (refine runL_op0 (sst tok rfl rfl rfl rfl rfl) ?_; rintro _ _ _ ⟨rfl, rfl, rfl⟩) | (refine runL_op (st_box rfl) rfl rfl rfl ?_; rintro _ _ _ ⟨_, rfl, rfl, rfl⟩) | (refine runL_op (st_alloc tok rfl) rfl rfl rfl ?_; rintro _ _ _ ⟨_, rfl, rfl, rfl⟩) | (refine runL_op (st_buildSlice tok rfl rfl rfl rfl rfl rfl rfl) rfl rfl rfl ?_; rintro _ _ _ ⟨_, rfl, rfl, rfl⟩))
    exact run_ret hC (rs := [.tmp 2]) rfl (resT rfl resN) (fun _ h => h.drop) ⟨by rw [refRowsR, h2]; rfl, rfl, rfl⟩
  have h2 : lensB c = false := h1
  have hr := lensB_rows h2
  have hr1 := hr.votes
  have hr2 := hr.tags
  have hr3 := hr.acks
  repeat (first | with_reducible (first | refine run_seq ?_ | refine run_region ?_ | refine runL_nil ?_ | refine run_skip ?_ | refine run_block ?_ | refine run_inBlock ?_) | refine run_exit rfl ?_ | refine runL_q (qt_pev tok rfl) rfl rfl rfl ?_ | refine runL_g rfl rfl (qt_pev tok rfl) rfl rfl rfl rfl rfl ?_ | refine runL_q (ql tok rfl) rfl rfl rfl ?_ | refine runL_g rfl rfl (ql tok rfl) rfl rfl rfl rfl rfl ?_ | (refine runL_op0 (sst tok rfl rfl rfl rfl rfl) ?_; rintro _ _ _ ⟨rfl, rfl, rfl⟩) | (refine runL_op (st_box rfl) rfl rfl rfl ?_; rintro _ _ _ ⟨_, rfl, rfl, rfl⟩) | (refine runL_op (st_alloc tok rfl) rfl rfl rfl ?_; rintro _ _ _ ⟨_, rfl, rfl, rfl⟩) | (refine runL_op (st_buildSlice tok rfl rfl rfl rfl rfl rfl rfl) rfl rfl rfl ?_; rintro _ _ _ ⟨_, rfl, rfl, rfl⟩))
  refine run_cond rfl (fun h1 => ?_) (fun h1 => ?_)
  · have h3 : bodB c = true := h1
    repeat (first | with_reducible (first | refine run_seq ?_ | refine run_region ?_ | refine runL_nil ?_ | refine run_skip ?_ | refine run_block ?_ | refine run_inBlock ?_) | refine run_exit rfl ?_ | refine runL_q (qt_pev tok rfl) rfl rfl rfl ?_ | refine runL_g rfl rfl (qt_pev tok rfl) rfl rfl rfl rfl rfl ?_ | refine runL_q (ql tok rfl) rfl rfl rfl ?_ | refine runL_g rfl rfl (ql tok rfl) rfl rfl rfl rfl rfl ?_ | (refine runL_op0 (sst tok rfl rfl rfl rfl rfl) ?_; rintro _ _ _ ⟨rfl, rfl, rfl⟩) | (refine runL_op (st_box rfl) rfl rfl rfl ?_; rintro _ _ _ ⟨_, rfl, rfl, rfl⟩) | (refine runL_op (st_alloc tok rfl) rfl rfl rfl ?_; rintro _ _ _ ⟨_, rfl, rfl, rfl⟩) | (refine runL_op (st_buildSlice tok rfl rfl rfl rfl rfl rfl rfl) rfl rfl rfl ?_; rintro _ _ _ ⟨_, rfl, rfl, rfl⟩))
    exact run_ret hC (rs := [.tmp 2]) rfl (resT rfl resN) (fun _ h => h.drop) ⟨by rw [refRowsR, h3]; simp; rfl, rfl, rfl⟩
  have h3 : bodB c = false := h1
  have hR : refRowsR c = (c.bodies.xs.all isT && (ons c).all (okI c)) := by rw [refRowsR, h2, h3]; rfl
  rw [hR] at hC
  repeat (first | with_reducible (first | refine run_seq ?_ | refine run_region ?_ | refine runL_nil ?_ | refine run_skip ?_ | refine run_block ?_ | refine run_inBlock ?_) | refine run_exit rfl ?_ | refine runL_q (qt_pev tok rfl) rfl rfl rfl ?_ | refine runL_g rfl rfl (qt_pev tok rfl) rfl rfl rfl rfl rfl ?_ | refine runL_q (ql tok rfl) rfl rfl rfl ?_ | refine runL_g rfl rfl (ql tok rfl) rfl rfl rfl rfl rfl ?_ | (refine runL_op0 (sst tok rfl rfl rfl rfl rfl) ?_; rintro _ _ _ ⟨rfl, rfl, rfl⟩) | (refine runL_op (st_box rfl) rfl rfl rfl ?_; rintro _ _ _ ⟨_, rfl, rfl, rfl⟩) | (refine runL_op (st_alloc tok rfl) rfl rfl rfl ?_; rintro _ _ _ ⟨_, rfl, rfl, rfl⟩) | (refine runL_op (st_buildSlice tok rfl rfl rfl rfl rfl rfl rfl) rfl rfl rfl ?_; rintro _ _ _ ⟨_, rfl, rfl, rfl⟩))
  refine run_loopN (fun j σ1 M1 L1 => j ≤ c.bodies.len ∧ (c.bodies.xs.take j).all isT = true ∧ M = M1 ∧ L1 = (b1, .cells ⟨coC c⟩ 29 (0, 0)) :: L ∧ σ1 = [(4, .int .i64 (j : Int)), (3, .int .i64 (c.mem.len : Int)), (1, .pointer (some ⟨b1, 0, none⟩))]) c.bodies.len [(4, .int .i64 ((0 : Nat) : Int)), (3, .int .i64 (c.mem.len : Int)), (1, .pointer (some ⟨b1, 0, none⟩))] ?_ ⟨Nat.zero_le _, by simp, rfl, rfl, rfl⟩ (fun j _ _ _ h => h.1) ?_
  · exact ⟨rfl, rfl, rfl, trivial⟩
  rintro j _ _ _ ⟨hj, hall, rfl, rfl, rfl⟩ hnext
  repeat (first | with_reducible (first | refine run_seq ?_ | refine run_region ?_ | refine runL_nil ?_ | refine run_skip ?_ | refine run_block ?_ | refine run_inBlock ?_) | refine run_exit rfl ?_ | refine runL_q (qt_pev tok rfl) rfl rfl rfl ?_ | refine runL_g rfl rfl (qt_pev tok rfl) rfl rfl rfl rfl rfl ?_ | refine runL_q (ql tok rfl) rfl rfl rfl ?_ | refine runL_g rfl rfl (ql tok rfl) rfl rfl rfl rfl rfl ?_ | (refine runL_op0 (sst tok rfl rfl rfl rfl rfl) ?_; rintro _ _ _ ⟨rfl, rfl, rfl⟩) | (refine runL_op (st_box rfl) rfl rfl rfl ?_; rintro _ _ _ ⟨_, rfl, rfl, rfl⟩) | (refine runL_op (st_alloc tok rfl) rfl rfl rfl ?_; rintro _ _ _ ⟨_, rfl, rfl, rfl⟩) | (refine runL_op (st_buildSlice tok rfl rfl rfl rfl rfl rfl rfl) rfl rfl rfl ?_; rintro _ _ _ ⟨_, rfl, rfl, rfl⟩))
  refine run_cond rfl (fun h1 => ?_) (fun h1 => ?_)
  · have hlt : j < c.bodies.len := of_natlt h1
    obtain ⟨b, off, m, hma, hm, hc⟩ := SStr.at_ h.bodies.1 hlt
    have hv : c.bodies.v = .slice (some ⟨b, off, none⟩) c.bodies.len c.bodies.cap := by rw [← hma]; rfl
    have hsz := h.bod m (List.mem_of_getElem? hm)
    repeat (first | with_reducible (first | refine run_seq ?_ | refine run_region ?_ | refine runL_nil ?_ | refine run_skip ?_ | refine run_block ?_ | refine run_inBlock ?_) | refine run_exit rfl ?_)
    iterate 2 (first | refine runL_q (qt_pev tok rfl) rfl rfl rfl ?_ | refine runL_gK rfl rfl (qt_pev tok rfl) rfl rfl rfl ?_ | refine runL_gF rfl rfl rfl rfl rfl ?_ | refine runL_g rfl rfl (qt_pev tok rfl) rfl rfl rfl rfl rfl ?_ | refine runL_q (ql tok rfl) rfl rfl rfl ?_ | refine runL_gK rfl rfl (ql tok rfl) rfl rfl rfl ?_ | refine runL_gF rfl rfl rfl rfl rfl ?_ | refine runL_g rfl rfl (ql tok rfl) rfl rfl rfl rfl rfl ?_ | (refine runL_op0 (sst tok rfl rfl rfl rfl rfl) ?_; rintro _ _ _ ⟨rfl, rfl, rfl⟩) | (refine runL_op (st_box rfl) rfl rfl rfl ?_; rintro _ _ _ ⟨_, rfl, rfl, rfl⟩) | (refine runL_op (st_alloc tok rfl) rfl rfl rfl ?_; rintro _ _ _ ⟨_, rfl, rfl, rfl⟩) | (refine runL_op (st_buildSlice tok rfl rfl rfl rfl rfl rfl rfl) rfl rfl rfl ?_; rintro _ _ _ ⟨_, rfl, rfl, rfl⟩))
    refine runL_as 52 (.slice (some ⟨b, off, none⟩) c.bodies.len c.bodies.cap) rfl hv ?_
    repeat (first | with_reducible (first | refine run_seq ?_ | refine run_region ?_ | refine runL_nil ?_ | refine run_skip ?_ | refine run_block ?_ | refine run_inBlock ?_) | refine run_exit rfl ?_ | refine runL_q (qt_pev tok rfl) rfl rfl rfl ?_ | refine runL_g rfl rfl (qt_pev tok rfl) rfl rfl rfl rfl rfl ?_ | refine runL_q (ql tok rfl) rfl rfl rfl ?_ | refine runL_g rfl rfl (ql tok rfl) rfl rfl rfl rfl rfl ?_ | (refine runL_op0 (sst tok rfl rfl rfl rfl rfl) ?_; rintro _ _ _ ⟨rfl, rfl, rfl⟩) | (refine runL_op (st_box rfl) rfl rfl rfl ?_; rintro _ _ _ ⟨_, rfl, rfl, rfl⟩) | (refine runL_op (st_alloc tok rfl) rfl rfl rfl ?_; rintro _ _ _ ⟨_, rfl, rfl, rfl⟩) | (refine runL_op (st_buildSlice tok rfl rfl rfl rfl rfl rfl rfl) rfl rfl rfl ?_; rintro _ _ _ ⟨_, rfl, rfl, rfl⟩) | refine runL_q (qt_indexN tok rfl rfl rfl rfl (fun _ => by omega)) rfl rfl rfl ?_ | refine runL_g rfl rfl (qt_indexN tok rfl rfl rfl rfl (fun _ => by omega)) rfl rfl rfl rfl rfl ?_ | refine runL_q (qt_ldM tok rfl hc rfl) rfl rfl rfl ?_ | refine runL_g rfl rfl (qt_ldM tok rfl hc rfl) rfl rfl rfl rfl rfl ?_ | refine runL_q (qt_ldM0 tok rfl hc rfl) rfl rfl rfl ?_ | refine runL_g rfl rfl (qt_ldM0 tok rfl hc rfl) rfl rfl rfl rfl rfl ?_ | refine runL_q (qt_callF rfl (fun _ => ref06May_ok _ _ m hsz)) rfl rfl rfl ?_)
    refine run_cond rfl (fun h4 => ?_) (fun h4 => ?_)
    · have h5 : isT m = false := by simpa using h4
      rw [all_false isT hm h5, Bool.false_and] at hC
      repeat (first | with_reducible (first | refine run_seq ?_ | refine run_region ?_ | refine runL_nil ?_ | refine run_skip ?_ | refine run_block ?_ | refine run_inBlock ?_) | refine run_exit rfl ?_ | refine runL_q (qt_pev tok rfl) rfl rfl rfl ?_ | refine runL_g rfl rfl (qt_pev tok rfl) rfl rfl rfl rfl rfl ?_ | refine runL_q (ql tok rfl) rfl rfl rfl ?_ | refine runL_g rfl rfl (ql tok rfl) rfl rfl rfl rfl rfl ?_ | (refine runL_op0 (sst tok rfl rfl rfl rfl rfl) ?_; rintro _ _ _ ⟨rfl, rfl, rfl⟩) | (refine runL_op (st_box rfl) rfl rfl rfl ?_; rintro _ _ _ ⟨_, rfl, rfl, rfl⟩) | (refine runL_op (st_alloc tok rfl) rfl rfl rfl ?_; rintro _ _ _ ⟨_, rfl, rfl, rfl⟩) | (refine runL_op (st_buildSlice tok rfl rfl rfl rfl rfl rfl rfl) rfl rfl rfl ?_; rintro _ _ _ ⟨_, rfl, rfl, rfl⟩))
      exact run_ret hC (rs := [.tmp 2]) rfl (resT rfl resN) (fun _ h => h.drop) ⟨rfl, rfl, rfl⟩
    · have h5 : isT m = true := by simpa using h4
      repeat (first | with_reducible (first | refine run_seq ?_ | refine run_region ?_ | refine runL_nil ?_ | refine run_skip ?_ | refine run_block ?_ | refine run_inBlock ?_) | refine run_exit rfl ?_ | refine runL_q (qt_pev tok rfl) rfl rfl rfl ?_ | refine runL_g rfl rfl (qt_pev tok rfl) rfl rfl rfl rfl rfl ?_ | refine runL_q (ql tok rfl) rfl rfl rfl ?_ | refine runL_g rfl rfl (ql tok rfl) rfl rfl rfl rfl rfl ?_ | (refine runL_op0 (sst tok rfl rfl rfl rfl rfl) ?_; rintro _ _ _ ⟨rfl, rfl, rfl⟩) | (refine runL_op (st_box rfl) rfl rfl rfl ?_; rintro _ _ _ ⟨_, rfl, rfl, rfl⟩) | (refine runL_op (st_alloc tok rfl) rfl rfl rfl ?_; rintro _ _ _ ⟨_, rfl, rfl, rfl⟩) | (refine runL_op (st_buildSlice tok rfl rfl rfl rfl rfl rfl rfl) rfl rfl rfl ?_; rintro _ _ _ ⟨_, rfl, rfl, rfl⟩))
      exact run_sub' (hnext _ _ _ ⟨hlt, all_snoc isT hm hall h5, rfl, rfl, rfl⟩) ⟨lk_succ rfl (by omega), rfl, rfl, trivial⟩
  have hge : j = c.bodies.len := by
    have : ¬ (j : Int) < (c.bodies.len : Int) := of_decide_eq_false h1
    omega
  rw [hge, List.take_of_length_le (by omega)] at hall
  rw [hall, Bool.true_and] at hC
  clear hnext
  repeat (first | with_reducible (first | refine run_seq ?_ | refine run_region ?_ | refine runL_nil ?_ | refine run_skip ?_ | refine run_block ?_ | refine run_inBlock ?_) | refine run_exit rfl ?_ | refine runL_q (qt_pev tok rfl) rfl rfl rfl ?_ | refine runL_g rfl rfl (qt_pev tok rfl) rfl rfl rfl rfl rfl ?_ | refine runL_q (ql tok rfl) rfl rfl rfl ?_ | refine runL_g rfl rfl (ql tok rfl) rfl rfl rfl rfl rfl ?_ | (refine runL_op0 (sst tok rfl rfl rfl rfl rfl) ?_; rintro _ _ _ ⟨rfl, rfl, rfl⟩) | (refine runL_op (st_box rfl) rfl rfl rfl ?_; rintro _ _ _ ⟨_, rfl, rfl, rfl⟩) | (refine runL_op (st_alloc tok rfl) rfl rfl rfl ?_; rintro _ _ _ ⟨_, rfl, rfl, rfl⟩) | (refine runL_op (st_buildSlice tok rfl rfl rfl rfl rfl rfl rfl) rfl rfl rfl ?_; rintro _ _ _ ⟨_, rfl, rfl, rfl⟩))
  refine run_loopN (fun j σ1 M1 L1 => j ≤ c.mem.len ∧ ((ons c).take j).all (okI c) = true ∧ M = M1 ∧ L1 = (b1, .cells ⟨coC c⟩ 29 (0, 0)) :: L ∧ σ1 = [(5, .int .i64 (j : Int)), (3, .int .i64 (c.mem.len : Int)), (1, .pointer (some ⟨b1, 0, none⟩))]) c.mem.len [(5, .int .i64 ((0 : Nat) : Int)), (3, .int .i64 (c.mem.len : Int)), (1, .pointer (some ⟨b1, 0, none⟩))] ?_ ⟨Nat.zero_le _, by simp, rfl, rfl, rfl⟩ (fun j _ _ _ h => h.1) ?_
  · exact ⟨rfl, rfl, rfl, trivial⟩
  rintro j _ _ _ ⟨hj, hall2, rfl, rfl, rfl⟩ hnext
  repeat (first | with_reducible (first | refine run_seq ?_ | refine run_region ?_ | refine runL_nil ?_ | refine run_skip ?_ | refine run_block ?_ | refine run_inBlock ?_) | refine run_exit rfl ?_ | refine runL_q (qt_pev tok rfl) rfl rfl rfl ?_ | refine runL_g rfl rfl (qt_pev tok rfl) rfl rfl rfl rfl rfl ?_ | refine runL_q (ql tok rfl) rfl rfl rfl ?_ | refine runL_g rfl rfl (ql tok rfl) rfl rfl rfl rfl rfl ?_ | (refine runL_op0 (sst tok rfl rfl rfl rfl rfl) ?_; rintro _ _ _ ⟨rfl, rfl, rfl⟩) | (refine runL_op (st_box rfl) rfl rfl rfl ?_; rintro _ _ _ ⟨_, rfl, rfl, rfl⟩) | (refine runL_op (st_alloc tok rfl) rfl rfl rfl ?_; rintro _ _ _ ⟨_, rfl, rfl, rfl⟩) | (refine runL_op (st_buildSlice tok rfl rfl rfl rfl rfl rfl rfl) rfl rfl rfl ?_; rintro _ _ _ ⟨_, rfl, rfl, rfl⟩))
  refine run_cond rfl (fun h1 => ?_) (fun h1 => ?_)
  · have hlt : j < c.mem.len := of_natlt h1
    obtain ⟨bv, ov, vt, hvv, hvt, hcv⟩ := SU8.at' h.votes (show j < c.votes.len by omega)
    obtain ⟨bk, ok, ac, hav, hac, hca⟩ := SBl.at' h.acks (show j < c.acks.len by omega)
    obtain ⟨bt, ot, tg, hta, htg, hct⟩ := SStr.at_ h.tags.1 (show j < c.tags.len by omega)
    have htv : c.tags.v = .slice (some ⟨bt, ot, none⟩) c.tags.len c.tags.cap := by rw [← hta]; rfl
    have hsz := h.tag tg (List.mem_of_getElem? htg)
    obtain ⟨on, hon⟩ : ∃ on, on = onAt c j := ⟨_, rfl⟩
    have hget : (ons c)[j]? = some on := by rw [hon]; exact ons_at hlt
    have o1 : on.vote = vt := by rw [hon]; simp only [onAt, hvt]; rfl
    have o2 : on.ack = ac := by rw [hon]; simp only [onAt, hac]; rfl
    have o3 : on.tag = tg := by rw [hon]; simp only [onAt, htg]; rfl
    have hok : okI c on = (!(decide (vt > 2) || (ac && (c.state == 1))) && !(((vt == 1) && !isT tg) || ((vt != 1) && neT tg))) := by rw [okI, o1, o2, o3]
    repeat (first | with_reducible (first | refine run_seq ?_ | refine run_region ?_ | refine runL_nil ?_ | refine run_skip ?_ | refine run_block ?_ | refine run_inBlock ?_) | refine run_exit rfl ?_)
    iterate 2 (first | refine runL_q (qt_pev tok rfl) rfl rfl rfl ?_ | refine runL_gK rfl rfl (qt_pev tok rfl) rfl rfl rfl ?_ | refine runL_gF rfl rfl rfl rfl rfl ?_ | refine runL_g rfl rfl (qt_pev tok rfl) rfl rfl rfl rfl rfl ?_ | refine runL_q (ql tok rfl) rfl rfl rfl ?_ | refine runL_gK rfl rfl (ql tok rfl) rfl rfl rfl ?_ | refine runL_gF rfl rfl rfl rfl rfl ?_ | refine runL_g rfl rfl (ql tok rfl) rfl rfl rfl rfl rfl ?_ | (refine runL_op0 (sst tok rfl rfl rfl rfl rfl) ?_; rintro _ _ _ ⟨rfl, rfl, rfl⟩) | (refine runL_op (st_box rfl) rfl rfl rfl ?_; rintro _ _ _ ⟨_, rfl, rfl, rfl⟩) | (refine runL_op (st_alloc tok rfl) rfl rfl rfl ?_; rintro _ _ _ ⟨_, rfl, rfl, rfl⟩) | (refine runL_op (st_buildSlice tok rfl rfl rfl rfl rfl rfl rfl) rfl rfl rfl ?_; rintro _ _ _ ⟨_, rfl, rfl, rfl⟩))
    refine runL_as 64 (.slice (some ⟨bv, ov, none⟩) c.votes.len c.votes.cap) rfl hvv ?_
    iterate 6 (first | refine runL_q (qt_pev tok rfl) rfl rfl rfl ?_ | refine runL_gK rfl rfl (qt_pev tok rfl) rfl rfl rfl ?_ | refine runL_gF rfl rfl rfl rfl rfl ?_ | refine runL_g rfl rfl (qt_pev tok rfl) rfl rfl rfl rfl rfl ?_ | refine runL_q (ql tok rfl) rfl rfl rfl ?_ | refine runL_gK rfl rfl (ql tok rfl) rfl rfl rfl ?_ | refine runL_gF rfl rfl rfl rfl rfl ?_ | refine runL_g rfl rfl (ql tok rfl) rfl rfl rfl rfl rfl ?_ | (refine runL_op0 (sst tok rfl rfl rfl rfl rfl) ?_; rintro _ _ _ ⟨rfl, rfl, rfl⟩) | (refine runL_op (st_box rfl) rfl rfl rfl ?_; rintro _ _ _ ⟨_, rfl, rfl, rfl⟩) | (refine runL_op (st_alloc tok rfl) rfl rfl rfl ?_; rintro _ _ _ ⟨_, rfl, rfl, rfl⟩) | (refine runL_op (st_buildSlice tok rfl rfl rfl rfl rfl rfl rfl) rfl rfl rfl ?_; rintro _ _ _ ⟨_, rfl, rfl, rfl⟩) | refine runL_q (qt_indexN tok rfl rfl rfl rfl (fun _ => by omega)) rfl rfl rfl ?_ | refine runL_g rfl rfl (qt_indexN tok rfl rfl rfl rfl (fun _ => by omega)) rfl rfl rfl rfl rfl ?_ | refine runL_q (qt_ldM tok rfl hcv rfl) rfl rfl rfl ?_ | refine runL_g rfl rfl (qt_ldM tok rfl hcv rfl) rfl rfl rfl rfl rfl ?_ | refine runL_q (qt_ldM0 tok rfl hcv rfl) rfl rfl rfl ?_ | refine runL_g rfl rfl (qt_ldM0 tok rfl hcv rfl) rfl rfl rfl rfl rfl ?_)
    refine runL_g rfl rfl (Qt.as (ql tok rfl) hav) rfl rfl rfl rfl rfl ?_
    repeat (first | with_reducible (first | refine run_seq ?_ | refine run_region ?_ | refine runL_nil ?_ | refine run_skip ?_ | refine run_block ?_ | refine run_inBlock ?_) | refine run_exit rfl ?_ | refine runL_q (qt_pev tok rfl) rfl rfl rfl ?_ | refine runL_g rfl rfl (qt_pev tok rfl) rfl rfl rfl rfl rfl ?_ | refine runL_q (ql tok rfl) rfl rfl rfl ?_ | refine runL_g rfl rfl (ql tok rfl) rfl rfl rfl rfl rfl ?_ | (refine runL_op0 (sst tok rfl rfl rfl rfl rfl) ?_; rintro _ _ _ ⟨rfl, rfl, rfl⟩) | (refine runL_op (st_box rfl) rfl rfl rfl ?_; rintro _ _ _ ⟨_, rfl, rfl, rfl⟩) | (refine runL_op (st_alloc tok rfl) rfl rfl rfl ?_; rintro _ _ _ ⟨_, rfl, rfl, rfl⟩) | (refine runL_op (st_buildSlice tok rfl rfl rfl rfl rfl rfl rfl) rfl rfl rfl ?_; rintro _ _ _ ⟨_, rfl, rfl, rfl⟩) | refine runL_q (qt_indexN tok rfl rfl rfl rfl (fun _ => by omega)) rfl rfl rfl ?_ | refine runL_g rfl rfl (qt_indexN tok rfl rfl rfl rfl (fun _ => by omega)) rfl rfl rfl rfl rfl ?_ | refine runL_q (qt_ldM tok rfl hcv rfl) rfl rfl rfl ?_ | refine runL_g rfl rfl (qt_ldM tok rfl hcv rfl) rfl rfl rfl rfl rfl ?_ | refine runL_q (qt_ldM0 tok rfl hcv rfl) rfl rfl rfl ?_ | refine runL_g rfl rfl (qt_ldM0 tok rfl hcv rfl) rfl rfl rfl rfl rfl ?_ | refine runL_q (qt_ldM tok rfl hca rfl) rfl rfl rfl ?_ | refine runL_g rfl rfl (qt_ldM tok rfl hca rfl) rfl rfl rfl rfl rfl ?_ | refine runL_q (qt_ldM0 tok rfl hca rfl) rfl rfl rfl ?_ | refine runL_g rfl rfl (qt_ldM0 tok rfl hca rfl) rfl rfl rfl rfl rfl ?_)
    refine run_cond rfl (fun h4 => ?_) (fun h4 => ?_)
    · have h5 : okI c on = false := by rw [hok, show (decide (vt > 2) || (ac && (c.state == 1))) = true from h4]; rfl
      rw [all_false (okI c) hget h5] at hC
      repeat (first | with_reducible (first | refine run_seq ?_ | refine run_region ?_ | refine runL_nil ?_ | refine run_skip ?_ | refine run_block ?_ | refine run_inBlock ?_) | refine run_exit rfl ?_ | refine runL_q (qt_pev tok rfl) rfl rfl rfl ?_ | refine runL_g rfl rfl (qt_pev tok rfl) rfl rfl rfl rfl rfl ?_ | refine runL_q (ql tok rfl) rfl rfl rfl ?_ | refine runL_g rfl rfl (ql tok rfl) rfl rfl rfl rfl rfl ?_ | (refine runL_op0 (sst tok rfl rfl rfl rfl rfl) ?_; rintro _ _ _ ⟨rfl, rfl, rfl⟩) | (refine runL_op (st_box rfl) rfl rfl rfl ?_; rintro _ _ _ ⟨_, rfl, rfl, rfl⟩) | (refine runL_op (st_alloc tok rfl) rfl rfl rfl ?_; rintro _ _ _ ⟨_, rfl, rfl, rfl⟩) | (refine runL_op (st_buildSlice tok rfl rfl rfl rfl rfl rfl rfl) rfl rfl rfl ?_; rintro _ _ _ ⟨_, rfl, rfl, rfl⟩))
      exact run_ret hC (rs := [.tmp 2]) rfl (resT rfl resN) (fun _ h => h.drop) ⟨rfl, rfl, rfl⟩
    repeat (first | with_reducible (first | refine run_seq ?_ | refine run_region ?_ | refine runL_nil ?_ | refine run_skip ?_ | refine run_block ?_ | refine run_inBlock ?_) | refine run_exit rfl ?_)
    iterate 2 (first | refine runL_q (qt_pev tok rfl) rfl rfl rfl ?_ | refine runL_gK rfl rfl (qt_pev tok rfl) rfl rfl rfl ?_ | refine runL_gF rfl rfl rfl rfl rfl ?_ | refine runL_g rfl rfl (qt_pev tok rfl) rfl rfl rfl rfl rfl ?_ | refine runL_q (ql tok rfl) rfl rfl rfl ?_ | refine runL_gK rfl rfl (ql tok rfl) rfl rfl rfl ?_ | refine runL_gF rfl rfl rfl rfl rfl ?_ | refine runL_g rfl rfl (ql tok rfl) rfl rfl rfl rfl rfl ?_ | (refine runL_op0 (sst tok rfl rfl rfl rfl rfl) ?_; rintro _ _ _ ⟨rfl, rfl, rfl⟩) | (refine runL_op (st_box rfl) rfl rfl rfl ?_; rintro _ _ _ ⟨_, rfl, rfl, rfl⟩) | (refine runL_op (st_alloc tok rfl) rfl rfl rfl ?_; rintro _ _ _ ⟨_, rfl, rfl, rfl⟩) | (refine runL_op (st_buildSlice tok rfl rfl rfl rfl rfl rfl rfl) rfl rfl rfl ?_; rintro _ _ _ ⟨_, rfl, rfl, rfl⟩))
    refine runL_as 82 (.slice (some ⟨bv, ov, none⟩) c.votes.len c.votes.cap) rfl hvv ?_
    iterate 6 (first | refine runL_q (qt_pev tok rfl) rfl rfl rfl ?_ | refine runL_gK rfl rfl (qt_pev tok rfl) rfl rfl rfl ?_ | refine runL_gF rfl rfl rfl rfl rfl ?_ | refine runL_g rfl rfl (qt_pev tok rfl) rfl rfl rfl rfl rfl ?_ | refine runL_q (ql tok rfl) rfl rfl rfl ?_ | refine runL_gK rfl rfl (ql tok rfl) rfl rfl rfl ?_ | refine runL_gF rfl rfl rfl rfl rfl ?_ | refine runL_g rfl rfl (ql tok rfl) rfl rfl rfl rfl rfl ?_ | (refine runL_op0 (sst tok rfl rfl rfl rfl rfl) ?_; rintro _ _ _ ⟨rfl, rfl, rfl⟩) | (refine runL_op (st_box rfl) rfl rfl rfl ?_; rintro _ _ _ ⟨_, rfl, rfl, rfl⟩) | (refine runL_op (st_alloc tok rfl) rfl rfl rfl ?_; rintro _ _ _ ⟨_, rfl, rfl, rfl⟩) | (refine runL_op (st_buildSlice tok rfl rfl rfl rfl rfl rfl rfl) rfl rfl rfl ?_; rintro _ _ _ ⟨_, rfl, rfl, rfl⟩) | refine runL_q (qt_indexN tok rfl rfl rfl rfl (fun _ => by omega)) rfl rfl rfl ?_ | refine runL_g rfl rfl (qt_indexN tok rfl rfl rfl rfl (fun _ => by omega)) rfl rfl rfl rfl rfl ?_ | refine runL_q (qt_ldM tok rfl hcv rfl) rfl rfl rfl ?_ | refine runL_g rfl rfl (qt_ldM tok rfl hcv rfl) rfl rfl rfl rfl rfl ?_ | refine runL_q (qt_ldM0 tok rfl hcv rfl) rfl rfl rfl ?_ | refine runL_g rfl rfl (qt_ldM0 tok rfl hcv rfl) rfl rfl rfl rfl rfl ?_)
    refine runL_g rfl rfl (Qt.as (ql tok rfl) htv) rfl rfl rfl rfl rfl ?_
    iterate 8 (first | refine runL_q (qt_pev tok rfl) rfl rfl rfl ?_ | refine runL_gK rfl rfl (qt_pev tok rfl) rfl rfl rfl ?_ | refine runL_gF rfl rfl rfl rfl rfl ?_ | refine runL_g rfl rfl (qt_pev tok rfl) rfl rfl rfl rfl rfl ?_ | refine runL_q (ql tok rfl) rfl rfl rfl ?_ | refine runL_gK rfl rfl (ql tok rfl) rfl rfl rfl ?_ | refine runL_gF rfl rfl rfl rfl rfl ?_ | refine runL_g rfl rfl (ql tok rfl) rfl rfl rfl rfl rfl ?_ | (refine runL_op0 (sst tok rfl rfl rfl rfl rfl) ?_; rintro _ _ _ ⟨rfl, rfl, rfl⟩) | (refine runL_op (st_box rfl) rfl rfl rfl ?_; rintro _ _ _ ⟨_, rfl, rfl, rfl⟩) | (refine runL_op (st_alloc tok rfl) rfl rfl rfl ?_; rintro _ _ _ ⟨_, rfl, rfl, rfl⟩) | (refine runL_op (st_buildSlice tok rfl rfl rfl rfl rfl rfl rfl) rfl rfl rfl ?_; rintro _ _ _ ⟨_, rfl, rfl, rfl⟩) | refine runL_q (qt_indexN tok rfl rfl rfl rfl (fun _ => by omega)) rfl rfl rfl ?_ | refine runL_g rfl rfl (qt_indexN tok rfl rfl rfl rfl (fun _ => by omega)) rfl rfl rfl rfl rfl ?_ | refine runL_q (qt_ldM tok rfl hct rfl) rfl rfl rfl ?_ | refine runL_g rfl rfl (qt_ldM tok rfl hct rfl) rfl rfl rfl rfl rfl ?_ | refine runL_q (qt_ldM0 tok rfl hct rfl) rfl rfl rfl ?_ | refine runL_g rfl rfl (qt_ldM0 tok rfl hct rfl) rfl rfl rfl rfl rfl ?_ | refine runL_g rfl rfl (qt_callF rfl (fun _ => ref06May_ok _ _ tg hsz)) rfl rfl rfl rfl rfl ?_)
    refine runL_g rfl rfl (Qt.as (ql tok rfl) hvv) rfl rfl rfl rfl rfl ?_
    iterate 6 (first | refine runL_q (qt_pev tok rfl) rfl rfl rfl ?_ | refine runL_gK rfl rfl (qt_pev tok rfl) rfl rfl rfl ?_ | refine runL_gF rfl rfl rfl rfl rfl ?_ | refine runL_g rfl rfl (qt_pev tok rfl) rfl rfl rfl rfl rfl ?_ | refine runL_q (ql tok rfl) rfl rfl rfl ?_ | refine runL_gK rfl rfl (ql tok rfl) rfl rfl rfl ?_ | refine runL_gF rfl rfl rfl rfl rfl ?_ | refine runL_g rfl rfl (ql tok rfl) rfl rfl rfl rfl rfl ?_ | (refine runL_op0 (sst tok rfl rfl rfl rfl rfl) ?_; rintro _ _ _ ⟨rfl, rfl, rfl⟩) | (refine runL_op (st_box rfl) rfl rfl rfl ?_; rintro _ _ _ ⟨_, rfl, rfl, rfl⟩) | (refine runL_op (st_alloc tok rfl) rfl rfl rfl ?_; rintro _ _ _ ⟨_, rfl, rfl, rfl⟩) | (refine runL_op (st_buildSlice tok rfl rfl rfl rfl rfl rfl rfl) rfl rfl rfl ?_; rintro _ _ _ ⟨_, rfl, rfl, rfl⟩) | refine runL_q (qt_indexN tok rfl rfl rfl rfl (fun _ => by omega)) rfl rfl rfl ?_ | refine runL_g rfl rfl (qt_indexN tok rfl rfl rfl rfl (fun _ => by omega)) rfl rfl rfl rfl rfl ?_ | refine runL_q (qt_ldM tok rfl hcv rfl) rfl rfl rfl ?_ | refine runL_g rfl rfl (qt_ldM tok rfl hcv rfl) rfl rfl rfl rfl rfl ?_ | refine runL_q (qt_ldM0 tok rfl hcv rfl) rfl rfl rfl ?_ | refine runL_g rfl rfl (qt_ldM0 tok rfl hcv rfl) rfl rfl rfl rfl rfl ?_)
    refine runL_g rfl rfl (Qt.as (ql tok rfl) htv) rfl rfl rfl rfl rfl ?_
    repeat (first | with_reducible (first | refine run_seq ?_ | refine run_region ?_ | refine runL_nil ?_ | refine run_skip ?_ | refine run_block ?_ | refine run_inBlock ?_) | refine run_exit rfl ?_ | refine runL_q (qt_pev tok rfl) rfl rfl rfl ?_ | refine runL_g rfl rfl (qt_pev tok rfl) rfl rfl rfl rfl rfl ?_ | refine runL_q (ql tok rfl) rfl rfl rfl ?_ | refine runL_g rfl rfl (ql tok rfl) rfl rfl rfl rfl rfl ?_ | (refine runL_op0 (sst tok rfl rfl rfl rfl rfl) ?_; rintro _ _ _ ⟨rfl, rfl, rfl⟩) | (refine runL_op (st_box rfl) rfl rfl rfl ?_; rintro _ _ _ ⟨_, rfl, rfl, rfl⟩) | (refine runL_op (st_alloc tok rfl) rfl rfl rfl ?_; rintro _ _ _ ⟨_, rfl, rfl, rfl⟩) | (refine runL_op (st_buildSlice tok rfl rfl rfl rfl rfl rfl rfl) rfl rfl rfl ?_; rintro _ _ _ ⟨_, rfl, rfl, rfl⟩) | refine runL_q (qt_indexN tok rfl rfl rfl rfl (fun _ => by omega)) rfl rfl rfl ?_ | refine runL_g rfl rfl (qt_indexN tok rfl rfl rfl rfl (fun _ => by omega)) rfl rfl rfl rfl rfl ?_ | refine runL_q (qt_ldM tok rfl hct rfl) rfl rfl rfl ?_ | refine runL_g rfl rfl (qt_ldM tok rfl hct rfl) rfl rfl rfl rfl rfl ?_ | refine runL_q (qt_ldM0 tok rfl hct rfl) rfl rfl rfl ?_ | refine runL_g rfl rfl (qt_ldM0 tok rfl hct rfl) rfl rfl rfl rfl rfl ?_)
    refine run_cond rfl (fun h5 => ?_) (fun h5 => ?_)
    · have h6 : okI c on = false := by rw [hok, show (((vt == 1) && !isT tg) || ((vt != 1) && neT tg)) = true from h5]; simp
      rw [all_false (okI c) hget h6] at hC
      repeat (first | with_reducible (first | refine run_seq ?_ | refine run_region ?_ | refine runL_nil ?_ | refine run_skip ?_ | refine run_block ?_ | refine run_inBlock ?_) | refine run_exit rfl ?_ | refine runL_q (qt_pev tok rfl) rfl rfl rfl ?_ | refine runL_g rfl rfl (qt_pev tok rfl) rfl rfl rfl rfl rfl ?_ | refine runL_q (ql tok rfl) rfl rfl rfl ?_ | refine runL_g rfl rfl (ql tok rfl) rfl rfl rfl rfl rfl ?_ | (refine runL_op0 (sst tok rfl rfl rfl rfl rfl) ?_; rintro _ _ _ ⟨rfl, rfl, rfl⟩) | (refine runL_op (st_box rfl) rfl rfl rfl ?_; rintro _ _ _ ⟨_, rfl, rfl, rfl⟩) | (refine runL_op (st_alloc tok rfl) rfl rfl rfl ?_; rintro _ _ _ ⟨_, rfl, rfl, rfl⟩) | (refine runL_op (st_buildSlice tok rfl rfl rfl rfl rfl rfl rfl) rfl rfl rfl ?_; rintro _ _ _ ⟨_, rfl, rfl, rfl⟩))
      exact run_ret hC (rs := [.tmp 2]) rfl (resT rfl resN) (fun _ h => h.drop) ⟨rfl, rfl, rfl⟩
    · have h6 : okI c on = true := by rw [hok, show (((vt == 1) && !isT tg) || ((vt != 1) && neT tg)) = false from h5, show (decide (vt > 2) || (ac && (c.state == 1))) = false from h4]; rfl
      repeat (first | with_reducible (first | refine run_seq ?_ | refine run_region ?_ | refine runL_nil ?_ | refine run_skip ?_ | refine run_block ?_ | refine run_inBlock ?_) | refine run_exit rfl ?_ | refine runL_q (qt_pev tok rfl) rfl rfl rfl ?_ | refine runL_g rfl rfl (qt_pev tok rfl) rfl rfl rfl rfl rfl ?_ | refine runL_q (ql tok rfl) rfl rfl rfl ?_ | refine runL_g rfl rfl (ql tok rfl) rfl rfl rfl rfl rfl ?_ | (refine runL_op0 (sst tok rfl rfl rfl rfl rfl) ?_; rintro _ _ _ ⟨rfl, rfl, rfl⟩) | (refine runL_op (st_box rfl) rfl rfl rfl ?_; rintro _ _ _ ⟨_, rfl, rfl, rfl⟩) | (refine runL_op (st_alloc tok rfl) rfl rfl rfl ?_; rintro _ _ _ ⟨_, rfl, rfl, rfl⟩) | (refine runL_op (st_buildSlice tok rfl rfl rfl rfl rfl rfl rfl) rfl rfl rfl ?_; rintro _ _ _ ⟨_, rfl, rfl, rfl⟩))
      exact run_sub' (hnext _ _ _ ⟨hlt, all_snoc (okI c) hget hall2 h6, rfl, rfl, rfl⟩) ⟨lk_succ rfl (by omega), rfl, rfl, trivial⟩
  have hge2 : j = c.mem.len := by
    have : ¬ (j : Int) < (c.mem.len : Int) := of_decide_eq_false h1
    omega
  rw [hge2, List.take_of_length_le (by rw [ons_len]; omega)] at hall2
  rw [hall2] at hC
  repeat (first | with_reducible (first | refine run_seq ?_ | refine run_region ?_ | refine runL_nil ?_ | refine run_skip ?_ | refine run_block ?_ | refine run_inBlock ?_) | refine run_exit rfl ?_ | refine runL_q (qt_pev tok rfl) rfl rfl rfl ?_ | refine runL_g rfl rfl (qt_pev tok rfl) rfl rfl rfl rfl rfl ?_ | refine runL_q (ql tok rfl) rfl rfl rfl ?_ | refine runL_g rfl rfl (ql tok rfl) rfl rfl rfl rfl rfl ?_ | (refine runL_op0 (sst tok rfl rfl rfl rfl rfl) ?_; rintro _ _ _ ⟨rfl, rfl, rfl⟩) | (refine runL_op (st_box rfl) rfl rfl rfl ?_; rintro _ _ _ ⟨_, rfl, rfl, rfl⟩) | (refine runL_op (st_alloc tok rfl) rfl rfl rfl ?_; rintro _ _ _ ⟨_, rfl, rfl, rfl⟩) | (refine runL_op (st_buildSlice tok rfl rfl rfl rfl rfl rfl rfl) rfl rfl rfl ?_; rintro _ _ _ ⟨_, rfl, rfl, rfl⟩))
  exact run_ret hC (rs := [.tmp 2]) rfl (resT rfl resN) (fun _ h => h.drop) ⟨rfl, rfl, rfl⟩

set_option maxHeartbeats 4000000 in
theorem refAll_ok (M : Mem) (L : HL) (c : Co) (h : U8Ok M c.votes) (v : Int) : TrQ Try.prog 40 [.agg ⟨coC c⟩, .int .u8 v] M L (.bool (c.votes.xs.all (fun x => x == v))) := by
  have hv6 := h.2
  have hl := h.len
  refine Tr.intro 20 Try.func40 rfl rfl Try.call40 rfl ?_
  intro C hC hro
  repeat (first | with_reducible (first | refine run_seq ?_ | refine run_region ?_ | refine runL_nil ?_ | refine run_skip ?_ | refine run_block ?_ | refine run_inBlock ?_) | refine run_exit rfl ?_ | refine runL_q (qt_pev tok rfl) rfl rfl rfl ?_ | refine runL_g rfl rfl (qt_pev tok rfl) rfl rfl rfl rfl rfl ?_ | refine runL_q (ql tok rfl) rfl rfl rfl ?_ | refine runL_g rfl rfl (ql tok rfl) rfl rfl rfl rfl rfl ?_ | (refine runL_op0 (sst tok rfl rfl rfl rfl rfl) ?_; rintro _ _ _ ⟨rfl, rfl, rfl⟩) | (refine runL_op (st_box rfl) rfl rfl rfl ?_; rintro _ _ _ ⟨_, rfl, rfl, rfl⟩) | (refine runL_op (st_alloc tok rfl) rfl rfl rfl ?_; rintro _ _ _ ⟨_, rfl, rfl, rfl⟩) | (refine runL_op (st_buildSlice tok rfl rfl rfl rfl rfl rfl rfl) rfl rfl rfl ?_; rintro _ _ _ ⟨_, rfl, rfl, rfl⟩))
  rename_i b1
  refine run_loopN (fun j σ1 M1 L1 => j ≤ c.votes.len ∧ (c.votes.xs.take j).all (fun x => x == v) = true ∧ M = M1 ∧ L1 = (b1, .cells ⟨coC c⟩ 29 (0, 0)) :: L ∧ σ1 = [(5, .int .i64 (j : Int)), (1, .int .u8 v), (2, .pointer (some ⟨b1, 0, none⟩))]) c.votes.len [(5, .int .i64 ((0 : Nat) : Int)), (1, .int .u8 v), (2, .pointer (some ⟨b1, 0, none⟩))] ?_ ⟨Nat.zero_le _, by simp, rfl, rfl, rfl⟩ (fun j _ _ _ h => h.1) ?_
  · exact ⟨rfl, rfl, rfl, trivial⟩
  rintro j _ _ _ ⟨hj, hall, rfl, rfl, rfl⟩ hnext
  repeat (first | with_reducible (first | refine run_seq ?_ | refine run_region ?_ | refine runL_nil ?_ | refine run_skip ?_ | refine run_block ?_ | refine run_inBlock ?_) | refine run_exit rfl ?_ | refine runL_q (qt_pev tok rfl) rfl rfl rfl ?_ | refine runL_g rfl rfl (qt_pev tok rfl) rfl rfl rfl rfl rfl ?_ | refine runL_q (ql tok rfl) rfl rfl rfl ?_ | refine runL_g rfl rfl (ql tok rfl) rfl rfl rfl rfl rfl ?_ | (refine runL_op0 (sst tok rfl rfl rfl rfl rfl) ?_; rintro _ _ _ ⟨rfl, rfl, rfl⟩) | (refine runL_op (st_box rfl) rfl rfl rfl ?_; rintro _ _ _ ⟨_, rfl, rfl, rfl⟩) | (refine runL_op (st_alloc tok rfl) rfl rfl rfl ?_; rintro _ _ _ ⟨_, rfl, rfl, rfl⟩) | (refine runL_op (st_buildSlice tok rfl rfl rfl rfl rfl rfl rfl) rfl rfl rfl ?_; rintro _ _ _ ⟨_, rfl, rfl, rfl⟩))
  refine run_cond rfl (fun h1 => ?_) (fun h1 => ?_)
  · have hlt : j < c.votes.len := of_natlt h1
    obtain ⟨bv, ov, vt, hvv, hvt, hcv⟩ := SU8.at' h hlt
    repeat (first | with_reducible (first | refine run_seq ?_ | refine run_region ?_ | refine runL_nil ?_ | refine run_skip ?_ | refine run_block ?_ | refine run_inBlock ?_) | refine run_exit rfl ?_)
    iterate 2 (first | refine runL_q (qt_pev tok rfl) rfl rfl rfl ?_ | refine runL_gK rfl rfl (qt_pev tok rfl) rfl rfl rfl ?_ | refine runL_gF rfl rfl rfl rfl rfl ?_ | refine runL_g rfl rfl (qt_pev tok rfl) rfl rfl rfl rfl rfl ?_ | refine runL_q (ql tok rfl) rfl rfl rfl ?_ | refine runL_gK rfl rfl (ql tok rfl) rfl rfl rfl ?_ | refine runL_gF rfl rfl rfl rfl rfl ?_ | refine runL_g rfl rfl (ql tok rfl) rfl rfl rfl rfl rfl ?_ | (refine runL_op0 (sst tok rfl rfl rfl rfl rfl) ?_; rintro _ _ _ ⟨rfl, rfl, rfl⟩) | (refine runL_op (st_box rfl) rfl rfl rfl ?_; rintro _ _ _ ⟨_, rfl, rfl, rfl⟩) | (refine runL_op (st_alloc tok rfl) rfl rfl rfl ?_; rintro _ _ _ ⟨_, rfl, rfl, rfl⟩) | (refine runL_op (st_buildSlice tok rfl rfl rfl rfl rfl rfl rfl) rfl rfl rfl ?_; rintro _ _ _ ⟨_, rfl, rfl, rfl⟩))
    refine runL_as 14 (.slice (some ⟨bv, ov, none⟩) c.votes.len c.votes.cap) rfl hvv ?_
    repeat (first | with_reducible (first | refine run_seq ?_ | refine run_region ?_ | refine runL_nil ?_ | refine run_skip ?_ | refine run_block ?_ | refine run_inBlock ?_) | refine run_exit rfl ?_ | refine runL_q (qt_pev tok rfl) rfl rfl rfl ?_ | refine runL_g rfl rfl (qt_pev tok rfl) rfl rfl rfl rfl rfl ?_ | refine runL_q (ql tok rfl) rfl rfl rfl ?_ | refine runL_g rfl rfl (ql tok rfl) rfl rfl rfl rfl rfl ?_ | (refine runL_op0 (sst tok rfl rfl rfl rfl rfl) ?_; rintro _ _ _ ⟨rfl, rfl, rfl⟩) | (refine runL_op (st_box rfl) rfl rfl rfl ?_; rintro _ _ _ ⟨_, rfl, rfl, rfl⟩) | (refine runL_op (st_alloc tok rfl) rfl rfl rfl ?_; rintro _ _ _ ⟨_, rfl, rfl, rfl⟩) | (refine runL_op (st_buildSlice tok rfl rfl rfl rfl rfl rfl rfl) rfl rfl rfl ?_; rintro _ _ _ ⟨_, rfl, rfl, rfl⟩) | refine runL_q (qt_indexN tok rfl rfl rfl rfl (fun _ => by omega)) rfl rfl rfl ?_ | refine runL_g rfl rfl (qt_indexN tok rfl rfl rfl rfl (fun _ => by omega)) rfl rfl rfl rfl rfl ?_ | refine runL_q (qt_ldM tok rfl hcv rfl) rfl rfl rfl ?_ | refine runL_g rfl rfl (qt_ldM tok rfl hcv rfl) rfl rfl rfl rfl rfl ?_ | refine runL_q (qt_ldM0 tok rfl hcv rfl) rfl rfl rfl ?_ | refine runL_g rfl rfl (qt_ldM0 tok rfl hcv rfl) rfl rfl rfl rfl rfl ?_)
    refine run_cond rfl (fun h4 => ?_) (fun h4 => ?_)
    · rw [all_false (fun x => x == v) hvt (by simpa [bne] using h4)] at hC
      repeat (first | with_reducible (first | refine run_seq ?_ | refine run_region ?_ | refine runL_nil ?_ | refine run_skip ?_ | refine run_block ?_ | refine run_inBlock ?_) | refine run_exit rfl ?_ | refine runL_q (qt_pev tok rfl) rfl rfl rfl ?_ | refine runL_g rfl rfl (qt_pev tok rfl) rfl rfl rfl rfl rfl ?_ | refine runL_q (ql tok rfl) rfl rfl rfl ?_ | refine runL_g rfl rfl (ql tok rfl) rfl rfl rfl rfl rfl ?_ | (refine runL_op0 (sst tok rfl rfl rfl rfl rfl) ?_; rintro _ _ _ ⟨rfl, rfl, rfl⟩) | (refine runL_op (st_box rfl) rfl rfl rfl ?_; rintro _ _ _ ⟨_, rfl, rfl, rfl⟩) | (refine runL_op (st_alloc tok rfl) rfl rfl rfl ?_; rintro _ _ _ ⟨_, rfl, rfl, rfl⟩) | (refine runL_op (st_buildSlice tok rfl rfl rfl rfl rfl rfl rfl) rfl rfl rfl ?_; rintro _ _ _ ⟨_, rfl, rfl, rfl⟩))
      exact run_ret hC (rs := [.tmp 4]) rfl (resT rfl resN) (fun _ h => h.drop) ⟨rfl, rfl, rfl⟩
    · repeat (first | with_reducible (first | refine run_seq ?_ | refine run_region ?_ | refine runL_nil ?_ | refine run_skip ?_ | refine run_block ?_ | refine run_inBlock ?_) | refine run_exit rfl ?_ | refine runL_q (qt_pev tok rfl) rfl rfl rfl ?_ | refine runL_g rfl rfl (qt_pev tok rfl) rfl rfl rfl rfl rfl ?_ | refine runL_q (ql tok rfl) rfl rfl rfl ?_ | refine runL_g rfl rfl (ql tok rfl) rfl rfl rfl rfl rfl ?_ | (refine runL_op0 (sst tok rfl rfl rfl rfl rfl) ?_; rintro _ _ _ ⟨rfl, rfl, rfl⟩) | (refine runL_op (st_box rfl) rfl rfl rfl ?_; rintro _ _ _ ⟨_, rfl, rfl, rfl⟩) | (refine runL_op (st_alloc tok rfl) rfl rfl rfl ?_; rintro _ _ _ ⟨_, rfl, rfl, rfl⟩) | (refine runL_op (st_buildSlice tok rfl rfl rfl rfl rfl rfl rfl) rfl rfl rfl ?_; rintro _ _ _ ⟨_, rfl, rfl, rfl⟩))
      exact run_sub' (hnext _ _ _ ⟨hlt, all_snoc (fun x => x == v) hvt hall (by simpa [bne] using h4), rfl, rfl, rfl⟩) ⟨lk_succ rfl (by omega), rfl, rfl, trivial⟩
  have hge : j = c.votes.len := by
    have : ¬ (j : Int) < (c.votes.len : Int) := of_decide_eq_false h1
    omega
  rw [hge, List.take_of_length_le (by omega)] at hall
  rw [hall] at hC
  repeat (first | with_reducible (first | refine run_seq ?_ | refine run_region ?_ | refine runL_nil ?_ | refine run_skip ?_ | refine run_block ?_ | refine run_inBlock ?_) | refine run_exit rfl ?_ | refine runL_q (qt_pev tok rfl) rfl rfl rfl ?_ | refine runL_g rfl rfl (qt_pev tok rfl) rfl rfl rfl rfl rfl ?_ | refine runL_q (ql tok rfl) rfl rfl rfl ?_ | refine runL_g rfl rfl (ql tok rfl) rfl rfl rfl rfl rfl ?_ | (refine runL_op0 (sst tok rfl rfl rfl rfl rfl) ?_; rintro _ _ _ ⟨rfl, rfl, rfl⟩) | (refine runL_op (st_box rfl) rfl rfl rfl ?_; rintro _ _ _ ⟨_, rfl, rfl, rfl⟩) | (refine runL_op (st_alloc tok rfl) rfl rfl rfl ?_; rintro _ _ _ ⟨_, rfl, rfl, rfl⟩) | (refine runL_op (st_buildSlice tok rfl rfl rfl rfl rfl rfl rfl) rfl rfl rfl ?_; rintro _ _ _ ⟨_, rfl, rfl, rfl⟩))
  exact run_ret hC (rs := [.tmp 4]) rfl (resT rfl resN) (fun _ h => h.drop) ⟨rfl, rfl, rfl⟩
end Go.Proofs.Ytpmepmdngdkafaa
namespace Go.Proofs.Ytpmepmdngdkafaa
open Go.Chi

/-! ### the document's transactions that may be are the program's -/
def refMayR (c : Co) : Bool := (((mayTx c.txn && orgW c.auditor) && mayMb c.txn c.mem.xs) && refRowsR c) && (timesR c && ((c.state != 2) || c.votes.xs.all (fun x => x == 1)))
theorem votes_ons {c : Co} (hl : Lens c) (hr : Rows c) (p : Int → Bool) : c.votes.xs.all p = (ons c).all (fun m => p m.vote) := by
  rw [Bool.eq_iff_iff, List.all_eq_true, List.all_eq_true]
  have h1 := hl.votes
  have h2 := hr.votes
  constructor
  · intro h m hm
    obtain ⟨k, hk, rfl⟩ := List.mem_map.1 hm
    have hk := List.mem_range.1 hk
    have hlt : k < c.votes.xs.length := by omega
    simp only [onAt, List.getElem?_eq_getElem hlt]
    exact h _ (List.getElem_mem hlt)
  · intro h x hx
    obtain ⟨k, hk, rfl⟩ := List.mem_iff_getElem.1 hx
    have := h (onAt c k) (List.mem_map.2 ⟨k, List.mem_range.2 (by omega), rfl⟩)
    simpa only [onAt, List.getElem?_eq_getElem hk, Option.getD_some] using this
theorem onOk_eq (c : Co) (m : On) : onOk c m = (okI c m && ((c.state != 2) || (m.vote == 1))) := by
  unfold onOk okI badA badB isT
  cases h1 : decide (m.vote > 2) <;> cases h2 : (m.ack && (c.state == 1)) <;> cases h3 : (c.state == 2) <;> cases h4 : (m.vote == 1) <;> cases h5 : neT m.tag <;> cases h6 : (checkR m.tag == 0) <;> simp_all [bne]
theorem all_and {α : Type} (l : List α) (p q : α → Bool) : l.all (fun x => p x && q x) = (l.all p && l.all q) := by
  induction l with
  | nil => rfl
  | cons x l ih => simp only [List.all_cons, ih]; cases p x <;> cases q x <;> simp
theorem all_or {α : Type} (l : List α) (b : Bool) (q : α → Bool) (_h : l ≠ [] ∨ True) : l.all (fun x => b || q x) = (b || l.all q) := by
  cases b
  · simp
  · simp
theorem bodB_eq (c : Co) : bodB c = !(((c.bodies.len : Int) == (c.mem.len : Int)) || (((c.bodies.len : Int) == 0) && (c.state != 1))) := by
  unfold bodB bne
  cases ((c.bodies.len : Int) == (c.mem.len : Int)) <;> cases ((c.bodies.len : Int) == 0) <;> cases (c.state == 1) <;> rfl
theorem refMay_eq {c : Co} (hl : Lens c) : refMayR c = coOk c := by
  unfold refMayR coOk
  have hn : namesR c = ((mayTx c.txn && orgW c.auditor) && mayMb c.txn c.mem.xs) := by
    unfold namesR orgW
    cases mayTx c.txn <;> simp
  rw [hn]
  by_cases hr : lensB c = true
  · have h1 : refRowsR c = false := by rw [refRowsR, hr]; rfl
    have h2 : rowsR c = false := by
      unfold lensB at hr
      unfold rowsR
      revert hr
      cases bodiesR c <;> cases h3 : ((c.votes.len : Int) == (c.mem.len : Int)) <;> cases h4 : ((c.tags.len : Int) == (c.mem.len : Int)) <;> cases h5 : ((c.acks.len : Int) == (c.mem.len : Int)) <;> simp_all [bne]
    rw [h1, h2]
    simp
  · have hr : lensB c = false := by simpa using hr
    have hR := lensB_rows hr
    have h1 : rowsR c = (!bodB c && c.bodies.xs.all isT) := by
      rw [bodB_eq, Bool.not_not]
      unfold rowsR bodiesR
      rw [hR.votes, hR.tags, hR.acks]
      simp
    have h2 : refRowsR c = ((!bodB c && c.bodies.xs.all isT) && (ons c).all (okI c)) := by
      rw [refRowsR, hr]
      simp [Bool.and_assoc]
    have h3 : votesR c = ((ons c).all (okI c) && ((c.state != 2) || c.votes.xs.all (fun x => x == 1))) := by
      have e : votesR c = (ons c).all (fun m => okI c m && ((c.state != 2) || (m.vote == 1))) := by
        unfold votesR
        congr 1
        funext m
        exact onOk_eq c m
      rw [e, all_and, all_or _ _ _ (.inr trivial), votes_ons hl hR (fun x => x == 1)]
    rw [h1, h2, h3]
    generalize (!bodB c && c.bodies.xs.all isT) = A
    generalize (ons c).all (okI c) = B
    generalize ((c.state != 2) || c.votes.xs.all (fun x => x == 1)) = D
    generalize ((mayTx c.txn && orgW c.auditor) && mayMb c.txn c.mem.xs) = E
    cases A <;> cases B <;> cases D <;> cases E <;> cases timesR c <;> rfl
set_option maxRecDepth 10000 in
set_option maxHeartbeats 8000000 in
theorem refMay_ok (M : Mem) (L : HL) (c : Co) (h : CoOk M c) : TrQ Try.prog 28 [.agg ⟨coC c⟩] M L (.bool (mayA c.ab)) := by
  rw [← coOk_ab h.lens, ← refMay_eq h.lens]
  refine Tr.intro 51 Try.func28 rfl rfl Try.call28 rfl ?_
  intro C hC hro
  repeat (first | with_reducible (first | refine run_seq ?_ | refine run_region ?_ | refine runL_nil ?_ | refine run_skip ?_ | refine run_block ?_ | refine run_inBlock ?_) | refine run_exit rfl ?_ | refine runL_q (qt_pev tok rfl) rfl rfl rfl ?_ | refine runL_g rfl rfl (qt_pev tok rfl) rfl rfl rfl rfl rfl ?_ | refine runL_q (ql tok rfl) rfl rfl rfl ?_ | refine runL_g rfl rfl (ql tok rfl) rfl rfl rfl rfl rfl ?_ | (refine runL_op0 (sst tok rfl rfl rfl rfl rfl) ?_; rintro _ _ _ ⟨rfl, rfl, rfl⟩) | (refine runL_op (st_box rfl) rfl rfl rfl ?_; rintro _ _ _ ⟨_, rfl, rfl, rfl⟩) | (refine runL_op (st_alloc tok rfl) rfl rfl rfl ?_; rintro _ _ _ ⟨_, rfl, rfl, rfl⟩) | (refine runL_op (st_buildSlice tok rfl rfl rfl rfl rfl rfl rfl) rfl rfl rfl ?_; rintro _ _ _ ⟨_, rfl, rfl, rfl⟩) | refine runL_q (qt_callF rfl (fun _ => refTx_ok _ _ c.txn)) rfl rfl rfl ?_ | refine runL_g rfl rfl (qt_callF rfl (fun _ => refOrg_ok _ _ c.auditor)) rfl rfl rfl rfl rfl ?_ | refine runL_g rfl rfl (qt_callF rfl (fun _ => refMb_ok _ _ c.txn c.mem h.mem h.dig)) rfl rfl rfl rfl rfl ?_ | refine runL_g rfl rfl (qt_callF rfl (fun _ => refRows_ok _ _ c h)) rfl rfl rfl rfl rfl ?_)
  have hA : ∀ x y z u : Bool, (((!x || !y) || !z) || !u) = !(((x && y) && z) && u) := by intro x y z u; cases x <;> cases y <;> cases z <;> cases u <;> rfl
  refine run_cond rfl (fun h1 => ?_) (fun h1 => ?_)
  · rw [hA] at h1
    have h2 : (((mayTx c.txn && orgW c.auditor) && mayMb c.txn c.mem.xs) && refRowsR c) = false := by simpa only [Bool.not_eq_true'] using h1
    rw [refMayR, h2, Bool.false_and] at hC
    repeat (first | with_reducible (first | refine run_seq ?_ | refine run_region ?_ | refine runL_nil ?_ | refine run_skip ?_ | refine run_block ?_ | refine run_inBlock ?_) | refine run_exit rfl ?_ | refine runL_q (qt_pev tok rfl) rfl rfl rfl ?_ | refine runL_g rfl rfl (qt_pev tok rfl) rfl rfl rfl rfl rfl ?_ | refine runL_q (ql tok rfl) rfl rfl rfl ?_ | refine runL_g rfl rfl (ql tok rfl) rfl rfl rfl rfl rfl ?_ | (refine runL_op0 (sst tok rfl rfl rfl rfl rfl) ?_; rintro _ _ _ ⟨rfl, rfl, rfl⟩) | (refine runL_op (st_box rfl) rfl rfl rfl ?_; rintro _ _ _ ⟨_, rfl, rfl, rfl⟩) | (refine runL_op (st_alloc tok rfl) rfl rfl rfl ?_; rintro _ _ _ ⟨_, rfl, rfl, rfl⟩) | (refine runL_op (st_buildSlice tok rfl rfl rfl rfl rfl rfl rfl) rfl rfl rfl ?_; rintro _ _ _ ⟨_, rfl, rfl, rfl⟩))
    exact run_ret hC (rs := [.tmp 2]) rfl (resT rfl resN) (fun _ h => h.drop) ⟨rfl, rfl, rfl⟩
  rw [hA] at h1
  have h2 : (((mayTx c.txn && orgW c.auditor) && mayMb c.txn c.mem.xs) && refRowsR c) = true := by simpa only [Bool.not_eq_false'] using h1
  rw [refMayR, h2, Bool.true_and] at hC
  repeat (first | with_reducible (first | refine run_seq ?_ | refine run_region ?_ | refine runL_nil ?_ | refine run_skip ?_ | refine run_block ?_ | refine run_inBlock ?_) | refine run_exit rfl ?_ | refine runL_q (qt_pev tok rfl) rfl rfl rfl ?_ | refine runL_g rfl rfl (qt_pev tok rfl) rfl rfl rfl rfl rfl ?_ | refine runL_q (ql tok rfl) rfl rfl rfl ?_ | refine runL_g rfl rfl (ql tok rfl) rfl rfl rfl rfl rfl ?_ | (refine runL_op0 (sst tok rfl rfl rfl rfl rfl) ?_; rintro _ _ _ ⟨rfl, rfl, rfl⟩) | (refine runL_op (st_box rfl) rfl rfl rfl ?_; rintro _ _ _ ⟨_, rfl, rfl, rfl⟩) | (refine runL_op (st_alloc tok rfl) rfl rfl rfl ?_; rintro _ _ _ ⟨_, rfl, rfl, rfl⟩) | (refine runL_op (st_buildSlice tok rfl rfl rfl rfl rfl rfl rfl) rfl rfl rfl ?_; rintro _ _ _ ⟨_, rfl, rfl, rfl⟩))
  have hT : (((decide (c.state < 1) || decide (c.state > 3)) || decide (c.since < 0)) || decide (c.sent < -1)) = !timesR c := by
    rw [timesR, Bool.eq_iff_iff]
    simp
  refine run_cond rfl (fun h3 => ?_) (fun h3 => ?_)
  · have h4 : timesR c = false := by
      have := hT.symm.trans h3
      simpa using this
    rw [h4, Bool.false_and] at hC
    repeat (first | with_reducible (first | refine run_seq ?_ | refine run_region ?_ | refine runL_nil ?_ | refine run_skip ?_ | refine run_block ?_ | refine run_inBlock ?_) | refine run_exit rfl ?_ | refine runL_q (qt_pev tok rfl) rfl rfl rfl ?_ | refine runL_g rfl rfl (qt_pev tok rfl) rfl rfl rfl rfl rfl ?_ | refine runL_q (ql tok rfl) rfl rfl rfl ?_ | refine runL_g rfl rfl (ql tok rfl) rfl rfl rfl rfl rfl ?_ | (refine runL_op0 (sst tok rfl rfl rfl rfl rfl) ?_; rintro _ _ _ ⟨rfl, rfl, rfl⟩) | (refine runL_op (st_box rfl) rfl rfl rfl ?_; rintro _ _ _ ⟨_, rfl, rfl, rfl⟩) | (refine runL_op (st_alloc tok rfl) rfl rfl rfl ?_; rintro _ _ _ ⟨_, rfl, rfl, rfl⟩) | (refine runL_op (st_buildSlice tok rfl rfl rfl rfl rfl rfl rfl) rfl rfl rfl ?_; rintro _ _ _ ⟨_, rfl, rfl, rfl⟩))
    exact run_ret hC (rs := [.tmp 2]) rfl (resT rfl resN) (fun _ h => h.drop) ⟨rfl, rfl, rfl⟩
  have h4 : timesR c = true := by
    have := hT.symm.trans h3
    simpa using this
  rw [h4, Bool.true_and] at hC
  repeat (first | with_reducible (first | refine run_seq ?_ | refine run_region ?_ | refine runL_nil ?_ | refine run_skip ?_ | refine run_block ?_ | refine run_inBlock ?_) | refine run_exit rfl ?_ | refine runL_q (qt_pev tok rfl) rfl rfl rfl ?_ | refine runL_g rfl rfl (qt_pev tok rfl) rfl rfl rfl rfl rfl ?_ | refine runL_q (ql tok rfl) rfl rfl rfl ?_ | refine runL_g rfl rfl (ql tok rfl) rfl rfl rfl rfl rfl ?_ | (refine runL_op0 (sst tok rfl rfl rfl rfl rfl) ?_; rintro _ _ _ ⟨rfl, rfl, rfl⟩) | (refine runL_op (st_box rfl) rfl rfl rfl ?_; rintro _ _ _ ⟨_, rfl, rfl, rfl⟩) | (refine runL_op (st_alloc tok rfl) rfl rfl rfl ?_; rintro _ _ _ ⟨_, rfl, rfl, rfl⟩) | (refine runL_op (st_buildSlice tok rfl rfl rfl rfl rfl rfl rfl) rfl rfl rfl ?_; rintro _ _ _ ⟨_, rfl, rfl, rfl⟩) | refine runL_g rfl rfl (qt_callF rfl (fun _ => refAll_ok _ _ c h.votes _)) rfl rfl rfl rfl rfl ?_)
  exact run_ret hC (rs := [.tmp 2]) rfl (resT rfl resN) (fun _ h => h.drop) ⟨rfl, rfl, rfl⟩

/-! ### a transaction with rows of its own -/
set_option maxHeartbeats 4000000 in
theorem texts_ok (M : Mem) (L : HL) (s : SStr) (h : StOk M s) : Tr Try.prog 33 [s.v] M L (fun v M' L' => M = M' ∧ ∃ (s' : SStr) (N : HL), v = s'.v ∧ s'.xs = s.xs ∧ s'.len = s.len ∧ L' = N ++ L ∧ OS 9 1 s'.v s.len (s.xs.map stC).flatten N) := by
  have hl := h.len
  have h6 := h.2
  have hs : SlM M 1 s.a s.len (s.xs.map stC) := h.1
  refine Tr.intro 5 Try.func33 rfl rfl Try.call33 rfl ?_
  intro C hC hro
  repeat (first | with_reducible (first | refine run_seq ?_ | refine run_region ?_ | refine runL_nil ?_ | refine run_skip ?_ | refine run_block ?_ | refine run_inBlock ?_) | refine run_exit rfl ?_ | refine runL_q (qt_pev tok rfl) rfl rfl rfl ?_ | refine runL_g rfl rfl (qt_pev tok rfl) rfl rfl rfl rfl rfl ?_ | refine runL_q (ql tok rfl) rfl rfl rfl ?_ | refine runL_g rfl rfl (ql tok rfl) rfl rfl rfl rfl rfl ?_ | (refine runL_op0 (sst tok rfl rfl rfl rfl rfl) ?_; rintro _ _ _ ⟨rfl, rfl, rfl⟩) | (refine runL_op (st_box rfl) rfl rfl rfl ?_; rintro _ _ _ ⟨_, rfl, rfl, rfl⟩) | (refine runL_op (st_alloc tok rfl) rfl rfl rfl ?_; rintro _ _ _ ⟨_, rfl, rfl, rfl⟩) | (refine runL_op (st_buildSlice tok rfl rfl rfl rfl rfl rfl rfl) rfl rfl rfl ?_; rintro _ _ _ ⟨_, rfl, rfl, rfl⟩))
  refine runL_op (st_appendG (xs := []) (n := 0) (m := s.len) tok rfl rfl rfl rfl rfl rfl rfl rfl (N := []) (List.Perm.refl _) (OS.nil _ _) (SrcG.ofSlM hs) (flat_one stC_one _) (by omega) (by omega)) rfl rfl rfl ?_
  rintro va _ _ ⟨N1, rfl, rfl, hO1⟩
  simp only [Nat.zero_add, List.nil_append] at hO1
  obtain ⟨aa, ca, rfl⟩ := os_slice hO1
  repeat (first | with_reducible (first | refine run_seq ?_ | refine run_region ?_ | refine runL_nil ?_ | refine run_skip ?_ | refine run_block ?_ | refine run_inBlock ?_) | refine run_exit rfl ?_ | refine runL_q (qt_pev tok rfl) rfl rfl rfl ?_ | refine runL_g rfl rfl (qt_pev tok rfl) rfl rfl rfl rfl rfl ?_ | refine runL_q (ql tok rfl) rfl rfl rfl ?_ | refine runL_g rfl rfl (ql tok rfl) rfl rfl rfl rfl rfl ?_ | (refine runL_op0 (sst tok rfl rfl rfl rfl rfl) ?_; rintro _ _ _ ⟨rfl, rfl, rfl⟩) | (refine runL_op (st_box rfl) rfl rfl rfl ?_; rintro _ _ _ ⟨_, rfl, rfl, rfl⟩) | (refine runL_op (st_alloc tok rfl) rfl rfl rfl ?_; rintro _ _ _ ⟨_, rfl, rfl, rfl⟩) | (refine runL_op (st_buildSlice tok rfl rfl rfl rfl rfl rfl rfl) rfl rfl rfl ?_; rintro _ _ _ ⟨_, rfl, rfl, rfl⟩))
  exact run_ret hC (rs := [.tmp 2]) rfl (resT rfl resN) (fun _ h => h) ⟨rfl, ⟨aa, s.len, ca, s.xs⟩, N1, rfl, rfl, rfl, rfl, hO1⟩
theorem texts_frz (M : Mem) (L : HL) (s : SStr) (h : StOk M s) : Tr Try.prog 33 [s.v] M L (fun v M' L' => M.le M' ∧ L = L' ∧ ∃ s' : SStr, v = s'.v ∧ s'.xs = s.xs ∧ s'.len = s.len ∧ StOk M' s') :=
  Tr.frz (texts_ok M L s h) fun v M' L' w hw ⟨h1, s', N, h2, h3, h4, h5, h6⟩ => by
    subst h1 h5
    have hl := h.len
    obtain ⟨M2, a', c', h7, h8, h9, h10⟩ := hw.freezeOS h6 (by simpa using hl) (stC_all _)
    exact ⟨M2, L, h8, h7, rfl, ⟨a', s.len, c', s.xs⟩, h2.trans h9, rfl, rfl, h10, h.2⟩
/-- what is ours may stand in any order -/
theorem runL_perm {P : Program} {C : Cx} {n : Nat} {k : List Item} {ds : List Deferred} {σ : Env} {δ : Den} {ops : Array Oper} {l : List Oper} {M : Mem} {L L' : HL} (hp : L.Perm L') (h : RunL P C n ops l k ds σ δ M L') : RunL P C n ops l k ds σ δ M L := runL_mem (fun _ hw => hw.perm hp) h
theorem runL_frzOS {P : Program} {C : Cx} {n : Nat} {k : List Item} {ds : List Deferred} {σ : Env} {δ : Den} {ops : Array Oper} {l : List Oper} {M : Mem} {L N : HL} {e size m ca : Nat} {aa : Option Addr} {ls : List (List Value)} (ho : OS e size (.slice aa m ca) m ls.flatten N) (hl : ls.length = m) (hsz : ∀ x ∈ ls, x.length = size)
    (h : ∀ M', M.le M' → SlM M' size aa m ls → RunL P C n ops l k ds σ δ M' L) : RunL P C n ops l k ds σ δ M (N ++ L) :=
  fun a w idx h1 h2 h3 h4 h5 => by
    obtain ⟨M', a', c', h6, h7, h8, h9⟩ := h4.freezeOS ho hl hsz
    cases h8
    exact h M' h6 h9 a w idx h1 h2 h3 h7 h5
def OwnK (M : Mem) (L : HL) (c : Co) : Value → Mem → HL → Prop := fun v M' L' => M.le M' ∧ ∃ c' Nv Nt Na, v = .agg ⟨coC c'⟩ ∧ c'.ab = c.ab ∧ L' = Na ++ (Nt ++ (Nv ++ L)) ∧ Mk M' c' Nv Nt Na
set_option maxRecDepth 10000 in
set_option maxHeartbeats 16000000 in
theorem refOwn_ok (M : Mem) (L : HL) (c : Co) (h : CoOk M c) : Tr Try.prog 8 [.agg ⟨coC c⟩] M L (OwnK M L c) := by
  have hl := h.mem.len
  have h6 := h.mem.2
  have hvl := U8Ok.len h.votes
  have hal := BlOk.len h.acks
  have hv6 := h.votes.2
  have ha6 := h.acks.2
  refine Tr.intro 24 Try.func8 rfl rfl Try.call8 rfl ?_
  intro C hC hro
  repeat (first | with_reducible (first | refine run_seq ?_ | refine run_region ?_ | refine runL_nil ?_ | refine run_skip ?_ | refine run_block ?_ | refine run_inBlock ?_) | refine run_exit rfl ?_ | refine runL_q (qt_pev tok rfl) rfl rfl rfl ?_ | refine runL_g rfl rfl (qt_pev tok rfl) rfl rfl rfl rfl rfl ?_ | refine runL_q (ql tok rfl) rfl rfl rfl ?_ | refine runL_g rfl rfl (ql tok rfl) rfl rfl rfl rfl rfl ?_ | (refine runL_op0 (sst tok rfl rfl rfl rfl rfl) ?_; rintro _ _ _ ⟨rfl, rfl, rfl⟩) | (refine runL_op (st_box rfl) rfl rfl rfl ?_; rintro _ _ _ ⟨_, rfl, rfl, rfl⟩) | (refine runL_op (st_alloc tok rfl) rfl rfl rfl ?_; rintro _ _ _ ⟨_, rfl, rfl, rfl⟩) | (refine runL_op (st_buildSlice tok rfl rfl rfl rfl rfl rfl rfl) rfl rfl rfl ?_; rintro _ _ _ ⟨_, rfl, rfl, rfl⟩))
  refine runL_op (st_appendG (xs := []) (n := 0) (m := c.mem.len) tok rfl rfl rfl rfl rfl rfl rfl rfl (N := []) (List.Perm.refl _) (OS.nil _ _) (SrcG.ofSlM h.mem.1) (flat_one mbC_one _) (by omega) (by omega)) rfl rfl rfl ?_
  rintro va _ _ ⟨N1, rfl, rfl, hO1⟩
  simp only [Nat.zero_add, List.nil_append] at hO1
  obtain ⟨aa, ca, rfl⟩ := os_slice hO1
  refine runL_frzOS hO1 (by simpa using hl) (mbC_all _) ?_
  intro M1 hM1 hs1
  repeat (first | with_reducible (first | refine run_seq ?_ | refine run_region ?_ | refine runL_nil ?_ | refine run_skip ?_ | refine run_block ?_ | refine run_inBlock ?_) | refine run_exit rfl ?_ | refine runL_q (qt_pev tok rfl) rfl rfl rfl ?_ | refine runL_g rfl rfl (qt_pev tok rfl) rfl rfl rfl rfl rfl ?_ | refine runL_q (ql tok rfl) rfl rfl rfl ?_ | refine runL_g rfl rfl (ql tok rfl) rfl rfl rfl rfl rfl ?_ | (refine runL_op0 (sst tok rfl rfl rfl rfl rfl) ?_; rintro _ _ _ ⟨rfl, rfl, rfl⟩) | (refine runL_op (st_box rfl) rfl rfl rfl ?_; rintro _ _ _ ⟨_, rfl, rfl, rfl⟩) | (refine runL_op (st_alloc tok rfl) rfl rfl rfl ?_; rintro _ _ _ ⟨_, rfl, rfl, rfl⟩) | (refine runL_op (st_buildSlice tok rfl rfl rfl rfl rfl rfl rfl) rfl rfl rfl ?_; rintro _ _ _ ⟨_, rfl, rfl, rfl⟩))
  refine runL_op (st_callF rfl (fun _ => texts_frz _ _ c.bodies (h.bodies.le hM1))) rfl rfl rfl ?_
  rintro _ M2 _ ⟨hM2, rfl, s', rfl, hsx, hsl, hso⟩
  have h2 := (h.le hM1).le hM2
  repeat (first | with_reducible (first | refine run_seq ?_ | refine run_region ?_ | refine runL_nil ?_ | refine run_skip ?_ | refine run_block ?_ | refine run_inBlock ?_) | refine run_exit rfl ?_ | refine runL_q (qt_pev tok rfl) rfl rfl rfl ?_ | refine runL_g rfl rfl (qt_pev tok rfl) rfl rfl rfl rfl rfl ?_ | refine runL_q (ql tok rfl) rfl rfl rfl ?_ | refine runL_g rfl rfl (ql tok rfl) rfl rfl rfl rfl rfl ?_ | (refine runL_op0 (sst tok rfl rfl rfl rfl rfl) ?_; rintro _ _ _ ⟨rfl, rfl, rfl⟩) | (refine runL_op (st_box rfl) rfl rfl rfl ?_; rintro _ _ _ ⟨_, rfl, rfl, rfl⟩) | (refine runL_op (st_alloc tok rfl) rfl rfl rfl ?_; rintro _ _ _ ⟨_, rfl, rfl, rfl⟩) | (refine runL_op (st_buildSlice tok rfl rfl rfl rfl rfl rfl rfl) rfl rfl rfl ?_; rintro _ _ _ ⟨_, rfl, rfl, rfl⟩))
  have hsv : SlM M2 1 c.votes.a c.votes.len (c.votes.xs.map u8C) := h2.votes.1
  have hsa : SlM M2 1 c.acks.a c.acks.len (c.acks.xs.map blC) := h2.acks.1
  refine runL_op (st_appendG (xs := []) (n := 0) (m := c.votes.len) tok rfl rfl rfl rfl rfl rfl rfl rfl (N := []) (List.Perm.refl _) (OS.nil _ _) (SrcG.ofSlM hsv) (flat_one u8C_one _) (by omega) (by omega)) rfl rfl rfl ?_
  rintro vv _ _ ⟨Nv, rfl, rfl, hOv⟩
  simp only [Nat.zero_add, List.nil_append] at hOv
  obtain ⟨av, cv, rfl⟩ := os_slice hOv
  repeat (first | with_reducible (first | refine run_seq ?_ | refine run_region ?_ | refine runL_nil ?_ | refine run_skip ?_ | refine run_block ?_ | refine run_inBlock ?_) | refine run_exit rfl ?_ | refine runL_q (qt_pev tok rfl) rfl rfl rfl ?_ | refine runL_g rfl rfl (qt_pev tok rfl) rfl rfl rfl rfl rfl ?_ | refine runL_q (ql tok rfl) rfl rfl rfl ?_ | refine runL_g rfl rfl (ql tok rfl) rfl rfl rfl rfl rfl ?_ | (refine runL_op0 (sst tok rfl rfl rfl rfl rfl) ?_; rintro _ _ _ ⟨rfl, rfl, rfl⟩) | (refine runL_op (st_box rfl) rfl rfl rfl ?_; rintro _ _ _ ⟨_, rfl, rfl, rfl⟩) | (refine runL_op (st_alloc tok rfl) rfl rfl rfl ?_; rintro _ _ _ ⟨_, rfl, rfl, rfl⟩) | (refine runL_op (st_buildSlice tok rfl rfl rfl rfl rfl rfl rfl) rfl rfl rfl ?_; rintro _ _ _ ⟨_, rfl, rfl, rfl⟩))
  refine runL_op (st_callF rfl (fun _ => texts_ok _ _ c.tags h2.tags)) rfl rfl rfl ?_
  rintro _ _ _ ⟨rfl, t', Nt, rfl, htx, htl, rfl, hto⟩
  repeat (first | with_reducible (first | refine run_seq ?_ | refine run_region ?_ | refine runL_nil ?_ | refine run_skip ?_ | refine run_block ?_ | refine run_inBlock ?_) | refine run_exit rfl ?_ | refine runL_q (qt_pev tok rfl) rfl rfl rfl ?_ | refine runL_g rfl rfl (qt_pev tok rfl) rfl rfl rfl rfl rfl ?_ | refine runL_q (ql tok rfl) rfl rfl rfl ?_ | refine runL_g rfl rfl (ql tok rfl) rfl rfl rfl rfl rfl ?_ | (refine runL_op0 (sst tok rfl rfl rfl rfl rfl) ?_; rintro _ _ _ ⟨rfl, rfl, rfl⟩) | (refine runL_op (st_box rfl) rfl rfl rfl ?_; rintro _ _ _ ⟨_, rfl, rfl, rfl⟩) | (refine runL_op (st_alloc tok rfl) rfl rfl rfl ?_; rintro _ _ _ ⟨_, rfl, rfl, rfl⟩) | (refine runL_op (st_buildSlice tok rfl rfl rfl rfl rfl rfl rfl) rfl rfl rfl ?_; rintro _ _ _ ⟨_, rfl, rfl, rfl⟩))
  refine runL_op (st_appendG (xs := []) (n := 0) (m := c.acks.len) tok rfl rfl rfl rfl rfl rfl rfl rfl (N := []) (List.Perm.refl _) (OS.nil _ _) (SrcG.ofSlM hsa) (flat_one blC_one _) (by omega) (by omega)) rfl rfl rfl ?_
  rintro vk _ _ ⟨Na, rfl, rfl, hOa⟩
  simp only [Nat.zero_add, List.nil_append] at hOa
  obtain ⟨ak, ck, rfl⟩ := os_slice hOa
  show RunL _ _ _ _ _ _ _ _ _ _ (Na ++ (Nt ++ (Nv ++ _)))
  repeat (first | with_reducible (first | refine run_seq ?_ | refine run_region ?_ | refine runL_nil ?_ | refine run_skip ?_ | refine run_block ?_ | refine run_inBlock ?_) | refine run_exit rfl ?_ | refine runL_q (qt_pev tok rfl) rfl rfl rfl ?_ | refine runL_g rfl rfl (qt_pev tok rfl) rfl rfl rfl rfl rfl ?_ | refine runL_q (ql tok rfl) rfl rfl rfl ?_ | refine runL_g rfl rfl (ql tok rfl) rfl rfl rfl rfl rfl ?_ | (refine runL_op0 (sst tok rfl rfl rfl rfl rfl) ?_; rintro _ _ _ ⟨rfl, rfl, rfl⟩) | (refine runL_op (st_box rfl) rfl rfl rfl ?_; rintro _ _ _ ⟨_, rfl, rfl, rfl⟩) | (refine runL_op (st_alloc tok rfl) rfl rfl rfl ?_; rintro _ _ _ ⟨_, rfl, rfl, rfl⟩) | (refine runL_op (st_buildSlice tok rfl rfl rfl rfl rfl rfl rfl) rfl rfl rfl ?_; rintro _ _ _ ⟨_, rfl, rfl, rfl⟩))
  refine run_ret hC (rs := [.cell 2 29]) rfl (rl tok rfl resN) (L' := Na ++ (Nt ++ (Nv ++ L))) (fun _ h => ?_) ⟨Mem.le_trans hM1 hM2, ⟨c.txn, c.auditor, ⟨aa, c.mem.len, ca, c.mem.xs⟩, s', ⟨av, c.votes.len, cv, c.votes.xs⟩, t', ⟨ak, c.acks.len, ck, c.acks.xs⟩, c.state, c.since, c.sent⟩, Nv, Nt, Na, rfl, ?_, rfl, ?_⟩
  · exact h.subl (((((List.sublist_cons_self _ _).trans (List.sublist_cons_self _ _)).append_left Nv).append_left Nt).append_left Na)
  · simp only [Co.ab, hsx, htx]
  · exact ⟨⟨hs1.le hM2, h.mem.2⟩, hso, hOv, by rw [htx, htl]; exact hto, hOa, ⟨hvl, hv6⟩, ⟨by rw [htx, htl]; exact StOk.len h.tags, by rw [htl]; exact h.tags.2⟩, ⟨hal, ha6⟩, h.dig, by rw [hsx]; exact h.bod, by rw [htx]; exact h.tag⟩
theorem refOwn_frz (M : Mem) (L : HL) (c : Co) (h : CoOk M c) : Tr Try.prog 8 [.agg ⟨coC c⟩] M L (fun v M' L' => M.le M' ∧ L = L' ∧ ∃ c', v = .agg ⟨coC c'⟩ ∧ c'.ab = c.ab ∧ CoOk M' c') :=
  Tr.frz (refOwn_ok M L c h) fun v M' L' w hw ⟨h1, c', Nv, Nt, Na, h2, h3, h4, h5⟩ => by
    subst h4
    obtain ⟨M2, h6, h7, h8⟩ := h5.frz hw
    exact ⟨M2, L, h7, Mem.le_trans h1 h6, rfl, c', h2, h3, h8⟩
end Go.Proofs.Ytpmepmdngdkafaa
namespace Go.Proofs.Ytpmepmdngdkafaa
open Go.Chi

/-! ### the document's steps -/
set_option maxRecDepth 10000 in
set_option maxHeartbeats 8000000 in
theorem refMark_ok (M : Mem) (L : HL) (c : Co) (h : CoOk M c) (now : Int) : Tr Try.prog 16 [.agg ⟨coC c⟩, .int .i64 now] M L (CoK M L (markA c.ab now)) := by
  refine Tr.intro 20 Try.func16 rfl rfl Try.call16 rfl ?_
  intro C hC hro
  repeat (first | with_reducible (first | refine run_seq ?_ | refine run_region ?_ | refine runL_nil ?_ | refine run_skip ?_ | refine run_block ?_ | refine run_inBlock ?_) | refine run_exit rfl ?_ | refine runL_q (qt_pev tok rfl) rfl rfl rfl ?_ | refine runL_g rfl rfl (qt_pev tok rfl) rfl rfl rfl rfl rfl ?_ | refine runL_q (ql tok rfl) rfl rfl rfl ?_ | refine runL_g rfl rfl (ql tok rfl) rfl rfl rfl rfl rfl ?_ | (refine runL_op0 (sst tok rfl rfl rfl rfl rfl) ?_; rintro _ _ _ ⟨rfl, rfl, rfl⟩) | (refine runL_op (st_box rfl) rfl rfl rfl ?_; rintro _ _ _ ⟨_, rfl, rfl, rfl⟩) | (refine runL_op (st_alloc tok rfl) rfl rfl rfl ?_; rintro _ _ _ ⟨_, rfl, rfl, rfl⟩) | (refine runL_op (st_buildSlice tok rfl rfl rfl rfl rfl rfl rfl) rfl rfl rfl ?_; rintro _ _ _ ⟨_, rfl, rfl, rfl⟩) | refine runL_q (qt_callF rfl (fun _ => refMay_ok _ _ c h)) rfl rfl rfl ?_)
  refine run_cond rfl (fun h1 => ?_) (fun h1 => ?_)
  · have h2 : ¬ (mayA c.ab = true ∧ 0 ≤ now) := by
      have : (!mayA c.ab || decide (now < 0)) = true := h1
      rintro ⟨e1, e2⟩
      rw [e1] at this
      simp at this
      omega
    rw [markA, if_neg h2] at hC
    repeat (first | with_reducible (first | refine run_seq ?_ | refine run_region ?_ | refine runL_nil ?_ | refine run_skip ?_ | refine run_block ?_ | refine run_inBlock ?_) | refine run_exit rfl ?_ | refine runL_q (qt_pev tok rfl) rfl rfl rfl ?_ | refine runL_g rfl rfl (qt_pev tok rfl) rfl rfl rfl rfl rfl ?_ | refine runL_q (ql tok rfl) rfl rfl rfl ?_ | refine runL_g rfl rfl (ql tok rfl) rfl rfl rfl rfl rfl ?_ | (refine runL_op0 (sst tok rfl rfl rfl rfl rfl) ?_; rintro _ _ _ ⟨rfl, rfl, rfl⟩) | (refine runL_op (st_box rfl) rfl rfl rfl ?_; rintro _ _ _ ⟨_, rfl, rfl, rfl⟩) | (refine runL_op (st_alloc tok rfl) rfl rfl rfl ?_; rintro _ _ _ ⟨_, rfl, rfl, rfl⟩) | (refine runL_op (st_buildSlice tok rfl rfl rfl rfl rfl rfl rfl) rfl rfl rfl ?_; rintro _ _ _ ⟨_, rfl, rfl, rfl⟩))
    exact run_ret hC (rs := [.cell 4 29, .tmp 5]) rfl (rl tok rfl (resT rfl resN)) (fun _ h => h.drop.drop) (CoK.none _ _ _ (Mem.le_refl _))
  have h2 : mayA c.ab = true ∧ 0 ≤ now := by
    have : (!mayA c.ab || decide (now < 0)) = false := h1
    simpa using this
  rw [markA, if_pos h2] at hC
  repeat (first | with_reducible (first | refine run_seq ?_ | refine run_region ?_ | refine runL_nil ?_ | refine run_skip ?_ | refine run_block ?_ | refine run_inBlock ?_) | refine run_exit rfl ?_ | refine runL_q (qt_pev tok rfl) rfl rfl rfl ?_ | refine runL_g rfl rfl (qt_pev tok rfl) rfl rfl rfl rfl rfl ?_ | refine runL_q (ql tok rfl) rfl rfl rfl ?_ | refine runL_g rfl rfl (ql tok rfl) rfl rfl rfl rfl rfl ?_ | (refine runL_op0 (sst tok rfl rfl rfl rfl rfl) ?_; rintro _ _ _ ⟨rfl, rfl, rfl⟩) | (refine runL_op (st_box rfl) rfl rfl rfl ?_; rintro _ _ _ ⟨_, rfl, rfl, rfl⟩) | (refine runL_op (st_alloc tok rfl) rfl rfl rfl ?_; rintro _ _ _ ⟨_, rfl, rfl, rfl⟩) | (refine runL_op (st_buildSlice tok rfl rfl rfl rfl rfl rfl rfl) rfl rfl rfl ?_; rintro _ _ _ ⟨_, rfl, rfl, rfl⟩) | (refine runL_op (st_callF rfl (fun _ => refOwn_frz _ _ c h)) rfl rfl rfl ?_; rintro _ M1 _ ⟨hM1, rfl, c', rfl, hab, hok⟩))
  exact run_ret hC (rs := [.cell 4 29, .tmp 5]) rfl (rl tok rfl (resT rfl resN)) (fun _ h => h.drop.drop.drop) ⟨hM1, rfl, { c' with sent := now }, rfl, by rw [← hab]; rfl, ⟨hok.mem, hok.bodies, hok.votes, hok.tags, hok.acks, hok.dig, hok.bod, hok.tag⟩⟩
theorem mayA_votes {c : Co} (hl : Lens c) (hm : mayA c.ab = true) : ∀ v ∈ c.votes.xs, v ≤ 2 := by
  rw [← coOk_ab hl, coOk] at hm
  simp only [Bool.and_eq_true] at hm
  have hr := rowsR_rows hm.1.1.2
  have h2 : (ons c).all (fun m => decide (m.vote ≤ 2)) = true := by
    rw [List.all_eq_true]
    intro m hm'
    have := List.all_eq_true.1 hm.1.2 m hm'
    simp only [onOk, badA, Bool.and_eq_true, Bool.not_eq_true', Bool.or_eq_false_iff, decide_eq_false_iff_not] at this
    simp only [decide_eq_true_eq]
    omega
  rw [← votes_ons hl hr (fun v => decide (v ≤ 2)), List.all_eq_true] at h2
  intro v hv
  simpa using h2 v hv
theorem allYes_eq {c : Co} (hl : Lens c) (hm : mayA c.ab = true) (hv : ∀ v ∈ c.votes.xs, 0 ≤ v) : allYes c.ab = c.votes.xs.all (fun x => x == 1) := by
  have h2 := mayA_votes hl hm
  rw [allYes, show c.ab.votes = c.votes.xs from rfl, Bool.eq_iff_iff, List.all_eq_true]
  simp only [hasR, Bool.not_eq_true', Bool.or_eq_false_iff, List.any_eq_false, beq_iff_eq]
  constructor
  · rintro ⟨h3, h4⟩ x hx
    have := h2 x hx
    have := hv x hx
    have := h3 x hx
    have := h4 x hx
    omega
  · intro h
    exact ⟨fun x hx e => by have := h x hx; omega, fun x hx e => by have := h x hx; omega⟩
set_option maxRecDepth 10000 in
set_option maxHeartbeats 8000000 in
theorem refDecide_ok (M : Mem) (L : HL) (c : Co) (h : CoOk M c) (hv : ∀ v ∈ c.votes.xs, 0 ≤ v) (commit : Bool) : Tr Try.prog 12 [.agg ⟨coC c⟩, .bool commit] M L (CoK M L (decideA c.ab commit)) := by
  refine Tr.intro 30 Try.func12 rfl rfl Try.call12 rfl ?_
  intro C hC hro
  repeat (first | with_reducible (first | refine run_seq ?_ | refine run_region ?_ | refine runL_nil ?_ | refine run_skip ?_ | refine run_block ?_ | refine run_inBlock ?_) | refine run_exit rfl ?_ | refine runL_q (qt_pev tok rfl) rfl rfl rfl ?_ | refine runL_g rfl rfl (qt_pev tok rfl) rfl rfl rfl rfl rfl ?_ | refine runL_q (ql tok rfl) rfl rfl rfl ?_ | refine runL_g rfl rfl (ql tok rfl) rfl rfl rfl rfl rfl ?_ | (refine runL_op0 (sst tok rfl rfl rfl rfl rfl) ?_; rintro _ _ _ ⟨rfl, rfl, rfl⟩) | (refine runL_op (st_box rfl) rfl rfl rfl ?_; rintro _ _ _ ⟨_, rfl, rfl, rfl⟩) | (refine runL_op (st_alloc tok rfl) rfl rfl rfl ?_; rintro _ _ _ ⟨_, rfl, rfl, rfl⟩) | (refine runL_op (st_buildSlice tok rfl rfl rfl rfl rfl rfl rfl) rfl rfl rfl ?_; rintro _ _ _ ⟨_, rfl, rfl, rfl⟩) | refine runL_q (qt_callF rfl (fun _ => refMay_ok _ _ c h)) rfl rfl rfl ?_)
  refine run_cond rfl (fun h1 => ?_) (fun h1 => ?_)
  · have h2 : ¬ mayA c.ab = true := by
      have : (!mayA c.ab) = true := h1
      simpa using this
    rw [decideA, if_neg h2] at hC
    repeat (first | with_reducible (first | refine run_seq ?_ | refine run_region ?_ | refine runL_nil ?_ | refine run_skip ?_ | refine run_block ?_ | refine run_inBlock ?_) | refine run_exit rfl ?_ | refine runL_q (qt_pev tok rfl) rfl rfl rfl ?_ | refine runL_g rfl rfl (qt_pev tok rfl) rfl rfl rfl rfl rfl ?_ | refine runL_q (ql tok rfl) rfl rfl rfl ?_ | refine runL_g rfl rfl (ql tok rfl) rfl rfl rfl rfl rfl ?_ | (refine runL_op0 (sst tok rfl rfl rfl rfl rfl) ?_; rintro _ _ _ ⟨rfl, rfl, rfl⟩) | (refine runL_op (st_box rfl) rfl rfl rfl ?_; rintro _ _ _ ⟨_, rfl, rfl, rfl⟩) | (refine runL_op (st_alloc tok rfl) rfl rfl rfl ?_; rintro _ _ _ ⟨_, rfl, rfl, rfl⟩) | (refine runL_op (st_buildSlice tok rfl rfl rfl rfl rfl rfl rfl) rfl rfl rfl ?_; rintro _ _ _ ⟨_, rfl, rfl, rfl⟩))
    exact run_ret hC (rs := [.cell 4 29, .tmp 5]) rfl (rl tok rfl (resT rfl resN)) (fun _ h => h.drop.drop) (CoK.none _ _ _ (Mem.le_refl _))
  have h2 : mayA c.ab = true := by
    have : (!mayA c.ab) = false := h1
    simpa using this
  have hy := allYes_eq h.lens h2 hv
  rw [decideA, if_pos h2] at hC
  repeat (first | with_reducible (first | refine run_seq ?_ | refine run_region ?_ | refine runL_nil ?_ | refine run_skip ?_ | refine run_block ?_ | refine run_inBlock ?_) | refine run_exit rfl ?_ | refine runL_q (qt_pev tok rfl) rfl rfl rfl ?_ | refine runL_g rfl rfl (qt_pev tok rfl) rfl rfl rfl rfl rfl ?_ | refine runL_q (ql tok rfl) rfl rfl rfl ?_ | refine runL_g rfl rfl (ql tok rfl) rfl rfl rfl rfl rfl ?_ | (refine runL_op0 (sst tok rfl rfl rfl rfl rfl) ?_; rintro _ _ _ ⟨rfl, rfl, rfl⟩) | (refine runL_op (st_box rfl) rfl rfl rfl ?_; rintro _ _ _ ⟨_, rfl, rfl, rfl⟩) | (refine runL_op (st_alloc tok rfl) rfl rfl rfl ?_; rintro _ _ _ ⟨_, rfl, rfl, rfl⟩) | (refine runL_op (st_buildSlice tok rfl rfl rfl rfl rfl rfl rfl) rfl rfl rfl ?_; rintro _ _ _ ⟨_, rfl, rfl, rfl⟩) | refine runL_g rfl rfl (qt_callF rfl (fun _ => refAll_ok _ _ c h.votes _)) rfl rfl rfl rfl rfl ?_)
  refine run_cond rfl (fun h3 => ?_) (fun h3 => ?_)
  · have h4 : (c.ab.state != 1) = true ∨ (commit = true ∧ allYes c.ab = false) := by
      have : ((c.ab.state != 1) || (commit && !(c.votes.xs.all (fun x => x == 1)))) = true := h3
      rw [← hy] at this
      simpa using this
    rw [if_pos h4] at hC
    repeat (first | with_reducible (first | refine run_seq ?_ | refine run_region ?_ | refine runL_nil ?_ | refine run_skip ?_ | refine run_block ?_ | refine run_inBlock ?_) | refine run_exit rfl ?_ | refine runL_q (qt_pev tok rfl) rfl rfl rfl ?_ | refine runL_g rfl rfl (qt_pev tok rfl) rfl rfl rfl rfl rfl ?_ | refine runL_q (ql tok rfl) rfl rfl rfl ?_ | refine runL_g rfl rfl (ql tok rfl) rfl rfl rfl rfl rfl ?_ | (refine runL_op0 (sst tok rfl rfl rfl rfl rfl) ?_; rintro _ _ _ ⟨rfl, rfl, rfl⟩) | (refine runL_op (st_box rfl) rfl rfl rfl ?_; rintro _ _ _ ⟨_, rfl, rfl, rfl⟩) | (refine runL_op (st_alloc tok rfl) rfl rfl rfl ?_; rintro _ _ _ ⟨_, rfl, rfl, rfl⟩) | (refine runL_op (st_buildSlice tok rfl rfl rfl rfl rfl rfl rfl) rfl rfl rfl ?_; rintro _ _ _ ⟨_, rfl, rfl, rfl⟩))
    exact run_ret hC (rs := [.cell 4 29, .tmp 5]) rfl (rl tok rfl (resT rfl resN)) (fun _ h => h.drop.drop) (CoK.none _ _ _ (Mem.le_refl _))
  have h4 : ¬ ((c.ab.state != 1) = true ∨ (commit = true ∧ allYes c.ab = false)) := by
    have : ((c.ab.state != 1) || (commit && !(c.votes.xs.all (fun x => x == 1)))) = false := h3
    rw [← hy] at this
    simpa using this
  rw [if_neg h4] at hC
  repeat (first | with_reducible (first | refine run_seq ?_ | refine run_region ?_ | refine runL_nil ?_ | refine run_skip ?_ | refine run_block ?_ | refine run_inBlock ?_) | refine run_exit rfl ?_ | refine runL_q (qt_pev tok rfl) rfl rfl rfl ?_ | refine runL_g rfl rfl (qt_pev tok rfl) rfl rfl rfl rfl rfl ?_ | refine runL_q (ql tok rfl) rfl rfl rfl ?_ | refine runL_g rfl rfl (ql tok rfl) rfl rfl rfl rfl rfl ?_ | (refine runL_op0 (sst tok rfl rfl rfl rfl rfl) ?_; rintro _ _ _ ⟨rfl, rfl, rfl⟩) | (refine runL_op (st_box rfl) rfl rfl rfl ?_; rintro _ _ _ ⟨_, rfl, rfl, rfl⟩) | (refine runL_op (st_alloc tok rfl) rfl rfl rfl ?_; rintro _ _ _ ⟨_, rfl, rfl, rfl⟩) | (refine runL_op (st_buildSlice tok rfl rfl rfl rfl rfl rfl rfl) rfl rfl rfl ?_; rintro _ _ _ ⟨_, rfl, rfl, rfl⟩) | (refine runL_op (st_callF rfl (fun _ => refOwn_frz _ _ c h)) rfl rfl rfl ?_; rintro _ M1 _ ⟨hM1, rfl, c', rfl, hab, hok⟩))
  refine run_cond rfl (fun h5 => ?_) (fun h5 => ?_)
  · rw [if_pos h5] at hC
    repeat (first | with_reducible (first | refine run_seq ?_ | refine run_region ?_ | refine runL_nil ?_ | refine run_skip ?_ | refine run_block ?_ | refine run_inBlock ?_) | refine run_exit rfl ?_ | refine runL_q (qt_pev tok rfl) rfl rfl rfl ?_ | refine runL_g rfl rfl (qt_pev tok rfl) rfl rfl rfl rfl rfl ?_ | refine runL_q (ql tok rfl) rfl rfl rfl ?_ | refine runL_g rfl rfl (ql tok rfl) rfl rfl rfl rfl rfl ?_ | (refine runL_op0 (sst tok rfl rfl rfl rfl rfl) ?_; rintro _ _ _ ⟨rfl, rfl, rfl⟩) | (refine runL_op (st_box rfl) rfl rfl rfl ?_; rintro _ _ _ ⟨_, rfl, rfl, rfl⟩) | (refine runL_op (st_alloc tok rfl) rfl rfl rfl ?_; rintro _ _ _ ⟨_, rfl, rfl, rfl⟩) | (refine runL_op (st_buildSlice tok rfl rfl rfl rfl rfl rfl rfl) rfl rfl rfl ?_; rintro _ _ _ ⟨_, rfl, rfl, rfl⟩))
    exact run_ret hC (rs := [.cell 4 29, .tmp 5]) rfl (rl tok rfl (resT rfl resN)) (fun _ h => h.drop.drop.drop) ⟨hM1, rfl, { c' with state := 2, sent := -1 }, rfl, by rw [← hab]; rfl, ⟨hok.mem, hok.bodies, hok.votes, hok.tags, hok.acks, hok.dig, hok.bod, hok.tag⟩⟩
  · rw [if_neg (by rw [h5]; simp)] at hC
    repeat (first | with_reducible (first | refine run_seq ?_ | refine run_region ?_ | refine runL_nil ?_ | refine run_skip ?_ | refine run_block ?_ | refine run_inBlock ?_) | refine run_exit rfl ?_ | refine runL_q (qt_pev tok rfl) rfl rfl rfl ?_ | refine runL_g rfl rfl (qt_pev tok rfl) rfl rfl rfl rfl rfl ?_ | refine runL_q (ql tok rfl) rfl rfl rfl ?_ | refine runL_g rfl rfl (ql tok rfl) rfl rfl rfl rfl rfl ?_ | (refine runL_op0 (sst tok rfl rfl rfl rfl rfl) ?_; rintro _ _ _ ⟨rfl, rfl, rfl⟩) | (refine runL_op (st_box rfl) rfl rfl rfl ?_; rintro _ _ _ ⟨_, rfl, rfl, rfl⟩) | (refine runL_op (st_alloc tok rfl) rfl rfl rfl ?_; rintro _ _ _ ⟨_, rfl, rfl, rfl⟩) | (refine runL_op (st_buildSlice tok rfl rfl rfl rfl rfl rfl rfl) rfl rfl rfl ?_; rintro _ _ _ ⟨_, rfl, rfl, rfl⟩))
    exact run_ret hC (rs := [.cell 4 29, .tmp 5]) rfl (rl tok rfl (resT rfl resN)) (fun _ h => h.drop.drop.drop) ⟨hM1, rfl, { c' with state := 3, sent := -1 }, rfl, by rw [← hab]; rfl, ⟨hok.mem, hok.bodies, hok.votes, hok.tags, hok.acks, hok.dig, hok.bod, hok.tag⟩⟩
set_option maxRecDepth 10000 in
set_option maxHeartbeats 16000000 in
theorem refAck_ok (M : Mem) (L : HL) (c : Co) (h : CoOk M c) (org : Int) : Tr Try.prog 14 [.agg ⟨coC c⟩, .int .i64 org] M L (CoK M L (ackA c.ab org)) := by
  refine Tr.intro 40 Try.func14 rfl rfl Try.call14 rfl ?_
  intro C hC hro
  repeat (first | with_reducible (first | refine run_seq ?_ | refine run_region ?_ | refine runL_nil ?_ | refine run_skip ?_ | refine run_block ?_ | refine run_inBlock ?_) | refine run_exit rfl ?_ | refine runL_q (qt_pev tok rfl) rfl rfl rfl ?_ | refine runL_g rfl rfl (qt_pev tok rfl) rfl rfl rfl rfl rfl ?_ | refine runL_q (ql tok rfl) rfl rfl rfl ?_ | refine runL_g rfl rfl (ql tok rfl) rfl rfl rfl rfl rfl ?_ | (refine runL_op0 (sst tok rfl rfl rfl rfl rfl) ?_; rintro _ _ _ ⟨rfl, rfl, rfl⟩) | (refine runL_op (st_box rfl) rfl rfl rfl ?_; rintro _ _ _ ⟨_, rfl, rfl, rfl⟩) | (refine runL_op (st_alloc tok rfl) rfl rfl rfl ?_; rintro _ _ _ ⟨_, rfl, rfl, rfl⟩) | (refine runL_op (st_buildSlice tok rfl rfl rfl rfl rfl rfl rfl) rfl rfl rfl ?_; rintro _ _ _ ⟨_, rfl, rfl, rfl⟩) | refine runL_q (qt_callF rfl (fun _ => refMay_ok _ _ c h)) rfl rfl rfl ?_)
  refine run_cond rfl (fun h1 => ?_) (fun h1 => ?_)
  · have h2 : ¬ mayA c.ab = true := by
      have : (!mayA c.ab) = true := h1
      simpa using this
    rw [ackA, if_neg h2] at hC
    repeat (first | with_reducible (first | refine run_seq ?_ | refine run_region ?_ | refine runL_nil ?_ | refine run_skip ?_ | refine run_block ?_ | refine run_inBlock ?_) | refine run_exit rfl ?_ | refine runL_q (qt_pev tok rfl) rfl rfl rfl ?_ | refine runL_g rfl rfl (qt_pev tok rfl) rfl rfl rfl rfl rfl ?_ | refine runL_q (ql tok rfl) rfl rfl rfl ?_ | refine runL_g rfl rfl (ql tok rfl) rfl rfl rfl rfl rfl ?_ | (refine runL_op0 (sst tok rfl rfl rfl rfl rfl) ?_; rintro _ _ _ ⟨rfl, rfl, rfl⟩) | (refine runL_op (st_box rfl) rfl rfl rfl ?_; rintro _ _ _ ⟨_, rfl, rfl, rfl⟩) | (refine runL_op (st_alloc tok rfl) rfl rfl rfl ?_; rintro _ _ _ ⟨_, rfl, rfl, rfl⟩) | (refine runL_op (st_buildSlice tok rfl rfl rfl rfl rfl rfl rfl) rfl rfl rfl ?_; rintro _ _ _ ⟨_, rfl, rfl, rfl⟩))
    exact run_ret hC (rs := [.cell 4 29, .tmp 5]) rfl (rl tok rfl (resT rfl resN)) (fun _ h => h.drop.drop.drop) (CoK.none _ _ _ (Mem.le_refl _))
  have hm : mayA c.ab = true := by
    have : (!mayA c.ab) = false := h1
    simpa using this
  have hr := mayA_rows h hm
  rw [ackA, if_pos hm] at hC
  repeat (first | with_reducible (first | refine run_seq ?_ | refine run_region ?_ | refine runL_nil ?_ | refine run_skip ?_ | refine run_block ?_ | refine run_inBlock ?_) | refine run_exit rfl ?_ | refine runL_q (qt_pev tok rfl) rfl rfl rfl ?_ | refine runL_g rfl rfl (qt_pev tok rfl) rfl rfl rfl rfl rfl ?_ | refine runL_q (ql tok rfl) rfl rfl rfl ?_ | refine runL_g rfl rfl (ql tok rfl) rfl rfl rfl rfl rfl ?_ | (refine runL_op0 (sst tok rfl rfl rfl rfl rfl) ?_; rintro _ _ _ ⟨rfl, rfl, rfl⟩) | (refine runL_op (st_box rfl) rfl rfl rfl ?_; rintro _ _ _ ⟨_, rfl, rfl, rfl⟩) | (refine runL_op (st_alloc tok rfl) rfl rfl rfl ?_; rintro _ _ _ ⟨_, rfl, rfl, rfl⟩) | (refine runL_op (st_buildSlice tok rfl rfl rfl rfl rfl rfl rfl) rfl rfl rfl ?_; rintro _ _ _ ⟨_, rfl, rfl, rfl⟩) | refine runL_q (qt_callF rfl (fun _ => place_ok _ _ c.mem h.mem org)) rfl rfl rfl ?_)
  rw [show c.ab.mem = c.mem.xs from rfl] at hC
  cases hk : memR c.mem.xs org with
  | none =>
    rw [hk] at hC
    refine run_cond rfl (fun _ => ?_) (fun h => by cases h)
    repeat (first | with_reducible (first | refine run_seq ?_ | refine run_region ?_ | refine runL_nil ?_ | refine run_skip ?_ | refine run_block ?_ | refine run_inBlock ?_) | refine run_exit rfl ?_ | refine runL_q (qt_pev tok rfl) rfl rfl rfl ?_ | refine runL_g rfl rfl (qt_pev tok rfl) rfl rfl rfl rfl rfl ?_ | refine runL_q (ql tok rfl) rfl rfl rfl ?_ | refine runL_g rfl rfl (ql tok rfl) rfl rfl rfl rfl rfl ?_ | (refine runL_op0 (sst tok rfl rfl rfl rfl rfl) ?_; rintro _ _ _ ⟨rfl, rfl, rfl⟩) | (refine runL_op (st_box rfl) rfl rfl rfl ?_; rintro _ _ _ ⟨_, rfl, rfl, rfl⟩) | (refine runL_op (st_alloc tok rfl) rfl rfl rfl ?_; rintro _ _ _ ⟨_, rfl, rfl, rfl⟩) | (refine runL_op (st_buildSlice tok rfl rfl rfl rfl rfl rfl rfl) rfl rfl rfl ?_; rintro _ _ _ ⟨_, rfl, rfl, rfl⟩))
    exact run_ret hC (rs := [.cell 4 29, .tmp 5]) rfl (rl tok rfl (resT rfl resN)) (fun _ h => h.drop.drop.drop) (CoK.none _ _ _ (Mem.le_refl _))
  | some k =>
    rw [hk] at hC
    have hkl := memR_lt hk
    have hml := h.mem.len
    have hra := hr.acks
    have hka : k < c.acks.len := by omega
    obtain ⟨b, off, ac, hav, hac, hca⟩ := SBl.at' h.acks hka
    have hgd : (c.ab.acks[k]?).getD false = ac := by rw [show c.ab.acks = c.acks.xs from rfl, hac]; rfl
    simp only [hgd] at hC
    refine run_cond rfl (fun h => ?_) (fun _ => ?_)
    · exfalso
      have : ((k : Nat) : Int) < 0 := of_decide_eq_true h
      omega
    repeat (first | with_reducible (first | refine run_seq ?_ | refine run_region ?_ | refine runL_nil ?_ | refine run_skip ?_ | refine run_block ?_ | refine run_inBlock ?_) | refine run_exit rfl ?_ | refine runL_q (qt_pev tok rfl) rfl rfl rfl ?_ | refine runL_g rfl rfl (qt_pev tok rfl) rfl rfl rfl rfl rfl ?_ | refine runL_q (ql tok rfl) rfl rfl rfl ?_ | refine runL_g rfl rfl (ql tok rfl) rfl rfl rfl rfl rfl ?_ | (refine runL_op0 (sst tok rfl rfl rfl rfl rfl) ?_; rintro _ _ _ ⟨rfl, rfl, rfl⟩) | (refine runL_op (st_box rfl) rfl rfl rfl ?_; rintro _ _ _ ⟨_, rfl, rfl, rfl⟩) | (refine runL_op (st_alloc tok rfl) rfl rfl rfl ?_; rintro _ _ _ ⟨_, rfl, rfl, rfl⟩) | (refine runL_op (st_buildSlice tok rfl rfl rfl rfl rfl rfl rfl) rfl rfl rfl ?_; rintro _ _ _ ⟨_, rfl, rfl, rfl⟩))
    refine run_cond rfl (fun h2 => ?_) (fun h2 => ?_)
    · rw [if_pos (show (c.ab.state == 1) = true from h2)] at hC
      repeat (first | with_reducible (first | refine run_seq ?_ | refine run_region ?_ | refine runL_nil ?_ | refine run_skip ?_ | refine run_block ?_ | refine run_inBlock ?_) | refine run_exit rfl ?_ | refine runL_q (qt_pev tok rfl) rfl rfl rfl ?_ | refine runL_g rfl rfl (qt_pev tok rfl) rfl rfl rfl rfl rfl ?_ | refine runL_q (ql tok rfl) rfl rfl rfl ?_ | refine runL_g rfl rfl (ql tok rfl) rfl rfl rfl rfl rfl ?_ | (refine runL_op0 (sst tok rfl rfl rfl rfl rfl) ?_; rintro _ _ _ ⟨rfl, rfl, rfl⟩) | (refine runL_op (st_box rfl) rfl rfl rfl ?_; rintro _ _ _ ⟨_, rfl, rfl, rfl⟩) | (refine runL_op (st_alloc tok rfl) rfl rfl rfl ?_; rintro _ _ _ ⟨_, rfl, rfl, rfl⟩) | (refine runL_op (st_buildSlice tok rfl rfl rfl rfl rfl rfl rfl) rfl rfl rfl ?_; rintro _ _ _ ⟨_, rfl, rfl, rfl⟩))
      exact run_ret hC (rs := [.cell 4 29, .tmp 5]) rfl (rl tok rfl (resT rfl resN)) (fun _ h => h.drop.drop.drop) (CoK.none _ _ _ (Mem.le_refl _))
    rw [if_neg (by rw [show (c.ab.state == 1) = false from h2]; simp)] at hC
    repeat (first | with_reducible (first | refine run_seq ?_ | refine run_region ?_ | refine runL_nil ?_ | refine run_skip ?_ | refine run_block ?_ | refine run_inBlock ?_) | refine run_exit rfl ?_)
    iterate 2 (first | refine runL_q (qt_pev tok rfl) rfl rfl rfl ?_ | refine runL_gK rfl rfl (qt_pev tok rfl) rfl rfl rfl ?_ | refine runL_gF rfl rfl rfl rfl rfl ?_ | refine runL_g rfl rfl (qt_pev tok rfl) rfl rfl rfl rfl rfl ?_ | refine runL_q (ql tok rfl) rfl rfl rfl ?_ | refine runL_gK rfl rfl (ql tok rfl) rfl rfl rfl ?_ | refine runL_gF rfl rfl rfl rfl rfl ?_ | refine runL_g rfl rfl (ql tok rfl) rfl rfl rfl rfl rfl ?_ | (refine runL_op0 (sst tok rfl rfl rfl rfl rfl) ?_; rintro _ _ _ ⟨rfl, rfl, rfl⟩) | (refine runL_op (st_box rfl) rfl rfl rfl ?_; rintro _ _ _ ⟨_, rfl, rfl, rfl⟩) | (refine runL_op (st_alloc tok rfl) rfl rfl rfl ?_; rintro _ _ _ ⟨_, rfl, rfl, rfl⟩) | (refine runL_op (st_buildSlice tok rfl rfl rfl rfl rfl rfl rfl) rfl rfl rfl ?_; rintro _ _ _ ⟨_, rfl, rfl, rfl⟩))
    refine runL_as 27 (.slice (some ⟨b, off, none⟩) c.acks.len c.acks.cap) rfl hav ?_
    iterate 1 (first | refine runL_q (qt_pev tok rfl) rfl rfl rfl ?_ | refine runL_gK rfl rfl (qt_pev tok rfl) rfl rfl rfl ?_ | refine runL_gF rfl rfl rfl rfl rfl ?_ | refine runL_g rfl rfl (qt_pev tok rfl) rfl rfl rfl rfl rfl ?_ | refine runL_q (ql tok rfl) rfl rfl rfl ?_ | refine runL_gK rfl rfl (ql tok rfl) rfl rfl rfl ?_ | refine runL_gF rfl rfl rfl rfl rfl ?_ | refine runL_g rfl rfl (ql tok rfl) rfl rfl rfl rfl rfl ?_ | (refine runL_op0 (sst tok rfl rfl rfl rfl rfl) ?_; rintro _ _ _ ⟨rfl, rfl, rfl⟩) | (refine runL_op (st_box rfl) rfl rfl rfl ?_; rintro _ _ _ ⟨_, rfl, rfl, rfl⟩) | (refine runL_op (st_alloc tok rfl) rfl rfl rfl ?_; rintro _ _ _ ⟨_, rfl, rfl, rfl⟩) | (refine runL_op (st_buildSlice tok rfl rfl rfl rfl rfl rfl rfl) rfl rfl rfl ?_; rintro _ _ _ ⟨_, rfl, rfl, rfl⟩))
    refine runL_as 28 (.int .i64 (k : Int)) rfl rfl ?_
    repeat (first | with_reducible (first | refine run_seq ?_ | refine run_region ?_ | refine runL_nil ?_ | refine run_skip ?_ | refine run_block ?_ | refine run_inBlock ?_) | refine run_exit rfl ?_ | refine runL_q (qt_pev tok rfl) rfl rfl rfl ?_ | refine runL_g rfl rfl (qt_pev tok rfl) rfl rfl rfl rfl rfl ?_ | refine runL_q (ql tok rfl) rfl rfl rfl ?_ | refine runL_g rfl rfl (ql tok rfl) rfl rfl rfl rfl rfl ?_ | (refine runL_op0 (sst tok rfl rfl rfl rfl rfl) ?_; rintro _ _ _ ⟨rfl, rfl, rfl⟩) | (refine runL_op (st_box rfl) rfl rfl rfl ?_; rintro _ _ _ ⟨_, rfl, rfl, rfl⟩) | (refine runL_op (st_alloc tok rfl) rfl rfl rfl ?_; rintro _ _ _ ⟨_, rfl, rfl, rfl⟩) | (refine runL_op (st_buildSlice tok rfl rfl rfl rfl rfl rfl rfl) rfl rfl rfl ?_; rintro _ _ _ ⟨_, rfl, rfl, rfl⟩) | refine runL_q (qt_indexN tok rfl rfl rfl rfl (fun _ => by omega)) rfl rfl rfl ?_ | refine runL_g rfl rfl (qt_indexN tok rfl rfl rfl rfl (fun _ => by omega)) rfl rfl rfl rfl rfl ?_ | refine runL_q (qt_ldM tok rfl hca rfl) rfl rfl rfl ?_ | refine runL_g rfl rfl (qt_ldM tok rfl hca rfl) rfl rfl rfl rfl rfl ?_ | refine runL_q (qt_ldM0 tok rfl hca rfl) rfl rfl rfl ?_ | refine runL_g rfl rfl (qt_ldM0 tok rfl hca rfl) rfl rfl rfl rfl rfl ?_)
    refine run_cond rfl (fun h3 => ?_) (fun h3 => ?_)
    · rw [if_pos h3] at hC
      repeat (first | with_reducible (first | refine run_seq ?_ | refine run_region ?_ | refine runL_nil ?_ | refine run_skip ?_ | refine run_block ?_ | refine run_inBlock ?_) | refine run_exit rfl ?_ | refine runL_q (qt_pev tok rfl) rfl rfl rfl ?_ | refine runL_g rfl rfl (qt_pev tok rfl) rfl rfl rfl rfl rfl ?_ | refine runL_q (ql tok rfl) rfl rfl rfl ?_ | refine runL_g rfl rfl (ql tok rfl) rfl rfl rfl rfl rfl ?_ | (refine runL_op0 (sst tok rfl rfl rfl rfl rfl) ?_; rintro _ _ _ ⟨rfl, rfl, rfl⟩) | (refine runL_op (st_box rfl) rfl rfl rfl ?_; rintro _ _ _ ⟨_, rfl, rfl, rfl⟩) | (refine runL_op (st_alloc tok rfl) rfl rfl rfl ?_; rintro _ _ _ ⟨_, rfl, rfl, rfl⟩) | (refine runL_op (st_buildSlice tok rfl rfl rfl rfl rfl rfl rfl) rfl rfl rfl ?_; rintro _ _ _ ⟨_, rfl, rfl, rfl⟩))
      exact run_ret hC (rs := [.cell 4 29, .tmp 5]) rfl (rl tok rfl (resT rfl resN)) (fun _ h => h.drop.drop.drop) (CoK.none _ _ _ (Mem.le_refl _))
    rw [if_neg (by rw [h3]; simp)] at hC
    repeat (first | with_reducible (first | refine run_seq ?_ | refine run_region ?_ | refine runL_nil ?_ | refine run_skip ?_ | refine run_block ?_ | refine run_inBlock ?_) | refine run_exit rfl ?_ | refine runL_q (qt_pev tok rfl) rfl rfl rfl ?_ | refine runL_g rfl rfl (qt_pev tok rfl) rfl rfl rfl rfl rfl ?_ | refine runL_q (ql tok rfl) rfl rfl rfl ?_ | refine runL_g rfl rfl (ql tok rfl) rfl rfl rfl rfl rfl ?_ | (refine runL_op0 (sst tok rfl rfl rfl rfl rfl) ?_; rintro _ _ _ ⟨rfl, rfl, rfl⟩) | (refine runL_op (st_box rfl) rfl rfl rfl ?_; rintro _ _ _ ⟨_, rfl, rfl, rfl⟩) | (refine runL_op (st_alloc tok rfl) rfl rfl rfl ?_; rintro _ _ _ ⟨_, rfl, rfl, rfl⟩) | (refine runL_op (st_buildSlice tok rfl rfl rfl rfl rfl rfl rfl) rfl rfl rfl ?_; rintro _ _ _ ⟨_, rfl, rfl, rfl⟩))
    refine runL_op (st_callF rfl (fun _ => refOwn_ok _ _ c h)) rfl rfl rfl ?_
    rintro _ M1 _ ⟨hM1, c', Nv, Nt, Na, rfl, hab, rfl, hmk⟩
    obtain ⟨x1, x2, x3, x4, x5, x6⟩ := ab_len hab
    rw [← hab] at hC
    have hac' : c'.acks.xs[k]? = some ac := by rw [x5]; exact hac
    obtain ⟨b', cap', pre, post, hv, rfl, hpre, hset⟩ := OS.mid (ls := c'.acks.xs.map blC) hmk.acks (blC_all _) (by simpa using hmk.la.1) (k := k) (c := blC ac) (by rw [List.getElem?_map, hac']; rfl)
    have hal := hmk.la.1
    have hkl' : k < c'.acks.xs.length := (List.getElem?_eq_some_iff.1 hac').1
    simp only [List.cons_append, List.nil_append]
    repeat (first | with_reducible (first | refine run_seq ?_ | refine run_region ?_ | refine runL_nil ?_ | refine run_skip ?_ | refine run_block ?_ | refine run_inBlock ?_) | refine run_exit rfl ?_ | refine runL_q (qt_pev tok rfl) rfl rfl rfl ?_ | refine runL_g rfl rfl (qt_pev tok rfl) rfl rfl rfl rfl rfl ?_ | refine runL_q (ql tok rfl) rfl rfl rfl ?_ | refine runL_g rfl rfl (ql tok rfl) rfl rfl rfl rfl rfl ?_ | (refine runL_op0 (sst tok rfl rfl rfl rfl rfl) ?_; rintro _ _ _ ⟨rfl, rfl, rfl⟩) | (refine runL_op (st_box rfl) rfl rfl rfl ?_; rintro _ _ _ ⟨_, rfl, rfl, rfl⟩) | (refine runL_op (st_alloc tok rfl) rfl rfl rfl ?_; rintro _ _ _ ⟨_, rfl, rfl, rfl⟩) | (refine runL_op (st_buildSlice tok rfl rfl rfl rfl rfl rfl rfl) rfl rfl rfl ?_; rintro _ _ _ ⟨_, rfl, rfl, rfl⟩))
    refine runL_as 36 (.slice (some ⟨b', 0, none⟩) c'.acks.len cap') rfl hv ?_
    refine runL_as 37 (.int .i64 (k : Int)) rfl rfl ?_
    repeat (first | with_reducible (first | refine run_seq ?_ | refine run_region ?_ | refine runL_nil ?_ | refine run_skip ?_ | refine run_block ?_ | refine run_inBlock ?_) | refine run_exit rfl ?_ | refine runL_q (qt_pev tok rfl) rfl rfl rfl ?_ | refine runL_g rfl rfl (qt_pev tok rfl) rfl rfl rfl rfl rfl ?_ | refine runL_q (ql tok rfl) rfl rfl rfl ?_ | refine runL_g rfl rfl (ql tok rfl) rfl rfl rfl rfl rfl ?_ | (refine runL_op0 (sst tok rfl rfl rfl rfl rfl) ?_; rintro _ _ _ ⟨rfl, rfl, rfl⟩) | (refine runL_op (st_box rfl) rfl rfl rfl ?_; rintro _ _ _ ⟨_, rfl, rfl, rfl⟩) | (refine runL_op (st_alloc tok rfl) rfl rfl rfl ?_; rintro _ _ _ ⟨_, rfl, rfl, rfl⟩) | (refine runL_op (st_buildSlice tok rfl rfl rfl rfl rfl rfl rfl) rfl rfl rfl ?_; rintro _ _ _ ⟨_, rfl, rfl, rfl⟩) | refine runL_q (qt_indexAs (n := k) (o := pre.length) tok rfl rfl rfl rfl (fun _ => by omega) (by rw [hpre, Nat.zero_add])) rfl rfl rfl ?_ | (refine runL_op0 (st_store tok rfl rfl rfl rfl rfl (by (repeat (first | with_reducible apply Upd.here | with_reducible apply Upd.there | with_reducible apply Upd.append_left))) (setE_mid (j := 0) rfl)) ?_; rintro _ _ _ ⟨rfl, rfl, rfl⟩))
    have hset1 := hset (blC true) rfl
    refine run_retE hC (rs := [.cell 4 29, .tmp 5]) rfl (rl tok rfl (resT rfl resN)) fun w hw => ?_
    have hmk2 : Mk M1 { c' with acks := { c'.acks with xs := c'.acks.xs.set k true } } Nv Nt [(b', .cells ⟨pre ++ (blC true ++ post)⟩ 4 (0, 0))] :=
      ⟨hmk.mem, hmk.bodies, hmk.votes, hmk.tags, by rw [List.map_set]; exact hset1, hmk.lv, hmk.lt, ⟨by simpa using hmk.la.1, hmk.la.2⟩, hmk.dig, hmk.bod, hmk.tag⟩
    obtain ⟨M2, h5, h6, h7⟩ := hmk2.frz hw.drop
    exact ⟨M2, L, h6.drop.drop.drop, Mem.le_trans hM1 h5, rfl, { c' with acks := { c'.acks with xs := c'.acks.xs.set k true } }, rfl, by rw [← x1]; rfl, h7⟩
end Go.Proofs.Ytpmepmdngdkafaa
