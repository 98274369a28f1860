import Derived.Test.YtnpnchmogpfjbaaN14
import Derived.Test.YtnpnchmogpfjbaaLgP
namespace Go.Proofs.Ytnpnchmogpfjbaa
open Go.Chi

/-! ### the plain law -/
theorem idx_count (org : Int) (ps : List Po) : ∀ n, n ≤ ps.length → (upto (toQ org) ps n).length = (ps.take n).countP (fun p => p.to == org)
  | 0, _ => by simp [upto]
  | n + 1, h => by
    have ih := idx_count org ps n (by omega)
    have hx : ps[n]? = some ps[n] := List.getElem?_eq_getElem (by omega)
    rw [upto_succ, take_snoc hx, List.countP_append, List.length_append, ih]
    have hk : isK (toQ org) ps n = (ps[n].to == org) := by rw [isK, hx]; rfl
    rw [hk, List.countP_cons, List.countP_nil]
    cases h : (ps[n].to == org) <;> simp
def cntTo (ps : List Po) (j : Nat) : Nat := ps.countP (fun p => decide (0 ≤ p.to) && decide (p.to < (j : Int)))
theorem cntTo_zero (ps : List Po) : cntTo ps 0 = 0 := by
  rw [cntTo, List.countP_eq_zero]
  intro p _
  simp
theorem cntTo_succ (j : Nat) : ∀ ps : List Po, cntTo ps (j + 1) = cntTo ps j + ps.countP (fun p => p.to == (j : Int))
  | [] => rfl
  | p :: ps => by
    have ih := cntTo_succ j ps
    unfold cntTo at ih ⊢
    simp only [List.countP_cons]
    rw [ih]
    by_cases h0 : 0 ≤ p.to
    · by_cases h1 : p.to < (j : Int)
      · have h2 : p.to < ((j + 1 : Nat) : Int) := by omega
        have h3 : ¬ p.to = (j : Int) := by omega
        simp [h0, h1, h3]
        have : p.to < (j : Int) + 1 := by omega
        simp [this]; omega
      · by_cases h3 : p.to = (j : Int)
        · have e1 : (0 : Int) ≤ (j : Int) := by omega
          have e2 : (j : Int) < (j : Int) + 1 := by omega
          simp [h3, e1, e2, Nat.add_assoc]
        · have : ¬ p.to < (j : Int) + 1 := by omega
          simp [h1, h3, this]
    · have h3 : ¬ p.to = (j : Int) := by omega
      simp [h0, h3]
theorem cntTo_all {ps : List Po} (h : ∀ p ∈ ps, mayP p = true) : cntTo ps 8 = ps.length := by
  rw [cntTo, List.countP_eq_length]
  intro p hp
  have := h p hp
  simp only [mayP, Bool.and_eq_true, orgP] at this
  simpa using this.1.1.2
theorem cntTo_le (ps : List Po) (j : Nat) : cntTo ps j ≤ ps.length := List.countP_le_length
theorem times_at {ps : List Po} {i : Nat} {p : Po} (h : ps[i]? = some p) : timesR ps (i : Int) = (((ps.take (i + 1)).count p : Nat) : Int) := by
  have hlt := (List.getElem?_eq_some_iff.1 h).1
  rw [timesR, if_pos ⟨by omega, by omega⟩, Int.toNat_natCast, timesL_at h]
  rfl
theorem times_up {ps : List Po} {i k : Nat} {p : Po} (hi : ps[i]? = some p) (hk : ps[k]? = some p) (h : k < i) : timesR ps (k : Int) < timesR ps (i : Int) := by
  rw [times_at hi, times_at hk, take_snoc hi, List.count_append]
  have h1 : (ps.take (k + 1)).count p ≤ (ps.take i).count p := by
    have : (ps.take (k + 1)).Sublist (ps.take i) := by
      have : ps.take (k + 1) = (ps.take i).take (k + 1) := by rw [List.take_take, Nat.min_eq_left (by omega)]
      rw [this]
      exact List.take_sublist _ _
    exact this.count_le _
  simp
  omega
theorem times_pos {ps : List Po} {i : Nat} {p : Po} (hi : ps[i]? = some p) : 1 ≤ timesR ps (i : Int) := by
  rw [times_at hi, take_snoc hi, List.count_append]
  simp
  omega
theorem get_at {ps : List Po} {k : Nat} {p : Po} (h : ps[k]? = some p) : getR ps (k : Int) = (p, true) := by
  have hlt := (List.getElem?_eq_some_iff.1 h).1
  rw [getR, if_pos ⟨by omega, by omega⟩, Int.toNat_natCast, h]
  rfl
theorem idx_at {q : Nat → Po → Bool} {ps : List Po} {j k : Nat} (h : (idx q ps)[j]? = some k) : ∃ p, ps[k]? = some p ∧ q k p = true := by
  have := List.mem_of_getElem? h
  simp only [idx, upto, List.mem_filter, List.mem_range] at this
  obtain ⟨h1, h2⟩ := this
  have hx : ps[k]? = some ps[k] := List.getElem?_eq_getElem h1
  rw [isK, hx] at h2
  exact ⟨_, hx, h2⟩

/-! ### what is too much -/
def heavyB (xs : List Po) : Bool := decide (120 < xs.length) || xs.any fun p => decide (2048 < p.env.size)
theorem any_snoc {α : Type} (f : α → Bool) {l : List α} {j : Nat} {x : α} (hx : l[j]? = some x) (hp : (l.take j).any f = false) : (l.take (j + 1)).any f = f x := by
  rw [take_snoc hx, List.any_append, hp]; simp
theorem any_true {α : Type} (f : α → Bool) {l : List α} {j : Nat} {x : α} (hx : l[j]? = some x) (h : f x = true) : l.any f = true :=
  List.any_eq_true.2 ⟨x, List.mem_of_getElem? hx, h⟩
set_option maxHeartbeats 4000000 in
theorem heavy_ok (M : Mem) (L : HL) (a : Option Addr) (c : Nat) (xs : List Po) (hs : SlM M 3 a xs.length (xs.map poC)) : TrQ Try.prog 12 [.slice a xs.length c] M L (.bool (heavyB xs)) := by
  refine Tr.intro 20 Try.func12 rfl rfl Try.call12 rfl ?_
  intro C hC hro
  repeat (first | with_reducible refine run_seq ?_ | with_reducible refine run_region ?_ | with_reducible refine runL_nil ?_ | with_reducible refine run_skip ?_ | with_reducible refine run_block ?_ | with_reducible refine run_inBlock ?_ | refine run_exit rfl ?_ | refine runL_q (qt_pev tok rfl) rfl rfl rfl ?_ | refine runL_g rfl rfl (qt_pev tok rfl) rfl rfl rfl rfl rfl ?_ | refine runL_q (qt_ld tok rfl (by (repeat (first | with_reducible apply List.mem_cons_self | with_reducible assumption | with_reducible apply List.mem_cons_of_mem | with_reducible apply List.mem_append_right))) (by rfl)) rfl rfl rfl ?_ | refine runL_g rfl rfl (qt_ld tok rfl (by (repeat (first | with_reducible apply List.mem_cons_self | with_reducible assumption | with_reducible apply List.mem_cons_of_mem | with_reducible apply List.mem_append_right))) (by rfl)) rfl rfl rfl rfl rfl ?_ | (refine runL_op0 (st_store tok rfl rfl rfl rfl rfl (by (repeat (first | with_reducible apply Upd.here | with_reducible apply Upd.there | with_reducible apply Upd.append_left))) (by rfl)) ?_; rintro _ _ _ ⟨rfl, rfl, rfl⟩) | (refine runL_op (st_box rfl) rfl rfl rfl ?_; rintro _ _ _ ⟨_, rfl, rfl, rfl⟩) | (refine runL_op (st_alloc tok rfl) rfl rfl rfl ?_; rintro _ _ _ ⟨_, rfl, rfl, rfl⟩) | (refine runL_op (st_buildSlice tok rfl rfl rfl rfl rfl rfl rfl) rfl rfl rfl ?_; rintro _ _ _ ⟨_, rfl, rfl, rfl⟩))
  refine run_cond rfl (fun h => ?_) (fun h => ?_)
  · repeat (first | with_reducible refine run_seq ?_ | with_reducible refine run_region ?_ | with_reducible refine runL_nil ?_ | with_reducible refine run_skip ?_ | with_reducible refine run_block ?_ | with_reducible refine run_inBlock ?_ | refine run_exit rfl ?_ | refine runL_q (qt_pev tok rfl) rfl rfl rfl ?_ | refine runL_g rfl rfl (qt_pev tok rfl) rfl rfl rfl rfl rfl ?_ | refine runL_q (qt_ld tok rfl (by (repeat (first | with_reducible apply List.mem_cons_self | with_reducible assumption | with_reducible apply List.mem_cons_of_mem | with_reducible apply List.mem_append_right))) (by rfl)) rfl rfl rfl ?_ | refine runL_g rfl rfl (qt_ld tok rfl (by (repeat (first | with_reducible apply List.mem_cons_self | with_reducible assumption | with_reducible apply List.mem_cons_of_mem | with_reducible apply List.mem_append_right))) (by rfl)) rfl rfl rfl rfl rfl ?_ | (refine runL_op0 (st_store tok rfl rfl rfl rfl rfl (by (repeat (first | with_reducible apply Upd.here | with_reducible apply Upd.there | with_reducible apply Upd.append_left))) (by rfl)) ?_; rintro _ _ _ ⟨rfl, rfl, rfl⟩) | (refine runL_op (st_box rfl) rfl rfl rfl ?_; rintro _ _ _ ⟨_, rfl, rfl, rfl⟩) | (refine runL_op (st_alloc tok rfl) rfl rfl rfl ?_; rintro _ _ _ ⟨_, rfl, rfl, rfl⟩) | (refine runL_op (st_buildSlice tok rfl rfl rfl rfl rfl rfl rfl) rfl rfl rfl ?_; rintro _ _ _ ⟨_, rfl, rfl, rfl⟩))
    refine run_ret hC (rs := [.tmp 2]) rfl (resT rfl resN) (fun _ h => h) ⟨?_, rfl, rfl⟩
    have : 120 < xs.length := by simp at h; omega
    rw [heavyB, decide_eq_true this]; rfl
  have hl : xs.length ≤ 120 := by simp at h; omega
  repeat (first | with_reducible refine run_seq ?_ | with_reducible refine run_region ?_ | with_reducible refine runL_nil ?_ | with_reducible refine run_skip ?_ | with_reducible refine run_block ?_ | with_reducible refine run_inBlock ?_ | refine run_exit rfl ?_ | refine runL_q (qt_pev tok rfl) rfl rfl rfl ?_ | refine runL_g rfl rfl (qt_pev tok rfl) rfl rfl rfl rfl rfl ?_ | refine runL_q (qt_ld tok rfl (by (repeat (first | with_reducible apply List.mem_cons_self | with_reducible assumption | with_reducible apply List.mem_cons_of_mem | with_reducible apply List.mem_append_right))) (by rfl)) rfl rfl rfl ?_ | refine runL_g rfl rfl (qt_ld tok rfl (by (repeat (first | with_reducible apply List.mem_cons_self | with_reducible assumption | with_reducible apply List.mem_cons_of_mem | with_reducible apply List.mem_append_right))) (by rfl)) rfl rfl rfl rfl rfl ?_ | (refine runL_op0 (st_store tok rfl rfl rfl rfl rfl (by (repeat (first | with_reducible apply Upd.here | with_reducible apply Upd.there | with_reducible apply Upd.append_left))) (by rfl)) ?_; rintro _ _ _ ⟨rfl, rfl, rfl⟩) | (refine runL_op (st_box rfl) rfl rfl rfl ?_; rintro _ _ _ ⟨_, rfl, rfl, rfl⟩) | (refine runL_op (st_alloc tok rfl) rfl rfl rfl ?_; rintro _ _ _ ⟨_, rfl, rfl, rfl⟩) | (refine runL_op (st_buildSlice tok rfl rfl rfl rfl rfl rfl rfl) rfl rfl rfl ?_; rintro _ _ _ ⟨_, rfl, rfl, rfl⟩))
  refine run_loopN (fun j σ1 M1 L1 => j ≤ xs.length ∧ M = M1 ∧ L = L1 ∧ ((xs.take j).any fun p => decide (2048 < p.env.size)) = false ∧ σ1 = [(3, .int .i64 (j : Int)), (0, .slice a xs.length c)]) xs.length [(3, .int .i64 ((0 : Nat) : Int)), (0, .slice a xs.length c)] ?_ ⟨Nat.zero_le _, rfl, rfl, by simp, rfl⟩ (fun j _ _ _ h => h.1) ?_
  · exact ⟨rfl, rfl, trivial⟩
  rintro j _ _ _ ⟨hj, rfl, rfl, hpre, rfl⟩ hnext
  repeat (first | with_reducible refine run_seq ?_ | with_reducible refine run_region ?_ | with_reducible refine runL_nil ?_ | with_reducible refine run_skip ?_ | with_reducible refine run_block ?_ | with_reducible refine run_inBlock ?_ | refine run_exit rfl ?_ | refine runL_q (qt_pev tok rfl) rfl rfl rfl ?_ | refine runL_g rfl rfl (qt_pev tok rfl) rfl rfl rfl rfl rfl ?_ | refine runL_q (qt_ld tok rfl (by (repeat (first | with_reducible apply List.mem_cons_self | with_reducible assumption | with_reducible apply List.mem_cons_of_mem | with_reducible apply List.mem_append_right))) (by rfl)) rfl rfl rfl ?_ | refine runL_g rfl rfl (qt_ld tok rfl (by (repeat (first | with_reducible apply List.mem_cons_self | with_reducible assumption | with_reducible apply List.mem_cons_of_mem | with_reducible apply List.mem_append_right))) (by rfl)) rfl rfl rfl rfl rfl ?_ | (refine runL_op0 (st_store tok rfl rfl rfl rfl rfl (by (repeat (first | with_reducible apply Upd.here | with_reducible apply Upd.there | with_reducible apply Upd.append_left))) (by rfl)) ?_; rintro _ _ _ ⟨rfl, rfl, rfl⟩) | (refine runL_op (st_box rfl) rfl rfl rfl ?_; rintro _ _ _ ⟨_, rfl, rfl, rfl⟩) | (refine runL_op (st_alloc tok rfl) rfl rfl rfl ?_; rintro _ _ _ ⟨_, rfl, rfl, rfl⟩) | (refine runL_op (st_buildSlice tok rfl rfl rfl rfl rfl rfl rfl) rfl rfl rfl ?_; rintro _ _ _ ⟨_, rfl, rfl, rfl⟩))
  refine run_cond rfl (fun h => ?_) (fun h => ?_)
  · have hlt : j < xs.length := by simpa using h
    obtain ⟨b, off, cc, rfl, hcc, _, hc⟩ := hs.at_ hlt
    obtain ⟨y, hy, rfl⟩ : ∃ y, xs[j]? = some y ∧ poC y = cc := by simpa using hcc
    repeat (first | with_reducible refine run_seq ?_ | with_reducible refine run_region ?_ | with_reducible refine runL_nil ?_ | with_reducible refine run_skip ?_ | with_reducible refine run_block ?_ | with_reducible refine run_inBlock ?_ | refine run_exit rfl ?_ | refine runL_q (qt_pev tok rfl) rfl rfl rfl ?_ | refine runL_g rfl rfl (qt_pev tok rfl) rfl rfl rfl rfl rfl ?_ | refine runL_q (qt_ld tok rfl (by (repeat (first | with_reducible apply List.mem_cons_self | with_reducible assumption | with_reducible apply List.mem_cons_of_mem | with_reducible apply List.mem_append_right))) (by rfl)) rfl rfl rfl ?_ | refine runL_g rfl rfl (qt_ld tok rfl (by (repeat (first | with_reducible apply List.mem_cons_self | with_reducible assumption | with_reducible apply List.mem_cons_of_mem | with_reducible apply List.mem_append_right))) (by rfl)) rfl rfl rfl rfl rfl ?_ | (refine runL_op0 (st_store tok rfl rfl rfl rfl rfl (by (repeat (first | with_reducible apply Upd.here | with_reducible apply Upd.there | with_reducible apply Upd.append_left))) (by rfl)) ?_; rintro _ _ _ ⟨rfl, rfl, rfl⟩) | (refine runL_op (st_box rfl) rfl rfl rfl ?_; rintro _ _ _ ⟨_, rfl, rfl, rfl⟩) | (refine runL_op (st_alloc tok rfl) rfl rfl rfl ?_; rintro _ _ _ ⟨_, rfl, rfl, rfl⟩) | (refine runL_op (st_buildSlice tok rfl rfl rfl rfl rfl rfl rfl) rfl rfl rfl ?_; rintro _ _ _ ⟨_, rfl, rfl, rfl⟩) | refine runL_q (qt_indexN tok rfl rfl rfl rfl (fun _ => by omega)) rfl rfl rfl ?_ | refine runL_g rfl rfl (qt_indexN tok rfl rfl rfl rfl (fun _ => by omega)) rfl rfl rfl rfl rfl ?_ | refine runL_q (qt_ldM tok rfl hc rfl) rfl rfl rfl ?_ | refine runL_g rfl rfl (qt_ldM tok rfl hc rfl) rfl rfl rfl rfl rfl ?_ | refine runL_q (qt_ldM0 tok rfl hc rfl) rfl rfl rfl ?_ | refine runL_g rfl rfl (qt_ldM0 tok rfl hc rfl) rfl rfl rfl rfl rfl ?_)
    refine run_cond rfl (fun h => ?_) (fun h => ?_)
    · repeat (first | with_reducible refine run_seq ?_ | with_reducible refine run_region ?_ | with_reducible refine runL_nil ?_ | with_reducible refine run_skip ?_ | with_reducible refine run_block ?_ | with_reducible refine run_inBlock ?_ | refine run_exit rfl ?_ | refine runL_q (qt_pev tok rfl) rfl rfl rfl ?_ | refine runL_g rfl rfl (qt_pev tok rfl) rfl rfl rfl rfl rfl ?_ | refine runL_q (qt_ld tok rfl (by (repeat (first | with_reducible apply List.mem_cons_self | with_reducible assumption | with_reducible apply List.mem_cons_of_mem | with_reducible apply List.mem_append_right))) (by rfl)) rfl rfl rfl ?_ | refine runL_g rfl rfl (qt_ld tok rfl (by (repeat (first | with_reducible apply List.mem_cons_self | with_reducible assumption | with_reducible apply List.mem_cons_of_mem | with_reducible apply List.mem_append_right))) (by rfl)) rfl rfl rfl rfl rfl ?_ | (refine runL_op0 (st_store tok rfl rfl rfl rfl rfl (by (repeat (first | with_reducible apply Upd.here | with_reducible apply Upd.there | with_reducible apply Upd.append_left))) (by rfl)) ?_; rintro _ _ _ ⟨rfl, rfl, rfl⟩) | (refine runL_op (st_box rfl) rfl rfl rfl ?_; rintro _ _ _ ⟨_, rfl, rfl, rfl⟩) | (refine runL_op (st_alloc tok rfl) rfl rfl rfl ?_; rintro _ _ _ ⟨_, rfl, rfl, rfl⟩) | (refine runL_op (st_buildSlice tok rfl rfl rfl rfl rfl rfl rfl) rfl rfl rfl ?_; rintro _ _ _ ⟨_, rfl, rfl, rfl⟩))
      refine run_ret hC (rs := [.tmp 2]) rfl (resT rfl resN) (fun _ h => h) ⟨?_, rfl, rfl⟩
      have := any_true (fun p : Po => decide (2048 < p.env.size)) hy (by simp at h ⊢; omega)
      rw [heavyB, this, Bool.or_true]; rfl
    · repeat (first | with_reducible refine run_seq ?_ | with_reducible refine run_region ?_ | with_reducible refine runL_nil ?_ | with_reducible refine run_skip ?_ | with_reducible refine run_block ?_ | with_reducible refine run_inBlock ?_ | refine run_exit rfl ?_ | refine runL_q (qt_pev tok rfl) rfl rfl rfl ?_ | refine runL_g rfl rfl (qt_pev tok rfl) rfl rfl rfl rfl rfl ?_ | refine runL_q (qt_ld tok rfl (by (repeat (first | with_reducible apply List.mem_cons_self | with_reducible assumption | with_reducible apply List.mem_cons_of_mem | with_reducible apply List.mem_append_right))) (by rfl)) rfl rfl rfl ?_ | refine runL_g rfl rfl (qt_ld tok rfl (by (repeat (first | with_reducible apply List.mem_cons_self | with_reducible assumption | with_reducible apply List.mem_cons_of_mem | with_reducible apply List.mem_append_right))) (by rfl)) rfl rfl rfl rfl rfl ?_ | (refine runL_op0 (st_store tok rfl rfl rfl rfl rfl (by (repeat (first | with_reducible apply Upd.here | with_reducible apply Upd.there | with_reducible apply Upd.append_left))) (by rfl)) ?_; rintro _ _ _ ⟨rfl, rfl, rfl⟩) | (refine runL_op (st_box rfl) rfl rfl rfl ?_; rintro _ _ _ ⟨_, rfl, rfl, rfl⟩) | (refine runL_op (st_alloc tok rfl) rfl rfl rfl ?_; rintro _ _ _ ⟨_, rfl, rfl, rfl⟩) | (refine runL_op (st_buildSlice tok rfl rfl rfl rfl rfl rfl rfl) rfl rfl rfl ?_; rintro _ _ _ ⟨_, rfl, rfl, rfl⟩))
      exact run_sub' (hnext _ _ _ ⟨hlt, rfl, rfl, by rw [any_snoc _ hy hpre]; simp at h ⊢; omega, rfl⟩) ⟨lk_succ rfl (by omega), rfl, trivial⟩
  · have hge : j = xs.length := by simp at h; omega
    rw [hge, List.take_of_length_le (Nat.le_refl _)] at hpre
    repeat (first | with_reducible refine run_seq ?_ | with_reducible refine run_region ?_ | with_reducible refine runL_nil ?_ | with_reducible refine run_skip ?_ | with_reducible refine run_block ?_ | with_reducible refine run_inBlock ?_ | refine run_exit rfl ?_ | refine runL_q (qt_pev tok rfl) rfl rfl rfl ?_ | refine runL_g rfl rfl (qt_pev tok rfl) rfl rfl rfl rfl rfl ?_ | refine runL_q (qt_ld tok rfl (by (repeat (first | with_reducible apply List.mem_cons_self | with_reducible assumption | with_reducible apply List.mem_cons_of_mem | with_reducible apply List.mem_append_right))) (by rfl)) rfl rfl rfl ?_ | refine runL_g rfl rfl (qt_ld tok rfl (by (repeat (first | with_reducible apply List.mem_cons_self | with_reducible assumption | with_reducible apply List.mem_cons_of_mem | with_reducible apply List.mem_append_right))) (by rfl)) rfl rfl rfl rfl rfl ?_ | (refine runL_op0 (st_store tok rfl rfl rfl rfl rfl (by (repeat (first | with_reducible apply Upd.here | with_reducible apply Upd.there | with_reducible apply Upd.append_left))) (by rfl)) ?_; rintro _ _ _ ⟨rfl, rfl, rfl⟩) | (refine runL_op (st_box rfl) rfl rfl rfl ?_; rintro _ _ _ ⟨_, rfl, rfl, rfl⟩) | (refine runL_op (st_alloc tok rfl) rfl rfl rfl ?_; rintro _ _ _ ⟨_, rfl, rfl, rfl⟩) | (refine runL_op (st_buildSlice tok rfl rfl rfl rfl rfl rfl rfl) rfl rfl rfl ?_; rintro _ _ _ ⟨_, rfl, rfl, rfl⟩))
    refine run_ret hC (rs := [.tmp 2]) rfl (resT rfl resN) (fun _ h => h) ⟨?_, rfl, rfl⟩
    rw [heavyB, hpre, decide_eq_false (by omega)]; rfl
theorem heavy_env {xs : List Po} (h : heavyB xs = false) : xs.length ≤ 120 ∧ ∀ p ∈ xs, p.env.size ≤ 2048 := by
  simp only [heavyB, Bool.or_eq_false_iff, decide_eq_false_iff_not, List.any_eq_false, decide_eq_true_eq] at h
  exact ⟨by omega, fun p hp => by have := h.2 p hp; omega⟩
theorem putT (M : Mem) (L L0 : HL) (nb : Nat) (ps : List Po) (p : Po) (h : NetL nb ps L0 L) (hps : ps.length < 4096) (hsz : p.env.size ≤ 2048) (hm : mayP p = true) :
    Tr Try.prog 8 [ptr nb, encP p] M L (fun v M' L' => M = M' ∧ v = .tuple ⟨[.int .i64 (ps.length : Int), .int .i64 0]⟩ ∧ NetL nb (ps ++ [p]) L0 L') := by
  have := put_ok M L L0 nb ps p h (by omega) (by omega)
  rwa [show putR ps p = ((ps.length : Int), 0) by rw [putR, if_neg (by simp [hm]), if_neg (by omega)], show putN ps p = ps ++ [p] by rw [putN, if_pos ⟨hm, by omega⟩]] at this
theorem putF (M : Mem) (L L0 : HL) (nb : Nat) (ps : List Po) (p : Po) (h : NetL nb ps L0 L) (hps : ps.length < 4096) (hsz : p.env.size ≤ 2048) (hm : mayP p = false) :
    Tr Try.prog 8 [ptr nb, encP p] M L (fun v M' L' => M = M' ∧ v = .tuple ⟨[.int .i64 0, .int .i64 2]⟩ ∧ NetL nb ps L0 L') := by
  have := put_ok M L L0 nb ps p h (by omega) (by omega)
  rwa [show putR ps p = (0, 2) by rw [putR, if_pos hm], show putN ps p = ps by rw [putN, if_neg (by simp [hm])]] at this
end Go.Proofs.Ytnpnchmogpfjbaa
