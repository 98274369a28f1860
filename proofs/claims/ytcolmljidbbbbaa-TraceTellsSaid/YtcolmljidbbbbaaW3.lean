import Derived.Test.YtcolmljidbbbbaaW2
namespace Go.Proofs.Ytcolmljidbbbbaa
open Go.Chi

/-! ### the trace of a history -/
def trc (h : Int → Bool) : List Ev → Nat → List (Nat × Ac)
  | [], _ => []
  | x :: l, i => match oneOf h x with
    | some a => (i, a) :: trc h l (i + 1)
    | none => trc h l (i + 1)
theorem trc_append (h : Int → Bool) : ∀ (l r : List Ev) (i : Nat), trc h (l ++ r) i = trc h l i ++ trc h r (i + l.length)
  | [], r, i => by simp [trc]
  | x :: l, r, i => by
    have e : i + (x :: l).length = i + 1 + l.length := by simp; omega
    simp only [List.cons_append, trc, e]
    cases oneOf h x <;> simp [trc_append h l r (i + 1)]
def trcV (p : Nat × Ac) : List Value := [.int .i64 (p.1 : Int), .agg ⟨acC p.2⟩]

/-- what is asked of a history: it lies in memory, and its lists are no longer than so -/
def EvsOk (M : Mem) (l : SEv) : Prop := SlM M 22 l.a l.len (l.xs.map evC) ∧ l.len < 1000000 ∧ ∀ x ∈ l.xs, x.rcpt.mem.Ok M ∧ x.rcpt.mem.len < 1000000
theorem EvsOk.le {M M' : Mem} {l : SEv} (hm : M.le M') (h : EvsOk M l) : EvsOk M' l := ⟨h.1.le hm, h.2.1, fun x hx => ⟨(h.2.2 x hx).1.le hm, (h.2.2 x hx).2⟩⟩
theorem EvsOk.at_ {M : Mem} {l : SEv} (h : EvsOk M l) {j : Nat} (hj : j < l.len) : ∃ b off x, l.a = some ⟨b, off, none⟩ ∧ l.xs[j]? = some x ∧ Cells M [] b (off + j * 22) (evC x) ∧ x.rcpt.mem.Ok M ∧ x.rcpt.mem.len < 1000000 := by
  obtain ⟨b, off, c, ha, hc, _, hcells⟩ := h.1.at_ hj
  obtain ⟨x, hx, rfl⟩ : ∃ m, l.xs[j]? = some m ∧ evC m = c := by simpa using hc
  exact ⟨b, off, x, ha, hx, hcells, h.2.2 x (List.mem_of_getElem? hx)⟩

theorem one_at (M : Mem) (L : HL) (bad : Int) (x : Ev) (hx : x.rcpt.mem.Ok M) (hlen : x.rcpt.mem.len < 1000000) {r : Option Ac} (hr : oneOf (hon bad) x = r) : TrQ Try.prog 8 [.int .u8 bad, .agg ⟨evC x⟩] M L (acV r) := hr ▸ one_ok M L bad x hx hlen

set_option maxHeartbeats 4000000 in
theorem each1_ok (M : Mem) (bad : Int) (l : SEv) (hl : EvsOk M l) (b1 b2 : Nat) (hb1 : Cells M [] b1 0 [l.v]) (hb2 : Cells M [] b2 0 [.int .u8 bad]) :
    IterOk Try.prog 36 [.pointer (some ⟨b1, 0, none⟩), .pointer (some ⟨b2, 0, none⟩)] M ((trc (hon bad) l.xs 0).map trcV) := by
  intro lp I X M0 L0 hle hyield hI
  have hlen : l.xs.length = l.len := by have := hl.1.1; simpa using this
  have hlt' := hl.2.1
  refine Tr.intro 30 Try.func36 rfl rfl Try.call36 rfl ?_
  intro C hC hro
  repeat (first | with_reducible refine run_seq ?_ | with_reducible refine run_region ?_ | with_reducible refine runL_nil ?_ | with_reducible refine run_skip ?_ | with_reducible refine run_block ?_ | with_reducible refine run_inBlock ?_ | refine run_exit rfl ?_ | refine runL_q (qt_pev tok rfl) rfl rfl rfl ?_ | refine runL_g rfl rfl (qt_pev tok rfl) rfl rfl rfl rfl rfl ?_ | refine runL_q (qt_ld tok rfl (by (repeat (first | with_reducible apply List.mem_cons_self | with_reducible assumption | with_reducible apply List.mem_cons_of_mem | with_reducible apply List.mem_append_right))) (by rfl)) rfl rfl rfl ?_ | refine runL_g rfl rfl (qt_ld tok rfl (by (repeat (first | with_reducible apply List.mem_cons_self | with_reducible assumption | with_reducible apply List.mem_cons_of_mem | with_reducible apply List.mem_append_right))) (by rfl)) rfl rfl rfl rfl rfl ?_ | (refine runL_op0 (st_store tok rfl rfl rfl rfl rfl (by (repeat (first | with_reducible apply Upd.here | with_reducible apply Upd.there | with_reducible apply Upd.append_left))) (by rfl)) ?_; rintro _ _ _ ⟨rfl, rfl, rfl⟩) | (refine runL_op (st_box rfl) rfl rfl rfl ?_; rintro _ _ _ ⟨_, rfl, rfl, rfl⟩) | (refine runL_op (st_alloc tok rfl) rfl rfl rfl ?_; rintro _ _ _ ⟨_, rfl, rfl, rfl⟩) | (refine runL_op (st_buildSlice tok rfl rfl rfl rfl rfl rfl rfl) rfl rfl rfl ?_; rintro _ _ _ ⟨_, rfl, rfl, rfl⟩) | refine runL_q (qt_ldM0 tok rfl (hb1.le hle) rfl) rfl rfl rfl ?_)
  refine run_loopN (fun j σ1 M1 L1 => j ≤ l.len ∧ σ1 = [(10, .int .i64 (j : Int)), (9, .int .i64 (l.len : Int)), (8, l.v), (0, yv lp), (2, .pointer (some ⟨b2, 0, none⟩))] ∧ M0.le M1 ∧ I (trc (hon bad) (l.xs.take j) 0).length M1 L1) l.len _ ?_ ⟨Nat.zero_le _, rfl, Mem.le_refl _, hI⟩ (fun j _ _ _ h => h.1) ?_
  · exact ⟨rfl, rfl, rfl, rfl, rfl, trivial⟩
  rintro j _ M1 L1 ⟨hj, rfl, hM1, hI1⟩ hnext
  repeat (first | with_reducible refine run_seq ?_ | with_reducible refine run_region ?_ | with_reducible refine runL_nil ?_ | with_reducible refine run_skip ?_ | with_reducible refine run_block ?_ | with_reducible refine run_inBlock ?_ | refine run_exit rfl ?_ | refine runL_q (qt_pev tok rfl) rfl rfl rfl ?_ | refine runL_g rfl rfl (qt_pev tok rfl) rfl rfl rfl rfl rfl ?_ | refine runL_q (qt_ld tok rfl (by (repeat (first | with_reducible apply List.mem_cons_self | with_reducible assumption | with_reducible apply List.mem_cons_of_mem | with_reducible apply List.mem_append_right))) (by rfl)) rfl rfl rfl ?_ | refine runL_g rfl rfl (qt_ld tok rfl (by (repeat (first | with_reducible apply List.mem_cons_self | with_reducible assumption | with_reducible apply List.mem_cons_of_mem | with_reducible apply List.mem_append_right))) (by rfl)) rfl rfl rfl rfl rfl ?_ | (refine runL_op0 (st_store tok rfl rfl rfl rfl rfl (by (repeat (first | with_reducible apply Upd.here | with_reducible apply Upd.there | with_reducible apply Upd.append_left))) (by rfl)) ?_; rintro _ _ _ ⟨rfl, rfl, rfl⟩) | (refine runL_op (st_box rfl) rfl rfl rfl ?_; rintro _ _ _ ⟨_, rfl, rfl, rfl⟩) | (refine runL_op (st_alloc tok rfl) rfl rfl rfl ?_; rintro _ _ _ ⟨_, rfl, rfl, rfl⟩) | (refine runL_op (st_buildSlice tok rfl rfl rfl rfl rfl rfl rfl) rfl rfl rfl ?_; rintro _ _ _ ⟨_, rfl, rfl, rfl⟩))
  refine run_cond rfl (fun h => ?_) (fun h => ?_)
  · have hlt : j < l.len := by simpa using h
    have hl1 := hl.le (Mem.le_trans hle hM1)
    obtain ⟨be, oe, x, ha, hx, hcells, hxm, hxl⟩ := hl1.at_ hlt
    have hv : l.v = .slice (some ⟨be, oe, none⟩) l.len l.cap := by rw [← ha]; rfl
    have htk := trc_append (hon bad) (l.xs.take j) [x] 0
    rw [← take_snoc hx] at htk
    have hbb := hb2.le (Mem.le_trans hle hM1)
    refine run_sub [(10, .int .i64 (j : Int)), (9, .int .i64 (l.len : Int)), (8, .slice (some ⟨be, oe, none⟩) l.len l.cap), (0, yv lp), (2, .pointer (some ⟨b2, 0, none⟩))] ⟨rfl, rfl, by rw [← hv]; rfl, rfl, rfl, trivial⟩ ?_
    cases ho : oneOf (hon bad) x with
    | none =>
      have htk' : trc (hon bad) (l.xs.take (j + 1)) 0 = trc (hon bad) (l.xs.take j) 0 := by rw [htk]; simp [trc, ho]
      repeat (first | with_reducible refine run_seq ?_ | with_reducible refine run_region ?_ | with_reducible refine runL_nil ?_ | with_reducible refine run_skip ?_ | with_reducible refine run_block ?_ | with_reducible refine run_inBlock ?_ | refine run_exit rfl ?_ | refine runL_q (qt_pev tok rfl) rfl rfl rfl ?_ | refine runL_g rfl rfl (qt_pev tok rfl) rfl rfl rfl rfl rfl ?_ | refine runL_q (qt_ld tok rfl (by (repeat (first | with_reducible apply List.mem_cons_self | with_reducible assumption | with_reducible apply List.mem_cons_of_mem | with_reducible apply List.mem_append_right))) (by rfl)) rfl rfl rfl ?_ | refine runL_g rfl rfl (qt_ld tok rfl (by (repeat (first | with_reducible apply List.mem_cons_self | with_reducible assumption | with_reducible apply List.mem_cons_of_mem | with_reducible apply List.mem_append_right))) (by rfl)) rfl rfl rfl rfl rfl ?_ | (refine runL_op0 (st_store tok rfl rfl rfl rfl rfl (by (repeat (first | with_reducible apply Upd.here | with_reducible apply Upd.there | with_reducible apply Upd.append_left))) (by rfl)) ?_; rintro _ _ _ ⟨rfl, rfl, rfl⟩) | (refine runL_op (st_box rfl) rfl rfl rfl ?_; rintro _ _ _ ⟨_, rfl, rfl, rfl⟩) | (refine runL_op (st_alloc tok rfl) rfl rfl rfl ?_; rintro _ _ _ ⟨_, rfl, rfl, rfl⟩) | (refine runL_op (st_buildSlice tok rfl rfl rfl rfl rfl rfl rfl) rfl rfl rfl ?_; rintro _ _ _ ⟨_, rfl, rfl, rfl⟩) | refine runL_q (qt_indexN tok rfl rfl rfl rfl (fun _ => hlt)) rfl rfl rfl ?_ | refine runL_q (qt_ldM0 tok rfl hcells rfl) rfl rfl rfl ?_ | refine runL_q (qt_ldM0 tok rfl hbb rfl) rfl rfl rfl ?_ | refine runL_q (qt_callF rfl (fun _ => one_at _ _ _ x hxm hxl ho)) rfl rfl rfl ?_ | refine runL_gF rfl rfl rfl rfl rfl ?_)
      refine run_cond rfl (fun h => by cases h) (fun _ => ?_)
      repeat (first | with_reducible refine run_seq ?_ | with_reducible refine run_region ?_ | with_reducible refine runL_nil ?_ | with_reducible refine run_skip ?_ | with_reducible refine run_block ?_ | with_reducible refine run_inBlock ?_ | refine run_exit rfl ?_ | refine runL_q (qt_pev tok rfl) rfl rfl rfl ?_ | refine runL_g rfl rfl (qt_pev tok rfl) rfl rfl rfl rfl rfl ?_ | refine runL_q (qt_ld tok rfl (by (repeat (first | with_reducible apply List.mem_cons_self | with_reducible assumption | with_reducible apply List.mem_cons_of_mem | with_reducible apply List.mem_append_right))) (by rfl)) rfl rfl rfl ?_ | refine runL_g rfl rfl (qt_ld tok rfl (by (repeat (first | with_reducible apply List.mem_cons_self | with_reducible assumption | with_reducible apply List.mem_cons_of_mem | with_reducible apply List.mem_append_right))) (by rfl)) rfl rfl rfl rfl rfl ?_ | (refine runL_op0 (st_store tok rfl rfl rfl rfl rfl (by (repeat (first | with_reducible apply Upd.here | with_reducible apply Upd.there | with_reducible apply Upd.append_left))) (by rfl)) ?_; rintro _ _ _ ⟨rfl, rfl, rfl⟩) | (refine runL_op (st_box rfl) rfl rfl rfl ?_; rintro _ _ _ ⟨_, rfl, rfl, rfl⟩) | (refine runL_op (st_alloc tok rfl) rfl rfl rfl ?_; rintro _ _ _ ⟨_, rfl, rfl, rfl⟩) | (refine runL_op (st_buildSlice tok rfl rfl rfl rfl rfl rfl rfl) rfl rfl rfl ?_; rintro _ _ _ ⟨_, rfl, rfl, rfl⟩))
      exact run_mem (fun _ h => h.drop.drop) (run_sub' (hnext _ _ _ ⟨hlt, rfl, hM1, by rw [htk']; exact hI1⟩) ⟨lk_succ rfl (by omega), rfl, by rw [hv]; rfl, rfl, rfl, trivial⟩)
    | some a =>
      have hlj : (l.xs.take j).length = j := by rw [List.length_take]; omega
      have htk' : trc (hon bad) (l.xs.take (j + 1)) 0 = trc (hon bad) (l.xs.take j) 0 ++ [(j, a)] := by rw [htk]; simp [trc, ho, hlj]
      have hget : ((trc (hon bad) l.xs 0).map trcV)[(trc (hon bad) (l.xs.take j) 0).length]? = some (trcV (j, a)) := by
        have hsp := trc_append (hon bad) (l.xs.take (j + 1)) (l.xs.drop (j + 1)) 0
        rw [List.take_append_drop, htk', List.append_assoc] at hsp
        rw [hsp]
        simp
      repeat (first | with_reducible refine run_seq ?_ | with_reducible refine run_region ?_ | with_reducible refine runL_nil ?_ | with_reducible refine run_skip ?_ | with_reducible refine run_block ?_ | with_reducible refine run_inBlock ?_ | refine run_exit rfl ?_ | refine runL_q (qt_pev tok rfl) rfl rfl rfl ?_ | refine runL_g rfl rfl (qt_pev tok rfl) rfl rfl rfl rfl rfl ?_ | refine runL_q (qt_ld tok rfl (by (repeat (first | with_reducible apply List.mem_cons_self | with_reducible assumption | with_reducible apply List.mem_cons_of_mem | with_reducible apply List.mem_append_right))) (by rfl)) rfl rfl rfl ?_ | refine runL_g rfl rfl (qt_ld tok rfl (by (repeat (first | with_reducible apply List.mem_cons_self | with_reducible assumption | with_reducible apply List.mem_cons_of_mem | with_reducible apply List.mem_append_right))) (by rfl)) rfl rfl rfl rfl rfl ?_ | (refine runL_op0 (st_store tok rfl rfl rfl rfl rfl (by (repeat (first | with_reducible apply Upd.here | with_reducible apply Upd.there | with_reducible apply Upd.append_left))) (by rfl)) ?_; rintro _ _ _ ⟨rfl, rfl, rfl⟩) | (refine runL_op (st_box rfl) rfl rfl rfl ?_; rintro _ _ _ ⟨_, rfl, rfl, rfl⟩) | (refine runL_op (st_alloc tok rfl) rfl rfl rfl ?_; rintro _ _ _ ⟨_, rfl, rfl, rfl⟩) | (refine runL_op (st_buildSlice tok rfl rfl rfl rfl rfl rfl rfl) rfl rfl rfl ?_; rintro _ _ _ ⟨_, rfl, rfl, rfl⟩) | refine runL_q (qt_indexN tok rfl rfl rfl rfl (fun _ => hlt)) rfl rfl rfl ?_ | refine runL_q (qt_ldM0 tok rfl hcells rfl) rfl rfl rfl ?_ | refine runL_q (qt_ldM0 tok rfl hbb rfl) rfl rfl rfl ?_ | refine runL_q (qt_callF rfl (fun _ => one_at _ _ _ x hxm hxl ho)) rfl rfl rfl ?_)
      refine runL_gT rfl rfl (st_yield rfl rfl (fun _ => hyield _ _ _ _ [_, _] hget hM1 hI1)) rfl rfl rfl ?_
      rintro v M2 _ ⟨L2, rfl, hM2, hv2⟩
      rcases hv2 with ⟨rfl, hI2⟩ | ⟨rfl, hX⟩
      · repeat (first | with_reducible refine run_seq ?_ | with_reducible refine run_region ?_ | with_reducible refine runL_nil ?_ | with_reducible refine run_skip ?_ | with_reducible refine run_block ?_ | with_reducible refine run_inBlock ?_ | refine run_exit rfl ?_ | refine runL_q (qt_pev tok rfl) rfl rfl rfl ?_ | refine runL_g rfl rfl (qt_pev tok rfl) rfl rfl rfl rfl rfl ?_ | refine runL_q (qt_ld tok rfl (by (repeat (first | with_reducible apply List.mem_cons_self | with_reducible assumption | with_reducible apply List.mem_cons_of_mem | with_reducible apply List.mem_append_right))) (by rfl)) rfl rfl rfl ?_ | refine runL_g rfl rfl (qt_ld tok rfl (by (repeat (first | with_reducible apply List.mem_cons_self | with_reducible assumption | with_reducible apply List.mem_cons_of_mem | with_reducible apply List.mem_append_right))) (by rfl)) rfl rfl rfl rfl rfl ?_ | (refine runL_op0 (st_store tok rfl rfl rfl rfl rfl (by (repeat (first | with_reducible apply Upd.here | with_reducible apply Upd.there | with_reducible apply Upd.append_left))) (by rfl)) ?_; rintro _ _ _ ⟨rfl, rfl, rfl⟩) | (refine runL_op (st_box rfl) rfl rfl rfl ?_; rintro _ _ _ ⟨_, rfl, rfl, rfl⟩) | (refine runL_op (st_alloc tok rfl) rfl rfl rfl ?_; rintro _ _ _ ⟨_, rfl, rfl, rfl⟩) | (refine runL_op (st_buildSlice tok rfl rfl rfl rfl rfl rfl rfl) rfl rfl rfl ?_; rintro _ _ _ ⟨_, rfl, rfl, rfl⟩))
        refine run_cond rfl (fun h => by cases h) (fun _ => ?_)
        repeat (first | with_reducible refine run_seq ?_ | with_reducible refine run_region ?_ | with_reducible refine runL_nil ?_ | with_reducible refine run_skip ?_ | with_reducible refine run_block ?_ | with_reducible refine run_inBlock ?_ | refine run_exit rfl ?_ | refine runL_q (qt_pev tok rfl) rfl rfl rfl ?_ | refine runL_g rfl rfl (qt_pev tok rfl) rfl rfl rfl rfl rfl ?_ | refine runL_q (qt_ld tok rfl (by (repeat (first | with_reducible apply List.mem_cons_self | with_reducible assumption | with_reducible apply List.mem_cons_of_mem | with_reducible apply List.mem_append_right))) (by rfl)) rfl rfl rfl ?_ | refine runL_g rfl rfl (qt_ld tok rfl (by (repeat (first | with_reducible apply List.mem_cons_self | with_reducible assumption | with_reducible apply List.mem_cons_of_mem | with_reducible apply List.mem_append_right))) (by rfl)) rfl rfl rfl rfl rfl ?_ | (refine runL_op0 (st_store tok rfl rfl rfl rfl rfl (by (repeat (first | with_reducible apply Upd.here | with_reducible apply Upd.there | with_reducible apply Upd.append_left))) (by rfl)) ?_; rintro _ _ _ ⟨rfl, rfl, rfl⟩) | (refine runL_op (st_box rfl) rfl rfl rfl ?_; rintro _ _ _ ⟨_, rfl, rfl, rfl⟩) | (refine runL_op (st_alloc tok rfl) rfl rfl rfl ?_; rintro _ _ _ ⟨_, rfl, rfl, rfl⟩) | (refine runL_op (st_buildSlice tok rfl rfl rfl rfl rfl rfl rfl) rfl rfl rfl ?_; rintro _ _ _ ⟨_, rfl, rfl, rfl⟩))
        refine run_mem (fun _ h => h.drop.drop) (run_sub' (hnext _ _ _ ⟨hlt, rfl, Mem.le_trans hM1 hM2, ?_⟩) ⟨lk_succ rfl (by omega), rfl, by rw [hv]; rfl, rfl, rfl, trivial⟩)
        rw [htk']; simpa using hI2
      · repeat (first | with_reducible refine run_seq ?_ | with_reducible refine run_region ?_ | with_reducible refine runL_nil ?_ | with_reducible refine run_skip ?_ | with_reducible refine run_block ?_ | with_reducible refine run_inBlock ?_ | refine run_exit rfl ?_ | refine runL_q (qt_pev tok rfl) rfl rfl rfl ?_ | refine runL_g rfl rfl (qt_pev tok rfl) rfl rfl rfl rfl rfl ?_ | refine runL_q (qt_ld tok rfl (by (repeat (first | with_reducible apply List.mem_cons_self | with_reducible assumption | with_reducible apply List.mem_cons_of_mem | with_reducible apply List.mem_append_right))) (by rfl)) rfl rfl rfl ?_ | refine runL_g rfl rfl (qt_ld tok rfl (by (repeat (first | with_reducible apply List.mem_cons_self | with_reducible assumption | with_reducible apply List.mem_cons_of_mem | with_reducible apply List.mem_append_right))) (by rfl)) rfl rfl rfl rfl rfl ?_ | (refine runL_op0 (st_store tok rfl rfl rfl rfl rfl (by (repeat (first | with_reducible apply Upd.here | with_reducible apply Upd.there | with_reducible apply Upd.append_left))) (by rfl)) ?_; rintro _ _ _ ⟨rfl, rfl, rfl⟩) | (refine runL_op (st_box rfl) rfl rfl rfl ?_; rintro _ _ _ ⟨_, rfl, rfl, rfl⟩) | (refine runL_op (st_alloc tok rfl) rfl rfl rfl ?_; rintro _ _ _ ⟨_, rfl, rfl, rfl⟩) | (refine runL_op (st_buildSlice tok rfl rfl rfl rfl rfl rfl rfl) rfl rfl rfl ?_; rintro _ _ _ ⟨_, rfl, rfl, rfl⟩))
        refine run_cond rfl (fun _ => ?_) (fun h => by cases h)
        exact run_ret hC (rs := []) rfl resN (fun _ h => h.drop.drop) ⟨Mem.le_trans hM1 hM2, .inr ⟨_, hX⟩⟩
  · have hge : j = l.len := by simp at h; omega
    subst hge
    rw [List.take_of_length_le (by omega)] at hI1
    repeat (first | with_reducible refine run_seq ?_ | with_reducible refine run_region ?_ | with_reducible refine runL_nil ?_ | with_reducible refine run_skip ?_ | with_reducible refine run_block ?_ | with_reducible refine run_inBlock ?_ | refine run_exit rfl ?_ | refine runL_q (qt_pev tok rfl) rfl rfl rfl ?_ | refine runL_g rfl rfl (qt_pev tok rfl) rfl rfl rfl rfl rfl ?_ | refine runL_q (qt_ld tok rfl (by (repeat (first | with_reducible apply List.mem_cons_self | with_reducible assumption | with_reducible apply List.mem_cons_of_mem | with_reducible apply List.mem_append_right))) (by rfl)) rfl rfl rfl ?_ | refine runL_g rfl rfl (qt_ld tok rfl (by (repeat (first | with_reducible apply List.mem_cons_self | with_reducible assumption | with_reducible apply List.mem_cons_of_mem | with_reducible apply List.mem_append_right))) (by rfl)) rfl rfl rfl rfl rfl ?_ | (refine runL_op0 (st_store tok rfl rfl rfl rfl rfl (by (repeat (first | with_reducible apply Upd.here | with_reducible apply Upd.there | with_reducible apply Upd.append_left))) (by rfl)) ?_; rintro _ _ _ ⟨rfl, rfl, rfl⟩) | (refine runL_op (st_box rfl) rfl rfl rfl ?_; rintro _ _ _ ⟨_, rfl, rfl, rfl⟩) | (refine runL_op (st_alloc tok rfl) rfl rfl rfl ?_; rintro _ _ _ ⟨_, rfl, rfl, rfl⟩) | (refine runL_op (st_buildSlice tok rfl rfl rfl rfl rfl rfl rfl) rfl rfl rfl ?_; rintro _ _ _ ⟨_, rfl, rfl, rfl⟩))
    exact run_end hC (rs := []) rfl resN (fun _ h => h) ⟨hM1, .inl (by simpa using hI1)⟩

def IsEach (M : Mem) (bad : Int) (l : SEv) (v : Value) : Prop := ∃ caps, v = .func (.func 36) #[] ⟨caps⟩ ∧ IterOk Try.prog 36 caps M ((trc (hon bad) l.xs 0).map trcV)
theorem each_ok (M : Mem) (L : HL) (bad : Int) (l : SEv) (hl : EvsOk M l) : Tr Try.prog 26 [.int .u8 bad, l.v] M L (fun v M' L' => M.le M' ∧ L = L' ∧ IsEach M' bad l v) := by
  refine Tr.intro 6 Try.func26 rfl rfl Try.call26 rfl ?_
  intro C hC hro
  repeat (first | with_reducible refine run_seq ?_ | with_reducible refine run_region ?_ | with_reducible refine runL_nil ?_ | with_reducible refine run_skip ?_ | with_reducible refine run_block ?_ | with_reducible refine run_inBlock ?_ | refine run_exit rfl ?_ | refine runL_q (qt_pev tok rfl) rfl rfl rfl ?_ | refine runL_g rfl rfl (qt_pev tok rfl) rfl rfl rfl rfl rfl ?_ | refine runL_q (qt_ld tok rfl (by (repeat (first | with_reducible apply List.mem_cons_self | with_reducible assumption | with_reducible apply List.mem_cons_of_mem | with_reducible apply List.mem_append_right))) (by rfl)) rfl rfl rfl ?_ | refine runL_g rfl rfl (qt_ld tok rfl (by (repeat (first | with_reducible apply List.mem_cons_self | with_reducible assumption | with_reducible apply List.mem_cons_of_mem | with_reducible apply List.mem_append_right))) (by rfl)) rfl rfl rfl rfl rfl ?_ | (refine runL_op0 (st_store tok rfl rfl rfl rfl rfl (by (repeat (first | with_reducible apply Upd.here | with_reducible apply Upd.there | with_reducible apply Upd.append_left))) (by rfl)) ?_; rintro _ _ _ ⟨rfl, rfl, rfl⟩) | (refine runL_op (st_box rfl) rfl rfl rfl ?_; rintro _ _ _ ⟨_, rfl, rfl, rfl⟩) | (refine runL_op (st_alloc tok rfl) rfl rfl rfl ?_; rintro _ _ _ ⟨_, rfl, rfl, rfl⟩) | (refine runL_op (st_buildSlice tok rfl rfl rfl rfl rfl rfl rfl) rfl rfl rfl ?_; rintro _ _ _ ⟨_, rfl, rfl, rfl⟩))
  rename_i b1 b2
  refine run_retE hC (rs := [.tmp 4]) rfl (resT rfl resN) fun w hw => ?_
  obtain ⟨M1, h1, h2, h3⟩ := hw.freeze1
  obtain ⟨M2, h4, h5, h6⟩ := h3.freeze1
  have hle := Mem.le_trans h1 h4
  exact ⟨M2, L, h6, hle, rfl, _, rfl, each1_ok M2 bad l (hl.le hle) b2 b1 ((Cells.ofBlk h2).le h4) (Cells.ofBlk h5)⟩

/-! ### the trace, as slices -/
theorem perm_mid (A N B : HL) : (A ++ (N ++ B)).Perm (N ++ (A ++ B)) := by
  rw [← List.append_assoc, ← List.append_assoc]
  exact List.Perm.append_right B List.perm_append_comm
theorem permA (x y z : Nat × Obj) (N N2 T : HL) : (x :: (N ++ (y :: z :: (N2 ++ T)))).Perm (N2 ++ (N ++ (x :: y :: z :: T))) :=
  (List.perm_middle.symm).trans ((List.Perm.append_left N (perm_mid [x, y, z] N2 T)).trans (perm_mid N N2 _))
theorem permB (A N N2 T : HL) : (N ++ (A ++ (N2 ++ T))).Perm (N2 ++ (N ++ (A ++ T))) :=
  (List.Perm.append_left N (perm_mid A N2 T)).trans (perm_mid N N2 _)
theorem perm2 (x y : Nat × Obj) (N B : HL) : (x :: y :: (N ++ B)).Perm (N ++ (x :: y :: B)) := perm_mid [x, y] N B
theorem perm3 (x y z : Nat × Obj) (N B : HL) : (x :: y :: z :: (N ++ B)).Perm (N ++ (x :: y :: z :: B)) := perm_mid [x, y, z] N B
theorem permB3 (x y z : Nat × Obj) (N N2 T : HL) : (N ++ (x :: y :: z :: (N2 ++ T))).Perm (N2 ++ (N ++ (x :: y :: z :: T))) := permB [x, y, z] N N2 T
theorem permC (N N2 A T : HL) : (N ++ (N2 ++ (A ++ T))).Perm (A ++ (N2 ++ (N ++ T))) :=
  (perm_mid N N2 _).trans ((List.Perm.append_left N2 (perm_mid N A T)).trans (perm_mid N2 A _))
theorem os_slice {e size n : Nat} {v : Value} {xs : List Value} {N : HL} (h : OS e size v n xs N) : ∃ a cap, v = .slice a n cap := by
  rcases h with ⟨rfl, rfl, _⟩ | ⟨b, cap, cs, rfl, _⟩
  · exact ⟨_, _, rfl⟩
  · exact ⟨_, _, rfl⟩
theorem os_one {e size n : Nat} {v : Value} {xs : List Value} {N : HL} (h : OS e size v n xs N) : oneL (cellsL v) = true := by obtain ⟨_, _, rfl⟩ := os_slice h; rfl
def acF (l : List Ac) : List Value := (l.map acC).flatten
def inF (l : List Nat) : List Value := (l.map fun n : Nat => [Value.int .i64 (n : Int)]).flatten
theorem acF_snoc (l : List Ac) (a : Ac) : acF (l ++ [a]) = acF l ++ acC a := by simp [acF]
theorem inF_snoc (l : List Nat) (a : Nat) : inF (l ++ [a]) = inF l ++ [.int .i64 (a : Int)] := by simp [inF]
theorem acC_one (a : Ac) : ∀ u ∈ acC a, u.oneCell' = true := by intro u hu; simp [acC] at hu; rcases hu with rfl | rfl | rfl | rfl | rfl | rfl | rfl <;> rfl
theorem int_one (n : Int) : ∀ u ∈ [Value.int .i64 n], u.oneCell' = true := by intro u hu; simp at hu; subst hu; rfl

theorem trc_length (h : Int → Bool) : ∀ (l : List Ev) (i : Nat), (trc h l i).length ≤ l.length
  | [], _ => by simp [trc]
  | x :: l, i => by
    have := trc_length h l (i + 1)
    simp only [trc]
    cases oneOf h x <;> simp <;> omega

set_option maxHeartbeats 4000000 in
theorem actions_ok (M : Mem) (L : HL) (bad : Int) (l : SEv) (hl : EvsOk M l) : Tr Try.prog 10 [.int .u8 bad, l.v] M L (fun v M' L' => M.le M' ∧ L = L' ∧ ∃ a1 c1 a2 c2, v = .tuple ⟨[.slice a1 (trc (hon bad) l.xs 0).length c1, .slice a2 (trc (hon bad) l.xs 0).length c2]⟩ ∧
    SlM M' 7 a1 (trc (hon bad) l.xs 0).length ((trc (hon bad) l.xs 0).map fun p => acC p.2) ∧ SlM M' 1 a2 (trc (hon bad) l.xs 0).length ((trc (hon bad) l.xs 0).map fun p => [.int .i64 (p.1 : Int)])) := by
  have hlen : l.xs.length = l.len := by have := hl.1.1; simpa using this
  have hlt' := hl.2.1
  have htl := trc_length (hon bad) l.xs 0
  refine Tr.intro 23 Try.func10 rfl rfl Try.call10 rfl ?_
  intro C hC hro
  repeat (first | with_reducible refine run_seq ?_ | with_reducible refine run_region ?_ | with_reducible refine runL_nil ?_ | with_reducible refine run_skip ?_ | with_reducible refine run_block ?_ | with_reducible refine run_inBlock ?_ | refine run_exit rfl ?_ | refine runL_q (qt_pev tok rfl) rfl rfl rfl ?_ | refine runL_g rfl rfl (qt_pev tok rfl) rfl rfl rfl rfl rfl ?_ | refine runL_q (qt_ld tok rfl (by (repeat (first | with_reducible apply List.mem_cons_self | with_reducible assumption | with_reducible apply List.mem_cons_of_mem | with_reducible apply List.mem_append_right))) (by rfl)) rfl rfl rfl ?_ | refine runL_g rfl rfl (qt_ld tok rfl (by (repeat (first | with_reducible apply List.mem_cons_self | with_reducible assumption | with_reducible apply List.mem_cons_of_mem | with_reducible apply List.mem_append_right))) (by rfl)) rfl rfl rfl rfl rfl ?_ | (refine runL_op0 (st_store tok rfl rfl rfl rfl rfl (by (repeat (first | with_reducible apply Upd.here | with_reducible apply Upd.there | with_reducible apply Upd.append_left))) (by rfl)) ?_; rintro _ _ _ ⟨rfl, rfl, rfl⟩) | (refine runL_op (st_box rfl) rfl rfl rfl ?_; rintro _ _ _ ⟨_, rfl, rfl, rfl⟩) | (refine runL_op (st_alloc tok rfl) rfl rfl rfl ?_; rintro _ _ _ ⟨_, rfl, rfl, rfl⟩) | (refine runL_op (st_buildSlice tok rfl rfl rfl rfl rfl rfl rfl) rfl rfl rfl ?_; rintro _ _ _ ⟨_, rfl, rfl, rfl⟩) | (refine runL_op (st_callF rfl (fun _ => each_ok _ _ _ l hl)) rfl rfl rfl ?_; rintro _ M1 _ ⟨hM1, rfl, caps, rfl, hit⟩))
  rename_i b4 b5
  generalize trc (hon bad) l.xs 0 = T at *
  refine run_range hro rfl hit rfl (by intro x hx; obtain ⟨p, _, rfl⟩ := List.mem_map.1 hx; rfl) (fun k M' L' => M1.le M' ∧ ∃ va vp NA NP, OS 28 7 va k (acF ((T.take k).map (·.2))) NA ∧ OS 3 1 vp k (inF ((T.take k).map (·.1))) NP ∧ L' = NA ++ (NP ++ ((b5, .cells ⟨[vp]⟩ 40 (0, 0)) :: (b4, .cells ⟨[va]⟩ 39 (0, 0)) :: L))) (fun _ _ _ _ => False) ?_ ?_ ?_ ?_
  · exact ⟨Mem.le_refl _, _, _, [], [], OS.nil _ _, OS.nil _ _, rfl⟩
  · rintro j x M2 _ R R' C' hx hM2 ⟨hM2', va, vp, NA, NP, hA, hP, rfl⟩ B
    obtain ⟨p, hp, rfl⟩ : ∃ p, T[j]? = some p ∧ trcV p = x := by simpa using hx
    have hjl : j < T.length := (List.getElem?_eq_some_iff.1 hp).1
    obtain ⟨aa, ca, rfl⟩ := os_slice hA
    obtain ⟨ap, cp, rfl⟩ := os_slice hP
    simp only [List.append_assoc, List.cons_append]
    repeat (first | with_reducible refine run_seq ?_ | with_reducible refine run_region ?_ | with_reducible refine runL_nil ?_ | with_reducible refine run_skip ?_ | with_reducible refine run_block ?_ | with_reducible refine run_inBlock ?_ | refine run_exit rfl ?_ | refine runL_q (qt_pev tok rfl) rfl rfl rfl ?_ | refine runL_g rfl rfl (qt_pev tok rfl) rfl rfl rfl rfl rfl ?_ | refine runL_q (qt_ld tok rfl (by (repeat (first | with_reducible apply List.mem_cons_self | with_reducible assumption | with_reducible apply List.mem_cons_of_mem | with_reducible apply List.mem_append_right))) (by rfl)) rfl rfl rfl ?_ | refine runL_g rfl rfl (qt_ld tok rfl (by (repeat (first | with_reducible apply List.mem_cons_self | with_reducible assumption | with_reducible apply List.mem_cons_of_mem | with_reducible apply List.mem_append_right))) (by rfl)) rfl rfl rfl rfl rfl ?_ | (refine runL_op0 (st_store tok rfl rfl rfl rfl rfl (by (repeat (first | with_reducible apply Upd.here | with_reducible apply Upd.there | with_reducible apply Upd.append_left))) (by rfl)) ?_; rintro _ _ _ ⟨rfl, rfl, rfl⟩) | (refine runL_op (st_box rfl) rfl rfl rfl ?_; rintro _ _ _ ⟨_, rfl, rfl, rfl⟩) | (refine runL_op (st_alloc tok rfl) rfl rfl rfl ?_; rintro _ _ _ ⟨_, rfl, rfl, rfl⟩) | (refine runL_op (st_buildSlice tok rfl rfl rfl rfl rfl rfl rfl) rfl rfl rfl ?_; rintro _ _ _ ⟨_, rfl, rfl, rfl⟩))
    rename_i b7
    refine B.begin' ((b7, .cells ⟨acC p.2⟩ 28 (0, 0)) :: (NA ++ (NP ++ ((b5, .cells ⟨[.slice ap j cp]⟩ 40 (0, 0)) :: (b4, .cells ⟨[.slice aa j ca]⟩ 39 (0, 0)) :: L)))) (by simp; rfl) ?_
    simp only [List.append_assoc, List.cons_append]
    have hs1 := take_snoc hp
    have hfin : ∀ σ' va' vp' NA' NP' x y z, OS 28 7 va' (j + 1) (acF ((T.take j).map (·.2)) ++ acC p.2) NA' → OS 3 1 vp' (j + 1) (inF ((T.take j).map (·.1)) ++ [.int .i64 (p.1 : Int)]) NP' →
        Run Try.prog C' 23 [.inBlock 1] [] σ' M2 (NP' ++ (NA' ++ (x :: y :: z :: (b5, .cells ⟨[vp']⟩ 40 (0, 0)) :: (b4, .cells ⟨[va']⟩ 39 (0, 0)) :: (L ++ R')))) := by
      intro σ' va' vp' NA' NP' x y z hA' hP'
      refine run_inBlock ?_
      refine B.fin' (L2 := NA' ++ (NP' ++ ((b5, .cells ⟨[vp']⟩ 40 (0, 0)) :: (b4, .cells ⟨[va']⟩ 39 (0, 0)) :: L))) (Mem.le_refl _) (fun w h => ?_) ⟨hM2', va', vp', NA', NP', ?_, ?_, rfl⟩
      · have h1 := h.perm (permC NP' NA' [x, y, z] _)
        have h2 : Hp M2 (NA' ++ (NP' ++ ((b5, .cells ⟨[vp']⟩ 40 (0, 0)) :: (b4, .cells ⟨[va']⟩ 39 (0, 0)) :: (L ++ R')))) w := h1.dropAll
        simpa using h2
      · rw [hs1, List.map_append, List.map_cons, List.map_nil, acF_snoc]; exact hA'
      · rw [hs1, List.map_append, List.map_cons, List.map_nil, inF_snoc]; exact hP'
    refine run_block ?_
    refine run_draw mixed ?_
    refine pr_q 0 (by decide +kernel) rfl (qt_ld tok rfl (by (repeat (first | with_reducible apply List.mem_cons_self | with_reducible assumption | with_reducible apply List.mem_cons_of_mem | with_reducible apply List.mem_append_right))) (by rfl)) rfl rfl rfl ?_
    refine pr_q 1 (by decide +kernel) rfl (qt_ld tok rfl (by (repeat (first | with_reducible apply List.mem_cons_self | with_reducible assumption | with_reducible apply List.mem_cons_of_mem | with_reducible apply List.mem_append_right))) (by rfl)) rfl rfl rfl ?_
    refine pr_q 4 (by decide +kernel) rfl (qt_ld tok rfl (by (repeat (first | with_reducible apply List.mem_cons_self | with_reducible assumption | with_reducible apply List.mem_cons_of_mem | with_reducible apply List.mem_append_right))) (by rfl)) rfl rfl rfl ?_
    refine pr_q 5 (by decide +kernel) rfl (qt_pev tok rfl) rfl rfl rfl ?_
    refine pr_two 2 6 (by decide +kernel) ?_ ?_
    · refine eff1 2 rfl (st_buildSlice tok rfl rfl rfl rfl rfl rfl rfl) (by decide +kernel) (qs := [5, 4, 0]) (by decide +kernel) rfl rfl rfl ?_
      rintro _ _ _ ⟨s1, rfl, rfl, rfl⟩
      refine ⟨by (repeat (first | exact trivial | refine And.intro (pend_q rfl rfl rfl (qt_pev tok rfl)) ?_ | refine And.intro (pend_q rfl rfl rfl (qt_ld tok rfl (by (repeat (first | with_reducible apply List.mem_cons_self | with_reducible assumption | with_reducible apply List.mem_cons_of_mem | with_reducible apply List.mem_append_right))) (by rfl))) ?_)), ?_⟩
      refine pr_two 3 6 (by decide +kernel) ?_ ?_
      · refine eff1 3 rfl (st_append tok rfl rfl rfl rfl rfl rfl rfl rfl (perm2 _ _ NA _) hA (.inr ⟨s1, 0, 1, rfl, cellsAll List.mem_cons_self, rfl⟩) (acC_one p.2) (by omega) (by omega)) (by decide +kernel) (qs := [5, 4]) (by decide +kernel) rfl rfl rfl ?_
        rintro va' _ _ ⟨NA', rfl, rfl, hA'⟩
        obtain ⟨aa', ca', rfl⟩ := os_slice hA'
        refine ⟨by (repeat (first | exact trivial | refine And.intro (pend_q rfl rfl rfl (qt_pev tok rfl)) ?_ | refine And.intro (pend_q rfl rfl rfl (qt_ld tok rfl (by (repeat (first | with_reducible apply List.mem_cons_self | with_reducible assumption | with_reducible apply List.mem_cons_of_mem | with_reducible apply List.mem_append_right))) (by rfl))) ?_)), ?_⟩
        refine pr_one 6 (by decide +kernel) (eff1 6 rfl (st_buildSlice tok rfl rfl rfl rfl rfl rfl rfl) (by decide +kernel) (qs := [4, 1, 0]) (by decide +kernel) rfl rfl rfl ?_)
        rintro _ _ _ ⟨s2, rfl, rfl, rfl⟩
        refine ⟨by (repeat (first | exact trivial | refine And.intro (pend_q rfl rfl rfl (qt_pev tok rfl)) ?_ | refine And.intro (pend_q rfl rfl rfl (qt_ld tok rfl (by (repeat (first | with_reducible apply List.mem_cons_self | with_reducible assumption | with_reducible apply List.mem_cons_of_mem | with_reducible apply List.mem_append_right))) (by rfl))) ?_)), ?_⟩
        refine pr_one 7 (by decide +kernel) (eff1 7 rfl (st_append tok rfl rfl rfl rfl rfl rfl rfl rfl (permA _ _ _ NA' NP _) hP (.inr ⟨s2, 0, 1, rfl, cellsAll (List.mem_cons_self), rfl⟩) (int_one _) (by omega) (by omega)) (by decide +kernel) (qs := []) (by decide +kernel) rfl rfl rfl ?_)
        rintro vp' _ _ ⟨NP', rfl, rfl, hP'⟩
        obtain ⟨ap', cp', rfl⟩ := os_slice hP'
        refine ⟨trivial, ?_⟩
        refine pr_one 8 (by decide +kernel) (eff0 8 rfl (st_store tok rfl rfl rfl rfl rfl (by (repeat (first | with_reducible apply Upd.here | with_reducible apply Upd.there | with_reducible apply Upd.append_left))) (by rfl)) (by decide +kernel) (qs := []) (by decide +kernel) ?_)
        rintro _ _ _ ⟨rfl, rfl, rfl⟩
        refine ⟨trivial, ?_⟩
        refine pr_one 9 (by decide +kernel) (eff0 9 rfl (st_store tok rfl rfl rfl rfl rfl (by (repeat (first | with_reducible apply Upd.here | with_reducible apply Upd.there | with_reducible apply Upd.append_left))) (by rfl)) (by decide +kernel) (qs := []) (by decide +kernel) ?_)
        rintro _ _ _ ⟨rfl, rfl, rfl⟩
        refine ⟨trivial, ?_⟩
        refine pr_end (by decide +kernel) (by decide +kernel) ?_
        exact hfin _ _ _ _ _ _ _ _ hA' hP'
      · refine eff1 6 rfl (st_buildSlice tok rfl rfl rfl rfl rfl rfl rfl) (by decide +kernel) (qs := [4, 1, 0]) (by decide +kernel) rfl rfl rfl ?_
        rintro _ _ _ ⟨s2, rfl, rfl, rfl⟩
        refine ⟨by (repeat (first | exact trivial | refine And.intro (pend_q rfl rfl rfl (qt_pev tok rfl)) ?_ | refine And.intro (pend_q rfl rfl rfl (qt_ld tok rfl (by (repeat (first | with_reducible apply List.mem_cons_self | with_reducible assumption | with_reducible apply List.mem_cons_of_mem | with_reducible apply List.mem_append_right))) (by rfl))) ?_)), ?_⟩
        refine pr_one 3 (by decide +kernel) (eff1 3 rfl (st_append tok rfl rfl rfl rfl rfl rfl rfl rfl (perm3 _ _ _ NA _) hA (.inr ⟨s1, 0, 1, rfl, cellsAll (List.mem_cons_of_mem _ List.mem_cons_self), rfl⟩) (acC_one p.2) (by omega) (by omega)) (by decide +kernel) (qs := [5, 4]) (by decide +kernel) rfl rfl rfl ?_)
        rintro va' _ _ ⟨NA', rfl, rfl, hA'⟩
        obtain ⟨aa', ca', rfl⟩ := os_slice hA'
        refine ⟨by (repeat (first | exact trivial | refine And.intro (pend_q rfl rfl rfl (qt_pev tok rfl)) ?_ | refine And.intro (pend_q rfl rfl rfl (qt_ld tok rfl (by (repeat (first | with_reducible apply List.mem_cons_self | with_reducible assumption | with_reducible apply List.mem_cons_of_mem | with_reducible apply List.mem_append_right))) (by rfl))) ?_)), ?_⟩
        refine pr_one 7 (by decide +kernel) (eff1 7 rfl (st_append tok rfl rfl rfl rfl rfl rfl rfl rfl (permB3 _ _ _ NA' NP _) hP (.inr ⟨s2, 0, 1, rfl, cellsAll (List.mem_append_right _ List.mem_cons_self), rfl⟩) (int_one _) (by omega) (by omega)) (by decide +kernel) (qs := []) (by decide +kernel) rfl rfl rfl ?_)
        rintro vp' _ _ ⟨NP', rfl, rfl, hP'⟩
        obtain ⟨ap', cp', rfl⟩ := os_slice hP'
        refine ⟨trivial, ?_⟩
        refine pr_one 8 (by decide +kernel) (eff0 8 rfl (st_store tok rfl rfl rfl rfl rfl (by (repeat (first | with_reducible apply Upd.here | with_reducible apply Upd.there | with_reducible apply Upd.append_left))) (by rfl)) (by decide +kernel) (qs := []) (by decide +kernel) ?_)
        rintro _ _ _ ⟨rfl, rfl, rfl⟩
        refine ⟨trivial, ?_⟩
        refine pr_one 9 (by decide +kernel) (eff0 9 rfl (st_store tok rfl rfl rfl rfl rfl (by (repeat (first | with_reducible apply Upd.here | with_reducible apply Upd.there | with_reducible apply Upd.append_left))) (by rfl)) (by decide +kernel) (qs := []) (by decide +kernel) ?_)
        rintro _ _ _ ⟨rfl, rfl, rfl⟩
        refine ⟨trivial, ?_⟩
        refine pr_end (by decide +kernel) (by decide +kernel) ?_
        exact hfin _ _ _ _ _ _ _ _ hA' hP'
    · refine eff1 6 rfl (st_buildSlice tok rfl rfl rfl rfl rfl rfl rfl) (by decide +kernel) (qs := [4, 1, 0]) (by decide +kernel) rfl rfl rfl ?_
      rintro _ _ _ ⟨s2, rfl, rfl, rfl⟩
      refine ⟨by (repeat (first | exact trivial | refine And.intro (pend_q rfl rfl rfl (qt_pev tok rfl)) ?_ | refine And.intro (pend_q rfl rfl rfl (qt_ld tok rfl (by (repeat (first | with_reducible apply List.mem_cons_self | with_reducible assumption | with_reducible apply List.mem_cons_of_mem | with_reducible apply List.mem_append_right))) (by rfl))) ?_)), ?_⟩
      refine pr_one 2 (by decide +kernel) (eff1 2 rfl (st_buildSlice tok rfl rfl rfl rfl rfl rfl rfl) (by decide +kernel) (qs := [5, 4, 0]) (by decide +kernel) rfl rfl rfl ?_)
      rintro _ _ _ ⟨s1, rfl, rfl, rfl⟩
      refine ⟨by (repeat (first | exact trivial | refine And.intro (pend_q rfl rfl rfl (qt_pev tok rfl)) ?_ | refine And.intro (pend_q rfl rfl rfl (qt_ld tok rfl (by (repeat (first | with_reducible apply List.mem_cons_self | with_reducible assumption | with_reducible apply List.mem_cons_of_mem | with_reducible apply List.mem_append_right))) (by rfl))) ?_)), ?_⟩
      refine pr_one 3 (by decide +kernel) (eff1 3 rfl (st_append tok rfl rfl rfl rfl rfl rfl rfl rfl (perm3 _ _ _ NA _) hA (.inr ⟨s1, 0, 1, rfl, cellsAll (List.mem_cons_self), rfl⟩) (acC_one p.2) (by omega) (by omega)) (by decide +kernel) (qs := [5, 4]) (by decide +kernel) rfl rfl rfl ?_)
      rintro va' _ _ ⟨NA', rfl, rfl, hA'⟩
      obtain ⟨aa', ca', rfl⟩ := os_slice hA'
      refine ⟨by (repeat (first | exact trivial | refine And.intro (pend_q rfl rfl rfl (qt_pev tok rfl)) ?_ | refine And.intro (pend_q rfl rfl rfl (qt_ld tok rfl (by (repeat (first | with_reducible apply List.mem_cons_self | with_reducible assumption | with_reducible apply List.mem_cons_of_mem | with_reducible apply List.mem_append_right))) (by rfl))) ?_)), ?_⟩
      refine pr_one 7 (by decide +kernel) (eff1 7 rfl (st_append tok rfl rfl rfl rfl rfl rfl rfl rfl (permB3 _ _ _ NA' NP _) hP (.inr ⟨s2, 0, 1, rfl, cellsAll (List.mem_append_right _ (List.mem_cons_of_mem _ List.mem_cons_self)), rfl⟩) (int_one _) (by omega) (by omega)) (by decide +kernel) (qs := []) (by decide +kernel) rfl rfl rfl ?_)
      rintro vp' _ _ ⟨NP', rfl, rfl, hP'⟩
      obtain ⟨ap', cp', rfl⟩ := os_slice hP'
      refine ⟨trivial, ?_⟩
      refine pr_one 8 (by decide +kernel) (eff0 8 rfl (st_store tok rfl rfl rfl rfl rfl (by (repeat (first | with_reducible apply Upd.here | with_reducible apply Upd.there | with_reducible apply Upd.append_left))) (by rfl)) (by decide +kernel) (qs := []) (by decide +kernel) ?_)
      rintro _ _ _ ⟨rfl, rfl, rfl⟩
      refine ⟨trivial, ?_⟩
      refine pr_one 9 (by decide +kernel) (eff0 9 rfl (st_store tok rfl rfl rfl rfl rfl (by (repeat (first | with_reducible apply Upd.here | with_reducible apply Upd.there | with_reducible apply Upd.append_left))) (by rfl)) (by decide +kernel) (qs := []) (by decide +kernel) ?_)
      rintro _ _ _ ⟨rfl, rfl, rfl⟩
      refine ⟨trivial, ?_⟩
      refine pr_end (by decide +kernel) (by decide +kernel) ?_
      exact hfin _ _ _ _ _ _ _ _ hA' hP'
  · rintro D M2 _ hM2 ⟨_, va, vp, NA, NP, hA, hP, rfl⟩
    obtain ⟨aa, ca, rfl⟩ := os_slice hA
    obtain ⟨ap, cp, rfl⟩ := os_slice hP
    refine run_inBlock ?_
    refine run_seq ?_
    refine run_draw mixed ?_
    refine pr_q 0 (by decide +kernel) rfl (qt_ld tok rfl (by (repeat (first | with_reducible apply List.mem_cons_self | with_reducible assumption | with_reducible apply List.mem_cons_of_mem | with_reducible apply List.mem_append_right))) (by rfl)) rfl rfl rfl ?_
    refine pr_q 1 (by decide +kernel) rfl (qt_ld tok rfl (by (repeat (first | with_reducible apply List.mem_cons_self | with_reducible assumption | with_reducible apply List.mem_cons_of_mem | with_reducible apply List.mem_append_right))) (by rfl)) rfl rfl rfl ?_
    refine pr_one 2 (by decide +kernel) (eff0 2 rfl (st_store tok rfl rfl rfl rfl rfl (by (repeat (first | with_reducible apply Upd.here | with_reducible apply Upd.there | with_reducible apply Upd.append_left))) (by rfl)) (by decide +kernel) (qs := [1]) (by decide +kernel) ?_)
    rintro _ _ _ ⟨rfl, rfl, rfl⟩
    refine ⟨by (repeat (first | exact trivial | refine And.intro (pend_q rfl rfl rfl (qt_pev tok rfl)) ?_ | refine And.intro (pend_q rfl rfl rfl (qt_ld tok rfl (by (repeat (first | with_reducible apply List.mem_cons_self | with_reducible assumption | with_reducible apply List.mem_cons_of_mem | with_reducible apply List.mem_append_right))) (by rfl))) ?_)), ?_⟩
    refine pr_one 3 (by decide +kernel) (eff0 3 rfl (st_store tok rfl rfl rfl rfl rfl (by (repeat (first | with_reducible apply Upd.here | with_reducible apply Upd.there | with_reducible apply Upd.append_left))) (by rfl)) (by decide +kernel) (qs := []) (by decide +kernel) ?_)
    rintro _ _ _ ⟨rfl, rfl, rfl⟩
    refine ⟨trivial, ?_⟩
    refine pr_end (by decide +kernel) (by decide +kernel) ?_
    refine run_ret1E hC (by (repeat (first | with_reducible apply Upd.here | with_reducible apply Upd.there | with_reducible apply Upd.append_left))) (rs := [.cell 4 39, .cell 5 40]) rfl (resL tok rfl (by (repeat (first | with_reducible apply List.mem_cons_self | with_reducible assumption | with_reducible apply List.mem_cons_of_mem | with_reducible apply List.mem_append_right))) (by rfl) (resL tok rfl (by (repeat (first | with_reducible apply List.mem_cons_self | with_reducible assumption | with_reducible apply List.mem_cons_of_mem | with_reducible apply List.mem_append_right))) (by rfl) resN)) fun w hw => ?_
    simp only [List.length_map] at *
    rw [List.take_of_length_le (Nat.le_refl _)] at hA hP
    obtain ⟨M3, a1, c1, h1, h2, h3, h4⟩ := hw.drop.freezeOS (ls := T.map fun p => acC p.2) (by simpa [acF, Function.comp_def] using hA) (by simp) (by intro l hl; obtain ⟨_, _, rfl⟩ := List.mem_map.1 hl; rfl)
    obtain ⟨M4, a2, c2, h5, h6, h7, h8⟩ := h2.freezeOS (ls := T.map fun p => [.int .i64 (p.1 : Int)]) (by simpa [inF, Function.comp_def] using hP) (by simp) (by intro l hl; obtain ⟨_, _, rfl⟩ := List.mem_map.1 hl; rfl)
    cases h3
    cases h7
    exact ⟨M4, L, h6.drop.drop, Mem.le_trans hM1 (Mem.le_trans hM2 (Mem.le_trans h1 h5)), rfl, _, _, _, _, rfl, h4.le h5, h8⟩
  · rintro _ _ _ _ _ _ h; exact h.elim
end Go.Proofs.Ytcolmljidbbbbaa
