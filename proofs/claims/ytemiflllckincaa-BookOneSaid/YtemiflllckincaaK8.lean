import Derived.Test.YtemiflllckincaaK7
namespace Go.Proofs.Ytemiflllckincaa
open Go.Chi

theorem runL_frzOS {P : Program} {C : Cx} {n : Nat} {k : List Item} {ds : List Deferred} {σ : Env} {δ : Den} {ops : Array Oper} {l : List Oper} {M : Mem} {L N : HL} {e size m ca : Nat} {aa : Option Addr} {ls : List (List Value)} (ho : OS e size (.slice aa m ca) m ls.flatten N) (hl : ls.length = m) (hsz : ∀ x ∈ ls, x.length = size)
    (h : ∀ M', M.le M' → SlM M' size aa m ls → RunL P C n ops l k ds σ δ M' L) : RunL P C n ops l k ds σ δ M (N ++ L) :=
  fun a w idx h1 h2 h3 h4 h5 => by
    obtain ⟨M', a', c', h6, h7, h8, h9⟩ := h4.freezeOS ho hl hsz
    cases h8
    exact h M' h6 h9 a w idx h1 h2 h3 h7 h5

/-! ### what a record says, wherever its lists lie -/
structure Re where
  kind : Int
  epoch : Int
  txn : Tx
  yes : Bool
  auditor : Int
  mem : List Mb
  tags : List ByteArray
  body : ByteArray
def _root_.Go.Chi.Rc.re (r : Rc) : Re := ⟨r.kind, r.epoch, r.txn, r.yes, r.auditor, r.mem.xs, r.tags.xs, r.body⟩
def lenOk (r : Rc) : Prop := r.mem.xs.length = r.mem.len ∧ r.tags.xs.length = r.tags.len
theorem RcOk.lens {M : Mem} {r : Rc} (h : RcOk M r) : lenOk r := ⟨h.mem.len, h.tags.len⟩
theorem fullR_re {r r' : Rc} (h : r.re = r'.re) : fullR r = fullR r' := by
  simp only [Rc.re, Re.mk.injEq] at h
  simp only [fullR, h]
theorem bare_re {r r' : Rc} (h : r.re = r'.re) : (bareR r).re = (bareR r').re := by
  have hf := fullR_re h
  simp only [Rc.re, Re.mk.injEq] at h
  obtain ⟨h1, h2, h3, h4, h5, h6, h7, h8⟩ := h
  unfold bareR
  rw [h1, h4, hf]
  split
  · simp only [Rc.re, h2]
  · simp only [Rc.re, h3, h5, h8]
    congr 1
    · split <;> simp [h6]
    · split <;> simp [h7]
theorem same_re {a a' b b' : Rc} (h : a.re = a'.re) (h' : b.re = b'.re) : sameRc a b = sameRc a' b' := by
  simp only [Rc.re, Re.mk.injEq] at h h'
  simp only [sameRc, h, h']
theorem recE_re {r r' : Rc} (h : r.re = r'.re) (hl : lenOk r) (hl' : lenOk r') : recE r = recE r' := by
  have hA : cA r = cA r' := by
    unfold cA
    rw [same_re h (bare_re h)]
    simp only [Rc.re, Re.mk.injEq] at h
    rw [h.1]
  have hf := fullR_re h
  have hlm : r.mem.len = r'.mem.len := by
    rw [← hl.1, ← hl'.1]; simp only [Rc.re, Re.mk.injEq] at h; rw [h.2.2.2.2.2.1]
  have hlt : r.tags.len = r'.tags.len := by
    rw [← hl.2, ← hl'.2]; simp only [Rc.re, Re.mk.injEq] at h; rw [h.2.2.2.2.2.2.1]
  simp only [Rc.re, Re.mk.injEq] at h
  obtain ⟨h1, h2, h3, h4, h5, h6, h7, h8⟩ := h
  have hB : cB r = cB r' := by unfold cB; rw [h1, h2]
  have hC : cC r = cC r' := by unfold cC; rw [h1, h3]
  have hD : cD r = cD r' := by unfold cD; rw [hf, h5, h3, h6]
  have hT : tagN r = tagN r' := by unfold tagN; rw [h1, hlm]
  have hE : cE r = cE r' := by unfold cE; rw [hT, hlt, h7]
  have hF : cF r = cF r' := by unfold cF; rw [h1, h8]
  unfold recE
  rw [hA, hB, hC, hD, hE, hF]
theorem doA_re {r r' : Rc} (h : r.re = r'.re) (x : Ra) : doA x r = doA x r' := by
  simp only [Rc.re, Re.mk.injEq] at h
  obtain ⟨h1, h2, h3, h4, h5, h6, h7, h8⟩ := h
  simp only [doA, voteA, decideA, learnA, h1, h4, h5, h6, h7, h8]
theorem writeA_re {r r' : Rc} (h : r.re = r'.re) (hl : lenOk r) (hl' : lenOk r') (b : BkA) : writeA b r = writeA b r' := by
  have hE := recE_re h hl hl'
  have hd := fun x => doA_re h x
  simp only [Rc.re, Re.mk.injEq] at h
  obtain ⟨h1, h2, h3, h4, h5, h6, h7, h8⟩ := h
  simp only [writeA, hE, hd, h1, h2, h3, h4]
/-- the book of records -/
def ofGo (b : BkA) (k : Nat) : List Rc → BkA × Nat × Int
  | [] => (b, k, 0)
  | r :: l => if (writeA b r).2 ≠ 0 then ((0, []), k, (writeA b r).2) else ofGo (writeA b r).1 (k + 1) l
def ofA (l : List Rc) : BkA × Nat × Int := ofGo (0, []) 0 l
theorem ofGo_re : ∀ {l l' : List Rc} (b : BkA) (k : Nat), l.map Rc.re = l'.map Rc.re → (∀ r ∈ l, lenOk r) → (∀ r ∈ l', lenOk r) → ofGo b k l = ofGo b k l'
  | [], [], _, _, _, _, _ => rfl
  | [], _ :: _, _, _, h, _, _ => by simp at h
  | _ :: _, [], _, _, h, _, _ => by simp at h
  | r :: l, r' :: l', b, k, h, hl, hl' => by
    simp only [List.map_cons, List.cons.injEq] at h
    have hw := writeA_re h.1 (hl r (by simp)) (hl' r' (by simp)) b
    rw [ofGo, ofGo, hw, ofGo_re _ _ h.2 (fun x hx => hl x (by simp [hx])) (fun x hx => hl' x (by simp [hx]))]
theorem writeA_len (b : BkA) (r : Rc) : (writeA b r).1.2.length ≤ b.2.length + 1 := by
  unfold writeA
  repeat' split
  all_goals try exact Nat.zero_le _
  all_goals try exact Nat.le_succ _
  have := (posA_lt r.txn b.2).2
  simpa using this

/-! ### records whose lists are their own -/
def RcIn (M : Mem) (r : Rc) : Prop := r.mem.Ok M ∧ r.tags.Ok M
set_option maxHeartbeats 4000000 in
theorem Own_ok (M : Mem) (L : HL) (r : Rc) (hr : RcOk M r) : Tr Try.prog 15 [.agg ⟨rcC r⟩] M L (fun v M' L' => M.le M' ∧ L = L' ∧ ∃ r' : Rc, v = .agg ⟨rcC r'⟩ ∧ r'.re = r.re ∧ RcOk M' r') := by
  have hml := hr.mem.len
  have htl := hr.tags.len
  have hm6 := hr.mem.2
  have ht6 := hr.tags.2
  have hms : SlM M 2 r.mem.a r.mem.len (r.mem.xs.map mbC) := hr.mem.1
  have hts : SlM M 1 r.tags.a r.tags.len (r.tags.xs.map stC) := hr.tags.1
  refine Tr.intro 12 Try.func15 rfl rfl Try.call15 rfl ?_
  intro C hC hro
  repeat (first | with_reducible refine run_seq ?_ | with_reducible refine run_region ?_ | with_reducible refine runL_nil ?_ | with_reducible refine run_skip ?_ | with_reducible refine run_block ?_ | with_reducible refine run_inBlock ?_ | refine run_exit rfl ?_ | refine runL_q (qt_pev tok rfl) rfl rfl rfl ?_ | refine runL_g rfl rfl (qt_pev tok rfl) rfl rfl rfl rfl rfl ?_ | refine runL_q (qt_ld tok rfl (by (repeat (first | with_reducible apply List.mem_cons_self | with_reducible assumption | with_reducible apply List.mem_cons_of_mem | with_reducible apply List.mem_append_right))) (by rfl)) rfl rfl rfl ?_ | refine runL_g rfl rfl (qt_ld tok rfl (by (repeat (first | with_reducible apply List.mem_cons_self | with_reducible assumption | with_reducible apply List.mem_cons_of_mem | with_reducible apply List.mem_append_right))) (by rfl)) rfl rfl rfl rfl rfl ?_ | (refine runL_op0 (st_store tok rfl rfl rfl rfl rfl (by (repeat (first | with_reducible apply Upd.here | with_reducible apply Upd.there | with_reducible apply Upd.append_left))) (by rfl)) ?_; rintro _ _ _ ⟨rfl, rfl, rfl⟩) | (refine runL_op (st_box rfl) rfl rfl rfl ?_; rintro _ _ _ ⟨_, rfl, rfl, rfl⟩) | (refine runL_op (st_alloc tok rfl) rfl rfl rfl ?_; rintro _ _ _ ⟨_, rfl, rfl, rfl⟩) | (refine runL_op (st_buildSlice tok rfl rfl rfl rfl rfl rfl rfl) rfl rfl rfl ?_; rintro _ _ _ ⟨_, rfl, rfl, rfl⟩))
  rename_i b1 b2
  refine runL_op (st_appendG (xs := []) (n := 0) (m := r.mem.len) tok rfl rfl rfl rfl rfl rfl rfl rfl (N := []) (List.Perm.refl _) (OS.nil _ _) (SrcG.ofSlM hms) (flat_one mbC_one _) (by omega) (by omega)) rfl rfl rfl ?_
  rintro va _ _ ⟨N1, rfl, rfl, hO1⟩
  simp only [Nat.zero_add, List.nil_append] at hO1
  obtain ⟨aa, ca, rfl⟩ := os_slice hO1
  refine runL_frzOS hO1 (by simpa using hml) (mbC_all _) ?_
  intro M1 hM1 hs1
  repeat (first | with_reducible refine run_seq ?_ | with_reducible refine run_region ?_ | with_reducible refine runL_nil ?_ | with_reducible refine run_skip ?_ | with_reducible refine run_block ?_ | with_reducible refine run_inBlock ?_ | refine run_exit rfl ?_ | refine runL_q (qt_pev tok rfl) rfl rfl rfl ?_ | refine runL_g rfl rfl (qt_pev tok rfl) rfl rfl rfl rfl rfl ?_ | refine runL_q (qt_ld tok rfl (by (repeat (first | with_reducible apply List.mem_cons_self | with_reducible assumption | with_reducible apply List.mem_cons_of_mem | with_reducible apply List.mem_append_right))) (by rfl)) rfl rfl rfl ?_ | refine runL_g rfl rfl (qt_ld tok rfl (by (repeat (first | with_reducible apply List.mem_cons_self | with_reducible assumption | with_reducible apply List.mem_cons_of_mem | with_reducible apply List.mem_append_right))) (by rfl)) rfl rfl rfl rfl rfl ?_ | (refine runL_op0 (st_store tok rfl rfl rfl rfl rfl (by (repeat (first | with_reducible apply Upd.here | with_reducible apply Upd.there | with_reducible apply Upd.append_left))) (by rfl)) ?_; rintro _ _ _ ⟨rfl, rfl, rfl⟩) | (refine runL_op (st_box rfl) rfl rfl rfl ?_; rintro _ _ _ ⟨_, rfl, rfl, rfl⟩) | (refine runL_op (st_alloc tok rfl) rfl rfl rfl ?_; rintro _ _ _ ⟨_, rfl, rfl, rfl⟩) | (refine runL_op (st_buildSlice tok rfl rfl rfl rfl rfl rfl rfl) rfl rfl rfl ?_; rintro _ _ _ ⟨_, rfl, rfl, rfl⟩))
  refine runL_op (st_appendG (xs := []) (n := 0) (m := r.tags.len) tok rfl rfl rfl rfl rfl rfl rfl rfl (N := []) (List.Perm.refl _) (OS.nil _ _) (SrcG.ofSlM (hts.le hM1)) (flat_one stC_one _) (by omega) (by omega)) rfl rfl rfl ?_
  rintro va2 _ _ ⟨N2, rfl, rfl, hO2⟩
  simp only [Nat.zero_add, List.nil_append] at hO2
  obtain ⟨aa2, ca2, rfl⟩ := os_slice hO2
  refine runL_frzOS hO2 (by simpa using htl) (stC_all _) ?_
  intro M2 hM2 hs2
  repeat (first | with_reducible refine run_seq ?_ | with_reducible refine run_region ?_ | with_reducible refine runL_nil ?_ | with_reducible refine run_skip ?_ | with_reducible refine run_block ?_ | with_reducible refine run_inBlock ?_ | refine run_exit rfl ?_ | refine runL_q (qt_pev tok rfl) rfl rfl rfl ?_ | refine runL_g rfl rfl (qt_pev tok rfl) rfl rfl rfl rfl rfl ?_ | refine runL_q (qt_ld tok rfl (by (repeat (first | with_reducible apply List.mem_cons_self | with_reducible assumption | with_reducible apply List.mem_cons_of_mem | with_reducible apply List.mem_append_right))) (by rfl)) rfl rfl rfl ?_ | refine runL_g rfl rfl (qt_ld tok rfl (by (repeat (first | with_reducible apply List.mem_cons_self | with_reducible assumption | with_reducible apply List.mem_cons_of_mem | with_reducible apply List.mem_append_right))) (by rfl)) rfl rfl rfl rfl rfl ?_ | (refine runL_op0 (st_store tok rfl rfl rfl rfl rfl (by (repeat (first | with_reducible apply Upd.here | with_reducible apply Upd.there | with_reducible apply Upd.append_left))) (by rfl)) ?_; rintro _ _ _ ⟨rfl, rfl, rfl⟩) | (refine runL_op (st_box rfl) rfl rfl rfl ?_; rintro _ _ _ ⟨_, rfl, rfl, rfl⟩) | (refine runL_op (st_alloc tok rfl) rfl rfl rfl ?_; rintro _ _ _ ⟨_, rfl, rfl, rfl⟩) | (refine runL_op (st_buildSlice tok rfl rfl rfl rfl rfl rfl rfl) rfl rfl rfl ?_; rintro _ _ _ ⟨_, rfl, rfl, rfl⟩))
  exact run_ret hC (rs := [.cell 2 37]) rfl (resL tok rfl (by (repeat (first | with_reducible apply List.mem_cons_self | with_reducible assumption | with_reducible apply List.mem_cons_of_mem | with_reducible apply List.mem_append_right))) (by rfl) resN) (fun _ h => h.drop.drop) ⟨Mem.le_trans hM1 hM2, rfl, { r with mem := ⟨aa, r.mem.len, ca, r.mem.xs⟩, tags := ⟨aa2, r.tags.len, ca2, r.tags.xs⟩ }, rfl, rfl, ⟨⟨hs1.le hM2, hm6⟩, ⟨hs2, ht6⟩, hr.dig, hr.tag, hr.body⟩⟩
theorem rcC_one (r : Rc) : ∀ u ∈ rcC r, u.oneCell' = true := by
  intro u hu
  simp only [rcC, List.mem_cons, List.not_mem_nil, or_false] at hu
  rcases hu with rfl | rfl | rfl | rfl | rfl | rfl | rfl | rfl | rfl | rfl <;> rfl
theorem rcC_all (xs : List Rc) : ∀ l ∈ xs.map rcC, l.length = 10 := by intro l hl; obtain ⟨p, _, rfl⟩ := List.mem_map.1 hl; rfl
/-- a row of records -/
structure RsM (M : Mem) (a : Option Addr) (rs : List Rc) : Prop where
  sl : SlM M 10 a rs.length (rs.map rcC)
  ok : ∀ r ∈ rs, RcOk M r
  len : rs.length < 800000
theorem RsM.le {M M' : Mem} {a : Option Addr} {rs : List Rc} (h : RsM M a rs) (hm : M.le M') : RsM M' a rs := ⟨h.sl.le hm, fun r hr => (h.ok r hr).le hm, h.len⟩
set_option maxHeartbeats 8000000 in
theorem ownL_ok (M : Mem) (L : HL) (a : Option Addr) (c : Nat) (rs : List Rc) (h : RsM M a rs) : Tr Try.prog 8 [.slice a rs.length c] M L (fun v M' L' => M.le M' ∧ L = L' ∧ ∃ a' c' rs', v = .slice a' rs'.length c' ∧ RsM M' a' rs' ∧ rs'.map Rc.re = rs.map Rc.re) := by
  have hlen := h.len
  refine Tr.intro 20 Try.func8 rfl rfl Try.call8 rfl ?_
  intro C hC hro
  repeat (first | with_reducible refine run_seq ?_ | with_reducible refine run_region ?_ | with_reducible refine runL_nil ?_ | with_reducible refine run_skip ?_ | with_reducible refine run_block ?_ | with_reducible refine run_inBlock ?_ | refine run_exit rfl ?_ | refine runL_q (qt_pev tok rfl) rfl rfl rfl ?_ | refine runL_g rfl rfl (qt_pev tok rfl) rfl rfl rfl rfl rfl ?_ | refine runL_q (qt_ld tok rfl (by (repeat (first | with_reducible apply List.mem_cons_self | with_reducible assumption | with_reducible apply List.mem_cons_of_mem | with_reducible apply List.mem_append_right))) (by rfl)) rfl rfl rfl ?_ | refine runL_g rfl rfl (qt_ld tok rfl (by (repeat (first | with_reducible apply List.mem_cons_self | with_reducible assumption | with_reducible apply List.mem_cons_of_mem | with_reducible apply List.mem_append_right))) (by rfl)) rfl rfl rfl rfl rfl ?_ | (refine runL_op0 (st_store tok rfl rfl rfl rfl rfl (by (repeat (first | with_reducible apply Upd.here | with_reducible apply Upd.there | with_reducible apply Upd.append_left))) (by rfl)) ?_; rintro _ _ _ ⟨rfl, rfl, rfl⟩) | (refine runL_op (st_box rfl) rfl rfl rfl ?_; rintro _ _ _ ⟨_, rfl, rfl, rfl⟩) | (refine runL_op (st_alloc tok rfl) rfl rfl rfl ?_; rintro _ _ _ ⟨_, rfl, rfl, rfl⟩) | (refine runL_op (st_buildSlice tok rfl rfl rfl rfl rfl rfl rfl) rfl rfl rfl ?_; rintro _ _ _ ⟨_, rfl, rfl, rfl⟩))
  refine run_loopN (fun j σ1 M1 L1 => j ≤ rs.length ∧ M.le M1 ∧ ∃ rs' v N, rs'.length = j ∧ rs'.map Rc.re = (rs.take j).map Rc.re ∧ (∀ r ∈ rs', RcOk M1 r) ∧ OS 37 10 v j (rs'.map rcC).flatten N ∧ L1 = N ++ L ∧ σ1 = [(4, .int .i64 (j : Int)), (3, v), (0, .slice a rs.length c)]) rs.length [(4, .int .i64 ((0 : Nat) : Int)), (3, .slice none 0 0), (0, .slice a rs.length c)] ?_ ⟨Nat.zero_le _, Mem.le_refl _, [], _, [], rfl, by simp, (fun r hr => by cases hr), OS.nil _ _, rfl, rfl⟩ (fun j _ _ _ h => h.1) ?_
  · exact ⟨rfl, rfl, rfl, trivial⟩
  rintro j _ M1 _ ⟨hj, hM1, rs', v, N, hl', hre, hok, hO, rfl, rfl⟩ hnext
  obtain ⟨va, vc, rfl⟩ := os_slice hO
  repeat (first | with_reducible refine run_seq ?_ | with_reducible refine run_region ?_ | with_reducible refine runL_nil ?_ | with_reducible refine run_skip ?_ | with_reducible refine run_block ?_ | with_reducible refine run_inBlock ?_ | refine run_exit rfl ?_ | refine runL_q (qt_pev tok rfl) rfl rfl rfl ?_ | refine runL_g rfl rfl (qt_pev tok rfl) rfl rfl rfl rfl rfl ?_ | refine runL_q (qt_ld tok rfl (by (repeat (first | with_reducible apply List.mem_cons_self | with_reducible assumption | with_reducible apply List.mem_cons_of_mem | with_reducible apply List.mem_append_right))) (by rfl)) rfl rfl rfl ?_ | refine runL_g rfl rfl (qt_ld tok rfl (by (repeat (first | with_reducible apply List.mem_cons_self | with_reducible assumption | with_reducible apply List.mem_cons_of_mem | with_reducible apply List.mem_append_right))) (by rfl)) rfl rfl rfl rfl rfl ?_ | (refine runL_op0 (st_store tok rfl rfl rfl rfl rfl (by (repeat (first | with_reducible apply Upd.here | with_reducible apply Upd.there | with_reducible apply Upd.append_left))) (by rfl)) ?_; rintro _ _ _ ⟨rfl, rfl, rfl⟩) | (refine runL_op (st_box rfl) rfl rfl rfl ?_; rintro _ _ _ ⟨_, rfl, rfl, rfl⟩) | (refine runL_op (st_alloc tok rfl) rfl rfl rfl ?_; rintro _ _ _ ⟨_, rfl, rfl, rfl⟩) | (refine runL_op (st_buildSlice tok rfl rfl rfl rfl rfl rfl rfl) rfl rfl rfl ?_; rintro _ _ _ ⟨_, rfl, rfl, rfl⟩))
  refine run_cond rfl (fun h1 => ?_) (fun h1 => ?_)
  · have hlt : j < rs.length := by simpa using h1
    obtain ⟨b, off, cc, rfl, hcc, _, hc⟩ := (h.sl.le hM1).at_ hlt
    obtain ⟨y, hy, rfl⟩ : ∃ y, rs[j]? = some y ∧ rcC y = cc := by simpa using hcc
    have hyo := (h.ok y (List.mem_of_getElem? hy)).le hM1
    repeat (first | with_reducible refine run_seq ?_ | with_reducible refine run_region ?_ | with_reducible refine runL_nil ?_ | with_reducible refine run_skip ?_ | with_reducible refine run_block ?_ | with_reducible refine run_inBlock ?_ | refine run_exit rfl ?_ | refine runL_q (qt_pev tok rfl) rfl rfl rfl ?_ | refine runL_g rfl rfl (qt_pev tok rfl) rfl rfl rfl rfl rfl ?_ | refine runL_q (qt_ld tok rfl (by (repeat (first | with_reducible apply List.mem_cons_self | with_reducible assumption | with_reducible apply List.mem_cons_of_mem | with_reducible apply List.mem_append_right))) (by rfl)) rfl rfl rfl ?_ | refine runL_g rfl rfl (qt_ld tok rfl (by (repeat (first | with_reducible apply List.mem_cons_self | with_reducible assumption | with_reducible apply List.mem_cons_of_mem | with_reducible apply List.mem_append_right))) (by rfl)) rfl rfl rfl rfl rfl ?_ | (refine runL_op0 (st_store tok rfl rfl rfl rfl rfl (by (repeat (first | with_reducible apply Upd.here | with_reducible apply Upd.there | with_reducible apply Upd.append_left))) (by rfl)) ?_; rintro _ _ _ ⟨rfl, rfl, rfl⟩) | (refine runL_op (st_box rfl) rfl rfl rfl ?_; rintro _ _ _ ⟨_, rfl, rfl, rfl⟩) | (refine runL_op (st_alloc tok rfl) rfl rfl rfl ?_; rintro _ _ _ ⟨_, rfl, rfl, rfl⟩) | (refine runL_op (st_buildSlice tok rfl rfl rfl rfl rfl rfl rfl) rfl rfl rfl ?_; rintro _ _ _ ⟨_, rfl, rfl, rfl⟩) | refine runL_q (qt_indexN tok rfl rfl rfl rfl (fun _ => by omega)) rfl rfl rfl ?_ | refine runL_g rfl rfl (qt_indexN tok rfl rfl rfl rfl (fun _ => by omega)) rfl rfl rfl rfl rfl ?_ | refine runL_q (qt_ldM tok rfl hc rfl) rfl rfl rfl ?_ | refine runL_g rfl rfl (qt_ldM tok rfl hc rfl) rfl rfl rfl rfl rfl ?_ | refine runL_q (qt_ldM0 tok rfl hc rfl) rfl rfl rfl ?_ | refine runL_g rfl rfl (qt_ldM0 tok rfl hc rfl) rfl rfl rfl rfl rfl ?_ | (refine runL_op (st_callF rfl (fun _ => Own_ok _ _ y hyo)) rfl rfl rfl ?_; rintro _ M2 _ ⟨hM2, rfl, r', rfl, hre', hok'⟩))
    rename_i bs
    refine runL_op (st_append (news := rcC r') tok rfl rfl rfl rfl rfl rfl rfl rfl (pm1 _ N _) hO (.inr ⟨bs, 0, 1, rfl, cellsAll List.mem_cons_self, rfl⟩) (rcC_one _) (by omega) (by omega)) rfl rfl rfl ?_
    rintro va' _ _ ⟨N', rfl, rfl, hO'⟩
    repeat (first | with_reducible refine run_seq ?_ | with_reducible refine run_region ?_ | with_reducible refine runL_nil ?_ | with_reducible refine run_skip ?_ | with_reducible refine run_block ?_ | with_reducible refine run_inBlock ?_ | refine run_exit rfl ?_ | refine runL_q (qt_pev tok rfl) rfl rfl rfl ?_ | refine runL_g rfl rfl (qt_pev tok rfl) rfl rfl rfl rfl rfl ?_ | refine runL_q (qt_ld tok rfl (by (repeat (first | with_reducible apply List.mem_cons_self | with_reducible assumption | with_reducible apply List.mem_cons_of_mem | with_reducible apply List.mem_append_right))) (by rfl)) rfl rfl rfl ?_ | refine runL_g rfl rfl (qt_ld tok rfl (by (repeat (first | with_reducible apply List.mem_cons_self | with_reducible assumption | with_reducible apply List.mem_cons_of_mem | with_reducible apply List.mem_append_right))) (by rfl)) rfl rfl rfl rfl rfl ?_ | (refine runL_op0 (st_store tok rfl rfl rfl rfl rfl (by (repeat (first | with_reducible apply Upd.here | with_reducible apply Upd.there | with_reducible apply Upd.append_left))) (by rfl)) ?_; rintro _ _ _ ⟨rfl, rfl, rfl⟩) | (refine runL_op (st_box rfl) rfl rfl rfl ?_; rintro _ _ _ ⟨_, rfl, rfl, rfl⟩) | (refine runL_op (st_alloc tok rfl) rfl rfl rfl ?_; rintro _ _ _ ⟨_, rfl, rfl, rfl⟩) | (refine runL_op (st_buildSlice tok rfl rfl rfl rfl rfl rfl rfl) rfl rfl rfl ?_; rintro _ _ _ ⟨_, rfl, rfl, rfl⟩))
    refine run_mem (fun w h => (h.perm (pm1 _ N' _).symm).drop) (run_sub' (hnext _ _ _ ⟨hlt, Mem.le_trans hM1 hM2, rs' ++ [r'], va', N', by simp [hl'], ?_, ?_, ?_, rfl, rfl⟩) ⟨lk_succ rfl (by omega), rfl, rfl, trivial⟩)
    · rw [take_snoc hy, List.map_append, List.map_append, hre]; simp [hre']
    · intro r hr
      rcases List.mem_append.1 hr with hr | hr
      · exact (hok r hr).le hM2
      · simp at hr; subst hr; exact hok'
    · rw [List.map_append, List.flatten_append]
      have : ([r'].map rcC).flatten = rcC r' := by simp
      rw [this]; exact hO'
  · have hge : j = rs.length := by simp at h1; omega
    rw [hge, List.take_of_length_le (Nat.le_refl _)] at hre
    repeat (first | with_reducible refine run_seq ?_ | with_reducible refine run_region ?_ | with_reducible refine runL_nil ?_ | with_reducible refine run_skip ?_ | with_reducible refine run_block ?_ | with_reducible refine run_inBlock ?_ | refine run_exit rfl ?_ | refine runL_q (qt_pev tok rfl) rfl rfl rfl ?_ | refine runL_g rfl rfl (qt_pev tok rfl) rfl rfl rfl rfl rfl ?_ | refine runL_q (qt_ld tok rfl (by (repeat (first | with_reducible apply List.mem_cons_self | with_reducible assumption | with_reducible apply List.mem_cons_of_mem | with_reducible apply List.mem_append_right))) (by rfl)) rfl rfl rfl ?_ | refine runL_g rfl rfl (qt_ld tok rfl (by (repeat (first | with_reducible apply List.mem_cons_self | with_reducible assumption | with_reducible apply List.mem_cons_of_mem | with_reducible apply List.mem_append_right))) (by rfl)) rfl rfl rfl rfl rfl ?_ | (refine runL_op0 (st_store tok rfl rfl rfl rfl rfl (by (repeat (first | with_reducible apply Upd.here | with_reducible apply Upd.there | with_reducible apply Upd.append_left))) (by rfl)) ?_; rintro _ _ _ ⟨rfl, rfl, rfl⟩) | (refine runL_op (st_box rfl) rfl rfl rfl ?_; rintro _ _ _ ⟨_, rfl, rfl, rfl⟩) | (refine runL_op (st_alloc tok rfl) rfl rfl rfl ?_; rintro _ _ _ ⟨_, rfl, rfl, rfl⟩) | (refine runL_op (st_buildSlice tok rfl rfl rfl rfl rfl rfl rfl) rfl rfl rfl ?_; rintro _ _ _ ⟨_, rfl, rfl, rfl⟩))
    refine run_retE hC (rs := [.tmp 2]) rfl (resT rfl resN) fun w hw => ?_
    obtain ⟨M2, a', c', h5, h6, h7, h8⟩ := hw.freezeOS (ls := rs'.map rcC) hO (by simpa using hl') (rcC_all _)
    cases h7
    rw [← hl'] at h8
    exact ⟨M2, L, h6, Mem.le_trans hM1 h5, rfl, va, vc, rs', by rw [hl']; rfl, ⟨h8, fun r hr => (hok r hr).le h5, by omega⟩, hre⟩

/-! ### the book of records -/
def OfK (M : Mem) (L : HL) (rs : List Rc) : Value → Mem → HL → Prop :=
  fun v M' L' => M.le M' ∧ L = L' ∧ ∃ ep a' c' rows, v = .tuple ⟨[bkV ep (.slice a' rows.length c'), .int .i64 ((ofA rs).2.1 : Int), .int .i64 (ofA rs).2.2]⟩ ∧ BkM M' a' c' rows ∧ (ep, rows.map Rw.abs) = (ofA rs).1 ∧ rows.length ≤ rs.length
set_option maxHeartbeats 8000000 in
theorem of_ok (M : Mem) (L : HL) (a : Option Addr) (c : Nat) (rs : List Rc) (h : RsM M a rs) : Tr Try.prog 7 [.slice a rs.length c] M L (OfK M L rs) := by
  have hlen := h.len
  refine Tr.intro 29 Try.func7 rfl rfl Try.call7 rfl ?_
  intro C hC hro
  repeat (first | with_reducible refine run_seq ?_ | with_reducible refine run_region ?_ | with_reducible refine runL_nil ?_ | with_reducible refine run_skip ?_ | with_reducible refine run_block ?_ | with_reducible refine run_inBlock ?_ | refine run_exit rfl ?_ | refine runL_q (qt_pev tok rfl) rfl rfl rfl ?_ | refine runL_g rfl rfl (qt_pev tok rfl) rfl rfl rfl rfl rfl ?_ | refine runL_q (qt_ld tok rfl (by (repeat (first | with_reducible apply List.mem_cons_self | with_reducible assumption | with_reducible apply List.mem_cons_of_mem | with_reducible apply List.mem_append_right))) (by rfl)) rfl rfl rfl ?_ | refine runL_g rfl rfl (qt_ld tok rfl (by (repeat (first | with_reducible apply List.mem_cons_self | with_reducible assumption | with_reducible apply List.mem_cons_of_mem | with_reducible apply List.mem_append_right))) (by rfl)) rfl rfl rfl rfl rfl ?_ | (refine runL_op0 (st_store tok rfl rfl rfl rfl rfl (by (repeat (first | with_reducible apply Upd.here | with_reducible apply Upd.there | with_reducible apply Upd.append_left))) (by rfl)) ?_; rintro _ _ _ ⟨rfl, rfl, rfl⟩) | (refine runL_op (st_box rfl) rfl rfl rfl ?_; rintro _ _ _ ⟨_, rfl, rfl, rfl⟩) | (refine runL_op (st_alloc tok rfl) rfl rfl rfl ?_; rintro _ _ _ ⟨_, rfl, rfl, rfl⟩) | (refine runL_op (st_buildSlice tok rfl rfl rfl rfl rfl rfl rfl) rfl rfl rfl ?_; rintro _ _ _ ⟨_, rfl, rfl, rfl⟩))
  rename_i b2
  refine run_loopN (fun j σ1 M1 L1 => j ≤ rs.length ∧ M.le M1 ∧ ∃ ep a' c' rows, BkM M1 a' c' rows ∧ rows.length ≤ j ∧ ofGo (ep, rows.map Rw.abs) j (rs.drop j) = ofA rs ∧ L1 = (b2, .cells ⟨[.int .i64 ep, .slice a' rows.length c']⟩ 29 (0, 0)) :: L ∧ σ1 = [(9, .int .i64 (j : Int)), (8, .int .i64 (rs.length : Int)), (7, .slice a rs.length c), (0, .slice a rs.length c), (2, .pointer (some ⟨b2, 0, none⟩))]) rs.length [(9, .int .i64 ((0 : Nat) : Int)), (8, .int .i64 (rs.length : Int)), (7, .slice a rs.length c), (0, .slice a rs.length c), (2, .pointer (some ⟨b2, 0, none⟩))] ?_ ⟨Nat.zero_le _, Mem.le_refl _, 0, none, 0, [], BkM.nil _, Nat.le_refl _, rfl, rfl, rfl⟩ (fun j _ _ _ h => h.1) ?_
  · exact ⟨rfl, rfl, rfl, rfl, rfl, trivial⟩
  rintro j _ M1 _ ⟨hj, hM1, ep, a', c', rows, hb, hrl, hgo, rfl, rfl⟩ hnext
  repeat (first | with_reducible refine run_seq ?_ | with_reducible refine run_region ?_ | with_reducible refine runL_nil ?_ | with_reducible refine run_skip ?_ | with_reducible refine run_block ?_ | with_reducible refine run_inBlock ?_ | refine run_exit rfl ?_ | refine runL_q (qt_pev tok rfl) rfl rfl rfl ?_ | refine runL_g rfl rfl (qt_pev tok rfl) rfl rfl rfl rfl rfl ?_ | refine runL_q (qt_ld tok rfl (by (repeat (first | with_reducible apply List.mem_cons_self | with_reducible assumption | with_reducible apply List.mem_cons_of_mem | with_reducible apply List.mem_append_right))) (by rfl)) rfl rfl rfl ?_ | refine runL_g rfl rfl (qt_ld tok rfl (by (repeat (first | with_reducible apply List.mem_cons_self | with_reducible assumption | with_reducible apply List.mem_cons_of_mem | with_reducible apply List.mem_append_right))) (by rfl)) rfl rfl rfl rfl rfl ?_ | (refine runL_op0 (st_store tok rfl rfl rfl rfl rfl (by (repeat (first | with_reducible apply Upd.here | with_reducible apply Upd.there | with_reducible apply Upd.append_left))) (by rfl)) ?_; rintro _ _ _ ⟨rfl, rfl, rfl⟩) | (refine runL_op (st_box rfl) rfl rfl rfl ?_; rintro _ _ _ ⟨_, rfl, rfl, rfl⟩) | (refine runL_op (st_alloc tok rfl) rfl rfl rfl ?_; rintro _ _ _ ⟨_, rfl, rfl, rfl⟩) | (refine runL_op (st_buildSlice tok rfl rfl rfl rfl rfl rfl rfl) rfl rfl rfl ?_; rintro _ _ _ ⟨_, rfl, rfl, rfl⟩))
  refine run_cond rfl (fun h1 => ?_) (fun h1 => ?_)
  · have hlt : j < rs.length := by simpa using h1
    obtain ⟨b, off, cc, rfl, hcc, _, hc⟩ := (h.sl.le hM1).at_ hlt
    obtain ⟨y, hy, rfl⟩ : ∃ y, rs[j]? = some y ∧ rcC y = cc := by simpa using hcc
    have hyo := (h.ok y (List.mem_of_getElem? hy)).le hM1
    have hdr : rs.drop j = y :: rs.drop (j + 1) := by
      obtain ⟨hl, he⟩ := List.getElem?_eq_some_iff.1 hy
      rw [← he]; exact (List.getElem_cons_drop (h := hl)).symm
    rw [hdr, ofGo] at hgo
    repeat (first | with_reducible refine run_seq ?_ | with_reducible refine run_region ?_ | with_reducible refine runL_nil ?_ | with_reducible refine run_skip ?_ | with_reducible refine run_block ?_ | with_reducible refine run_inBlock ?_ | refine run_exit rfl ?_ | refine runL_q (qt_pev tok rfl) rfl rfl rfl ?_ | refine runL_g rfl rfl (qt_pev tok rfl) rfl rfl rfl rfl rfl ?_ | refine runL_q (qt_ld tok rfl (by (repeat (first | with_reducible apply List.mem_cons_self | with_reducible assumption | with_reducible apply List.mem_cons_of_mem | with_reducible apply List.mem_append_right))) (by rfl)) rfl rfl rfl ?_ | refine runL_g rfl rfl (qt_ld tok rfl (by (repeat (first | with_reducible apply List.mem_cons_self | with_reducible assumption | with_reducible apply List.mem_cons_of_mem | with_reducible apply List.mem_append_right))) (by rfl)) rfl rfl rfl rfl rfl ?_ | (refine runL_op0 (st_store tok rfl rfl rfl rfl rfl (by (repeat (first | with_reducible apply Upd.here | with_reducible apply Upd.there | with_reducible apply Upd.append_left))) (by rfl)) ?_; rintro _ _ _ ⟨rfl, rfl, rfl⟩) | (refine runL_op (st_box rfl) rfl rfl rfl ?_; rintro _ _ _ ⟨_, rfl, rfl, rfl⟩) | (refine runL_op (st_alloc tok rfl) rfl rfl rfl ?_; rintro _ _ _ ⟨_, rfl, rfl, rfl⟩) | (refine runL_op (st_buildSlice tok rfl rfl rfl rfl rfl rfl rfl) rfl rfl rfl ?_; rintro _ _ _ ⟨_, rfl, rfl, rfl⟩) | refine runL_q (qt_indexN tok rfl rfl rfl rfl (fun _ => by omega)) rfl rfl rfl ?_ | refine runL_g rfl rfl (qt_indexN tok rfl rfl rfl rfl (fun _ => by omega)) rfl rfl rfl rfl rfl ?_ | refine runL_q (qt_ldM tok rfl hc rfl) rfl rfl rfl ?_ | refine runL_g rfl rfl (qt_ldM tok rfl hc rfl) rfl rfl rfl rfl rfl ?_ | refine runL_q (qt_ldM0 tok rfl hc rfl) rfl rfl rfl ?_ | refine runL_g rfl rfl (qt_ldM0 tok rfl hc rfl) rfl rfl rfl rfl rfl ?_)
    rename_i b6
    refine runL_op (st_callF rfl (fun _ => write_ok _ _ ep a' c' rows hb (by omega) y hyo)) rfl rfl rfl ?_
    rintro _ M2 _ ⟨hM2, rfl, ep2, a2, c2, rows2, rfl, hb2, he2⟩
    have hwl := writeA_len (ep, rows.map Rw.abs) y
    rw [← he2] at hwl
    repeat (first | with_reducible refine run_seq ?_ | with_reducible refine run_region ?_ | with_reducible refine runL_nil ?_ | with_reducible refine run_skip ?_ | with_reducible refine run_block ?_ | with_reducible refine run_inBlock ?_ | refine run_exit rfl ?_ | refine runL_q (qt_pev tok rfl) rfl rfl rfl ?_ | refine runL_g rfl rfl (qt_pev tok rfl) rfl rfl rfl rfl rfl ?_ | refine runL_q (qt_ld tok rfl (by (repeat (first | with_reducible apply List.mem_cons_self | with_reducible assumption | with_reducible apply List.mem_cons_of_mem | with_reducible apply List.mem_append_right))) (by rfl)) rfl rfl rfl ?_ | refine runL_g rfl rfl (qt_ld tok rfl (by (repeat (first | with_reducible apply List.mem_cons_self | with_reducible assumption | with_reducible apply List.mem_cons_of_mem | with_reducible apply List.mem_append_right))) (by rfl)) rfl rfl rfl rfl rfl ?_ | (refine runL_op0 (st_store tok rfl rfl rfl rfl rfl (by (repeat (first | with_reducible apply Upd.here | with_reducible apply Upd.there | with_reducible apply Upd.append_left))) (by rfl)) ?_; rintro _ _ _ ⟨rfl, rfl, rfl⟩) | (refine runL_op (st_box rfl) rfl rfl rfl ?_; rintro _ _ _ ⟨_, rfl, rfl, rfl⟩) | (refine runL_op (st_alloc tok rfl) rfl rfl rfl ?_; rintro _ _ _ ⟨_, rfl, rfl, rfl⟩) | (refine runL_op (st_buildSlice tok rfl rfl rfl rfl rfl rfl rfl) rfl rfl rfl ?_; rintro _ _ _ ⟨_, rfl, rfl, rfl⟩))
    refine run_cond rfl (fun h2 => ?_) (fun h2 => ?_)
    · have h3 : (writeA (ep, rows.map Rw.abs) y).2 ≠ 0 := by simpa using h2
      rw [if_pos h3] at hgo
      repeat (first | with_reducible refine run_seq ?_ | with_reducible refine run_region ?_ | with_reducible refine runL_nil ?_ | with_reducible refine run_skip ?_ | with_reducible refine run_block ?_ | with_reducible refine run_inBlock ?_ | refine run_exit rfl ?_ | refine runL_q (qt_pev tok rfl) rfl rfl rfl ?_ | refine runL_g rfl rfl (qt_pev tok rfl) rfl rfl rfl rfl rfl ?_ | refine runL_q (qt_ld tok rfl (by (repeat (first | with_reducible apply List.mem_cons_self | with_reducible assumption | with_reducible apply List.mem_cons_of_mem | with_reducible apply List.mem_append_right))) (by rfl)) rfl rfl rfl ?_ | refine runL_g rfl rfl (qt_ld tok rfl (by (repeat (first | with_reducible apply List.mem_cons_self | with_reducible assumption | with_reducible apply List.mem_cons_of_mem | with_reducible apply List.mem_append_right))) (by rfl)) rfl rfl rfl rfl rfl ?_ | (refine runL_op0 (st_store tok rfl rfl rfl rfl rfl (by (repeat (first | with_reducible apply Upd.here | with_reducible apply Upd.there | with_reducible apply Upd.append_left))) (by rfl)) ?_; rintro _ _ _ ⟨rfl, rfl, rfl⟩) | (refine runL_op (st_box rfl) rfl rfl rfl ?_; rintro _ _ _ ⟨_, rfl, rfl, rfl⟩) | (refine runL_op (st_alloc tok rfl) rfl rfl rfl ?_; rintro _ _ _ ⟨_, rfl, rfl, rfl⟩) | (refine runL_op (st_buildSlice tok rfl rfl rfl rfl rfl rfl rfl) rfl rfl rfl ?_; rintro _ _ _ ⟨_, rfl, rfl, rfl⟩))
      exact run_ret hC (rs := [.cell 2 29, .tmp 3, .tmp 4]) rfl (resL tok rfl (by (repeat (first | with_reducible apply List.mem_cons_self | with_reducible assumption | with_reducible apply List.mem_cons_of_mem | with_reducible apply List.mem_append_right))) (by rfl) (resT rfl (resT rfl resN))) (fun _ h => h.drop.drop) ⟨Mem.le_trans hM1 hM2, rfl, 0, none, 0, [], by rw [← hgo]; rfl, BkM.nil _, by rw [← hgo]; rfl, Nat.zero_le _⟩
    · have h3 : ¬ (writeA (ep, rows.map Rw.abs) y).2 ≠ 0 := by simpa using h2
      rw [if_neg h3, ← he2] at hgo
      repeat (first | with_reducible refine run_seq ?_ | with_reducible refine run_region ?_ | with_reducible refine runL_nil ?_ | with_reducible refine run_skip ?_ | with_reducible refine run_block ?_ | with_reducible refine run_inBlock ?_ | refine run_exit rfl ?_ | refine runL_q (qt_pev tok rfl) rfl rfl rfl ?_ | refine runL_g rfl rfl (qt_pev tok rfl) rfl rfl rfl rfl rfl ?_ | refine runL_q (qt_ld tok rfl (by (repeat (first | with_reducible apply List.mem_cons_self | with_reducible assumption | with_reducible apply List.mem_cons_of_mem | with_reducible apply List.mem_append_right))) (by rfl)) rfl rfl rfl ?_ | refine runL_g rfl rfl (qt_ld tok rfl (by (repeat (first | with_reducible apply List.mem_cons_self | with_reducible assumption | with_reducible apply List.mem_cons_of_mem | with_reducible apply List.mem_append_right))) (by rfl)) rfl rfl rfl rfl rfl ?_ | (refine runL_op0 (st_store tok rfl rfl rfl rfl rfl (by (repeat (first | with_reducible apply Upd.here | with_reducible apply Upd.there | with_reducible apply Upd.append_left))) (by rfl)) ?_; rintro _ _ _ ⟨rfl, rfl, rfl⟩) | (refine runL_op (st_box rfl) rfl rfl rfl ?_; rintro _ _ _ ⟨_, rfl, rfl, rfl⟩) | (refine runL_op (st_alloc tok rfl) rfl rfl rfl ?_; rintro _ _ _ ⟨_, rfl, rfl, rfl⟩) | (refine runL_op (st_buildSlice tok rfl rfl rfl rfl rfl rfl rfl) rfl rfl rfl ?_; rintro _ _ _ ⟨_, rfl, rfl, rfl⟩))
      exact run_mem (fun _ h => h.drop) (run_sub' (hnext _ _ _ ⟨hlt, Mem.le_trans hM1 hM2, ep2, a2, c2, rows2, hb2, by simp at hwl; omega, hgo, rfl, rfl⟩) ⟨lk_succ rfl (by omega), rfl, rfl, rfl, rfl, trivial⟩)
  · have hge : j = rs.length := by simp at h1; omega
    rw [hge, List.drop_eq_nil_of_le (Nat.le_refl _), ofGo] at hgo
    repeat (first | with_reducible refine run_seq ?_ | with_reducible refine run_region ?_ | with_reducible refine runL_nil ?_ | with_reducible refine run_skip ?_ | with_reducible refine run_block ?_ | with_reducible refine run_inBlock ?_ | refine run_exit rfl ?_ | refine runL_q (qt_pev tok rfl) rfl rfl rfl ?_ | refine runL_g rfl rfl (qt_pev tok rfl) rfl rfl rfl rfl rfl ?_ | refine runL_q (qt_ld tok rfl (by (repeat (first | with_reducible apply List.mem_cons_self | with_reducible assumption | with_reducible apply List.mem_cons_of_mem | with_reducible apply List.mem_append_right))) (by rfl)) rfl rfl rfl ?_ | refine runL_g rfl rfl (qt_ld tok rfl (by (repeat (first | with_reducible apply List.mem_cons_self | with_reducible assumption | with_reducible apply List.mem_cons_of_mem | with_reducible apply List.mem_append_right))) (by rfl)) rfl rfl rfl rfl rfl ?_ | (refine runL_op0 (st_store tok rfl rfl rfl rfl rfl (by (repeat (first | with_reducible apply Upd.here | with_reducible apply Upd.there | with_reducible apply Upd.append_left))) (by rfl)) ?_; rintro _ _ _ ⟨rfl, rfl, rfl⟩) | (refine runL_op (st_box rfl) rfl rfl rfl ?_; rintro _ _ _ ⟨_, rfl, rfl, rfl⟩) | (refine runL_op (st_alloc tok rfl) rfl rfl rfl ?_; rintro _ _ _ ⟨_, rfl, rfl, rfl⟩) | (refine runL_op (st_buildSlice tok rfl rfl rfl rfl rfl rfl rfl) rfl rfl rfl ?_; rintro _ _ _ ⟨_, rfl, rfl, rfl⟩))
    exact run_ret hC (rs := [.cell 2 29, .tmp 3, .tmp 4]) rfl (resL tok rfl (by (repeat (first | with_reducible apply List.mem_cons_self | with_reducible assumption | with_reducible apply List.mem_cons_of_mem | with_reducible apply List.mem_append_right))) (by rfl) (resT rfl (resT rfl resN))) (fun _ h => h.drop) ⟨hM1, rfl, ep, a', c', rows, by rw [← hgo]; rfl, hb, by rw [← hgo], by omega⟩
end Go.Proofs.Ytemiflllckincaa
