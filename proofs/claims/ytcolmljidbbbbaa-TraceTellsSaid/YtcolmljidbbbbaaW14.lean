import Derived.Test.YtcolmljidbbbbaaW13
import Derived.Test.YtcolmljidbbbbaaLgO
import Derived.Test.YtcolmljidbbbbaaW3
namespace Go.Proofs.Ytcolmljidbbbbaa
open Go.Chi

/-! ### an action is done -/
def addRow (l : List Lr) (t : Tx) : List Lr := match ixOf t l 0 with | some _ => l | none => l ++ [lr0 t]
def posOf (l : List Lr) (t : Tx) : Nat := (ixOf t l 0).getD l.length
theorem addRow_at (l : List Lr) (t : Tx) : (addRow l t)[posOf l t]? = some (rowOf l t) := by
  unfold addRow posOf
  cases h : ixOf t l 0 with
  | none => simp [rowOf_none h]
  | some k =>
    obtain ⟨_, r, hr, _⟩ := ixOf_some h
    simp only [Nat.sub_zero] at hr
    simp [rowOf_some h hr, hr]
theorem rowOf_txn (l : List Lr) (t : Tx) : (rowOf l t).txn = t := by
  cases h : ixOf t l 0 with
  | none => rw [rowOf_none h]; rfl
  | some k =>
    obtain ⟨_, r, hr, he⟩ := ixOf_some h
    simp only [Nat.sub_zero] at hr
    rw [rowOf_some h hr, he]
theorem doK_txn (r : Lr) (a : Ac) : (doK r a).txn = r.txn := by
  unfold doK
  split
  · rfl
  split
  · rfl
  split <;> rfl
def stepR (l : List Lr) (a : Ac) : List Lr := (addRow l a.txn).set (posOf l a.txn) (doK (rowOf l a.txn) a)
theorem stepR_len (l : List Lr) (a : Ac) : (stepR l a).length = (addRow l a.txn).length := by simp [stepR]
theorem addRow_len (l : List Lr) (t : Tx) : (addRow l t).length ≤ l.length + 1 := by unfold addRow; split <;> simp
theorem posOf_le (l : List Lr) (t : Tx) : posOf l t < (addRow l t).length := (List.getElem?_eq_some_iff.1 (addRow_at l t)).1
theorem rkv_set : ∀ (l : List Lr) (i k : Nat) (x y : Lr), l[k]? = some y → x.txn = y.txn → rkv (l.set k x) i = rkv l i
  | [], i, k, x, y, h, _ => by simp at h
  | r :: l, i, 0, x, y, h, e => by simp at h; subst h; simp [rkv, e]
  | r :: l, i, k + 1, x, y, h, e => by
    simp only [List.set_cons_succ, rkv]
    rw [rkv_set l (i + 1) k x y (by simpa using h) e]
theorem rkv_snoc : ∀ (l : List Lr) (i : Nat) (t : Tx), ixOf t l i = none → kvSet (rkv l i) t (.int .i64 ((i + l.length : Nat) : Int)) (i + l.length) = rkv (l ++ [lr0 t]) i
  | [], i, t, _ => rfl
  | r :: l, i, t, h => by
    simp only [ixOf] at h
    split at h
    · cases h
    · rename_i e
      have ih := rkv_snoc l (i + 1) t h
      have e2 : i + 1 + l.length = i + (r :: l).length := by simp; omega
      rw [e2] at ih
      simp only [rkv, kvSet, e, if_false, List.cons_append, ih]
def LgOwn (bg : Nat) (bad : Int) (bm : Nat) (va : Value) (rows : List Lr) : HL := [(bg, .cells ⟨lgC bad va (.map (some bm))⟩ 92 (0, 0)), (bm, .map ⟨ents txK (rkv rows 0)⟩ rows.length)]
theorem lrF_snoc (l : List Lr) (x : Lr) : lrF (l ++ [x]) = lrF l ++ lrC x := by simp [lrF]
theorem lrC_one (a : Lr) : ∀ u ∈ lrC a, u.oneCell' = true := by intro u hu; simp [lrC] at hu; rcases hu with rfl | rfl | rfl | rfl | rfl | rfl | rfl | rfl | rfl | rfl <;> rfl
theorem do_at (M : Mem) (L L' : HL) (gv : Value) (br off : Nat) (pre post : List Value) (r : Lr) (a : Ac) (hk : kdOk a.kind = true) (h0 : 0 ≤ a.org) (hoff : off = pre.length)
    (hu : Upd L br (.cells ⟨pre ++ (lrC r ++ post)⟩ 62 (0, 0)) (.cells ⟨pre ++ (lrC (doK r a) ++ post)⟩ 62 (0, 0)) L') :
    Tr Try.prog (kdD a.kind) [gv, .pointer (some ⟨br, off, none⟩), .agg ⟨acC a⟩] M L (fun _ M' L1 => M = M' ∧ L1 = L') := by
  subst hoff
  exact Tr.upd (fun L0 => do_ok M L0 gv br pre post r a hk h0) hu
theorem mayE_0 {bad : Int} {rows : List Lr} {a : Ac} (h : mayE bad rows a = 0) : kdOk a.kind = true ∧ mayP bad a = true ∧ canK bad (rowOf rows a.txn) a = true := by
  unfold mayE at h
  split at h
  · omega
  · rename_i h1
    split at h
    · omega
    · rename_i h2
      simp at h1 h2
      exact ⟨h1.1, h1.2, h2⟩
theorem qt_lookK1 {ro : Option Nat} {σ : Env} {δ : Den} {cur : Path} {M : Mem} {L : HL} {d : Option Nat} {ty : TypeId} {pos : String} {aft : Array Edge} {g : Option (Nat × Bool)} {x y : Operand} {b : Nat} {k : Int} {clock : Nat}
    (hx : ev σ δ cur x = some (.map (some b))) (hy : ev σ δ cur y = some (.int .u8 k)) (hb : Blk M L b (.map ⟨ents u8 lkKV⟩ clock)) (hk : kdOk k = true) :
    Qt Try.prog ro ⟨d, .lookup 101 x y false, ty, pos, aft, g⟩ σ δ cur M L (lkOf k) :=
  qt_lookupG (ok := false) (z := lk0) (r := some (lkOf k)) tok keyU8 rfl hx hy rfl hb rfl (lk_some hk)

theorem qt_lookT {ro : Option Nat} {σ : Env} {δ : Den} {cur : Path} {M : Mem} {L : HL} {d : Option Nat} {ty : TypeId} {pos : String} {aft : Array Edge} {g : Option (Nat × Bool)} {x y : Operand} {b : Nat} {t : Tx} {rows : List Lr} {clock : Nat}
    (hx : ev σ δ cur x = some (.map (some b))) (hy : ev σ δ cur y = some (txK t)) (hb : Blk M L b (.map ⟨ents txK (rkv rows 0)⟩ clock)) :
    Qt Try.prog ro ⟨d, .lookup 90 x y true, ty, pos, aft, g⟩ σ δ cur M L (.tuple #[.int .i64 (((ixOf t rows 0).getD 0 : Nat) : Int), .bool (ixOf t rows 0).isSome]) := by
  have h := qt_lookupG (ok := true) (M := M) (L := L) (ro := ro) (σ := σ) (δ := δ) (cur := cur) (d := d) (ty := ty) (pos := pos) (aft := aft) (g := g) tok keyT (t := 90) (et := 3) rfl hx hy rfl hb (by rfl) (rkv_get t rows 0)
  cases hi : ixOf t rows 0 <;> simpa [hi, lookRes] using h

set_option maxHeartbeats 8000000 in
theorem apply_ok (M : Mem) (L : HL) (bg : Nat) (bad : Int) (rows : List Lr) (va : Value) (bm : Nat) (NA : HL) (a : Ac) (hO : OS 62 10 va rows.length (lrF rows) NA) (hlen : rows.length < 1000000) (h0 : 0 ≤ a.orgs) (h1 : a.orgs < 256) :
    Tr Try.prog 38 [.pointer (some ⟨bg, 0, none⟩), .agg ⟨acC a⟩] M (LgOwn bg bad bm va rows ++ (NA ++ L)) (fun v M' L' => v = .int .i64 (mayE bad rows a) ∧ M = M' ∧
      ((mayE bad rows a ≠ 0 ∧ L' = LgOwn bg bad bm va rows ++ (NA ++ L)) ∨ (mayE bad rows a = 0 ∧ ∃ va' NA', OS 62 10 va' (stepR rows a).length (lrF (stepR rows a)) NA' ∧ L' = LgOwn bg bad bm va' (stepR rows a) ++ (NA' ++ L)))) := by
  have hin : LgIn (LgOwn bg bad bm va rows ++ (NA ++ L)) bg bad rows va bm NA := ⟨by simp [LgOwn], by simp [LgOwn], hO, fun p hp => by simp [hp]⟩
  simp only [LgOwn, List.cons_append, List.nil_append] at hin ⊢
  refine Tr.intro 64 Try.func38 rfl rfl Try.call38 rfl ?_
  intro C hC hro
  repeat (first | with_reducible refine run_seq ?_ | with_reducible refine run_region ?_ | with_reducible refine runL_nil ?_ | with_reducible refine run_skip ?_ | with_reducible refine run_block ?_ | with_reducible refine run_inBlock ?_ | refine run_exit rfl ?_ | refine runL_q (qt_pev tok rfl) rfl rfl rfl ?_ | refine runL_g rfl rfl (qt_pev tok rfl) rfl rfl rfl rfl rfl ?_ | refine runL_q (qt_ld tok rfl (by (repeat (first | with_reducible apply List.mem_cons_self | with_reducible assumption | with_reducible apply List.mem_cons_of_mem | with_reducible apply List.mem_append_right))) (by rfl)) rfl rfl rfl ?_ | refine runL_g rfl rfl (qt_ld tok rfl (by (repeat (first | with_reducible apply List.mem_cons_self | with_reducible assumption | with_reducible apply List.mem_cons_of_mem | with_reducible apply List.mem_append_right))) (by rfl)) rfl rfl rfl rfl rfl ?_ | (refine runL_op0 (st_store tok rfl rfl rfl rfl rfl (by (repeat (first | with_reducible apply Upd.here | with_reducible apply Upd.there | with_reducible apply Upd.append_left))) (by rfl)) ?_; rintro _ _ _ ⟨rfl, rfl, rfl⟩) | (refine runL_op (st_box rfl) rfl rfl rfl ?_; rintro _ _ _ ⟨_, rfl, rfl, rfl⟩) | (refine runL_op (st_alloc tok rfl) rfl rfl rfl ?_; rintro _ _ _ ⟨_, rfl, rfl, rfl⟩) | (refine runL_op (st_buildSlice tok rfl rfl rfl rfl rfl rfl rfl) rfl rfl rfl ?_; rintro _ _ _ ⟨_, rfl, rfl, rfl⟩) | refine runL_q (qt_callF rfl (fun _ => may_ok _ _ bg bad rows va bm NA a (hin.cons _) h0 h1)) rfl rfl rfl ?_)
  rename_i b3
  refine run_cond rfl (fun c1 => ?_) (fun c1 => ?_)
  · have c1' : mayE bad rows a ≠ 0 := by simpa using c1
    repeat (first | with_reducible refine run_seq ?_ | with_reducible refine run_region ?_ | with_reducible refine runL_nil ?_ | with_reducible refine run_skip ?_ | with_reducible refine run_block ?_ | with_reducible refine run_inBlock ?_ | refine run_exit rfl ?_ | refine runL_q (qt_pev tok rfl) rfl rfl rfl ?_ | refine runL_g rfl rfl (qt_pev tok rfl) rfl rfl rfl rfl rfl ?_ | refine runL_q (qt_ld tok rfl (by (repeat (first | with_reducible apply List.mem_cons_self | with_reducible assumption | with_reducible apply List.mem_cons_of_mem | with_reducible apply List.mem_append_right))) (by rfl)) rfl rfl rfl ?_ | refine runL_g rfl rfl (qt_ld tok rfl (by (repeat (first | with_reducible apply List.mem_cons_self | with_reducible assumption | with_reducible apply List.mem_cons_of_mem | with_reducible apply List.mem_append_right))) (by rfl)) rfl rfl rfl rfl rfl ?_ | (refine runL_op0 (st_store tok rfl rfl rfl rfl rfl (by (repeat (first | with_reducible apply Upd.here | with_reducible apply Upd.there | with_reducible apply Upd.append_left))) (by rfl)) ?_; rintro _ _ _ ⟨rfl, rfl, rfl⟩) | (refine runL_op (st_box rfl) rfl rfl rfl ?_; rintro _ _ _ ⟨_, rfl, rfl, rfl⟩) | (refine runL_op (st_alloc tok rfl) rfl rfl rfl ?_; rintro _ _ _ ⟨_, rfl, rfl, rfl⟩) | (refine runL_op (st_buildSlice tok rfl rfl rfl rfl rfl rfl rfl) rfl rfl rfl ?_; rintro _ _ _ ⟨_, rfl, rfl, rfl⟩))
    exact run_ret hC (rs := [.tmp 4]) rfl (resT rfl resN) (fun _ h => h.drop) ⟨rfl, rfl, .inl ⟨c1', rfl⟩⟩
  have c1' : mayE bad rows a = 0 := by simpa using c1
  obtain ⟨hk, hmp, hcan⟩ := mayE_0 c1'
  have horg := (mayP_org hmp).1
  repeat (first | with_reducible refine run_seq ?_ | with_reducible refine run_region ?_ | with_reducible refine runL_nil ?_ | with_reducible refine run_skip ?_ | with_reducible refine run_block ?_ | with_reducible refine run_inBlock ?_ | refine run_exit rfl ?_ | refine runL_q (qt_pev tok rfl) rfl rfl rfl ?_ | refine runL_g rfl rfl (qt_pev tok rfl) rfl rfl rfl rfl rfl ?_ | refine runL_q (qt_ld tok rfl (by (repeat (first | with_reducible apply List.mem_cons_self | with_reducible assumption | with_reducible apply List.mem_cons_of_mem | with_reducible apply List.mem_append_right))) (by rfl)) rfl rfl rfl ?_ | refine runL_g rfl rfl (qt_ld tok rfl (by (repeat (first | with_reducible apply List.mem_cons_self | with_reducible assumption | with_reducible apply List.mem_cons_of_mem | with_reducible apply List.mem_append_right))) (by rfl)) rfl rfl rfl rfl rfl ?_ | (refine runL_op0 (st_store tok rfl rfl rfl rfl rfl (by (repeat (first | with_reducible apply Upd.here | with_reducible apply Upd.there | with_reducible apply Upd.append_left))) (by rfl)) ?_; rintro _ _ _ ⟨rfl, rfl, rfl⟩) | (refine runL_op (st_box rfl) rfl rfl rfl ?_; rintro _ _ _ ⟨_, rfl, rfl, rfl⟩) | (refine runL_op (st_alloc tok rfl) rfl rfl rfl ?_; rintro _ _ _ ⟨_, rfl, rfl, rfl⟩) | (refine runL_op (st_buildSlice tok rfl rfl rfl rfl rfl rfl rfl) rfl rfl rfl ?_; rintro _ _ _ ⟨_, rfl, rfl, rfl⟩) | refine prn_start mixed ?_ | refine prn_end (by decide +kernel) ?_ | refine prn_q rfl (qt_pev tok rfl) (by decide +kernel) rfl rfl rfl ?_ | refine prn_g rfl rfl rfl (qt_pev tok rfl) (by decide +kernel) rfl rfl rfl rfl rfl ?_ | refine prn_q rfl (qt_ld tok rfl (by (repeat (first | with_reducible apply List.mem_cons_self | with_reducible assumption | with_reducible apply List.mem_cons_of_mem | with_reducible apply List.mem_append_right))) (by rfl)) (by decide +kernel) rfl rfl rfl ?_ | refine prn_g rfl rfl rfl (qt_ld tok rfl (by (repeat (first | with_reducible apply List.mem_cons_self | with_reducible assumption | with_reducible apply List.mem_cons_of_mem | with_reducible apply List.mem_append_right))) (by rfl)) (by decide +kernel) rfl rfl rfl rfl rfl ?_ | (refine prn_e0 rfl (st_store tok rfl rfl rfl rfl rfl (by (repeat (first | with_reducible apply Upd.here | with_reducible apply Upd.there | with_reducible apply Upd.append_left))) (by rfl)) (by decide +kernel) ?_; rintro _ _ _ ⟨rfl, rfl, rfl⟩) | (refine prn_e1 rfl (st_box rfl) (by decide +kernel) rfl rfl rfl ?_; rintro _ _ _ ⟨_, rfl, rfl, rfl⟩) | (refine prn_e1 rfl (st_alloc tok rfl) (by decide +kernel) rfl rfl rfl ?_; rintro _ _ _ ⟨_, rfl, rfl, rfl⟩) | (refine prn_e1 rfl (st_buildSlice tok rfl rfl rfl rfl rfl rfl rfl) (by decide +kernel) rfl rfl rfl ?_; rintro _ _ _ ⟨_, rfl, rfl, rfl⟩) | (refine prn_o0 rfl (st_store tok rfl rfl rfl rfl rfl (by (repeat (first | with_reducible apply Upd.here | with_reducible apply Upd.there | with_reducible apply Upd.append_left))) (by rfl)) (by decide +kernel) ?_; rintro _ _ _ ⟨rfl, rfl, rfl⟩; refine ⟨by (repeat (first | exact trivial | refine And.intro (pend_q rfl rfl rfl (qt_pev tok rfl)) ?_ | refine And.intro (pend_q rfl rfl rfl (qt_ld tok rfl (by (repeat (first | with_reducible apply List.mem_cons_self | with_reducible assumption | with_reducible apply List.mem_cons_of_mem | with_reducible apply List.mem_append_right))) (by rfl))) ?_)), ?_⟩) | (refine prn_o1 rfl (st_box rfl) (by decide +kernel) rfl rfl rfl ?_; rintro _ _ _ ⟨_, rfl, rfl, rfl⟩; refine ⟨by (repeat (first | exact trivial | refine And.intro (pend_q rfl rfl rfl (qt_pev tok rfl)) ?_ | refine And.intro (pend_q rfl rfl rfl (qt_ld tok rfl (by (repeat (first | with_reducible apply List.mem_cons_self | with_reducible assumption | with_reducible apply List.mem_cons_of_mem | with_reducible apply List.mem_append_right))) (by rfl))) ?_)), ?_⟩) | (refine prn_o1 rfl (st_alloc tok rfl) (by decide +kernel) rfl rfl rfl ?_; rintro _ _ _ ⟨_, rfl, rfl, rfl⟩; refine ⟨by (repeat (first | exact trivial | refine And.intro (pend_q rfl rfl rfl (qt_pev tok rfl)) ?_ | refine And.intro (pend_q rfl rfl rfl (qt_ld tok rfl (by (repeat (first | with_reducible apply List.mem_cons_self | with_reducible assumption | with_reducible apply List.mem_cons_of_mem | with_reducible apply List.mem_append_right))) (by rfl))) ?_)), ?_⟩) | (refine prn_o1 rfl (st_buildSlice tok rfl rfl rfl rfl rfl rfl rfl) (by decide +kernel) rfl rfl rfl ?_; rintro _ _ _ ⟨_, rfl, rfl, rfl⟩; refine ⟨by (repeat (first | exact trivial | refine And.intro (pend_q rfl rfl rfl (qt_pev tok rfl)) ?_ | refine And.intro (pend_q rfl rfl rfl (qt_ld tok rfl (by (repeat (first | with_reducible apply List.mem_cons_self | with_reducible assumption | with_reducible apply List.mem_cons_of_mem | with_reducible apply List.mem_append_right))) (by rfl))) ?_)), ?_⟩) | (refine prn_e1 rfl (qt_pev tok rfl) (by decide +kernel) rfl rfl rfl ?_; rintro _ _ _ ⟨rfl, rfl, rfl⟩) | refine prn_q rfl (qt_lookT (t := a.txn) rfl rfl (.inl (by (repeat (first | with_reducible apply List.mem_cons_self | with_reducible assumption | with_reducible apply List.mem_cons_of_mem | with_reducible apply List.mem_append_right))))) (by decide +kernel) rfl rfl rfl ?_)
  refine run_cut (fun σ' M' L' => ∃ va1 NA1, M = M' ∧ OS 62 10 va1 (addRow rows a.txn).length (lrF (addRow rows a.txn)) NA1 ∧ σ' = [(0, .pointer (some ⟨bg, 0, none⟩)), (3, .pointer (some ⟨b3, 0, none⟩)), (6, .int .i64 (posOf rows a.txn : Int))] ∧
    L' = (b3, .cells ⟨acC a⟩ 28 (0, 0)) :: (bg, .cells ⟨lgC bad va1 (.map (some bm))⟩ 92 (0, 0)) :: (bm, .map ⟨ents txK (rkv (addRow rows a.txn) 0)⟩ (addRow rows a.txn).length) :: (NA1 ++ L)) ?_ ?_
  · rintro _ _ _ ⟨va1, NA1, rfl, hO1, rfl, rfl⟩
    obtain ⟨v0, v1, v2, v3, v4, hv, ho⟩ := lkR_cells a.kind
    have hat := addRow_at rows a.txn
    have hlt := posOf_le rows a.txn
    obtain ⟨b, cap, pre, post, rfl, rfl, hpre, hset⟩ := OS.mid (ls := (addRow rows a.txn).map lrC) hO1 (lrC_len _) (by simp) (k := posOf rows a.txn) (c := lrC (rowOf rows a.txn)) (by simp [hat])
    simp only [List.cons_append, List.nil_append]
    refine run_seq ?_
    refine run_draw mixed ?_
    refine pr_q 1 (by decide +kernel) rfl (qt_pev tok rfl) rfl rfl rfl ?_
    refine pr_q 2 (by decide +kernel) rfl (qt_ld tok rfl (by (repeat (first | with_reducible apply List.mem_cons_self | with_reducible assumption | with_reducible apply List.mem_cons_of_mem | with_reducible apply List.mem_append_right))) (by rfl)) rfl rfl rfl ?_
    refine pr_q 5 (by decide +kernel) rfl (qt_pev tok rfl) rfl rfl rfl ?_
    refine pr_q 6 (by decide +kernel) rfl (qt_pev tok rfl) rfl rfl rfl ?_
    refine pr_q 7 (by decide +kernel) rfl (qt_pev tok rfl) rfl rfl rfl ?_
    refine pr_q 8 (by decide +kernel) rfl (qt_pev tok rfl) rfl rfl rfl ?_
    refine pr_q 9 (by decide +kernel) rfl (qt_ld tok rfl (by (repeat (first | with_reducible apply List.mem_cons_self | with_reducible assumption | with_reducible apply List.mem_cons_of_mem | with_reducible apply List.mem_append_right))) (by rfl)) rfl rfl rfl ?_
    refine pr_q 10 (by decide +kernel) rfl (qt_pev tok rfl) rfl rfl rfl ?_
    refine pr_q 11 (by decide +kernel) rfl (qt_indexN tok rfl rfl rfl rfl (fun _ => hlt)) rfl rfl rfl ?_
    refine pr_q 12 (by decide +kernel) rfl (qt_ld tok rfl (by (repeat (first | with_reducible apply List.mem_cons_self | with_reducible assumption | with_reducible apply List.mem_cons_of_mem | with_reducible apply List.mem_append_right))) (by rfl)) rfl rfl rfl ?_
    refine pr_one 0 (by decide +kernel) (eff1 0 rfl (st_callF rfl (fun _ => lkinds_ok _ _)) (by decide +kernel) (qs := _) rfl rfl rfl rfl ?_)
    rintro _ _ _ ⟨bk, rfl, rfl, rfl⟩
    refine ⟨by (repeat (first | exact trivial | refine And.intro (pend_q rfl rfl rfl (qt_pev tok rfl)) ?_ | refine And.intro (pend_q rfl rfl rfl (qt_ld tok rfl (by (repeat (first | with_reducible apply List.mem_cons_self | with_reducible assumption | with_reducible apply List.mem_cons_of_mem | with_reducible apply List.mem_append_right))) (by rfl))) ?_ | refine And.intro (pend_q rfl rfl rfl (qt_indexN tok rfl rfl rfl rfl (fun _ => hlt))) ?_)), ?_⟩
    refine pr_q 3 (by decide +kernel) rfl (qt_lookK1 rfl rfl (.inl (by (repeat (first | with_reducible apply List.mem_cons_self | with_reducible assumption | with_reducible apply List.mem_cons_of_mem | with_reducible apply List.mem_append_right)))) hk) rfl rfl rfl ?_
    refine pr_q 4 (by decide +kernel) rfl (qt_pev tok rfl) rfl rfl rfl ?_
    refine pr_one 13 (by decide +kernel) (eff1 13 rfl (st_callV rfl rfl (fun _ => do_at _ _ _ _ b _ pre post (rowOf rows a.txn) a hk horg (by rw [hpre]; simp) (by (repeat (first | with_reducible apply Upd.here | with_reducible apply Upd.there | with_reducible apply Upd.append_left))))) (by decide +kernel) (qs := _) rfl rfl rfl rfl ?_)
    rintro _ _ _ ⟨rfl, rfl⟩
    refine ⟨by (repeat (first | exact trivial | refine And.intro (pend_q rfl rfl rfl (qt_pev tok rfl)) ?_ | refine And.intro (pend_q rfl rfl rfl (qt_ld tok rfl (by (repeat (first | with_reducible apply List.mem_cons_self | with_reducible assumption | with_reducible apply List.mem_cons_of_mem | with_reducible apply List.mem_append_right))) (by rfl))) ?_)), ?_⟩
    refine pr_end (by decide +kernel) (by decide +kernel) ?_
    repeat (first | with_reducible refine run_seq ?_ | with_reducible refine run_region ?_ | with_reducible refine runL_nil ?_ | with_reducible refine run_skip ?_ | with_reducible refine run_block ?_ | with_reducible refine run_inBlock ?_ | refine run_exit rfl ?_ | refine runL_q (qt_pev tok rfl) rfl rfl rfl ?_ | refine runL_g rfl rfl (qt_pev tok rfl) rfl rfl rfl rfl rfl ?_ | refine runL_q (qt_ld tok rfl (by (repeat (first | with_reducible apply List.mem_cons_self | with_reducible assumption | with_reducible apply List.mem_cons_of_mem | with_reducible apply List.mem_append_right))) (by rfl)) rfl rfl rfl ?_ | refine runL_g rfl rfl (qt_ld tok rfl (by (repeat (first | with_reducible apply List.mem_cons_self | with_reducible assumption | with_reducible apply List.mem_cons_of_mem | with_reducible apply List.mem_append_right))) (by rfl)) rfl rfl rfl rfl rfl ?_ | (refine runL_op0 (st_store tok rfl rfl rfl rfl rfl (by (repeat (first | with_reducible apply Upd.here | with_reducible apply Upd.there | with_reducible apply Upd.append_left))) (by rfl)) ?_; rintro _ _ _ ⟨rfl, rfl, rfl⟩) | (refine runL_op (st_box rfl) rfl rfl rfl ?_; rintro _ _ _ ⟨_, rfl, rfl, rfl⟩) | (refine runL_op (st_alloc tok rfl) rfl rfl rfl ?_; rintro _ _ _ ⟨_, rfl, rfl, rfl⟩) | (refine runL_op (st_buildSlice tok rfl rfl rfl rfl rfl rfl rfl) rfl rfl rfl ?_; rintro _ _ _ ⟨_, rfl, rfl, rfl⟩))
    have e5 : rkv (stepR rows a) 0 = rkv (addRow rows a.txn) 0 := rkv_set _ _ _ _ _ hat (doK_txn _ _)
    have e6 : (stepR rows a).map lrC = ((addRow rows a.txn).map lrC).set (posOf rows a.txn) (lrC (doK (rowOf rows a.txn) a)) := by simp [stepR, List.map_set]
    have hfin := hset (lrC (doK (rowOf rows a.txn) a)) rfl
    rw [← e6] at hfin
    rw [← stepR_len] at hfin
    exact run_ret hC (rs := [.tmp 4]) rfl (resT rfl resN) (fun _ h => h.drop.drop) ⟨by rw [c1']; rfl, rfl, .inr ⟨c1', _, _, hfin, by rw [e5, stepR_len]; rfl⟩⟩
  intro hrest
  refine run_cond rfl (fun c2 => ?_) (fun c2 => ?_)
  · have hi : ixOf a.txn rows 0 = none := by simpa using c2
    have e1 : addRow rows a.txn = rows ++ [lr0 a.txn] := by simp [addRow, hi]
    have e2 : posOf rows a.txn = rows.length := by simp [posOf, hi]
    have e3 := rkv_snoc rows 0 a.txn hi
    rw [Nat.zero_add] at e3
    have e4 : kvGet (rkv rows 0) a.txn = none := by rw [rkv_get, hi]; rfl
    obtain ⟨av, cv, rfl⟩ := os_slice hO
    repeat (first | with_reducible refine run_seq ?_ | with_reducible refine run_region ?_ | with_reducible refine runL_nil ?_ | with_reducible refine run_skip ?_ | with_reducible refine run_block ?_ | with_reducible refine run_inBlock ?_ | refine run_exit rfl ?_ | refine runL_q (qt_pev tok rfl) rfl rfl rfl ?_ | refine runL_g rfl rfl (qt_pev tok rfl) rfl rfl rfl rfl rfl ?_ | refine runL_q (qt_ld tok rfl (by (repeat (first | with_reducible apply List.mem_cons_self | with_reducible assumption | with_reducible apply List.mem_cons_of_mem | with_reducible apply List.mem_append_right))) (by rfl)) rfl rfl rfl ?_ | refine runL_g rfl rfl (qt_ld tok rfl (by (repeat (first | with_reducible apply List.mem_cons_self | with_reducible assumption | with_reducible apply List.mem_cons_of_mem | with_reducible apply List.mem_append_right))) (by rfl)) rfl rfl rfl rfl rfl ?_ | (refine runL_op0 (st_store tok rfl rfl rfl rfl rfl (by (repeat (first | with_reducible apply Upd.here | with_reducible apply Upd.there | with_reducible apply Upd.append_left))) (by rfl)) ?_; rintro _ _ _ ⟨rfl, rfl, rfl⟩) | (refine runL_op (st_box rfl) rfl rfl rfl ?_; rintro _ _ _ ⟨_, rfl, rfl, rfl⟩) | (refine runL_op (st_alloc tok rfl) rfl rfl rfl ?_; rintro _ _ _ ⟨_, rfl, rfl, rfl⟩) | (refine runL_op (st_buildSlice tok rfl rfl rfl rfl rfl rfl rfl) rfl rfl rfl ?_; rintro _ _ _ ⟨_, rfl, rfl, rfl⟩) | refine prn_start mixed ?_ | refine prn_end (by decide +kernel) ?_ | refine prn_q rfl (qt_pev tok rfl) (by decide +kernel) rfl rfl rfl ?_ | refine prn_g rfl rfl rfl (qt_pev tok rfl) (by decide +kernel) rfl rfl rfl rfl rfl ?_ | refine prn_q rfl (qt_ld tok rfl (by (repeat (first | with_reducible apply List.mem_cons_self | with_reducible assumption | with_reducible apply List.mem_cons_of_mem | with_reducible apply List.mem_append_right))) (by rfl)) (by decide +kernel) rfl rfl rfl ?_ | refine prn_g rfl rfl rfl (qt_ld tok rfl (by (repeat (first | with_reducible apply List.mem_cons_self | with_reducible assumption | with_reducible apply List.mem_cons_of_mem | with_reducible apply List.mem_append_right))) (by rfl)) (by decide +kernel) rfl rfl rfl rfl rfl ?_ | (refine prn_e0 rfl (st_store tok rfl rfl rfl rfl rfl (by (repeat (first | with_reducible apply Upd.here | with_reducible apply Upd.there | with_reducible apply Upd.append_left))) (by rfl)) (by decide +kernel) ?_; rintro _ _ _ ⟨rfl, rfl, rfl⟩) | (refine prn_e1 rfl (st_box rfl) (by decide +kernel) rfl rfl rfl ?_; rintro _ _ _ ⟨_, rfl, rfl, rfl⟩) | (refine prn_e1 rfl (st_alloc tok rfl) (by decide +kernel) rfl rfl rfl ?_; rintro _ _ _ ⟨_, rfl, rfl, rfl⟩) | (refine prn_e1 rfl (st_buildSlice tok rfl rfl rfl rfl rfl rfl rfl) (by decide +kernel) rfl rfl rfl ?_; rintro _ _ _ ⟨_, rfl, rfl, rfl⟩) | (refine prn_o0 rfl (st_store tok rfl rfl rfl rfl rfl (by (repeat (first | with_reducible apply Upd.here | with_reducible apply Upd.there | with_reducible apply Upd.append_left))) (by rfl)) (by decide +kernel) ?_; rintro _ _ _ ⟨rfl, rfl, rfl⟩; refine ⟨by (repeat (first | exact trivial | refine And.intro (pend_q rfl rfl rfl (qt_pev tok rfl)) ?_ | refine And.intro (pend_q rfl rfl rfl (qt_ld tok rfl (by (repeat (first | with_reducible apply List.mem_cons_self | with_reducible assumption | with_reducible apply List.mem_cons_of_mem | with_reducible apply List.mem_append_right))) (by rfl))) ?_)), ?_⟩) | (refine prn_o1 rfl (st_box rfl) (by decide +kernel) rfl rfl rfl ?_; rintro _ _ _ ⟨_, rfl, rfl, rfl⟩; refine ⟨by (repeat (first | exact trivial | refine And.intro (pend_q rfl rfl rfl (qt_pev tok rfl)) ?_ | refine And.intro (pend_q rfl rfl rfl (qt_ld tok rfl (by (repeat (first | with_reducible apply List.mem_cons_self | with_reducible assumption | with_reducible apply List.mem_cons_of_mem | with_reducible apply List.mem_append_right))) (by rfl))) ?_)), ?_⟩) | (refine prn_o1 rfl (st_alloc tok rfl) (by decide +kernel) rfl rfl rfl ?_; rintro _ _ _ ⟨_, rfl, rfl, rfl⟩; refine ⟨by (repeat (first | exact trivial | refine And.intro (pend_q rfl rfl rfl (qt_pev tok rfl)) ?_ | refine And.intro (pend_q rfl rfl rfl (qt_ld tok rfl (by (repeat (first | with_reducible apply List.mem_cons_self | with_reducible assumption | with_reducible apply List.mem_cons_of_mem | with_reducible apply List.mem_append_right))) (by rfl))) ?_)), ?_⟩) | (refine prn_o1 rfl (st_buildSlice tok rfl rfl rfl rfl rfl rfl rfl) (by decide +kernel) rfl rfl rfl ?_; rintro _ _ _ ⟨_, rfl, rfl, rfl⟩; refine ⟨by (repeat (first | exact trivial | refine And.intro (pend_q rfl rfl rfl (qt_pev tok rfl)) ?_ | refine And.intro (pend_q rfl rfl rfl (qt_ld tok rfl (by (repeat (first | with_reducible apply List.mem_cons_self | with_reducible assumption | with_reducible apply List.mem_cons_of_mem | with_reducible apply List.mem_append_right))) (by rfl))) ?_)), ?_⟩) | (refine prn_e1 rfl (qt_pev tok rfl) (by decide +kernel) rfl rfl rfl ?_; rintro _ _ _ ⟨rfl, rfl, rfl⟩) | (refine prn_e0 rfl (st_mapUpdate (a := a.txn) tok keyT (.inl rfl) rfl rfl rfl rfl rfl (by (repeat (first | with_reducible apply Upd.here | with_reducible apply Upd.there | with_reducible apply Upd.append_left)))) (by decide +kernel) ?_; rintro _ _ _ ⟨rfl, rfl, rfl⟩))
    rename_i bs
    rw [e3, e4]
    refine pr_one 9 (by decide +kernel) (eff1 9 rfl (st_append (news := lrC (lr0 a.txn)) tok rfl rfl rfl rfl rfl rfl rfl rfl (pm4 _ _ _ _ NA _) hO (.inr ⟨bs, 0, 1, rfl, cellsAll List.mem_cons_self, rfl⟩) (lrC_one _) (by omega) (by omega)) (by decide +kernel) (qs := _) rfl rfl rfl rfl ?_)
    rintro va' _ _ ⟨NA', rfl, rfl, hA'⟩
    obtain ⟨aa', ca', rfl⟩ := os_slice hA'
    refine ⟨by (repeat (first | exact trivial | refine And.intro (pend_q rfl rfl rfl (qt_pev tok rfl)) ?_ | refine And.intro (pend_q rfl rfl rfl (qt_ld tok rfl (by (repeat (first | with_reducible apply List.mem_cons_self | with_reducible assumption | with_reducible apply List.mem_cons_of_mem | with_reducible apply List.mem_append_right))) (by rfl))) ?_)), ?_⟩
    refine pr_q 10 (by decide +kernel) rfl (qt_pev tok rfl) rfl rfl rfl ?_
    refine pr_q 11 (by decide +kernel) rfl (qt_pev tok rfl) rfl rfl rfl ?_
    refine pr_one 12 (by decide +kernel) (eff0 12 rfl (st_store tok rfl rfl rfl rfl rfl (by (repeat (first | with_reducible apply Upd.here | with_reducible apply Upd.there | with_reducible apply Upd.append_left))) (by rfl)) (by decide +kernel) (qs := _) rfl ?_)
    rintro _ _ _ ⟨rfl, rfl, rfl⟩
    refine ⟨by (repeat (first | exact trivial | refine And.intro (pend_q rfl rfl rfl (qt_pev tok rfl)) ?_ | refine And.intro (pend_q rfl rfl rfl (qt_ld tok rfl (by (repeat (first | with_reducible apply List.mem_cons_self | with_reducible assumption | with_reducible apply List.mem_cons_of_mem | with_reducible apply List.mem_append_right))) (by rfl))) ?_)), ?_⟩
    refine pr_end (by decide +kernel) (by decide +kernel) ?_
    refine run_mem (fun _ h => (h.perm (pm4 _ _ _ _ NA' _).symm).drop) (run_sub' (hrest _ _ _ ⟨_, NA', rfl, by rw [e1, List.length_append, lrF_snoc]; exact hA', rfl, by rw [e1, List.length_append]; rfl⟩) ⟨rfl, rfl, by rw [e2]; rfl, trivial⟩)
  · obtain ⟨k, hi⟩ : ∃ k, ixOf a.txn rows 0 = some k := Option.isSome_iff_exists.1 (by simpa using c2)
    have e1 : addRow rows a.txn = rows := by simp [addRow, hi]
    have e2 : posOf rows a.txn = (ixOf a.txn rows 0).getD 0 := by simp [posOf, hi]
    refine run_skip ?_
    exact run_sub' (hrest _ _ _ ⟨va, NA, rfl, by rw [e1]; exact hO, rfl, by rw [e1]; rfl⟩) ⟨rfl, rfl, by rw [e2]; rfl, trivial⟩
end Go.Proofs.Ytcolmljidbbbbaa
