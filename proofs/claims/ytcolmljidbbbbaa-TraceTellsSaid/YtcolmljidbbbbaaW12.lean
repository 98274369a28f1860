import Derived.Test.YtcolmljidbbbbaaW11
import Derived.Test.YtcolmljidbbbbaaLgN
namespace Go.Proofs.Ytcolmljidbbbbaa
open Go.Chi

/-! ### the ledger in memory -/
def txK (t : Tx) : Value := .agg ⟨txC t⟩
theorem keyT : KeyLaw Try.prog 26 txK := keyTx
def lrF (l : List Lr) : List Value := (l.map lrC).flatten
def rkv : List Lr → Nat → KV Tx
  | [], _ => []
  | r :: l, i => (r.txn, .int .i64 (i : Int), i) :: rkv l (i + 1)
def ixOf (t : Tx) : List Lr → Nat → Option Nat
  | [], _ => none
  | r :: l, i => if t = r.txn then some i else ixOf t l (i + 1)
theorem rkv_get (t : Tx) : ∀ (l : List Lr) (i : Nat), kvGet (rkv l i) t = (ixOf t l i).map fun k : Nat => .int .i64 (k : Int)
  | [], _ => rfl
  | r :: l, i => by
    simp only [rkv, kvGet, ixOf]
    split
    · rfl
    · exact rkv_get t l (i + 1)
theorem ixOf_some {t : Tx} : ∀ {l : List Lr} {i k : Nat}, ixOf t l i = some k → i ≤ k ∧ ∃ r, l[k - i]? = some r ∧ r.txn = t
  | [], i, k, h => by simp [ixOf] at h
  | r :: l, i, k, h => by
    simp only [ixOf] at h
    split at h
    · rename_i e; cases h; exact ⟨Nat.le_refl _, r, by simp, e.symm⟩
    · obtain ⟨h1, x, h2, h3⟩ := ixOf_some h
      refine ⟨by omega, x, ?_, h3⟩
      rw [show k - i = (k - (i + 1)) + 1 from by omega]; simpa using h2
theorem ixOf_none {t : Tx} : ∀ {l : List Lr} {i : Nat}, ixOf t l i = none → ∀ r ∈ l, r.txn ≠ t
  | [], i, h, r, hr => by cases hr
  | x :: l, i, h, r, hr => by
    simp only [ixOf] at h
    split at h
    · cases h
    · rename_i e
      rcases List.mem_cons.1 hr with rfl | hr
      · exact fun e' => e e'.symm
      · exact ixOf_none h r hr
def lr0 (t : Tx) : Lr := ⟨t, false, 0, 0, 0, false, false, 0⟩
def rowOf (l : List Lr) (t : Tx) : Lr := match ixOf t l 0 with | some k => (l[k]?).getD (lr0 t) | none => lr0 t
theorem rowOf_some {l : List Lr} {t : Tx} {k : Nat} {r : Lr} (h : ixOf t l 0 = some k) (hr : l[k]? = some r) : rowOf l t = r := by simp [rowOf, h, hr]
theorem rowOf_none {l : List Lr} {t : Tx} (h : ixOf t l 0 = none) : rowOf l t = lr0 t := by simp [rowOf, h]

structure LgIn (L : HL) (bg : Nat) (bad : Int) (rows : List Lr) (va : Value) (bm : Nat) (NA : HL) : Prop where
  g : (bg, Obj.cells ⟨lgC bad va (.map (some bm))⟩ 92 (0, 0)) ∈ L
  m : (bm, Obj.map ⟨ents txK (rkv rows 0)⟩ rows.length) ∈ L
  o : OS 62 10 va rows.length (lrF rows) NA
  n : ∀ p ∈ NA, p ∈ L
theorem LgIn.cons {L : HL} {bg : Nat} {bad : Int} {rows : List Lr} {va : Value} {bm : Nat} {NA : HL} (h : LgIn L bg bad rows va bm NA) (x : Nat × Obj) : LgIn (x :: L) bg bad rows va bm NA :=
  ⟨List.mem_cons_of_mem _ h.g, List.mem_cons_of_mem _ h.m, h.o, fun p hp => List.mem_cons_of_mem _ (h.n p hp)⟩
theorem lrC_len (l : List Lr) : ∀ c ∈ l.map lrC, c.length = 10 := by
  intro c hc; obtain ⟨r, _, rfl⟩ := List.mem_map.1 hc; rfl
theorem LgIn.at_ {L : HL} {bg : Nat} {bad : Int} {rows : List Lr} {va : Value} {bm : Nat} {NA : HL} (h : LgIn L bg bad rows va bm NA) {k : Nat} {r : Lr} (hk : rows[k]? = some r) :
    ∃ b cap cs, va = .slice (some ⟨b, 0, none⟩) rows.length cap ∧ (b, Obj.cells ⟨cs⟩ 62 (0, 0)) ∈ L ∧ SegAt cs (0 + k * 10) (lrC r) := by
  obtain ⟨b, cap, cs, h1, h2, _, _, h3⟩ := OS.at_ h.o (lrC_len rows) (by simp) (k := k) (c := lrC r) (by simp [hk])
  exact ⟨b, cap, cs, h1, h.n _ (by rw [h2]; simp), h3⟩

set_option maxHeartbeats 4000000 in
theorem row_ok (M : Mem) (L : HL) (bg : Nat) (bad : Int) (rows : List Lr) (va : Value) (bm : Nat) (NA : HL) (t : Tx) (hg : LgIn L bg bad rows va bm NA) :
    TrQ Try.prog 46 [.pointer (some ⟨bg, 0, none⟩), .agg ⟨txC t⟩] M L (.agg ⟨lrC (rowOf rows t)⟩) := by
  have hgg := hg.g
  have hgm := hg.m
  refine Tr.intro 26 Try.func46 rfl rfl Try.call46 rfl ?_
  intro C hC hro
  repeat (first | with_reducible refine run_seq ?_ | with_reducible refine run_region ?_ | with_reducible refine runL_nil ?_ | with_reducible refine run_skip ?_ | with_reducible refine run_block ?_ | with_reducible refine run_inBlock ?_ | refine run_exit rfl ?_ | refine runL_q (qt_pev tok rfl) rfl rfl rfl ?_ | refine runL_g rfl rfl (qt_pev tok rfl) rfl rfl rfl rfl rfl ?_ | refine runL_q (qt_ld tok rfl (by (repeat (first | with_reducible apply List.mem_cons_self | with_reducible assumption | with_reducible apply List.mem_cons_of_mem | with_reducible apply List.mem_append_right))) (by rfl)) rfl rfl rfl ?_ | refine runL_g rfl rfl (qt_ld tok rfl (by (repeat (first | with_reducible apply List.mem_cons_self | with_reducible assumption | with_reducible apply List.mem_cons_of_mem | with_reducible apply List.mem_append_right))) (by rfl)) rfl rfl rfl rfl rfl ?_ | (refine runL_op0 (st_store tok rfl rfl rfl rfl rfl (by (repeat (first | with_reducible apply Upd.here | with_reducible apply Upd.there | with_reducible apply Upd.append_left))) (by rfl)) ?_; rintro _ _ _ ⟨rfl, rfl, rfl⟩) | (refine runL_op (st_box rfl) rfl rfl rfl ?_; rintro _ _ _ ⟨_, rfl, rfl, rfl⟩) | (refine runL_op (st_alloc tok rfl) rfl rfl rfl ?_; rintro _ _ _ ⟨_, rfl, rfl, rfl⟩) | (refine runL_op (st_buildSlice tok rfl rfl rfl rfl rfl rfl rfl) rfl rfl rfl ?_; rintro _ _ _ ⟨_, rfl, rfl, rfl⟩))
  have hget := rkv_get t rows 0
  cases hi : ixOf t rows 0 with
  | none =>
    rw [hi] at hget
    simp only [Option.map_none] at hget
    repeat (first | with_reducible refine run_seq ?_ | with_reducible refine run_region ?_ | with_reducible refine runL_nil ?_ | with_reducible refine run_skip ?_ | with_reducible refine run_block ?_ | with_reducible refine run_inBlock ?_ | refine run_exit rfl ?_ | refine runL_q (qt_pev tok rfl) rfl rfl rfl ?_ | refine runL_g rfl rfl (qt_pev tok rfl) rfl rfl rfl rfl rfl ?_ | refine runL_q (qt_ld tok rfl (by (repeat (first | with_reducible apply List.mem_cons_self | with_reducible assumption | with_reducible apply List.mem_cons_of_mem | with_reducible apply List.mem_append_right))) (by rfl)) rfl rfl rfl ?_ | refine runL_g rfl rfl (qt_ld tok rfl (by (repeat (first | with_reducible apply List.mem_cons_self | with_reducible assumption | with_reducible apply List.mem_cons_of_mem | with_reducible apply List.mem_append_right))) (by rfl)) rfl rfl rfl rfl rfl ?_ | (refine runL_op0 (st_store tok rfl rfl rfl rfl rfl (by (repeat (first | with_reducible apply Upd.here | with_reducible apply Upd.there | with_reducible apply Upd.append_left))) (by rfl)) ?_; rintro _ _ _ ⟨rfl, rfl, rfl⟩) | (refine runL_op (st_box rfl) rfl rfl rfl ?_; rintro _ _ _ ⟨_, rfl, rfl, rfl⟩) | (refine runL_op (st_alloc tok rfl) rfl rfl rfl ?_; rintro _ _ _ ⟨_, rfl, rfl, rfl⟩) | (refine runL_op (st_buildSlice tok rfl rfl rfl rfl rfl rfl rfl) rfl rfl rfl ?_; rintro _ _ _ ⟨_, rfl, rfl, rfl⟩) | refine prn_start mixed ?_ | refine prn_end (by decide +kernel) ?_ | refine prn_q rfl (qt_pev tok rfl) (by decide +kernel) rfl rfl rfl ?_ | refine prn_g rfl rfl rfl (qt_pev tok rfl) (by decide +kernel) rfl rfl rfl rfl rfl ?_ | refine prn_q rfl (qt_ld tok rfl (by (repeat (first | with_reducible apply List.mem_cons_self | with_reducible assumption | with_reducible apply List.mem_cons_of_mem | with_reducible apply List.mem_append_right))) (by rfl)) (by decide +kernel) rfl rfl rfl ?_ | refine prn_g rfl rfl rfl (qt_ld tok rfl (by (repeat (first | with_reducible apply List.mem_cons_self | with_reducible assumption | with_reducible apply List.mem_cons_of_mem | with_reducible apply List.mem_append_right))) (by rfl)) (by decide +kernel) rfl rfl rfl rfl rfl ?_ | (refine prn_e0 rfl (st_store tok rfl rfl rfl rfl rfl (by (repeat (first | with_reducible apply Upd.here | with_reducible apply Upd.there | with_reducible apply Upd.append_left))) (by rfl)) (by decide +kernel) ?_; rintro _ _ _ ⟨rfl, rfl, rfl⟩) | (refine prn_e1 rfl (st_box rfl) (by decide +kernel) rfl rfl rfl ?_; rintro _ _ _ ⟨_, rfl, rfl, rfl⟩) | (refine prn_e1 rfl (st_alloc tok rfl) (by decide +kernel) rfl rfl rfl ?_; rintro _ _ _ ⟨_, rfl, rfl, rfl⟩) | (refine prn_e1 rfl (st_buildSlice tok rfl rfl rfl rfl rfl rfl rfl) (by decide +kernel) rfl rfl rfl ?_; rintro _ _ _ ⟨_, rfl, rfl, rfl⟩) | (refine prn_o0 rfl (st_store tok rfl rfl rfl rfl rfl (by (repeat (first | with_reducible apply Upd.here | with_reducible apply Upd.there | with_reducible apply Upd.append_left))) (by rfl)) (by decide +kernel) ?_; rintro _ _ _ ⟨rfl, rfl, rfl⟩; refine ⟨by (repeat (first | exact trivial | refine And.intro (pend_q rfl rfl rfl (qt_pev tok rfl)) ?_ | refine And.intro (pend_q rfl rfl rfl (qt_ld tok rfl (by (repeat (first | with_reducible apply List.mem_cons_self | with_reducible assumption | with_reducible apply List.mem_cons_of_mem | with_reducible apply List.mem_append_right))) (by rfl))) ?_)), ?_⟩) | (refine prn_o1 rfl (st_box rfl) (by decide +kernel) rfl rfl rfl ?_; rintro _ _ _ ⟨_, rfl, rfl, rfl⟩; refine ⟨by (repeat (first | exact trivial | refine And.intro (pend_q rfl rfl rfl (qt_pev tok rfl)) ?_ | refine And.intro (pend_q rfl rfl rfl (qt_ld tok rfl (by (repeat (first | with_reducible apply List.mem_cons_self | with_reducible assumption | with_reducible apply List.mem_cons_of_mem | with_reducible apply List.mem_append_right))) (by rfl))) ?_)), ?_⟩) | (refine prn_o1 rfl (st_alloc tok rfl) (by decide +kernel) rfl rfl rfl ?_; rintro _ _ _ ⟨_, rfl, rfl, rfl⟩; refine ⟨by (repeat (first | exact trivial | refine And.intro (pend_q rfl rfl rfl (qt_pev tok rfl)) ?_ | refine And.intro (pend_q rfl rfl rfl (qt_ld tok rfl (by (repeat (first | with_reducible apply List.mem_cons_self | with_reducible assumption | with_reducible apply List.mem_cons_of_mem | with_reducible apply List.mem_append_right))) (by rfl))) ?_)), ?_⟩) | (refine prn_o1 rfl (st_buildSlice tok rfl rfl rfl rfl rfl rfl rfl) (by decide +kernel) rfl rfl rfl ?_; rintro _ _ _ ⟨_, rfl, rfl, rfl⟩; refine ⟨by (repeat (first | exact trivial | refine And.intro (pend_q rfl rfl rfl (qt_pev tok rfl)) ?_ | refine And.intro (pend_q rfl rfl rfl (qt_ld tok rfl (by (repeat (first | with_reducible apply List.mem_cons_self | with_reducible assumption | with_reducible apply List.mem_cons_of_mem | with_reducible apply List.mem_append_right))) (by rfl))) ?_)), ?_⟩) | (refine prn_e1 rfl (qt_pev tok rfl) (by decide +kernel) rfl rfl rfl ?_; rintro _ _ _ ⟨rfl, rfl, rfl⟩) | refine prn_q rfl (qt_lookupG tok keyT rfl rfl rfl rfl (.inl (by (repeat (first | with_reducible apply List.mem_cons_self | with_reducible assumption | with_reducible apply List.mem_cons_of_mem | with_reducible apply List.mem_append_right)))) rfl hget) (by decide +kernel) rfl rfl rfl ?_)
    refine run_cond rfl (fun h => by cases h) (fun _ => ?_)
    repeat (first | with_reducible refine run_seq ?_ | with_reducible refine run_region ?_ | with_reducible refine runL_nil ?_ | with_reducible refine run_skip ?_ | with_reducible refine run_block ?_ | with_reducible refine run_inBlock ?_ | refine run_exit rfl ?_ | refine runL_q (qt_pev tok rfl) rfl rfl rfl ?_ | refine runL_g rfl rfl (qt_pev tok rfl) rfl rfl rfl rfl rfl ?_ | refine runL_q (qt_ld tok rfl (by (repeat (first | with_reducible apply List.mem_cons_self | with_reducible assumption | with_reducible apply List.mem_cons_of_mem | with_reducible apply List.mem_append_right))) (by rfl)) rfl rfl rfl ?_ | refine runL_g rfl rfl (qt_ld tok rfl (by (repeat (first | with_reducible apply List.mem_cons_self | with_reducible assumption | with_reducible apply List.mem_cons_of_mem | with_reducible apply List.mem_append_right))) (by rfl)) rfl rfl rfl rfl rfl ?_ | (refine runL_op0 (st_store tok rfl rfl rfl rfl rfl (by (repeat (first | with_reducible apply Upd.here | with_reducible apply Upd.there | with_reducible apply Upd.append_left))) (by rfl)) ?_; rintro _ _ _ ⟨rfl, rfl, rfl⟩) | (refine runL_op (st_box rfl) rfl rfl rfl ?_; rintro _ _ _ ⟨_, rfl, rfl, rfl⟩) | (refine runL_op (st_alloc tok rfl) rfl rfl rfl ?_; rintro _ _ _ ⟨_, rfl, rfl, rfl⟩) | (refine runL_op (st_buildSlice tok rfl rfl rfl rfl rfl rfl rfl) rfl rfl rfl ?_; rintro _ _ _ ⟨_, rfl, rfl, rfl⟩))
    exact run_ret hC (rs := [.cell 4 62]) rfl (resL tok rfl (by (repeat (first | with_reducible apply List.mem_cons_self | with_reducible assumption | with_reducible apply List.mem_cons_of_mem | with_reducible apply List.mem_append_right))) (by rfl) resN) (fun _ h => h.drop.drop) ⟨by rw [rowOf_none hi]; rfl, rfl, rfl⟩
  | some k =>
    rw [hi] at hget
    simp only [Option.map_some] at hget
    obtain ⟨_, r, hr, _⟩ := ixOf_some hi
    simp only [Nat.sub_zero] at hr
    have hlt : k < rows.length := (List.getElem?_eq_some_iff.1 hr).1
    obtain ⟨b, cap, cs, rfl, hb, hseg⟩ := hg.at_ hr
    repeat (first | with_reducible refine run_seq ?_ | with_reducible refine run_region ?_ | with_reducible refine runL_nil ?_ | with_reducible refine run_skip ?_ | with_reducible refine run_block ?_ | with_reducible refine run_inBlock ?_ | refine run_exit rfl ?_ | refine runL_q (qt_pev tok rfl) rfl rfl rfl ?_ | refine runL_g rfl rfl (qt_pev tok rfl) rfl rfl rfl rfl rfl ?_ | refine runL_q (qt_ld tok rfl (by (repeat (first | with_reducible apply List.mem_cons_self | with_reducible assumption | with_reducible apply List.mem_cons_of_mem | with_reducible apply List.mem_append_right))) (by rfl)) rfl rfl rfl ?_ | refine runL_g rfl rfl (qt_ld tok rfl (by (repeat (first | with_reducible apply List.mem_cons_self | with_reducible assumption | with_reducible apply List.mem_cons_of_mem | with_reducible apply List.mem_append_right))) (by rfl)) rfl rfl rfl rfl rfl ?_ | (refine runL_op0 (st_store tok rfl rfl rfl rfl rfl (by (repeat (first | with_reducible apply Upd.here | with_reducible apply Upd.there | with_reducible apply Upd.append_left))) (by rfl)) ?_; rintro _ _ _ ⟨rfl, rfl, rfl⟩) | (refine runL_op (st_box rfl) rfl rfl rfl ?_; rintro _ _ _ ⟨_, rfl, rfl, rfl⟩) | (refine runL_op (st_alloc tok rfl) rfl rfl rfl ?_; rintro _ _ _ ⟨_, rfl, rfl, rfl⟩) | (refine runL_op (st_buildSlice tok rfl rfl rfl rfl rfl rfl rfl) rfl rfl rfl ?_; rintro _ _ _ ⟨_, rfl, rfl, rfl⟩) | refine prn_start mixed ?_ | refine prn_end (by decide +kernel) ?_ | refine prn_q rfl (qt_pev tok rfl) (by decide +kernel) rfl rfl rfl ?_ | refine prn_g rfl rfl rfl (qt_pev tok rfl) (by decide +kernel) rfl rfl rfl rfl rfl ?_ | refine prn_q rfl (qt_ld tok rfl (by (repeat (first | with_reducible apply List.mem_cons_self | with_reducible assumption | with_reducible apply List.mem_cons_of_mem | with_reducible apply List.mem_append_right))) (by rfl)) (by decide +kernel) rfl rfl rfl ?_ | refine prn_g rfl rfl rfl (qt_ld tok rfl (by (repeat (first | with_reducible apply List.mem_cons_self | with_reducible assumption | with_reducible apply List.mem_cons_of_mem | with_reducible apply List.mem_append_right))) (by rfl)) (by decide +kernel) rfl rfl rfl rfl rfl ?_ | (refine prn_e0 rfl (st_store tok rfl rfl rfl rfl rfl (by (repeat (first | with_reducible apply Upd.here | with_reducible apply Upd.there | with_reducible apply Upd.append_left))) (by rfl)) (by decide +kernel) ?_; rintro _ _ _ ⟨rfl, rfl, rfl⟩) | (refine prn_e1 rfl (st_box rfl) (by decide +kernel) rfl rfl rfl ?_; rintro _ _ _ ⟨_, rfl, rfl, rfl⟩) | (refine prn_e1 rfl (st_alloc tok rfl) (by decide +kernel) rfl rfl rfl ?_; rintro _ _ _ ⟨_, rfl, rfl, rfl⟩) | (refine prn_e1 rfl (st_buildSlice tok rfl rfl rfl rfl rfl rfl rfl) (by decide +kernel) rfl rfl rfl ?_; rintro _ _ _ ⟨_, rfl, rfl, rfl⟩) | (refine prn_o0 rfl (st_store tok rfl rfl rfl rfl rfl (by (repeat (first | with_reducible apply Upd.here | with_reducible apply Upd.there | with_reducible apply Upd.append_left))) (by rfl)) (by decide +kernel) ?_; rintro _ _ _ ⟨rfl, rfl, rfl⟩; refine ⟨by (repeat (first | exact trivial | refine And.intro (pend_q rfl rfl rfl (qt_pev tok rfl)) ?_ | refine And.intro (pend_q rfl rfl rfl (qt_ld tok rfl (by (repeat (first | with_reducible apply List.mem_cons_self | with_reducible assumption | with_reducible apply List.mem_cons_of_mem | with_reducible apply List.mem_append_right))) (by rfl))) ?_)), ?_⟩) | (refine prn_o1 rfl (st_box rfl) (by decide +kernel) rfl rfl rfl ?_; rintro _ _ _ ⟨_, rfl, rfl, rfl⟩; refine ⟨by (repeat (first | exact trivial | refine And.intro (pend_q rfl rfl rfl (qt_pev tok rfl)) ?_ | refine And.intro (pend_q rfl rfl rfl (qt_ld tok rfl (by (repeat (first | with_reducible apply List.mem_cons_self | with_reducible assumption | with_reducible apply List.mem_cons_of_mem | with_reducible apply List.mem_append_right))) (by rfl))) ?_)), ?_⟩) | (refine prn_o1 rfl (st_alloc tok rfl) (by decide +kernel) rfl rfl rfl ?_; rintro _ _ _ ⟨_, rfl, rfl, rfl⟩; refine ⟨by (repeat (first | exact trivial | refine And.intro (pend_q rfl rfl rfl (qt_pev tok rfl)) ?_ | refine And.intro (pend_q rfl rfl rfl (qt_ld tok rfl (by (repeat (first | with_reducible apply List.mem_cons_self | with_reducible assumption | with_reducible apply List.mem_cons_of_mem | with_reducible apply List.mem_append_right))) (by rfl))) ?_)), ?_⟩) | (refine prn_o1 rfl (st_buildSlice tok rfl rfl rfl rfl rfl rfl rfl) (by decide +kernel) rfl rfl rfl ?_; rintro _ _ _ ⟨_, rfl, rfl, rfl⟩; refine ⟨by (repeat (first | exact trivial | refine And.intro (pend_q rfl rfl rfl (qt_pev tok rfl)) ?_ | refine And.intro (pend_q rfl rfl rfl (qt_ld tok rfl (by (repeat (first | with_reducible apply List.mem_cons_self | with_reducible assumption | with_reducible apply List.mem_cons_of_mem | with_reducible apply List.mem_append_right))) (by rfl))) ?_)), ?_⟩) | (refine prn_e1 rfl (qt_pev tok rfl) (by decide +kernel) rfl rfl rfl ?_; rintro _ _ _ ⟨rfl, rfl, rfl⟩) | refine prn_q rfl (qt_lookupG tok keyT rfl rfl rfl rfl (.inl (by (repeat (first | with_reducible apply List.mem_cons_self | with_reducible assumption | with_reducible apply List.mem_cons_of_mem | with_reducible apply List.mem_append_right)))) rfl hget) (by decide +kernel) rfl rfl rfl ?_)
    refine run_cond rfl (fun _ => ?_) (fun h => by cases h)
    repeat (first | with_reducible refine run_seq ?_ | with_reducible refine run_region ?_ | with_reducible refine runL_nil ?_ | with_reducible refine run_skip ?_ | with_reducible refine run_block ?_ | with_reducible refine run_inBlock ?_ | refine run_exit rfl ?_ | refine runL_q (qt_pev tok rfl) rfl rfl rfl ?_ | refine runL_g rfl rfl (qt_pev tok rfl) rfl rfl rfl rfl rfl ?_ | refine runL_q (qt_ld tok rfl (by (repeat (first | with_reducible apply List.mem_cons_self | with_reducible assumption | with_reducible apply List.mem_cons_of_mem | with_reducible apply List.mem_append_right))) (by rfl)) rfl rfl rfl ?_ | refine runL_g rfl rfl (qt_ld tok rfl (by (repeat (first | with_reducible apply List.mem_cons_self | with_reducible assumption | with_reducible apply List.mem_cons_of_mem | with_reducible apply List.mem_append_right))) (by rfl)) rfl rfl rfl rfl rfl ?_ | (refine runL_op0 (st_store tok rfl rfl rfl rfl rfl (by (repeat (first | with_reducible apply Upd.here | with_reducible apply Upd.there | with_reducible apply Upd.append_left))) (by rfl)) ?_; rintro _ _ _ ⟨rfl, rfl, rfl⟩) | (refine runL_op (st_box rfl) rfl rfl rfl ?_; rintro _ _ _ ⟨_, rfl, rfl, rfl⟩) | (refine runL_op (st_alloc tok rfl) rfl rfl rfl ?_; rintro _ _ _ ⟨_, rfl, rfl, rfl⟩) | (refine runL_op (st_buildSlice tok rfl rfl rfl rfl rfl rfl rfl) rfl rfl rfl ?_; rintro _ _ _ ⟨_, rfl, rfl, rfl⟩) | refine runL_q (qt_indexN tok rfl rfl rfl rfl (fun _ => hlt)) rfl rfl rfl ?_ | refine runL_q (qt_ldB0 tok rfl hseg (by (repeat (first | with_reducible apply List.mem_cons_self | with_reducible assumption | with_reducible apply List.mem_cons_of_mem | with_reducible apply List.mem_append_right))) (by rfl)) rfl rfl rfl ?_)
    exact run_ret hC (rs := [.cell 4 62]) rfl (resL tok rfl (by (repeat (first | with_reducible apply List.mem_cons_self | with_reducible assumption | with_reducible apply List.mem_cons_of_mem | with_reducible apply List.mem_append_right))) (by rfl) resN) (fun _ h => h.drop.drop) ⟨by rw [rowOf_some hi hr]; rfl, rfl, rfl⟩

/-! ### the kinds, by their numbers -/
def kdO (k : Int) : Bool := k == 1
def kdG (k : Int) : Bool := k == 2 || k == 4
def kdY (k : Int) : Bool := k == 2 || k == 3 || k == 4
def kdC (k : Int) : Nat := if k = 1 then 47 else if k = 2 then 49 else if k = 3 then 51 else 53
def kdD (k : Int) : Nat := if k = 1 then 48 else if k = 2 then 50 else if k = 3 then 52 else 54
def kdOk (k : Int) : Bool := decide (1 ≤ k) && decide (k ≤ 4)
theorem kd_cases {k : Int} (h : kdOk k = true) : k = 1 ∨ k = 2 ∨ k = 3 ∨ k = 4 := by simp [kdOk] at h; omega
theorem lk_some {k : Int} (h : kdOk k = true) : kvGet lkKV k = some (lkV (kdO k) (kdG k) (kdY k) (kdC k) (kdD k)) := by
  rcases kd_cases h with rfl | rfl | rfl | rfl <;> rfl
theorem lk_none {k : Int} (h : kdOk k = false) : kvGet lkKV k = none := by
  have : k ≠ 1 ∧ k ≠ 2 ∧ k ≠ 3 ∧ k ≠ 4 := by simp [kdOk] at h; omega
  simp [kvGet, lkKV, this]
def canK (bad : Int) (r : Lr) (a : Ac) : Bool := if a.kind = 1 then canBegin r else if a.kind = 2 then canVote r a else if a.kind = 3 then canDecide bad r a else canLearn r a
def doK (r : Lr) (a : Ac) : Lr := if a.kind = 1 then doBegin r a else if a.kind = 2 then doVote r a else if a.kind = 3 then doDecide r a else doLearn r a
theorem can_ok (M : Mem) (L : HL) (bg br : Nat) (bad : Int) (va mv : Value) (r : Lr) (a : Ac) (hk : kdOk a.kind = true) (hr : (br, Obj.cells ⟨lrC r⟩ 62 (0, 0)) ∈ L) (hg : (bg, Obj.cells ⟨lgC bad va mv⟩ 92 (0, 0)) ∈ L) (h0 : 0 ≤ a.org) :
    TrQ Try.prog (kdC a.kind) [.pointer (some ⟨bg, 0, none⟩), .pointer (some ⟨br, 0, none⟩), .agg ⟨acC a⟩] M L (.bool (canK bad r a)) := by
  rcases kd_cases hk with h | h | h | h <;> simp only [kdC, canK, h]
  · exact mayBegin_ok M L _ br r a hr
  · exact mayVote_ok M L _ br r a hr h0
  · exact mayDecide_ok M L r bad va mv br bg a hr hg
  · exact mayLearn_ok M L _ br r a hr h0
theorem do_ok (M : Mem) (L : HL) (gv : Value) (br : Nat) (pre post : List Value) (r : Lr) (a : Ac) (hk : kdOk a.kind = true) (h0 : 0 ≤ a.org) :
    Tr Try.prog (kdD a.kind) [gv, .pointer (some ⟨br, pre.length, none⟩), .agg ⟨acC a⟩] M ((br, .cells ⟨pre ++ (lrC r ++ post)⟩ 62 (0, 0)) :: L) (fun _ M' L' => M = M' ∧ L' = (br, .cells ⟨pre ++ (lrC (doK r a) ++ post)⟩ 62 (0, 0)) :: L) := by
  rcases kd_cases hk with h | h | h | h <;> simp only [kdD, doK, h]
  · exact begin_ok M L gv br pre post r a
  · exact vote_ok M L gv br pre post r a h0
  · exact decide_ok M L gv br pre post r a
  · exact learn_ok M L gv br pre post r a h0
def mayP (bad : Int) (a : Ac) : Bool := mayBeP bad (kdO a.kind) (kdG a.kind) (kdY a.kind) a
theorem mayP_org {bad : Int} {a : Ac} (h : mayP bad a = true) : 0 ≤ a.org ∧ a.org < 8 := by
  simp only [mayP, mayBeP, Bool.not_eq_true', Bool.or_eq_false_iff, Bool.and_eq_false_iff] at h
  cases hg : kdG a.kind <;> simp [hg] at h <;> omega
def mayE (bad : Int) (rows : List Lr) (a : Ac) : Int := if (!kdOk a.kind || !mayP bad a) = true then 2 else if (!canK bad (rowOf rows a.txn) a) = true then 290 else 0
end Go.Proofs.Ytcolmljidbbbbaa
