import Derived.Test.YtpjklbkfhgfmnaaBAA
import Derived.Test.YtpjklbkfhgfmnaaBAB
import Derived.Laws.BytesString
import Derived.Laws.MakeOwn
import Derived.Laws.OwnMore
namespace Go.Proofs.Ytpjklbkfhgfmnaa
open Go.Chi

theorem take_snoc {α : Type} {l : List α} {j : Nat} {x : α} (h : l[j]? = some x) : l.take (j + 1) = l.take j ++ [x] := by rw [List.take_add_one, h]; rfl
theorem any_snoc {α : Type} {xs : List α} {j : Nat} {x : α} (p : α → Bool) (hx : xs[j]? = some x) (hp : (xs.take j).any p = false) : (xs.take (j + 1)).any p = p x := by rw [take_snoc hx, List.any_append, hp]; simp
theorem any_true {α : Type} {xs : List α} {j : Nat} {x : α} (p : α → Bool) (hx : xs[j]? = some x) (hp : p x = true) : xs.any p = true := List.any_eq_true.2 ⟨x, List.mem_of_getElem? hx, hp⟩
theorem SMb.at_ {M : Mem} {a : Option Addr} {len : Nat} {xs : List Mb} (h : SlM M 2 a len (xs.map mbC)) {j : Nat} (hj : j < len) : ∃ b off m, a = some ⟨b, off, none⟩ ∧ xs[j]? = some m ∧ Cells M [] b (off + j * 2) (mbC m) := by
  obtain ⟨b, off, c, ha, hc, _, hcells⟩ := h.at_ hj
  obtain ⟨m, hm, rfl⟩ : ∃ m, xs[j]? = some m ∧ mbC m = c := by simpa using hc
  exact ⟨b, off, m, ha, hm, hcells⟩
def stC (x : ByteArray) : List Value := [.string x]
theorem SStr.at_ {M : Mem} {a : Option Addr} {len : Nat} {xs : List ByteArray} (h : SlM M 1 a len (xs.map stC)) {j : Nat} (hj : j < len) : ∃ b off m, a = some ⟨b, off, none⟩ ∧ xs[j]? = some m ∧ Cells M [] b (off + j * 1) (stC m) := by
  obtain ⟨b, off, c, ha, hc, _, hcells⟩ := h.at_ hj
  obtain ⟨m, hm, rfl⟩ : ∃ m, xs[j]? = some m ∧ stC m = c := by simpa using hc
  exact ⟨b, off, m, ha, hm, hcells⟩
def MbOk (M : Mem) (s : SMb) : Prop := s.Ok M ∧ s.len < 1000000
def StOk (M : Mem) (s : SStr) : Prop := s.Ok M ∧ s.len < 1000000
theorem MbOk.le {M M' : Mem} {s : SMb} (hm : M.le M') (h : MbOk M s) : MbOk M' s := ⟨h.1.le hm, h.2⟩
theorem StOk.le {M M' : Mem} {s : SStr} (hm : M.le M') (h : StOk M s) : StOk M' s := ⟨h.1.le hm, h.2⟩
theorem MbOk.nil (M : Mem) : MbOk M ⟨none, 0, 0, []⟩ := ⟨SlM.nil _ _ _, by decide⟩
theorem StOk.nil (M : Mem) : StOk M ⟨none, 0, 0, []⟩ := ⟨SlM.nil _ _ _, by decide⟩
theorem MbOk.len {M : Mem} {s : SMb} (h : MbOk M s) : s.xs.length = s.len := by have := h.1.1; simpa using this
theorem StOk.len {M : Mem} {s : SStr} (h : StOk M s) : s.xs.length = s.len := by have := h.1.1; simpa using this

/-! ### names that may be -/
def orgW (n : Int) : Bool := decide (n ≥ 0) && decide (n < 8)
theorem worg_ok (M : Mem) (L : HL) (n : Int) : TrQ Try.prog 47 [.int .i64 n] M L (.bool (orgW n)) := by
  refine Tr.intro 9 Try.func47 rfl rfl Try.call47 rfl ?_
  intro C hC hro
  repeat (first | with_reducible (first | refine run_seq ?_ | refine run_region ?_ | refine runL_nil ?_ | refine run_skip ?_ | refine run_block ?_ | refine run_inBlock ?_) | refine run_exit rfl ?_ | refine runL_q (qt_pev tok rfl) rfl rfl rfl ?_ | refine runL_g rfl rfl (qt_pev tok rfl) rfl rfl rfl rfl rfl ?_ | refine runL_q (ql tok rfl) rfl rfl rfl ?_ | refine runL_g rfl rfl (ql tok rfl) rfl rfl rfl rfl rfl ?_ | (refine runL_op0 (sst tok rfl rfl rfl rfl rfl) ?_; rintro _ _ _ ⟨rfl, rfl, rfl⟩) | (refine runL_op (st_box rfl) rfl rfl rfl ?_; rintro _ _ _ ⟨_, rfl, rfl, rfl⟩) | (refine runL_op (st_alloc tok rfl) rfl rfl rfl ?_; rintro _ _ _ ⟨_, rfl, rfl, rfl⟩) | (refine runL_op (st_buildSlice tok rfl rfl rfl rfl rfl rfl rfl) rfl rfl rfl ?_; rintro _ _ _ ⟨_, rfl, rfl, rfl⟩))
  exact run_ret hC (rs := [.tmp 2]) rfl (resT rfl resN) (fun _ h => h) ⟨rfl, rfl, rfl⟩
def mayTx (t : Tx) : Bool := (((orgW t.coord && decide (t.epoch ≥ 1)) && decide (t.epoch ≤ 255)) && decide (t.seq ≥ 1)) && decide (t.seq ≤ 65535)
theorem mayTx_ok (M : Mem) (L : HL) (t : Tx) : TrQ Try.prog 22 [.agg ⟨txC t⟩] M L (.bool (mayTx t)) := by
  refine Tr.intro 26 Try.func22 rfl rfl Try.call22 rfl ?_
  intro C hC hro
  repeat (first | with_reducible (first | refine run_seq ?_ | refine run_region ?_ | refine runL_nil ?_ | refine run_skip ?_ | refine run_block ?_ | refine run_inBlock ?_) | refine run_exit rfl ?_ | refine runL_q (qt_pev tok rfl) rfl rfl rfl ?_ | refine runL_g rfl rfl (qt_pev tok rfl) rfl rfl rfl rfl rfl ?_ | refine runL_q (ql tok rfl) rfl rfl rfl ?_ | refine runL_g rfl rfl (ql tok rfl) rfl rfl rfl rfl rfl ?_ | (refine runL_op0 (sst tok rfl rfl rfl rfl rfl) ?_; rintro _ _ _ ⟨rfl, rfl, rfl⟩) | (refine runL_op (st_box rfl) rfl rfl rfl ?_; rintro _ _ _ ⟨_, rfl, rfl, rfl⟩) | (refine runL_op (st_alloc tok rfl) rfl rfl rfl ?_; rintro _ _ _ ⟨_, rfl, rfl, rfl⟩) | (refine runL_op (st_buildSlice tok rfl rfl rfl rfl rfl rfl rfl) rfl rfl rfl ?_; rintro _ _ _ ⟨_, rfl, rfl, rfl⟩) | refine runL_q (qt_callF rfl (fun _ => worg_ok _ _ _)) rfl rfl rfl ?_)
  exact run_ret hC (rs := [.tmp 2]) rfl (resT rfl resN) (fun _ h => h.drop) ⟨rfl, rfl, rfl⟩
/-! ### members that may be -/
def badM (t : Tx) (last : Int) (x : Mb) : Bool := (((!orgW x.org) || (x.org == t.coord)) || decide (x.org ≤ last)) || (checkR x.digest != 0)
def memGo (t : Tx) : Int → List Mb → Bool
  | _, [] => true
  | last, x :: l => if badM t last x = true then false else memGo t x.org l
def mayMb (t : Tx) (l : List Mb) : Bool := memGo t (-1) l && (decide ((l.length : Int) ≥ 1) && decide ((l.length : Int) ≤ 6))
set_option maxHeartbeats 4000000 in
theorem mayMb_ok (M : Mem) (L : HL) (t : Tx) (s : SMb) (hs : MbOk M s) (hd : ∀ m ∈ s.xs, m.digest.size < 4611686018427387904) : TrQ Try.prog 25 [.agg ⟨txC t⟩, s.v] M L (.bool (mayMb t s.xs)) := by
  have hx1 := hs.len
  have hlt6 := hs.2
  refine Tr.intro 48 Try.func25 rfl rfl Try.call25 rfl ?_
  intro C hC hro
  repeat (first | with_reducible (first | refine run_seq ?_ | refine run_region ?_ | refine runL_nil ?_ | refine run_skip ?_ | refine run_block ?_ | refine run_inBlock ?_) | refine run_exit rfl ?_ | refine runL_q (qt_pev tok rfl) rfl rfl rfl ?_ | refine runL_g rfl rfl (qt_pev tok rfl) rfl rfl rfl rfl rfl ?_ | refine runL_q (ql tok rfl) rfl rfl rfl ?_ | refine runL_g rfl rfl (ql tok rfl) rfl rfl rfl rfl rfl ?_ | (refine runL_op0 (sst tok rfl rfl rfl rfl rfl) ?_; rintro _ _ _ ⟨rfl, rfl, rfl⟩) | (refine runL_op (st_box rfl) rfl rfl rfl ?_; rintro _ _ _ ⟨_, rfl, rfl, rfl⟩) | (refine runL_op (st_alloc tok rfl) rfl rfl rfl ?_; rintro _ _ _ ⟨_, rfl, rfl, rfl⟩) | (refine runL_op (st_buildSlice tok rfl rfl rfl rfl rfl rfl rfl) rfl rfl rfl ?_; rintro _ _ _ ⟨_, rfl, rfl, rfl⟩))
  rename_i b2
  refine run_loopN (fun j σ1 M1 L1 => j ≤ s.len ∧ ∃ last, memGo t last (s.xs.drop j) = memGo t (-1) s.xs ∧ M = M1 ∧ L1 = (b2, .cells ⟨txC t⟩ 23 (0, 0)) :: L ∧ σ1 = [(10, .int .i64 (j : Int)), (9, .int .i64 (s.len : Int)), (8, s.v), (5, .int .i64 last), (1, s.v), (2, .pointer (some ⟨b2, 0, none⟩))]) s.len [(10, .int .i64 ((0 : Nat) : Int)), (9, .int .i64 (s.len : Int)), (8, s.v), (5, .int .i64 (-1)), (1, s.v), (2, .pointer (some ⟨b2, 0, none⟩))] ?_ ⟨Nat.zero_le _, -1, rfl, rfl, rfl, rfl⟩ (fun j _ _ _ h => h.1) ?_
  · exact ⟨rfl, rfl, rfl, rfl, rfl, rfl, trivial⟩
  rintro j _ _ _ ⟨hj, last, hgo, rfl, rfl, rfl⟩ hnext
  repeat (first | with_reducible (first | refine run_seq ?_ | refine run_region ?_ | refine runL_nil ?_ | refine run_skip ?_ | refine run_block ?_ | refine run_inBlock ?_) | refine run_exit rfl ?_ | refine runL_q (qt_pev tok rfl) rfl rfl rfl ?_ | refine runL_g rfl rfl (qt_pev tok rfl) rfl rfl rfl rfl rfl ?_ | refine runL_q (ql tok rfl) rfl rfl rfl ?_ | refine runL_g rfl rfl (ql tok rfl) rfl rfl rfl rfl rfl ?_ | (refine runL_op0 (sst tok rfl rfl rfl rfl rfl) ?_; rintro _ _ _ ⟨rfl, rfl, rfl⟩) | (refine runL_op (st_box rfl) rfl rfl rfl ?_; rintro _ _ _ ⟨_, rfl, rfl, rfl⟩) | (refine runL_op (st_alloc tok rfl) rfl rfl rfl ?_; rintro _ _ _ ⟨_, rfl, rfl, rfl⟩) | (refine runL_op (st_buildSlice tok rfl rfl rfl rfl rfl rfl rfl) rfl rfl rfl ?_; rintro _ _ _ ⟨_, rfl, rfl, rfl⟩))
  refine run_cond rfl (fun h => ?_) (fun h => ?_)
  · have hlt : j < s.len := by simpa using h
    obtain ⟨b, off, m, hma, hm, hc⟩ := SMb.at_ hs.1 hlt
    have hv : s.v = .slice (some ⟨b, off, none⟩) s.len s.cap := by rw [← hma]; rfl
    have hdr : s.xs.drop j = m :: s.xs.drop (j + 1) := by
      obtain ⟨hl, he⟩ := List.getElem?_eq_some_iff.1 hm
      rw [← he]; exact (List.getElem_cons_drop (h := hl)).symm
    rw [hdr, memGo] at hgo
    have hmd := hd m (List.mem_of_getElem? hm)
    refine run_as 8 (.slice (some ⟨b, off, none⟩) s.len s.cap) rfl hv ?_
    repeat (first | with_reducible (first | refine run_seq ?_ | refine run_region ?_ | refine runL_nil ?_ | refine run_skip ?_ | refine run_block ?_ | refine run_inBlock ?_) | refine run_exit rfl ?_ | refine runL_q (qt_pev tok rfl) rfl rfl rfl ?_ | refine runL_g rfl rfl (qt_pev tok rfl) rfl rfl rfl rfl rfl ?_ | refine runL_q (ql tok rfl) rfl rfl rfl ?_ | refine runL_g rfl rfl (ql tok rfl) rfl rfl rfl rfl rfl ?_ | (refine runL_op0 (sst tok rfl rfl rfl rfl rfl) ?_; rintro _ _ _ ⟨rfl, rfl, rfl⟩) | (refine runL_op (st_box rfl) rfl rfl rfl ?_; rintro _ _ _ ⟨_, rfl, rfl, rfl⟩) | (refine runL_op (st_alloc tok rfl) rfl rfl rfl ?_; rintro _ _ _ ⟨_, rfl, rfl, rfl⟩) | (refine runL_op (st_buildSlice tok rfl rfl rfl rfl rfl rfl rfl) rfl rfl rfl ?_; rintro _ _ _ ⟨_, rfl, rfl, rfl⟩) | refine runL_q (qt_indexN tok rfl rfl rfl rfl (fun _ => by omega)) rfl rfl rfl ?_ | refine runL_g rfl rfl (qt_indexN tok rfl rfl rfl rfl (fun _ => by omega)) rfl rfl rfl rfl rfl ?_ | refine runL_q (qt_ldM tok rfl hc rfl) rfl rfl rfl ?_ | refine runL_g rfl rfl (qt_ldM tok rfl hc rfl) rfl rfl rfl rfl rfl ?_ | refine runL_q (qt_ldM0 tok rfl hc rfl) rfl rfl rfl ?_ | refine runL_g rfl rfl (qt_ldM0 tok rfl hc rfl) rfl rfl rfl rfl rfl ?_ | refine runL_q (qt_callF rfl (fun _ => worg_ok _ _ _)) rfl rfl rfl ?_ | refine runL_g rfl rfl (qt_callF rfl (fun _ => check_ok _ _ _ hmd)) rfl rfl rfl rfl rfl ?_)
    refine run_cond rfl (fun h => ?_) (fun h => ?_)
    · repeat (first | with_reducible (first | refine run_seq ?_ | refine run_region ?_ | refine runL_nil ?_ | refine run_skip ?_ | refine run_block ?_ | refine run_inBlock ?_) | refine run_exit rfl ?_ | refine runL_q (qt_pev tok rfl) rfl rfl rfl ?_ | refine runL_g rfl rfl (qt_pev tok rfl) rfl rfl rfl rfl rfl ?_ | refine runL_q (ql tok rfl) rfl rfl rfl ?_ | refine runL_g rfl rfl (ql tok rfl) rfl rfl rfl rfl rfl ?_ | (refine runL_op0 (sst tok rfl rfl rfl rfl rfl) ?_; rintro _ _ _ ⟨rfl, rfl, rfl⟩) | (refine runL_op (st_box rfl) rfl rfl rfl ?_; rintro _ _ _ ⟨_, rfl, rfl, rfl⟩) | (refine runL_op (st_alloc tok rfl) rfl rfl rfl ?_; rintro _ _ _ ⟨_, rfl, rfl, rfl⟩) | (refine runL_op (st_buildSlice tok rfl rfl rfl rfl rfl rfl rfl) rfl rfl rfl ?_; rintro _ _ _ ⟨_, rfl, rfl, rfl⟩))
      refine run_ret hC (rs := [.tmp 4]) rfl (resT rfl resN) (fun _ h => h.drop.drop) ⟨?_, rfl, rfl⟩
      have hb : badM t last m = true := h
      rw [if_pos hb] at hgo
      rw [mayMb, ← hgo]; rfl
    · have hb : ¬ badM t last m = true := fun e => by rw [show badM t last m = false from h] at e; cases e
      rw [if_neg hb] at hgo
      repeat (first | with_reducible (first | refine run_seq ?_ | refine run_region ?_ | refine runL_nil ?_ | refine run_skip ?_ | refine run_block ?_ | refine run_inBlock ?_) | refine run_exit rfl ?_ | refine runL_q (qt_pev tok rfl) rfl rfl rfl ?_ | refine runL_g rfl rfl (qt_pev tok rfl) rfl rfl rfl rfl rfl ?_ | refine runL_q (ql tok rfl) rfl rfl rfl ?_ | refine runL_g rfl rfl (ql tok rfl) rfl rfl rfl rfl rfl ?_ | (refine runL_op0 (sst tok rfl rfl rfl rfl rfl) ?_; rintro _ _ _ ⟨rfl, rfl, rfl⟩) | (refine runL_op (st_box rfl) rfl rfl rfl ?_; rintro _ _ _ ⟨_, rfl, rfl, rfl⟩) | (refine runL_op (st_alloc tok rfl) rfl rfl rfl ?_; rintro _ _ _ ⟨_, rfl, rfl, rfl⟩) | (refine runL_op (st_buildSlice tok rfl rfl rfl rfl rfl rfl rfl) rfl rfl rfl ?_; rintro _ _ _ ⟨_, rfl, rfl, rfl⟩))
      exact run_mem (fun _ h => h.drop) (run_sub' (hnext _ _ _ ⟨hlt, m.org, hgo, rfl, rfl, rfl⟩) ⟨lk_succ rfl (by omega), rfl, by rw [hv]; rfl, rfl, rfl, rfl, trivial⟩)
  · have hge : j = s.len := by simp at h; omega
    rw [hge, List.drop_eq_nil_of_le (by omega)] at hgo
    repeat (first | with_reducible (first | refine run_seq ?_ | refine run_region ?_ | refine runL_nil ?_ | refine run_skip ?_ | refine run_block ?_ | refine run_inBlock ?_) | refine run_exit rfl ?_ | refine runL_q (qt_pev tok rfl) rfl rfl rfl ?_ | refine runL_g rfl rfl (qt_pev tok rfl) rfl rfl rfl rfl rfl ?_ | refine runL_q (ql tok rfl) rfl rfl rfl ?_ | refine runL_g rfl rfl (ql tok rfl) rfl rfl rfl rfl rfl ?_ | (refine runL_op0 (sst tok rfl rfl rfl rfl rfl) ?_; rintro _ _ _ ⟨rfl, rfl, rfl⟩) | (refine runL_op (st_box rfl) rfl rfl rfl ?_; rintro _ _ _ ⟨_, rfl, rfl, rfl⟩) | (refine runL_op (st_alloc tok rfl) rfl rfl rfl ?_; rintro _ _ _ ⟨_, rfl, rfl, rfl⟩) | (refine runL_op (st_buildSlice tok rfl rfl rfl rfl rfl rfl rfl) rfl rfl rfl ?_; rintro _ _ _ ⟨_, rfl, rfl, rfl⟩))
    refine run_ret hC (rs := [.tmp 4]) rfl (resT rfl resN) (fun _ h => h.drop) ⟨?_, rfl, rfl⟩
    rw [mayMb, ← hgo, hx1]; rfl
end Go.Proofs.Ytpjklbkfhgfmnaa
namespace Go.Proofs.Ytpjklbkfhgfmnaa
open Go.Chi

structure RcOk (M : Mem) (r : Rc) : Prop where
  mem : MbOk M r.mem
  tags : StOk M r.tags
  dig : ∀ m ∈ r.mem.xs, m.digest.size < 4611686018427387904
  tag : ∀ t ∈ r.tags.xs, t.size < 4611686018427387904
  body : r.body.size < 4611686018427387904

/-! ### small functions -/
theorem rorg_ok (M : Mem) (L : HL) (n : Int) : TrQ Try.prog 24 [.int .i64 n] M L (.bool (orgW n)) := by
  refine Tr.intro 9 Try.func24 rfl rfl Try.call24 rfl ?_
  intro C hC hro
  repeat (first | with_reducible (first | refine run_seq ?_ | refine run_region ?_ | refine runL_nil ?_ | refine run_skip ?_ | refine run_block ?_ | refine run_inBlock ?_) | refine run_exit rfl ?_ | refine runL_q (qt_pev tok rfl) rfl rfl rfl ?_ | refine runL_g rfl rfl (qt_pev tok rfl) rfl rfl rfl rfl rfl ?_ | refine runL_q (ql tok rfl) rfl rfl rfl ?_ | refine runL_g rfl rfl (ql tok rfl) rfl rfl rfl rfl rfl ?_ | (refine runL_op0 (sst tok rfl rfl rfl rfl rfl) ?_; rintro _ _ _ ⟨rfl, rfl, rfl⟩) | (refine runL_op (st_box rfl) rfl rfl rfl ?_; rintro _ _ _ ⟨_, rfl, rfl, rfl⟩) | (refine runL_op (st_alloc tok rfl) rfl rfl rfl ?_; rintro _ _ _ ⟨_, rfl, rfl, rfl⟩) | (refine runL_op (st_buildSlice tok rfl rfl rfl rfl rfl rfl rfl) rfl rfl rfl ?_; rintro _ _ _ ⟨_, rfl, rfl, rfl⟩))
  exact run_ret hC (rs := [.tmp 2]) rfl (resT rfl resN) (fun _ h => h) ⟨rfl, rfl, rfl⟩
def fullR (r : Rc) : Bool := (r.kind == 2) || ((r.kind == 3) && r.yes)
theorem full_ok (M : Mem) (L : HL) (r : Rc) : TrQ Try.prog 23 [.agg ⟨rcC r⟩] M L (.bool (fullR r)) := by
  refine Tr.intro 15 Try.func23 rfl rfl Try.call23 rfl ?_
  intro C hC hro
  repeat (first | with_reducible (first | refine run_seq ?_ | refine run_region ?_ | refine runL_nil ?_ | refine run_skip ?_ | refine run_block ?_ | refine run_inBlock ?_) | refine run_exit rfl ?_ | refine runL_q (qt_pev tok rfl) rfl rfl rfl ?_ | refine runL_g rfl rfl (qt_pev tok rfl) rfl rfl rfl rfl rfl ?_ | refine runL_q (ql tok rfl) rfl rfl rfl ?_ | refine runL_g rfl rfl (ql tok rfl) rfl rfl rfl rfl rfl ?_ | (refine runL_op0 (sst tok rfl rfl rfl rfl rfl) ?_; rintro _ _ _ ⟨rfl, rfl, rfl⟩) | (refine runL_op (st_box rfl) rfl rfl rfl ?_; rintro _ _ _ ⟨_, rfl, rfl, rfl⟩) | (refine runL_op (st_alloc tok rfl) rfl rfl rfl ?_; rintro _ _ _ ⟨_, rfl, rfl, rfl⟩) | (refine runL_op (st_buildSlice tok rfl rfl rfl rfl rfl rfl rfl) rfl rfl rfl ?_; rintro _ _ _ ⟨_, rfl, rfl, rfl⟩))
  exact run_ret hC (rs := [.tmp 2]) rfl (resT rfl resN) (fun _ h => h.drop) ⟨rfl, rfl, rfl⟩
def isT (t : ByteArray) : Bool := checkR t == 0
theorem isTerm_ok (M : Mem) (L : HL) (t : ByteArray) (ht : t.size < 4611686018427387904) : TrQ Try.prog 28 [.string t] M L (.bool (isT t)) := by
  refine Tr.intro 6 Try.func28 rfl rfl Try.call28 rfl ?_
  intro C hC hro
  repeat (first | with_reducible (first | refine run_seq ?_ | refine run_region ?_ | refine runL_nil ?_ | refine run_skip ?_ | refine run_block ?_ | refine run_inBlock ?_) | refine run_exit rfl ?_ | refine runL_q (qt_pev tok rfl) rfl rfl rfl ?_ | refine runL_g rfl rfl (qt_pev tok rfl) rfl rfl rfl rfl rfl ?_ | refine runL_q (ql tok rfl) rfl rfl rfl ?_ | refine runL_g rfl rfl (ql tok rfl) rfl rfl rfl rfl rfl ?_ | (refine runL_op0 (sst tok rfl rfl rfl rfl rfl) ?_; rintro _ _ _ ⟨rfl, rfl, rfl⟩) | (refine runL_op (st_box rfl) rfl rfl rfl ?_; rintro _ _ _ ⟨_, rfl, rfl, rfl⟩) | (refine runL_op (st_alloc tok rfl) rfl rfl rfl ?_; rintro _ _ _ ⟨_, rfl, rfl, rfl⟩) | (refine runL_op (st_buildSlice tok rfl rfl rfl rfl rfl rfl rfl) rfl rfl rfl ?_; rintro _ _ _ ⟨_, rfl, rfl, rfl⟩) | refine runL_q (qt_callF rfl (fun _ => check_ok _ _ t ht)) rfl rfl rfl ?_)
  exact run_ret hC (rs := [.tmp 2]) rfl (resT rfl resN) (fun _ h => h) ⟨rfl, rfl, rfl⟩
theorem check1_ok (M : Mem) (L : HL) (t : ByteArray) (ht : t.size < 4611686018427387904) : TrQ Try.prog 27 [.string t] M L (.bool (!isT t)) := by
  refine Tr.intro 6 Try.func27 rfl rfl Try.call27 rfl ?_
  intro C hC hro
  repeat (first | with_reducible (first | refine run_seq ?_ | refine run_region ?_ | refine runL_nil ?_ | refine run_skip ?_ | refine run_block ?_ | refine run_inBlock ?_) | refine run_exit rfl ?_ | refine runL_q (qt_pev tok rfl) rfl rfl rfl ?_ | refine runL_g rfl rfl (qt_pev tok rfl) rfl rfl rfl rfl rfl ?_ | refine runL_q (ql tok rfl) rfl rfl rfl ?_ | refine runL_g rfl rfl (ql tok rfl) rfl rfl rfl rfl rfl ?_ | (refine runL_op0 (sst tok rfl rfl rfl rfl rfl) ?_; rintro _ _ _ ⟨rfl, rfl, rfl⟩) | (refine runL_op (st_box rfl) rfl rfl rfl ?_; rintro _ _ _ ⟨_, rfl, rfl, rfl⟩) | (refine runL_op (st_alloc tok rfl) rfl rfl rfl ?_; rintro _ _ _ ⟨_, rfl, rfl, rfl⟩) | (refine runL_op (st_buildSlice tok rfl rfl rfl rfl rfl rfl rfl) rfl rfl rfl ?_; rintro _ _ _ ⟨_, rfl, rfl, rfl⟩) | refine runL_q (qt_callF rfl (fun _ => isTerm_ok _ _ t ht)) rfl rfl rfl ?_)
  exact run_ret hC (rs := [.tmp 2]) rfl (resT rfl resN) (fun _ h => h) ⟨rfl, rfl, rfl⟩
set_option maxHeartbeats 4000000 in
theorem indexF_ok (M : Mem) (L : HL) (s : SStr) (hs : StOk M s) (f : Nat) (p : ByteArray → Bool) (hf : ∀ m ∈ s.xs, TrQ Try.prog f [.string m] M L (.bool (p m))) :
    Tr Try.prog 49 [s.v, fv f] M L (fun v M' L' => ∃ n : Int, v = .int .i64 n ∧ decide (n ≥ 0) = s.xs.any p ∧ M' = M ∧ L' = L) := by
  have hx1 := hs.len
  have hlt6 := hs.2
  refine Tr.intro 19 Try.func49 rfl rfl Try.call49 rfl ?_
  intro C hC hro
  repeat (first | with_reducible (first | refine run_seq ?_ | refine run_region ?_ | refine runL_nil ?_ | refine run_skip ?_ | refine run_block ?_ | refine run_inBlock ?_) | refine run_exit rfl ?_ | refine runL_q (qt_pev tok rfl) rfl rfl rfl ?_ | refine runL_g rfl rfl (qt_pev tok rfl) rfl rfl rfl rfl rfl ?_ | refine runL_q (ql tok rfl) rfl rfl rfl ?_ | refine runL_g rfl rfl (ql tok rfl) rfl rfl rfl rfl rfl ?_ | (refine runL_op0 (sst tok rfl rfl rfl rfl rfl) ?_; rintro _ _ _ ⟨rfl, rfl, rfl⟩) | (refine runL_op (st_box rfl) rfl rfl rfl ?_; rintro _ _ _ ⟨_, rfl, rfl, rfl⟩) | (refine runL_op (st_alloc tok rfl) rfl rfl rfl ?_; rintro _ _ _ ⟨_, rfl, rfl, rfl⟩) | (refine runL_op (st_buildSlice tok rfl rfl rfl rfl rfl rfl rfl) rfl rfl rfl ?_; rintro _ _ _ ⟨_, rfl, rfl, rfl⟩))
  refine run_loopN (fun j σ1 M1 L1 => j ≤ s.len ∧ M = M1 ∧ L = L1 ∧ ((s.xs.take j).any p) = false ∧ σ1 = [(8, .int .i64 (j : Int)), (7, .int .i64 (s.len : Int)), (0, s.v), (1, fv f)]) s.len [(8, .int .i64 ((0 : Nat) : Int)), (7, .int .i64 (s.len : Int)), (0, s.v), (1, fv f)] ?_ ⟨Nat.zero_le _, rfl, rfl, by simp, rfl⟩ (fun j _ _ _ h => h.1) ?_
  · exact ⟨rfl, rfl, rfl, rfl, trivial⟩
  rintro j _ _ _ ⟨hj, rfl, rfl, hpre, rfl⟩ hnext
  repeat (first | with_reducible (first | refine run_seq ?_ | refine run_region ?_ | refine runL_nil ?_ | refine run_skip ?_ | refine run_block ?_ | refine run_inBlock ?_) | refine run_exit rfl ?_ | refine runL_q (qt_pev tok rfl) rfl rfl rfl ?_ | refine runL_g rfl rfl (qt_pev tok rfl) rfl rfl rfl rfl rfl ?_ | refine runL_q (ql tok rfl) rfl rfl rfl ?_ | refine runL_g rfl rfl (ql tok rfl) rfl rfl rfl rfl rfl ?_ | (refine runL_op0 (sst tok rfl rfl rfl rfl rfl) ?_; rintro _ _ _ ⟨rfl, rfl, rfl⟩) | (refine runL_op (st_box rfl) rfl rfl rfl ?_; rintro _ _ _ ⟨_, rfl, rfl, rfl⟩) | (refine runL_op (st_alloc tok rfl) rfl rfl rfl ?_; rintro _ _ _ ⟨_, rfl, rfl, rfl⟩) | (refine runL_op (st_buildSlice tok rfl rfl rfl rfl rfl rfl rfl) rfl rfl rfl ?_; rintro _ _ _ ⟨_, rfl, rfl, rfl⟩))
  refine run_cond rfl (fun h => ?_) (fun h => ?_)
  · have hlt : j < s.len := by simpa using h
    obtain ⟨b, off, m, hma, hm, hc⟩ := SStr.at_ hs.1 hlt
    have hv : s.v = .slice (some ⟨b, off, none⟩) s.len s.cap := by rw [← hma]; rfl
    refine run_as 0 (.slice (some ⟨b, off, none⟩) s.len s.cap) rfl hv ?_
    repeat (first | with_reducible (first | refine run_seq ?_ | refine run_region ?_ | refine runL_nil ?_ | refine run_skip ?_ | refine run_block ?_ | refine run_inBlock ?_) | refine run_exit rfl ?_ | refine runL_q (qt_pev tok rfl) rfl rfl rfl ?_ | refine runL_g rfl rfl (qt_pev tok rfl) rfl rfl rfl rfl rfl ?_ | refine runL_q (ql tok rfl) rfl rfl rfl ?_ | refine runL_g rfl rfl (ql tok rfl) rfl rfl rfl rfl rfl ?_ | (refine runL_op0 (sst tok rfl rfl rfl rfl rfl) ?_; rintro _ _ _ ⟨rfl, rfl, rfl⟩) | (refine runL_op (st_box rfl) rfl rfl rfl ?_; rintro _ _ _ ⟨_, rfl, rfl, rfl⟩) | (refine runL_op (st_alloc tok rfl) rfl rfl rfl ?_; rintro _ _ _ ⟨_, rfl, rfl, rfl⟩) | (refine runL_op (st_buildSlice tok rfl rfl rfl rfl rfl rfl rfl) rfl rfl rfl ?_; rintro _ _ _ ⟨_, rfl, rfl, rfl⟩) | refine runL_q (qt_indexN tok rfl rfl rfl rfl (fun _ => by omega)) rfl rfl rfl ?_ | refine runL_g rfl rfl (qt_indexN tok rfl rfl rfl rfl (fun _ => by omega)) rfl rfl rfl rfl rfl ?_ | refine runL_q (qt_ldM tok rfl hc rfl) rfl rfl rfl ?_ | refine runL_g rfl rfl (qt_ldM tok rfl hc rfl) rfl rfl rfl rfl rfl ?_ | refine runL_q (qt_ldM0 tok rfl hc rfl) rfl rfl rfl ?_ | refine runL_g rfl rfl (qt_ldM0 tok rfl hc rfl) rfl rfl rfl rfl rfl ?_)
    refine runL_q (st_callV rfl rfl (fun _ => hf m (List.mem_of_getElem? hm))) rfl rfl rfl ?_
    repeat (first | with_reducible (first | refine run_seq ?_ | refine run_region ?_ | refine runL_nil ?_ | refine run_skip ?_ | refine run_block ?_ | refine run_inBlock ?_) | refine run_exit rfl ?_ | refine runL_q (qt_pev tok rfl) rfl rfl rfl ?_ | refine runL_g rfl rfl (qt_pev tok rfl) rfl rfl rfl rfl rfl ?_ | refine runL_q (ql tok rfl) rfl rfl rfl ?_ | refine runL_g rfl rfl (ql tok rfl) rfl rfl rfl rfl rfl ?_ | (refine runL_op0 (sst tok rfl rfl rfl rfl rfl) ?_; rintro _ _ _ ⟨rfl, rfl, rfl⟩) | (refine runL_op (st_box rfl) rfl rfl rfl ?_; rintro _ _ _ ⟨_, rfl, rfl, rfl⟩) | (refine runL_op (st_alloc tok rfl) rfl rfl rfl ?_; rintro _ _ _ ⟨_, rfl, rfl, rfl⟩) | (refine runL_op (st_buildSlice tok rfl rfl rfl rfl rfl rfl rfl) rfl rfl rfl ?_; rintro _ _ _ ⟨_, rfl, rfl, rfl⟩))
    refine run_cond rfl (fun h => ?_) (fun h => ?_)
    · repeat (first | with_reducible (first | refine run_seq ?_ | refine run_region ?_ | refine runL_nil ?_ | refine run_skip ?_ | refine run_block ?_ | refine run_inBlock ?_) | refine run_exit rfl ?_ | refine runL_q (qt_pev tok rfl) rfl rfl rfl ?_ | refine runL_g rfl rfl (qt_pev tok rfl) rfl rfl rfl rfl rfl ?_ | refine runL_q (ql tok rfl) rfl rfl rfl ?_ | refine runL_g rfl rfl (ql tok rfl) rfl rfl rfl rfl rfl ?_ | (refine runL_op0 (sst tok rfl rfl rfl rfl rfl) ?_; rintro _ _ _ ⟨rfl, rfl, rfl⟩) | (refine runL_op (st_box rfl) rfl rfl rfl ?_; rintro _ _ _ ⟨_, rfl, rfl, rfl⟩) | (refine runL_op (st_alloc tok rfl) rfl rfl rfl ?_; rintro _ _ _ ⟨_, rfl, rfl, rfl⟩) | (refine runL_op (st_buildSlice tok rfl rfl rfl rfl rfl rfl rfl) rfl rfl rfl ?_; rintro _ _ _ ⟨_, rfl, rfl, rfl⟩))
      exact run_ret hC (rs := [.tmp 4]) rfl (resT rfl resN) (fun _ h => h) ⟨j, rfl, by rw [any_true p hm h]; simp, rfl, rfl⟩
    · repeat (first | with_reducible (first | refine run_seq ?_ | refine run_region ?_ | refine runL_nil ?_ | refine run_skip ?_ | refine run_block ?_ | refine run_inBlock ?_) | refine run_exit rfl ?_ | refine runL_q (qt_pev tok rfl) rfl rfl rfl ?_ | refine runL_g rfl rfl (qt_pev tok rfl) rfl rfl rfl rfl rfl ?_ | refine runL_q (ql tok rfl) rfl rfl rfl ?_ | refine runL_g rfl rfl (ql tok rfl) rfl rfl rfl rfl rfl ?_ | (refine runL_op0 (sst tok rfl rfl rfl rfl rfl) ?_; rintro _ _ _ ⟨rfl, rfl, rfl⟩) | (refine runL_op (st_box rfl) rfl rfl rfl ?_; rintro _ _ _ ⟨_, rfl, rfl, rfl⟩) | (refine runL_op (st_alloc tok rfl) rfl rfl rfl ?_; rintro _ _ _ ⟨_, rfl, rfl, rfl⟩) | (refine runL_op (st_buildSlice tok rfl rfl rfl rfl rfl rfl rfl) rfl rfl rfl ?_; rintro _ _ _ ⟨_, rfl, rfl, rfl⟩))
      exact run_sub' (hnext _ _ _ ⟨hlt, rfl, rfl, by rw [any_snoc _ hm hpre]; exact h, rfl⟩) ⟨lk_succ rfl (by omega), rfl, by rw [hv]; rfl, rfl, trivial⟩
  · have hge : j = s.len := by simp at h; omega
    rw [hge, List.take_of_length_le (by omega)] at hpre
    repeat (first | with_reducible (first | refine run_seq ?_ | refine run_region ?_ | refine runL_nil ?_ | refine run_skip ?_ | refine run_block ?_ | refine run_inBlock ?_) | refine run_exit rfl ?_ | refine runL_q (qt_pev tok rfl) rfl rfl rfl ?_ | refine runL_g rfl rfl (qt_pev tok rfl) rfl rfl rfl rfl rfl ?_ | refine runL_q (ql tok rfl) rfl rfl rfl ?_ | refine runL_g rfl rfl (ql tok rfl) rfl rfl rfl rfl rfl ?_ | (refine runL_op0 (sst tok rfl rfl rfl rfl rfl) ?_; rintro _ _ _ ⟨rfl, rfl, rfl⟩) | (refine runL_op (st_box rfl) rfl rfl rfl ?_; rintro _ _ _ ⟨_, rfl, rfl, rfl⟩) | (refine runL_op (st_alloc tok rfl) rfl rfl rfl ?_; rintro _ _ _ ⟨_, rfl, rfl, rfl⟩) | (refine runL_op (st_buildSlice tok rfl rfl rfl rfl rfl rfl rfl) rfl rfl rfl ?_; rintro _ _ _ ⟨_, rfl, rfl, rfl⟩))
    exact run_ret hC (rs := [.tmp 4]) rfl (resT rfl resN) (fun _ h => h) ⟨-1, rfl, by rw [hpre]; rfl, rfl, rfl⟩
theorem containsF_ok (M : Mem) (L : HL) (s : SStr) (hs : StOk M s) (f : Nat) (p : ByteArray → Bool) (hf : ∀ m ∈ s.xs, TrQ Try.prog f [.string m] M L (.bool (p m))) :
    TrQ Try.prog 26 [s.v, fv f] M L (.bool (s.xs.any p)) := by
  refine Tr.intro 9 Try.func26 rfl rfl Try.call26 rfl ?_
  intro C hC hro
  repeat (first | with_reducible (first | refine run_seq ?_ | refine run_region ?_ | refine runL_nil ?_ | refine run_skip ?_ | refine run_block ?_ | refine run_inBlock ?_) | refine run_exit rfl ?_ | refine runL_q (qt_pev tok rfl) rfl rfl rfl ?_ | refine runL_g rfl rfl (qt_pev tok rfl) rfl rfl rfl rfl rfl ?_ | refine runL_q (ql tok rfl) rfl rfl rfl ?_ | refine runL_g rfl rfl (ql tok rfl) rfl rfl rfl rfl rfl ?_ | (refine runL_op0 (sst tok rfl rfl rfl rfl rfl) ?_; rintro _ _ _ ⟨rfl, rfl, rfl⟩) | (refine runL_op (st_box rfl) rfl rfl rfl ?_; rintro _ _ _ ⟨_, rfl, rfl, rfl⟩) | (refine runL_op (st_alloc tok rfl) rfl rfl rfl ?_; rintro _ _ _ ⟨_, rfl, rfl, rfl⟩) | (refine runL_op (st_buildSlice tok rfl rfl rfl rfl rfl rfl rfl) rfl rfl rfl ?_; rintro _ _ _ ⟨_, rfl, rfl, rfl⟩) | (refine runL_op (st_callF rfl (fun _ => indexF_ok _ _ s hs f p hf)) rfl rfl rfl ?_; rintro _ _ _ ⟨n, rfl, hn, rfl, rfl⟩))
  exact run_ret hC (rs := [.tmp 4]) rfl (resT rfl resN) (fun _ h => h) ⟨by rw [← hn]; rfl, rfl, rfl⟩

end Go.Proofs.Ytpjklbkfhgfmnaa
namespace Go.Proofs.Ytpjklbkfhgfmnaa
open Go.Chi

theorem mbEq_eq (m n : Mb) : (m.org == n.org && ((m.digest.toList == n.digest.toList) && true)) = decide (m = n) := by
  rw [bytes_beq, Bool.eq_iff_iff, decide_eq_true_eq, ← Mb.ext_iff']
  simp
set_option maxHeartbeats 4000000 in
theorem equal_ok (M : Mem) (L : HL) (s u : SMb) (hs : MbOk M s) (hu : MbOk M u) : TrQ Try.prog 36 [s.v, u.v] M L (.bool (decide (s.xs = u.xs))) := by
  have hx1 : s.xs.length = s.len := by have := hs.1.1; simpa using this
  have hy1 : u.xs.length = u.len := by have := hu.1.1; simpa using this
  have hlt6 := hs.2
  refine Tr.intro 26 Try.func36 rfl rfl Try.call36 rfl ?_
  intro C hC hro
  repeat (first | with_reducible (first | refine run_seq ?_ | refine run_region ?_ | refine runL_nil ?_ | refine run_skip ?_ | refine run_block ?_ | refine run_inBlock ?_) | refine run_exit rfl ?_ | refine runL_q (qt_pev tok rfl) rfl rfl rfl ?_ | refine runL_g rfl rfl (qt_pev tok rfl) rfl rfl rfl rfl rfl ?_ | refine runL_q (ql tok rfl) rfl rfl rfl ?_ | refine runL_g rfl rfl (ql tok rfl) rfl rfl rfl rfl rfl ?_ | (refine runL_op0 (sst tok rfl rfl rfl rfl rfl) ?_; rintro _ _ _ ⟨rfl, rfl, rfl⟩) | (refine runL_op (st_box rfl) rfl rfl rfl ?_; rintro _ _ _ ⟨_, rfl, rfl, rfl⟩) | (refine runL_op (st_alloc tok rfl) rfl rfl rfl ?_; rintro _ _ _ ⟨_, rfl, rfl, rfl⟩) | (refine runL_op (st_buildSlice tok rfl rfl rfl rfl rfl rfl rfl) rfl rfl rfl ?_; rintro _ _ _ ⟨_, rfl, rfl, rfl⟩))
  refine run_cond rfl (fun h => ?_) (fun h => ?_)
  · repeat (first | with_reducible (first | refine run_seq ?_ | refine run_region ?_ | refine runL_nil ?_ | refine run_skip ?_ | refine run_block ?_ | refine run_inBlock ?_) | refine run_exit rfl ?_ | refine runL_q (qt_pev tok rfl) rfl rfl rfl ?_ | refine runL_g rfl rfl (qt_pev tok rfl) rfl rfl rfl rfl rfl ?_ | refine runL_q (ql tok rfl) rfl rfl rfl ?_ | refine runL_g rfl rfl (ql tok rfl) rfl rfl rfl rfl rfl ?_ | (refine runL_op0 (sst tok rfl rfl rfl rfl rfl) ?_; rintro _ _ _ ⟨rfl, rfl, rfl⟩) | (refine runL_op (st_box rfl) rfl rfl rfl ?_; rintro _ _ _ ⟨_, rfl, rfl, rfl⟩) | (refine runL_op (st_alloc tok rfl) rfl rfl rfl ?_; rintro _ _ _ ⟨_, rfl, rfl, rfl⟩) | (refine runL_op (st_buildSlice tok rfl rfl rfl rfl rfl rfl rfl) rfl rfl rfl ?_; rintro _ _ _ ⟨_, rfl, rfl, rfl⟩))
    refine run_ret hC (rs := [.tmp 4]) rfl (resT rfl resN) (fun _ h => h) ⟨?_, rfl, rfl⟩
    rw [decide_eq_false (fun e => by
      have : s.len = u.len := by rw [← hx1, ← hy1, e]
      simp [this] at h)]
    rfl
  have hll : s.len = u.len := by simp at h; omega
  repeat (first | with_reducible (first | refine run_seq ?_ | refine run_region ?_ | refine runL_nil ?_ | refine run_skip ?_ | refine run_block ?_ | refine run_inBlock ?_) | refine run_exit rfl ?_ | refine runL_q (qt_pev tok rfl) rfl rfl rfl ?_ | refine runL_g rfl rfl (qt_pev tok rfl) rfl rfl rfl rfl rfl ?_ | refine runL_q (ql tok rfl) rfl rfl rfl ?_ | refine runL_g rfl rfl (ql tok rfl) rfl rfl rfl rfl rfl ?_ | (refine runL_op0 (sst tok rfl rfl rfl rfl rfl) ?_; rintro _ _ _ ⟨rfl, rfl, rfl⟩) | (refine runL_op (st_box rfl) rfl rfl rfl ?_; rintro _ _ _ ⟨_, rfl, rfl, rfl⟩) | (refine runL_op (st_alloc tok rfl) rfl rfl rfl ?_; rintro _ _ _ ⟨_, rfl, rfl, rfl⟩) | (refine runL_op (st_buildSlice tok rfl rfl rfl rfl rfl rfl rfl) rfl rfl rfl ?_; rintro _ _ _ ⟨_, rfl, rfl, rfl⟩))
  refine run_loopN (fun j σ1 M1 L1 => j ≤ s.len ∧ M = M1 ∧ L = L1 ∧ s.xs.take j = u.xs.take j ∧ σ1 = [(13, .int .i64 (j : Int)), (12, .int .i64 (s.len : Int)), (0, s.v), (1, u.v)]) s.len [(13, .int .i64 ((0 : Nat) : Int)), (12, .int .i64 (s.len : Int)), (0, s.v), (1, u.v)] ?_ ⟨Nat.zero_le _, rfl, rfl, by simp, rfl⟩ (fun j _ _ _ h => h.1) ?_
  · exact ⟨rfl, rfl, rfl, rfl, trivial⟩
  rintro j _ _ _ ⟨hj, rfl, rfl, hpre, rfl⟩ hnext
  repeat (first | with_reducible (first | refine run_seq ?_ | refine run_region ?_ | refine runL_nil ?_ | refine run_skip ?_ | refine run_block ?_ | refine run_inBlock ?_) | refine run_exit rfl ?_ | refine runL_q (qt_pev tok rfl) rfl rfl rfl ?_ | refine runL_g rfl rfl (qt_pev tok rfl) rfl rfl rfl rfl rfl ?_ | refine runL_q (ql tok rfl) rfl rfl rfl ?_ | refine runL_g rfl rfl (ql tok rfl) rfl rfl rfl rfl rfl ?_ | (refine runL_op0 (sst tok rfl rfl rfl rfl rfl) ?_; rintro _ _ _ ⟨rfl, rfl, rfl⟩) | (refine runL_op (st_box rfl) rfl rfl rfl ?_; rintro _ _ _ ⟨_, rfl, rfl, rfl⟩) | (refine runL_op (st_alloc tok rfl) rfl rfl rfl ?_; rintro _ _ _ ⟨_, rfl, rfl, rfl⟩) | (refine runL_op (st_buildSlice tok rfl rfl rfl rfl rfl rfl rfl) rfl rfl rfl ?_; rintro _ _ _ ⟨_, rfl, rfl, rfl⟩))
  refine run_cond rfl (fun h => ?_) (fun h => ?_)
  · have hlt : j < s.len := by simpa using h
    have hlt2 : j < u.len := by omega
    obtain ⟨b, off, m, ha, hm, hc⟩ := SMb.at_ hs.1 hlt
    obtain ⟨b2, off2, m2, ha2, hm2, hc2⟩ := SMb.at_ hu.1 hlt2
    have hv : s.v = .slice (some ⟨b, off, none⟩) s.len s.cap := by rw [← ha]; rfl
    have hv2 : u.v = .slice (some ⟨b2, off2, none⟩) u.len u.cap := by rw [← ha2]; rfl
    refine run_as 0 (.slice (some ⟨b, off, none⟩) s.len s.cap) rfl hv ?_
    refine run_as 1 (.slice (some ⟨b2, off2, none⟩) u.len u.cap) rfl hv2 ?_
    repeat (first | with_reducible (first | refine run_seq ?_ | refine run_region ?_ | refine runL_nil ?_ | refine run_skip ?_ | refine run_block ?_ | refine run_inBlock ?_) | refine run_exit rfl ?_ | refine runL_q (qt_pev tok rfl) rfl rfl rfl ?_ | refine runL_g rfl rfl (qt_pev tok rfl) rfl rfl rfl rfl rfl ?_ | refine runL_q (ql tok rfl) rfl rfl rfl ?_ | refine runL_g rfl rfl (ql tok rfl) rfl rfl rfl rfl rfl ?_ | (refine runL_op0 (sst tok rfl rfl rfl rfl rfl) ?_; rintro _ _ _ ⟨rfl, rfl, rfl⟩) | (refine runL_op (st_box rfl) rfl rfl rfl ?_; rintro _ _ _ ⟨_, rfl, rfl, rfl⟩) | (refine runL_op (st_alloc tok rfl) rfl rfl rfl ?_; rintro _ _ _ ⟨_, rfl, rfl, rfl⟩) | (refine runL_op (st_buildSlice tok rfl rfl rfl rfl rfl rfl rfl) rfl rfl rfl ?_; rintro _ _ _ ⟨_, rfl, rfl, rfl⟩) | refine prn_start mixed ?_ | refine prn_end (by decide +kernel) ?_ | refine prn_q rfl (qt_pev tok rfl) (by decide +kernel) rfl rfl rfl ?_ | refine prn_g rfl rfl rfl (qt_pev tok rfl) (by decide +kernel) rfl rfl rfl rfl rfl ?_ | refine prn_q rfl (ql tok rfl) (by decide +kernel) rfl rfl rfl ?_ | refine prn_g rfl rfl rfl (ql tok rfl) (by decide +kernel) rfl rfl rfl rfl rfl ?_ | (refine prn_e0 rfl (sst tok rfl rfl rfl rfl rfl) (by decide +kernel) ?_; rintro _ _ _ ⟨rfl, rfl, rfl⟩) | (refine prn_e1 rfl (st_box rfl) (by decide +kernel) rfl rfl rfl ?_; rintro _ _ _ ⟨_, rfl, rfl, rfl⟩) | (refine prn_e1 rfl (st_alloc tok rfl) (by decide +kernel) rfl rfl rfl ?_; rintro _ _ _ ⟨_, rfl, rfl, rfl⟩) | (refine prn_e1 rfl (st_buildSlice tok rfl rfl rfl rfl rfl rfl rfl) (by decide +kernel) rfl rfl rfl ?_; rintro _ _ _ ⟨_, rfl, rfl, rfl⟩) | (refine prn_o0 rfl (sst tok rfl rfl rfl rfl rfl) (by decide +kernel) ?_; rintro _ _ _ ⟨rfl, rfl, rfl⟩; refine ⟨by (repeat (first | exact trivial | refine And.intro (pend_q rfl rfl rfl (qt_pev tok rfl)) ?_ | refine And.intro (pend_q rfl rfl rfl (ql tok rfl)) ?_)), ?_⟩) | (refine prn_o1 rfl (st_box rfl) (by decide +kernel) rfl rfl rfl ?_; rintro _ _ _ ⟨_, rfl, rfl, rfl⟩; refine ⟨by (repeat (first | exact trivial | refine And.intro (pend_q rfl rfl rfl (qt_pev tok rfl)) ?_ | refine And.intro (pend_q rfl rfl rfl (ql tok rfl)) ?_)), ?_⟩) | (refine prn_o1 rfl (st_alloc tok rfl) (by decide +kernel) rfl rfl rfl ?_; rintro _ _ _ ⟨_, rfl, rfl, rfl⟩; refine ⟨by (repeat (first | exact trivial | refine And.intro (pend_q rfl rfl rfl (qt_pev tok rfl)) ?_ | refine And.intro (pend_q rfl rfl rfl (ql tok rfl)) ?_)), ?_⟩) | (refine prn_o1 rfl (st_buildSlice tok rfl rfl rfl rfl rfl rfl rfl) (by decide +kernel) rfl rfl rfl ?_; rintro _ _ _ ⟨_, rfl, rfl, rfl⟩; refine ⟨by (repeat (first | exact trivial | refine And.intro (pend_q rfl rfl rfl (qt_pev tok rfl)) ?_ | refine And.intro (pend_q rfl rfl rfl (ql tok rfl)) ?_)), ?_⟩) | (refine prn_e1 rfl (qt_pev tok rfl) (by decide +kernel) rfl rfl rfl ?_; rintro _ _ _ ⟨rfl, rfl, rfl⟩) | refine prn_q rfl (qt_indexN tok rfl rfl rfl rfl (fun _ => by omega)) (by decide +kernel) rfl rfl rfl ?_ | refine prn_g rfl rfl rfl (qt_indexN tok rfl rfl rfl rfl (fun _ => by omega)) (by decide +kernel) rfl rfl rfl rfl rfl ?_ | refine prn_q rfl (qt_ldM tok rfl hc rfl) (by decide +kernel) rfl rfl rfl ?_ | refine prn_g rfl rfl rfl (qt_ldM tok rfl hc rfl) (by decide +kernel) rfl rfl rfl rfl rfl ?_ | refine prn_q rfl (qt_ldM0 tok rfl hc rfl) (by decide +kernel) rfl rfl rfl ?_ | refine prn_g rfl rfl rfl (qt_ldM0 tok rfl hc rfl) (by decide +kernel) rfl rfl rfl rfl rfl ?_ | refine prn_q rfl (qt_ldM tok rfl hc2 rfl) (by decide +kernel) rfl rfl rfl ?_ | refine prn_g rfl rfl rfl (qt_ldM tok rfl hc2 rfl) (by decide +kernel) rfl rfl rfl rfl rfl ?_ | refine prn_q rfl (qt_ldM0 tok rfl hc2 rfl) (by decide +kernel) rfl rfl rfl ?_ | refine prn_g rfl rfl rfl (qt_ldM0 tok rfl hc2 rfl) (by decide +kernel) rfl rfl rfl rfl rfl ?_)
    refine run_cond rfl (fun h => ?_) (fun h => ?_)
    · repeat (first | with_reducible (first | refine run_seq ?_ | refine run_region ?_ | refine runL_nil ?_ | refine run_skip ?_ | refine run_block ?_ | refine run_inBlock ?_) | refine run_exit rfl ?_ | refine runL_q (qt_pev tok rfl) rfl rfl rfl ?_ | refine runL_g rfl rfl (qt_pev tok rfl) rfl rfl rfl rfl rfl ?_ | refine runL_q (ql tok rfl) rfl rfl rfl ?_ | refine runL_g rfl rfl (ql tok rfl) rfl rfl rfl rfl rfl ?_ | (refine runL_op0 (sst tok rfl rfl rfl rfl rfl) ?_; rintro _ _ _ ⟨rfl, rfl, rfl⟩) | (refine runL_op (st_box rfl) rfl rfl rfl ?_; rintro _ _ _ ⟨_, rfl, rfl, rfl⟩) | (refine runL_op (st_alloc tok rfl) rfl rfl rfl ?_; rintro _ _ _ ⟨_, rfl, rfl, rfl⟩) | (refine runL_op (st_buildSlice tok rfl rfl rfl rfl rfl rfl rfl) rfl rfl rfl ?_; rintro _ _ _ ⟨_, rfl, rfl, rfl⟩))
      refine run_ret hC (rs := [.tmp 4]) rfl (resT rfl resN) (fun _ h => h) ⟨?_, rfl, rfl⟩
      rw [mbEq_eq] at h
      rw [decide_eq_false (fun e => by
        rw [e, hm2] at hm
        have := Option.some.inj hm
        simp [this] at h)]
      rfl
    · rw [mbEq_eq] at h
      have hmm : m = m2 := by simpa using h
      repeat (first | with_reducible (first | refine run_seq ?_ | refine run_region ?_ | refine runL_nil ?_ | refine run_skip ?_ | refine run_block ?_ | refine run_inBlock ?_) | refine run_exit rfl ?_ | refine runL_q (qt_pev tok rfl) rfl rfl rfl ?_ | refine runL_g rfl rfl (qt_pev tok rfl) rfl rfl rfl rfl rfl ?_ | refine runL_q (ql tok rfl) rfl rfl rfl ?_ | refine runL_g rfl rfl (ql tok rfl) rfl rfl rfl rfl rfl ?_ | (refine runL_op0 (sst tok rfl rfl rfl rfl rfl) ?_; rintro _ _ _ ⟨rfl, rfl, rfl⟩) | (refine runL_op (st_box rfl) rfl rfl rfl ?_; rintro _ _ _ ⟨_, rfl, rfl, rfl⟩) | (refine runL_op (st_alloc tok rfl) rfl rfl rfl ?_; rintro _ _ _ ⟨_, rfl, rfl, rfl⟩) | (refine runL_op (st_buildSlice tok rfl rfl rfl rfl rfl rfl rfl) rfl rfl rfl ?_; rintro _ _ _ ⟨_, rfl, rfl, rfl⟩))
      exact run_sub' (hnext _ _ _ ⟨hlt, rfl, rfl, by rw [take_snoc hm, take_snoc hm2, hpre, hmm], rfl⟩) ⟨lk_succ rfl (by omega), rfl, by rw [hv]; rfl, by rw [hv2]; rfl, trivial⟩
  · have hge : j = s.len := by simp at h; omega
    rw [hge, List.take_of_length_le (by omega), List.take_of_length_le (by omega)] at hpre
    repeat (first | with_reducible (first | refine run_seq ?_ | refine run_region ?_ | refine runL_nil ?_ | refine run_skip ?_ | refine run_block ?_ | refine run_inBlock ?_) | refine run_exit rfl ?_ | refine runL_q (qt_pev tok rfl) rfl rfl rfl ?_ | refine runL_g rfl rfl (qt_pev tok rfl) rfl rfl rfl rfl rfl ?_ | refine runL_q (ql tok rfl) rfl rfl rfl ?_ | refine runL_g rfl rfl (ql tok rfl) rfl rfl rfl rfl rfl ?_ | (refine runL_op0 (sst tok rfl rfl rfl rfl rfl) ?_; rintro _ _ _ ⟨rfl, rfl, rfl⟩) | (refine runL_op (st_box rfl) rfl rfl rfl ?_; rintro _ _ _ ⟨_, rfl, rfl, rfl⟩) | (refine runL_op (st_alloc tok rfl) rfl rfl rfl ?_; rintro _ _ _ ⟨_, rfl, rfl, rfl⟩) | (refine runL_op (st_buildSlice tok rfl rfl rfl rfl rfl rfl rfl) rfl rfl rfl ?_; rintro _ _ _ ⟨_, rfl, rfl, rfl⟩))
    refine run_ret hC (rs := [.tmp 4]) rfl (resT rfl resN) (fun _ h => h) ⟨?_, rfl, rfl⟩
    rw [decide_eq_true hpre]; rfl

theorem stEq_eq (m n : ByteArray) : (m.toList == n.toList) = decide (m = n) := bytes_beq m n
set_option maxHeartbeats 4000000 in
theorem equalS_ok (M : Mem) (L : HL) (s u : SStr) (hs : StOk M s) (hu : StOk M u) : TrQ Try.prog 37 [s.v, u.v] M L (.bool (decide (s.xs = u.xs))) := by
  have hx1 : s.xs.length = s.len := by have := hs.1.1; simpa using this
  have hy1 : u.xs.length = u.len := by have := hu.1.1; simpa using this
  have hlt6 := hs.2
  refine Tr.intro 26 Try.func37 rfl rfl Try.call37 rfl ?_
  intro C hC hro
  repeat (first | with_reducible (first | refine run_seq ?_ | refine run_region ?_ | refine runL_nil ?_ | refine run_skip ?_ | refine run_block ?_ | refine run_inBlock ?_) | refine run_exit rfl ?_ | refine runL_q (qt_pev tok rfl) rfl rfl rfl ?_ | refine runL_g rfl rfl (qt_pev tok rfl) rfl rfl rfl rfl rfl ?_ | refine runL_q (ql tok rfl) rfl rfl rfl ?_ | refine runL_g rfl rfl (ql tok rfl) rfl rfl rfl rfl rfl ?_ | (refine runL_op0 (sst tok rfl rfl rfl rfl rfl) ?_; rintro _ _ _ ⟨rfl, rfl, rfl⟩) | (refine runL_op (st_box rfl) rfl rfl rfl ?_; rintro _ _ _ ⟨_, rfl, rfl, rfl⟩) | (refine runL_op (st_alloc tok rfl) rfl rfl rfl ?_; rintro _ _ _ ⟨_, rfl, rfl, rfl⟩) | (refine runL_op (st_buildSlice tok rfl rfl rfl rfl rfl rfl rfl) rfl rfl rfl ?_; rintro _ _ _ ⟨_, rfl, rfl, rfl⟩))
  refine run_cond rfl (fun h => ?_) (fun h => ?_)
  · repeat (first | with_reducible (first | refine run_seq ?_ | refine run_region ?_ | refine runL_nil ?_ | refine run_skip ?_ | refine run_block ?_ | refine run_inBlock ?_) | refine run_exit rfl ?_ | refine runL_q (qt_pev tok rfl) rfl rfl rfl ?_ | refine runL_g rfl rfl (qt_pev tok rfl) rfl rfl rfl rfl rfl ?_ | refine runL_q (ql tok rfl) rfl rfl rfl ?_ | refine runL_g rfl rfl (ql tok rfl) rfl rfl rfl rfl rfl ?_ | (refine runL_op0 (sst tok rfl rfl rfl rfl rfl) ?_; rintro _ _ _ ⟨rfl, rfl, rfl⟩) | (refine runL_op (st_box rfl) rfl rfl rfl ?_; rintro _ _ _ ⟨_, rfl, rfl, rfl⟩) | (refine runL_op (st_alloc tok rfl) rfl rfl rfl ?_; rintro _ _ _ ⟨_, rfl, rfl, rfl⟩) | (refine runL_op (st_buildSlice tok rfl rfl rfl rfl rfl rfl rfl) rfl rfl rfl ?_; rintro _ _ _ ⟨_, rfl, rfl, rfl⟩))
    refine run_ret hC (rs := [.tmp 4]) rfl (resT rfl resN) (fun _ h => h) ⟨?_, rfl, rfl⟩
    rw [decide_eq_false (fun e => by
      have : s.len = u.len := by rw [← hx1, ← hy1, e]
      simp [this] at h)]
    rfl
  have hll : s.len = u.len := by simp at h; omega
  repeat (first | with_reducible (first | refine run_seq ?_ | refine run_region ?_ | refine runL_nil ?_ | refine run_skip ?_ | refine run_block ?_ | refine run_inBlock ?_) | refine run_exit rfl ?_ | refine runL_q (qt_pev tok rfl) rfl rfl rfl ?_ | refine runL_g rfl rfl (qt_pev tok rfl) rfl rfl rfl rfl rfl ?_ | refine runL_q (ql tok rfl) rfl rfl rfl ?_ | refine runL_g rfl rfl (ql tok rfl) rfl rfl rfl rfl rfl ?_ | (refine runL_op0 (sst tok rfl rfl rfl rfl rfl) ?_; rintro _ _ _ ⟨rfl, rfl, rfl⟩) | (refine runL_op (st_box rfl) rfl rfl rfl ?_; rintro _ _ _ ⟨_, rfl, rfl, rfl⟩) | (refine runL_op (st_alloc tok rfl) rfl rfl rfl ?_; rintro _ _ _ ⟨_, rfl, rfl, rfl⟩) | (refine runL_op (st_buildSlice tok rfl rfl rfl rfl rfl rfl rfl) rfl rfl rfl ?_; rintro _ _ _ ⟨_, rfl, rfl, rfl⟩))
  refine run_loopN (fun j σ1 M1 L1 => j ≤ s.len ∧ M = M1 ∧ L = L1 ∧ s.xs.take j = u.xs.take j ∧ σ1 = [(13, .int .i64 (j : Int)), (12, .int .i64 (s.len : Int)), (0, s.v), (1, u.v)]) s.len [(13, .int .i64 ((0 : Nat) : Int)), (12, .int .i64 (s.len : Int)), (0, s.v), (1, u.v)] ?_ ⟨Nat.zero_le _, rfl, rfl, by simp, rfl⟩ (fun j _ _ _ h => h.1) ?_
  · exact ⟨rfl, rfl, rfl, rfl, trivial⟩
  rintro j _ _ _ ⟨hj, rfl, rfl, hpre, rfl⟩ hnext
  repeat (first | with_reducible (first | refine run_seq ?_ | refine run_region ?_ | refine runL_nil ?_ | refine run_skip ?_ | refine run_block ?_ | refine run_inBlock ?_) | refine run_exit rfl ?_ | refine runL_q (qt_pev tok rfl) rfl rfl rfl ?_ | refine runL_g rfl rfl (qt_pev tok rfl) rfl rfl rfl rfl rfl ?_ | refine runL_q (ql tok rfl) rfl rfl rfl ?_ | refine runL_g rfl rfl (ql tok rfl) rfl rfl rfl rfl rfl ?_ | (refine runL_op0 (sst tok rfl rfl rfl rfl rfl) ?_; rintro _ _ _ ⟨rfl, rfl, rfl⟩) | (refine runL_op (st_box rfl) rfl rfl rfl ?_; rintro _ _ _ ⟨_, rfl, rfl, rfl⟩) | (refine runL_op (st_alloc tok rfl) rfl rfl rfl ?_; rintro _ _ _ ⟨_, rfl, rfl, rfl⟩) | (refine runL_op (st_buildSlice tok rfl rfl rfl rfl rfl rfl rfl) rfl rfl rfl ?_; rintro _ _ _ ⟨_, rfl, rfl, rfl⟩))
  refine run_cond rfl (fun h => ?_) (fun h => ?_)
  · have hlt : j < s.len := by simpa using h
    have hlt2 : j < u.len := by omega
    obtain ⟨b, off, m, ha, hm, hc⟩ := SStr.at_ hs.1 hlt
    obtain ⟨b2, off2, m2, ha2, hm2, hc2⟩ := SStr.at_ hu.1 hlt2
    have hv : s.v = .slice (some ⟨b, off, none⟩) s.len s.cap := by rw [← ha]; rfl
    have hv2 : u.v = .slice (some ⟨b2, off2, none⟩) u.len u.cap := by rw [← ha2]; rfl
    refine run_as 0 (.slice (some ⟨b, off, none⟩) s.len s.cap) rfl hv ?_
    refine run_as 1 (.slice (some ⟨b2, off2, none⟩) u.len u.cap) rfl hv2 ?_
    repeat (first | with_reducible (first | refine run_seq ?_ | refine run_region ?_ | refine runL_nil ?_ | refine run_skip ?_ | refine run_block ?_ | refine run_inBlock ?_) | refine run_exit rfl ?_ | refine runL_q (qt_pev tok rfl) rfl rfl rfl ?_ | refine runL_g rfl rfl (qt_pev tok rfl) rfl rfl rfl rfl rfl ?_ | refine runL_q (ql tok rfl) rfl rfl rfl ?_ | refine runL_g rfl rfl (ql tok rfl) rfl rfl rfl rfl rfl ?_ | (refine runL_op0 (sst tok rfl rfl rfl rfl rfl) ?_; rintro _ _ _ ⟨rfl, rfl, rfl⟩) | (refine runL_op (st_box rfl) rfl rfl rfl ?_; rintro _ _ _ ⟨_, rfl, rfl, rfl⟩) | (refine runL_op (st_alloc tok rfl) rfl rfl rfl ?_; rintro _ _ _ ⟨_, rfl, rfl, rfl⟩) | (refine runL_op (st_buildSlice tok rfl rfl rfl rfl rfl rfl rfl) rfl rfl rfl ?_; rintro _ _ _ ⟨_, rfl, rfl, rfl⟩) | refine prn_start mixed ?_ | refine prn_end (by decide +kernel) ?_ | refine prn_q rfl (qt_pev tok rfl) (by decide +kernel) rfl rfl rfl ?_ | refine prn_g rfl rfl rfl (qt_pev tok rfl) (by decide +kernel) rfl rfl rfl rfl rfl ?_ | refine prn_q rfl (ql tok rfl) (by decide +kernel) rfl rfl rfl ?_ | refine prn_g rfl rfl rfl (ql tok rfl) (by decide +kernel) rfl rfl rfl rfl rfl ?_ | (refine prn_e0 rfl (sst tok rfl rfl rfl rfl rfl) (by decide +kernel) ?_; rintro _ _ _ ⟨rfl, rfl, rfl⟩) | (refine prn_e1 rfl (st_box rfl) (by decide +kernel) rfl rfl rfl ?_; rintro _ _ _ ⟨_, rfl, rfl, rfl⟩) | (refine prn_e1 rfl (st_alloc tok rfl) (by decide +kernel) rfl rfl rfl ?_; rintro _ _ _ ⟨_, rfl, rfl, rfl⟩) | (refine prn_e1 rfl (st_buildSlice tok rfl rfl rfl rfl rfl rfl rfl) (by decide +kernel) rfl rfl rfl ?_; rintro _ _ _ ⟨_, rfl, rfl, rfl⟩) | (refine prn_o0 rfl (sst tok rfl rfl rfl rfl rfl) (by decide +kernel) ?_; rintro _ _ _ ⟨rfl, rfl, rfl⟩; refine ⟨by (repeat (first | exact trivial | refine And.intro (pend_q rfl rfl rfl (qt_pev tok rfl)) ?_ | refine And.intro (pend_q rfl rfl rfl (ql tok rfl)) ?_)), ?_⟩) | (refine prn_o1 rfl (st_box rfl) (by decide +kernel) rfl rfl rfl ?_; rintro _ _ _ ⟨_, rfl, rfl, rfl⟩; refine ⟨by (repeat (first | exact trivial | refine And.intro (pend_q rfl rfl rfl (qt_pev tok rfl)) ?_ | refine And.intro (pend_q rfl rfl rfl (ql tok rfl)) ?_)), ?_⟩) | (refine prn_o1 rfl (st_alloc tok rfl) (by decide +kernel) rfl rfl rfl ?_; rintro _ _ _ ⟨_, rfl, rfl, rfl⟩; refine ⟨by (repeat (first | exact trivial | refine And.intro (pend_q rfl rfl rfl (qt_pev tok rfl)) ?_ | refine And.intro (pend_q rfl rfl rfl (ql tok rfl)) ?_)), ?_⟩) | (refine prn_o1 rfl (st_buildSlice tok rfl rfl rfl rfl rfl rfl rfl) (by decide +kernel) rfl rfl rfl ?_; rintro _ _ _ ⟨_, rfl, rfl, rfl⟩; refine ⟨by (repeat (first | exact trivial | refine And.intro (pend_q rfl rfl rfl (qt_pev tok rfl)) ?_ | refine And.intro (pend_q rfl rfl rfl (ql tok rfl)) ?_)), ?_⟩) | (refine prn_e1 rfl (qt_pev tok rfl) (by decide +kernel) rfl rfl rfl ?_; rintro _ _ _ ⟨rfl, rfl, rfl⟩) | refine prn_q rfl (qt_indexN tok rfl rfl rfl rfl (fun _ => by omega)) (by decide +kernel) rfl rfl rfl ?_ | refine prn_g rfl rfl rfl (qt_indexN tok rfl rfl rfl rfl (fun _ => by omega)) (by decide +kernel) rfl rfl rfl rfl rfl ?_ | refine prn_q rfl (qt_ldM tok rfl hc rfl) (by decide +kernel) rfl rfl rfl ?_ | refine prn_g rfl rfl rfl (qt_ldM tok rfl hc rfl) (by decide +kernel) rfl rfl rfl rfl rfl ?_ | refine prn_q rfl (qt_ldM0 tok rfl hc rfl) (by decide +kernel) rfl rfl rfl ?_ | refine prn_g rfl rfl rfl (qt_ldM0 tok rfl hc rfl) (by decide +kernel) rfl rfl rfl rfl rfl ?_ | refine prn_q rfl (qt_ldM tok rfl hc2 rfl) (by decide +kernel) rfl rfl rfl ?_ | refine prn_g rfl rfl rfl (qt_ldM tok rfl hc2 rfl) (by decide +kernel) rfl rfl rfl rfl rfl ?_ | refine prn_q rfl (qt_ldM0 tok rfl hc2 rfl) (by decide +kernel) rfl rfl rfl ?_ | refine prn_g rfl rfl rfl (qt_ldM0 tok rfl hc2 rfl) (by decide +kernel) rfl rfl rfl rfl rfl ?_)
    refine run_cond rfl (fun h => ?_) (fun h => ?_)
    · repeat (first | with_reducible (first | refine run_seq ?_ | refine run_region ?_ | refine runL_nil ?_ | refine run_skip ?_ | refine run_block ?_ | refine run_inBlock ?_) | refine run_exit rfl ?_ | refine runL_q (qt_pev tok rfl) rfl rfl rfl ?_ | refine runL_g rfl rfl (qt_pev tok rfl) rfl rfl rfl rfl rfl ?_ | refine runL_q (ql tok rfl) rfl rfl rfl ?_ | refine runL_g rfl rfl (ql tok rfl) rfl rfl rfl rfl rfl ?_ | (refine runL_op0 (sst tok rfl rfl rfl rfl rfl) ?_; rintro _ _ _ ⟨rfl, rfl, rfl⟩) | (refine runL_op (st_box rfl) rfl rfl rfl ?_; rintro _ _ _ ⟨_, rfl, rfl, rfl⟩) | (refine runL_op (st_alloc tok rfl) rfl rfl rfl ?_; rintro _ _ _ ⟨_, rfl, rfl, rfl⟩) | (refine runL_op (st_buildSlice tok rfl rfl rfl rfl rfl rfl rfl) rfl rfl rfl ?_; rintro _ _ _ ⟨_, rfl, rfl, rfl⟩))
      refine run_ret hC (rs := [.tmp 4]) rfl (resT rfl resN) (fun _ h => h) ⟨?_, rfl, rfl⟩
      rw [stEq_eq] at h
      rw [decide_eq_false (fun e => by
        rw [e, hm2] at hm
        have := Option.some.inj hm
        simp [this] at h)]
      rfl
    · rw [stEq_eq] at h
      have hmm : m = m2 := by simpa using h
      repeat (first | with_reducible (first | refine run_seq ?_ | refine run_region ?_ | refine runL_nil ?_ | refine run_skip ?_ | refine run_block ?_ | refine run_inBlock ?_) | refine run_exit rfl ?_ | refine runL_q (qt_pev tok rfl) rfl rfl rfl ?_ | refine runL_g rfl rfl (qt_pev tok rfl) rfl rfl rfl rfl rfl ?_ | refine runL_q (ql tok rfl) rfl rfl rfl ?_ | refine runL_g rfl rfl (ql tok rfl) rfl rfl rfl rfl rfl ?_ | (refine runL_op0 (sst tok rfl rfl rfl rfl rfl) ?_; rintro _ _ _ ⟨rfl, rfl, rfl⟩) | (refine runL_op (st_box rfl) rfl rfl rfl ?_; rintro _ _ _ ⟨_, rfl, rfl, rfl⟩) | (refine runL_op (st_alloc tok rfl) rfl rfl rfl ?_; rintro _ _ _ ⟨_, rfl, rfl, rfl⟩) | (refine runL_op (st_buildSlice tok rfl rfl rfl rfl rfl rfl rfl) rfl rfl rfl ?_; rintro _ _ _ ⟨_, rfl, rfl, rfl⟩))
      exact run_sub' (hnext _ _ _ ⟨hlt, rfl, rfl, by rw [take_snoc hm, take_snoc hm2, hpre, hmm], rfl⟩) ⟨lk_succ rfl (by omega), rfl, by rw [hv]; rfl, by rw [hv2]; rfl, trivial⟩
  · have hge : j = s.len := by simp at h; omega
    rw [hge, List.take_of_length_le (by omega), List.take_of_length_le (by omega)] at hpre
    repeat (first | with_reducible (first | refine run_seq ?_ | refine run_region ?_ | refine runL_nil ?_ | refine run_skip ?_ | refine run_block ?_ | refine run_inBlock ?_) | refine run_exit rfl ?_ | refine runL_q (qt_pev tok rfl) rfl rfl rfl ?_ | refine runL_g rfl rfl (qt_pev tok rfl) rfl rfl rfl rfl rfl ?_ | refine runL_q (ql tok rfl) rfl rfl rfl ?_ | refine runL_g rfl rfl (ql tok rfl) rfl rfl rfl rfl rfl ?_ | (refine runL_op0 (sst tok rfl rfl rfl rfl rfl) ?_; rintro _ _ _ ⟨rfl, rfl, rfl⟩) | (refine runL_op (st_box rfl) rfl rfl rfl ?_; rintro _ _ _ ⟨_, rfl, rfl, rfl⟩) | (refine runL_op (st_alloc tok rfl) rfl rfl rfl ?_; rintro _ _ _ ⟨_, rfl, rfl, rfl⟩) | (refine runL_op (st_buildSlice tok rfl rfl rfl rfl rfl rfl rfl) rfl rfl rfl ?_; rintro _ _ _ ⟨_, rfl, rfl, rfl⟩))
    refine run_ret hC (rs := [.tmp 4]) rfl (resT rfl resN) (fun _ h => h) ⟨?_, rfl, rfl⟩
    rw [decide_eq_true hpre]; rfl


/-! ### records -/
def txEq (a b : Tx) : Bool := a.coord == b.coord && (a.epoch == b.epoch && ((a.seq == b.seq) && true))
theorem txEq_eq (a b : Tx) : txEq a b = decide (a = b) := by
  rw [Bool.eq_iff_iff, decide_eq_true_eq, ← Tx.ext_iff']
  simp [txEq]
def sameRc (a b : Rc) : Bool := ((((((((a.kind == b.kind) && (a.epoch == b.epoch)) && txEq a.txn b.txn) && (a.yes == b.yes)) && (a.auditor == b.auditor)) && decide (a.mem.xs = b.mem.xs)) && decide (a.tags.xs = b.tags.xs)) && (a.body.toList == b.body.toList))
set_option maxHeartbeats 4000000 in
theorem same_ok (M : Mem) (L : HL) (a b : Rc) (ha : MbOk M a.mem) (hb : MbOk M b.mem) (ha2 : StOk M a.tags) (hb2 : StOk M b.tags) : TrQ Try.prog 14 [.agg ⟨rcC a⟩, .agg ⟨rcC b⟩] M L (.bool (sameRc a b)) := by
  refine Tr.intro 59 Try.func14 rfl rfl Try.call14 rfl ?_
  intro C hC hro
  repeat (first | with_reducible (first | refine run_seq ?_ | refine run_region ?_ | refine runL_nil ?_ | refine run_skip ?_ | refine run_block ?_ | refine run_inBlock ?_) | refine run_exit rfl ?_ | refine runL_q (qt_pev tok rfl) rfl rfl rfl ?_ | refine runL_g rfl rfl (qt_pev tok rfl) rfl rfl rfl rfl rfl ?_ | refine runL_q (ql tok rfl) rfl rfl rfl ?_ | refine runL_g rfl rfl (ql tok rfl) rfl rfl rfl rfl rfl ?_ | (refine runL_op0 (sst tok rfl rfl rfl rfl rfl) ?_; rintro _ _ _ ⟨rfl, rfl, rfl⟩) | (refine runL_op (st_box rfl) rfl rfl rfl ?_; rintro _ _ _ ⟨_, rfl, rfl, rfl⟩) | (refine runL_op (st_alloc tok rfl) rfl rfl rfl ?_; rintro _ _ _ ⟨_, rfl, rfl, rfl⟩) | (refine runL_op (st_buildSlice tok rfl rfl rfl rfl rfl rfl rfl) rfl rfl rfl ?_; rintro _ _ _ ⟨_, rfl, rfl, rfl⟩) | refine runL_g rfl rfl (qt_callF rfl (fun _ => equal_ok _ _ a.mem b.mem ha hb)) rfl rfl rfl rfl rfl ?_ | refine runL_g rfl rfl (qt_callF rfl (fun _ => equalS_ok _ _ a.tags b.tags ha2 hb2)) rfl rfl rfl rfl rfl ?_)
  exact run_ret hC (rs := [.tmp 4]) rfl (resT rfl resN) (fun _ h => h.drop.drop) ⟨rfl, rfl, rfl⟩
def nilM : SMb := ⟨none, 0, 0, []⟩
def nilS : SStr := ⟨none, 0, 0, []⟩
def bareR (r : Rc) : Rc :=
  if r.kind = 1 then ⟨r.kind, r.epoch, ⟨0, 0, 0⟩, false, 0, nilM, nilS, ⟨#[]⟩⟩ else
  ⟨r.kind, 0, r.txn, r.yes, if fullR r = true then r.auditor else 0, if fullR r = true then r.mem else nilM, if r.kind = 3 ∧ r.yes = true then r.tags else nilS, if r.kind = 2 then r.body else ⟨#[]⟩⟩
set_option maxHeartbeats 8000000 in
theorem bare_ok (M : Mem) (L : HL) (r : Rc) : TrQ Try.prog 21 [.agg ⟨rcC r⟩] M L (.agg ⟨rcC (bareR r)⟩) := by
  refine Tr.intro 42 Try.func21 rfl rfl Try.call21 rfl ?_
  intro C hC hro
  repeat (first | with_reducible (first | refine run_seq ?_ | refine run_region ?_ | refine runL_nil ?_ | refine run_skip ?_ | refine run_block ?_ | refine run_inBlock ?_) | refine run_exit rfl ?_ | refine runL_q (qt_pev tok rfl) rfl rfl rfl ?_ | refine runL_g rfl rfl (qt_pev tok rfl) rfl rfl rfl rfl rfl ?_ | refine runL_q (ql tok rfl) rfl rfl rfl ?_ | refine runL_g rfl rfl (ql tok rfl) rfl rfl rfl rfl rfl ?_ | (refine runL_op0 (sst tok rfl rfl rfl rfl rfl) ?_; rintro _ _ _ ⟨rfl, rfl, rfl⟩) | (refine runL_op (st_box rfl) rfl rfl rfl ?_; rintro _ _ _ ⟨_, rfl, rfl, rfl⟩) | (refine runL_op (st_alloc tok rfl) rfl rfl rfl ?_; rintro _ _ _ ⟨_, rfl, rfl, rfl⟩) | (refine runL_op (st_buildSlice tok rfl rfl rfl rfl rfl rfl rfl) rfl rfl rfl ?_; rintro _ _ _ ⟨_, rfl, rfl, rfl⟩))
  refine run_cond rfl (fun h => ?_) (fun h => ?_)
  · have h1 : r.kind = 1 := by simpa using h
    repeat (first | with_reducible (first | refine run_seq ?_ | refine run_region ?_ | refine runL_nil ?_ | refine run_skip ?_ | refine run_block ?_ | refine run_inBlock ?_) | refine run_exit rfl ?_ | refine runL_q (qt_pev tok rfl) rfl rfl rfl ?_ | refine runL_g rfl rfl (qt_pev tok rfl) rfl rfl rfl rfl rfl ?_ | refine runL_q (ql tok rfl) rfl rfl rfl ?_ | refine runL_g rfl rfl (ql tok rfl) rfl rfl rfl rfl rfl ?_ | (refine runL_op0 (sst tok rfl rfl rfl rfl rfl) ?_; rintro _ _ _ ⟨rfl, rfl, rfl⟩) | (refine runL_op (st_box rfl) rfl rfl rfl ?_; rintro _ _ _ ⟨_, rfl, rfl, rfl⟩) | (refine runL_op (st_alloc tok rfl) rfl rfl rfl ?_; rintro _ _ _ ⟨_, rfl, rfl, rfl⟩) | (refine runL_op (st_buildSlice tok rfl rfl rfl rfl rfl rfl rfl) rfl rfl rfl ?_; rintro _ _ _ ⟨_, rfl, rfl, rfl⟩))
    refine run_ret hC (rs := [.cell 2 27]) rfl (rl tok rfl resN) (fun _ h => h.drop.drop.drop) ⟨?_, rfl, rfl⟩
    rw [bareR, if_pos h1]; rfl
  have h1 : ¬ r.kind = 1 := by simpa using h
  repeat (first | with_reducible (first | refine run_seq ?_ | refine run_region ?_ | refine runL_nil ?_ | refine run_skip ?_ | refine run_block ?_ | refine run_inBlock ?_) | refine run_exit rfl ?_ | refine runL_q (qt_pev tok rfl) rfl rfl rfl ?_ | refine runL_g rfl rfl (qt_pev tok rfl) rfl rfl rfl rfl rfl ?_ | refine runL_q (ql tok rfl) rfl rfl rfl ?_ | refine runL_g rfl rfl (ql tok rfl) rfl rfl rfl rfl rfl ?_ | (refine runL_op0 (sst tok rfl rfl rfl rfl rfl) ?_; rintro _ _ _ ⟨rfl, rfl, rfl⟩) | (refine runL_op (st_box rfl) rfl rfl rfl ?_; rintro _ _ _ ⟨_, rfl, rfl, rfl⟩) | (refine runL_op (st_alloc tok rfl) rfl rfl rfl ?_; rintro _ _ _ ⟨_, rfl, rfl, rfl⟩) | (refine runL_op (st_buildSlice tok rfl rfl rfl rfl rfl rfl rfl) rfl rfl rfl ?_; rintro _ _ _ ⟨_, rfl, rfl, rfl⟩))
  refine run_cond rfl (fun h => ?_) (fun h => ?_)
  · have h2 : r.kind = 2 := by simpa using h
    have hf : fullR r = true := by rw [fullR, h2]; rfl
    have h3 : ¬ (r.kind = 3 ∧ r.yes = true) := by rw [h2]; simp
    repeat (first | with_reducible (first | refine run_seq ?_ | refine run_region ?_ | refine runL_nil ?_ | refine run_skip ?_ | refine run_block ?_ | refine run_inBlock ?_) | refine run_exit rfl ?_ | refine runL_q (qt_pev tok rfl) rfl rfl rfl ?_ | refine runL_g rfl rfl (qt_pev tok rfl) rfl rfl rfl rfl rfl ?_ | refine runL_q (ql tok rfl) rfl rfl rfl ?_ | refine runL_g rfl rfl (ql tok rfl) rfl rfl rfl rfl rfl ?_ | (refine runL_op0 (sst tok rfl rfl rfl rfl rfl) ?_; rintro _ _ _ ⟨rfl, rfl, rfl⟩) | (refine runL_op (st_box rfl) rfl rfl rfl ?_; rintro _ _ _ ⟨_, rfl, rfl, rfl⟩) | (refine runL_op (st_alloc tok rfl) rfl rfl rfl ?_; rintro _ _ _ ⟨_, rfl, rfl, rfl⟩) | (refine runL_op (st_buildSlice tok rfl rfl rfl rfl rfl rfl rfl) rfl rfl rfl ?_; rintro _ _ _ ⟨_, rfl, rfl, rfl⟩) | refine prn_start mixed ?_ | refine prn_end (by decide +kernel) ?_ | refine prn_q rfl (qt_pev tok rfl) (by decide +kernel) rfl rfl rfl ?_ | refine prn_g rfl rfl rfl (qt_pev tok rfl) (by decide +kernel) rfl rfl rfl rfl rfl ?_ | refine prn_q rfl (ql tok rfl) (by decide +kernel) rfl rfl rfl ?_ | refine prn_g rfl rfl rfl (ql tok rfl) (by decide +kernel) rfl rfl rfl rfl rfl ?_ | (refine prn_e0 rfl (sst tok rfl rfl rfl rfl rfl) (by decide +kernel) ?_; rintro _ _ _ ⟨rfl, rfl, rfl⟩) | (refine prn_e1 rfl (st_box rfl) (by decide +kernel) rfl rfl rfl ?_; rintro _ _ _ ⟨_, rfl, rfl, rfl⟩) | (refine prn_e1 rfl (st_alloc tok rfl) (by decide +kernel) rfl rfl rfl ?_; rintro _ _ _ ⟨_, rfl, rfl, rfl⟩) | (refine prn_e1 rfl (st_buildSlice tok rfl rfl rfl rfl rfl rfl rfl) (by decide +kernel) rfl rfl rfl ?_; rintro _ _ _ ⟨_, rfl, rfl, rfl⟩) | (refine prn_o0 rfl (sst tok rfl rfl rfl rfl rfl) (by decide +kernel) ?_; rintro _ _ _ ⟨rfl, rfl, rfl⟩; refine ⟨by (repeat (first | exact trivial | refine And.intro (pend_q rfl rfl rfl (qt_pev tok rfl)) ?_ | refine And.intro (pend_q rfl rfl rfl (ql tok rfl)) ?_)), ?_⟩) | (refine prn_o1 rfl (st_box rfl) (by decide +kernel) rfl rfl rfl ?_; rintro _ _ _ ⟨_, rfl, rfl, rfl⟩; refine ⟨by (repeat (first | exact trivial | refine And.intro (pend_q rfl rfl rfl (qt_pev tok rfl)) ?_ | refine And.intro (pend_q rfl rfl rfl (ql tok rfl)) ?_)), ?_⟩) | (refine prn_o1 rfl (st_alloc tok rfl) (by decide +kernel) rfl rfl rfl ?_; rintro _ _ _ ⟨_, rfl, rfl, rfl⟩; refine ⟨by (repeat (first | exact trivial | refine And.intro (pend_q rfl rfl rfl (qt_pev tok rfl)) ?_ | refine And.intro (pend_q rfl rfl rfl (ql tok rfl)) ?_)), ?_⟩) | (refine prn_o1 rfl (st_buildSlice tok rfl rfl rfl rfl rfl rfl rfl) (by decide +kernel) rfl rfl rfl ?_; rintro _ _ _ ⟨_, rfl, rfl, rfl⟩; refine ⟨by (repeat (first | exact trivial | refine And.intro (pend_q rfl rfl rfl (qt_pev tok rfl)) ?_ | refine And.intro (pend_q rfl rfl rfl (ql tok rfl)) ?_)), ?_⟩) | (refine prn_e1 rfl (qt_pev tok rfl) (by decide +kernel) rfl rfl rfl ?_; rintro _ _ _ ⟨rfl, rfl, rfl⟩) | refine runL_q (qt_callF rfl (fun _ => full_ok _ _ r)) rfl rfl rfl ?_)
    refine run_cond rfl (fun _ => ?_) (fun h => by rw [hf] at h; cases h)
    repeat (first | with_reducible (first | refine run_seq ?_ | refine run_region ?_ | refine runL_nil ?_ | refine run_skip ?_ | refine run_block ?_ | refine run_inBlock ?_) | refine run_exit rfl ?_ | refine runL_q (qt_pev tok rfl) rfl rfl rfl ?_ | refine runL_g rfl rfl (qt_pev tok rfl) rfl rfl rfl rfl rfl ?_ | refine runL_q (ql tok rfl) rfl rfl rfl ?_ | refine runL_g rfl rfl (ql tok rfl) rfl rfl rfl rfl rfl ?_ | (refine runL_op0 (sst tok rfl rfl rfl rfl rfl) ?_; rintro _ _ _ ⟨rfl, rfl, rfl⟩) | (refine runL_op (st_box rfl) rfl rfl rfl ?_; rintro _ _ _ ⟨_, rfl, rfl, rfl⟩) | (refine runL_op (st_alloc tok rfl) rfl rfl rfl ?_; rintro _ _ _ ⟨_, rfl, rfl, rfl⟩) | (refine runL_op (st_buildSlice tok rfl rfl rfl rfl rfl rfl rfl) rfl rfl rfl ?_; rintro _ _ _ ⟨_, rfl, rfl, rfl⟩) | refine prn_start mixed ?_ | refine prn_end (by decide +kernel) ?_ | refine prn_q rfl (qt_pev tok rfl) (by decide +kernel) rfl rfl rfl ?_ | refine prn_g rfl rfl rfl (qt_pev tok rfl) (by decide +kernel) rfl rfl rfl rfl rfl ?_ | refine prn_q rfl (ql tok rfl) (by decide +kernel) rfl rfl rfl ?_ | refine prn_g rfl rfl rfl (ql tok rfl) (by decide +kernel) rfl rfl rfl rfl rfl ?_ | (refine prn_e0 rfl (sst tok rfl rfl rfl rfl rfl) (by decide +kernel) ?_; rintro _ _ _ ⟨rfl, rfl, rfl⟩) | (refine prn_e1 rfl (st_box rfl) (by decide +kernel) rfl rfl rfl ?_; rintro _ _ _ ⟨_, rfl, rfl, rfl⟩) | (refine prn_e1 rfl (st_alloc tok rfl) (by decide +kernel) rfl rfl rfl ?_; rintro _ _ _ ⟨_, rfl, rfl, rfl⟩) | (refine prn_e1 rfl (st_buildSlice tok rfl rfl rfl rfl rfl rfl rfl) (by decide +kernel) rfl rfl rfl ?_; rintro _ _ _ ⟨_, rfl, rfl, rfl⟩) | (refine prn_o0 rfl (sst tok rfl rfl rfl rfl rfl) (by decide +kernel) ?_; rintro _ _ _ ⟨rfl, rfl, rfl⟩; refine ⟨by (repeat (first | exact trivial | refine And.intro (pend_q rfl rfl rfl (qt_pev tok rfl)) ?_ | refine And.intro (pend_q rfl rfl rfl (ql tok rfl)) ?_)), ?_⟩) | (refine prn_o1 rfl (st_box rfl) (by decide +kernel) rfl rfl rfl ?_; rintro _ _ _ ⟨_, rfl, rfl, rfl⟩; refine ⟨by (repeat (first | exact trivial | refine And.intro (pend_q rfl rfl rfl (qt_pev tok rfl)) ?_ | refine And.intro (pend_q rfl rfl rfl (ql tok rfl)) ?_)), ?_⟩) | (refine prn_o1 rfl (st_alloc tok rfl) (by decide +kernel) rfl rfl rfl ?_; rintro _ _ _ ⟨_, rfl, rfl, rfl⟩; refine ⟨by (repeat (first | exact trivial | refine And.intro (pend_q rfl rfl rfl (qt_pev tok rfl)) ?_ | refine And.intro (pend_q rfl rfl rfl (ql tok rfl)) ?_)), ?_⟩) | (refine prn_o1 rfl (st_buildSlice tok rfl rfl rfl rfl rfl rfl rfl) (by decide +kernel) rfl rfl rfl ?_; rintro _ _ _ ⟨_, rfl, rfl, rfl⟩; refine ⟨by (repeat (first | exact trivial | refine And.intro (pend_q rfl rfl rfl (qt_pev tok rfl)) ?_ | refine And.intro (pend_q rfl rfl rfl (ql tok rfl)) ?_)), ?_⟩) | (refine prn_e1 rfl (qt_pev tok rfl) (by decide +kernel) rfl rfl rfl ?_; rintro _ _ _ ⟨rfl, rfl, rfl⟩))
    refine run_ret hC (rs := [.cell 2 27]) rfl (rl tok rfl resN) (fun _ h => h.drop.drop.drop) ⟨?_, rfl, rfl⟩
    rw [bareR, if_neg h1, if_pos hf, if_pos hf, if_neg h3, if_pos h2]; rfl
  have h2 : ¬ r.kind = 2 := by simpa using h
  repeat (first | with_reducible (first | refine run_seq ?_ | refine run_region ?_ | refine runL_nil ?_ | refine run_skip ?_ | refine run_block ?_ | refine run_inBlock ?_) | refine run_exit rfl ?_ | refine runL_q (qt_pev tok rfl) rfl rfl rfl ?_ | refine runL_g rfl rfl (qt_pev tok rfl) rfl rfl rfl rfl rfl ?_ | refine runL_q (ql tok rfl) rfl rfl rfl ?_ | refine runL_g rfl rfl (ql tok rfl) rfl rfl rfl rfl rfl ?_ | (refine runL_op0 (sst tok rfl rfl rfl rfl rfl) ?_; rintro _ _ _ ⟨rfl, rfl, rfl⟩) | (refine runL_op (st_box rfl) rfl rfl rfl ?_; rintro _ _ _ ⟨_, rfl, rfl, rfl⟩) | (refine runL_op (st_alloc tok rfl) rfl rfl rfl ?_; rintro _ _ _ ⟨_, rfl, rfl, rfl⟩) | (refine runL_op (st_buildSlice tok rfl rfl rfl rfl rfl rfl rfl) rfl rfl rfl ?_; rintro _ _ _ ⟨_, rfl, rfl, rfl⟩))
  refine run_cond rfl (fun h => ?_) (fun h => ?_)
  · have h3 : r.kind = 3 := by simpa using h
    repeat (first | with_reducible (first | refine run_seq ?_ | refine run_region ?_ | refine runL_nil ?_ | refine run_skip ?_ | refine run_block ?_ | refine run_inBlock ?_) | refine run_exit rfl ?_ | refine runL_q (qt_pev tok rfl) rfl rfl rfl ?_ | refine runL_g rfl rfl (qt_pev tok rfl) rfl rfl rfl rfl rfl ?_ | refine runL_q (ql tok rfl) rfl rfl rfl ?_ | refine runL_g rfl rfl (ql tok rfl) rfl rfl rfl rfl rfl ?_ | (refine runL_op0 (sst tok rfl rfl rfl rfl rfl) ?_; rintro _ _ _ ⟨rfl, rfl, rfl⟩) | (refine runL_op (st_box rfl) rfl rfl rfl ?_; rintro _ _ _ ⟨_, rfl, rfl, rfl⟩) | (refine runL_op (st_alloc tok rfl) rfl rfl rfl ?_; rintro _ _ _ ⟨_, rfl, rfl, rfl⟩) | (refine runL_op (st_buildSlice tok rfl rfl rfl rfl rfl rfl rfl) rfl rfl rfl ?_; rintro _ _ _ ⟨_, rfl, rfl, rfl⟩))
    refine run_cond rfl (fun hy => ?_) (fun hy => ?_)
    · have hf : fullR r = true := by rw [fullR, h3, hy]; rfl
      repeat (first | with_reducible (first | refine run_seq ?_ | refine run_region ?_ | refine runL_nil ?_ | refine run_skip ?_ | refine run_block ?_ | refine run_inBlock ?_) | refine run_exit rfl ?_ | refine runL_q (qt_pev tok rfl) rfl rfl rfl ?_ | refine runL_g rfl rfl (qt_pev tok rfl) rfl rfl rfl rfl rfl ?_ | refine runL_q (ql tok rfl) rfl rfl rfl ?_ | refine runL_g rfl rfl (ql tok rfl) rfl rfl rfl rfl rfl ?_ | (refine runL_op0 (sst tok rfl rfl rfl rfl rfl) ?_; rintro _ _ _ ⟨rfl, rfl, rfl⟩) | (refine runL_op (st_box rfl) rfl rfl rfl ?_; rintro _ _ _ ⟨_, rfl, rfl, rfl⟩) | (refine runL_op (st_alloc tok rfl) rfl rfl rfl ?_; rintro _ _ _ ⟨_, rfl, rfl, rfl⟩) | (refine runL_op (st_buildSlice tok rfl rfl rfl rfl rfl rfl rfl) rfl rfl rfl ?_; rintro _ _ _ ⟨_, rfl, rfl, rfl⟩) | refine prn_start mixed ?_ | refine prn_end (by decide +kernel) ?_ | refine prn_q rfl (qt_pev tok rfl) (by decide +kernel) rfl rfl rfl ?_ | refine prn_g rfl rfl rfl (qt_pev tok rfl) (by decide +kernel) rfl rfl rfl rfl rfl ?_ | refine prn_q rfl (ql tok rfl) (by decide +kernel) rfl rfl rfl ?_ | refine prn_g rfl rfl rfl (ql tok rfl) (by decide +kernel) rfl rfl rfl rfl rfl ?_ | (refine prn_e0 rfl (sst tok rfl rfl rfl rfl rfl) (by decide +kernel) ?_; rintro _ _ _ ⟨rfl, rfl, rfl⟩) | (refine prn_e1 rfl (st_box rfl) (by decide +kernel) rfl rfl rfl ?_; rintro _ _ _ ⟨_, rfl, rfl, rfl⟩) | (refine prn_e1 rfl (st_alloc tok rfl) (by decide +kernel) rfl rfl rfl ?_; rintro _ _ _ ⟨_, rfl, rfl, rfl⟩) | (refine prn_e1 rfl (st_buildSlice tok rfl rfl rfl rfl rfl rfl rfl) (by decide +kernel) rfl rfl rfl ?_; rintro _ _ _ ⟨_, rfl, rfl, rfl⟩) | (refine prn_o0 rfl (sst tok rfl rfl rfl rfl rfl) (by decide +kernel) ?_; rintro _ _ _ ⟨rfl, rfl, rfl⟩; refine ⟨by (repeat (first | exact trivial | refine And.intro (pend_q rfl rfl rfl (qt_pev tok rfl)) ?_ | refine And.intro (pend_q rfl rfl rfl (ql tok rfl)) ?_)), ?_⟩) | (refine prn_o1 rfl (st_box rfl) (by decide +kernel) rfl rfl rfl ?_; rintro _ _ _ ⟨_, rfl, rfl, rfl⟩; refine ⟨by (repeat (first | exact trivial | refine And.intro (pend_q rfl rfl rfl (qt_pev tok rfl)) ?_ | refine And.intro (pend_q rfl rfl rfl (ql tok rfl)) ?_)), ?_⟩) | (refine prn_o1 rfl (st_alloc tok rfl) (by decide +kernel) rfl rfl rfl ?_; rintro _ _ _ ⟨_, rfl, rfl, rfl⟩; refine ⟨by (repeat (first | exact trivial | refine And.intro (pend_q rfl rfl rfl (qt_pev tok rfl)) ?_ | refine And.intro (pend_q rfl rfl rfl (ql tok rfl)) ?_)), ?_⟩) | (refine prn_o1 rfl (st_buildSlice tok rfl rfl rfl rfl rfl rfl rfl) (by decide +kernel) rfl rfl rfl ?_; rintro _ _ _ ⟨_, rfl, rfl, rfl⟩; refine ⟨by (repeat (first | exact trivial | refine And.intro (pend_q rfl rfl rfl (qt_pev tok rfl)) ?_ | refine And.intro (pend_q rfl rfl rfl (ql tok rfl)) ?_)), ?_⟩) | (refine prn_e1 rfl (qt_pev tok rfl) (by decide +kernel) rfl rfl rfl ?_; rintro _ _ _ ⟨rfl, rfl, rfl⟩) | refine runL_q (qt_callF rfl (fun _ => full_ok _ _ r)) rfl rfl rfl ?_)
      refine run_cond rfl (fun _ => ?_) (fun h => by rw [hf] at h; cases h)
      repeat (first | with_reducible (first | refine run_seq ?_ | refine run_region ?_ | refine runL_nil ?_ | refine run_skip ?_ | refine run_block ?_ | refine run_inBlock ?_) | refine run_exit rfl ?_ | refine runL_q (qt_pev tok rfl) rfl rfl rfl ?_ | refine runL_g rfl rfl (qt_pev tok rfl) rfl rfl rfl rfl rfl ?_ | refine runL_q (ql tok rfl) rfl rfl rfl ?_ | refine runL_g rfl rfl (ql tok rfl) rfl rfl rfl rfl rfl ?_ | (refine runL_op0 (sst tok rfl rfl rfl rfl rfl) ?_; rintro _ _ _ ⟨rfl, rfl, rfl⟩) | (refine runL_op (st_box rfl) rfl rfl rfl ?_; rintro _ _ _ ⟨_, rfl, rfl, rfl⟩) | (refine runL_op (st_alloc tok rfl) rfl rfl rfl ?_; rintro _ _ _ ⟨_, rfl, rfl, rfl⟩) | (refine runL_op (st_buildSlice tok rfl rfl rfl rfl rfl rfl rfl) rfl rfl rfl ?_; rintro _ _ _ ⟨_, rfl, rfl, rfl⟩) | refine prn_start mixed ?_ | refine prn_end (by decide +kernel) ?_ | refine prn_q rfl (qt_pev tok rfl) (by decide +kernel) rfl rfl rfl ?_ | refine prn_g rfl rfl rfl (qt_pev tok rfl) (by decide +kernel) rfl rfl rfl rfl rfl ?_ | refine prn_q rfl (ql tok rfl) (by decide +kernel) rfl rfl rfl ?_ | refine prn_g rfl rfl rfl (ql tok rfl) (by decide +kernel) rfl rfl rfl rfl rfl ?_ | (refine prn_e0 rfl (sst tok rfl rfl rfl rfl rfl) (by decide +kernel) ?_; rintro _ _ _ ⟨rfl, rfl, rfl⟩) | (refine prn_e1 rfl (st_box rfl) (by decide +kernel) rfl rfl rfl ?_; rintro _ _ _ ⟨_, rfl, rfl, rfl⟩) | (refine prn_e1 rfl (st_alloc tok rfl) (by decide +kernel) rfl rfl rfl ?_; rintro _ _ _ ⟨_, rfl, rfl, rfl⟩) | (refine prn_e1 rfl (st_buildSlice tok rfl rfl rfl rfl rfl rfl rfl) (by decide +kernel) rfl rfl rfl ?_; rintro _ _ _ ⟨_, rfl, rfl, rfl⟩) | (refine prn_o0 rfl (sst tok rfl rfl rfl rfl rfl) (by decide +kernel) ?_; rintro _ _ _ ⟨rfl, rfl, rfl⟩; refine ⟨by (repeat (first | exact trivial | refine And.intro (pend_q rfl rfl rfl (qt_pev tok rfl)) ?_ | refine And.intro (pend_q rfl rfl rfl (ql tok rfl)) ?_)), ?_⟩) | (refine prn_o1 rfl (st_box rfl) (by decide +kernel) rfl rfl rfl ?_; rintro _ _ _ ⟨_, rfl, rfl, rfl⟩; refine ⟨by (repeat (first | exact trivial | refine And.intro (pend_q rfl rfl rfl (qt_pev tok rfl)) ?_ | refine And.intro (pend_q rfl rfl rfl (ql tok rfl)) ?_)), ?_⟩) | (refine prn_o1 rfl (st_alloc tok rfl) (by decide +kernel) rfl rfl rfl ?_; rintro _ _ _ ⟨_, rfl, rfl, rfl⟩; refine ⟨by (repeat (first | exact trivial | refine And.intro (pend_q rfl rfl rfl (qt_pev tok rfl)) ?_ | refine And.intro (pend_q rfl rfl rfl (ql tok rfl)) ?_)), ?_⟩) | (refine prn_o1 rfl (st_buildSlice tok rfl rfl rfl rfl rfl rfl rfl) (by decide +kernel) rfl rfl rfl ?_; rintro _ _ _ ⟨_, rfl, rfl, rfl⟩; refine ⟨by (repeat (first | exact trivial | refine And.intro (pend_q rfl rfl rfl (qt_pev tok rfl)) ?_ | refine And.intro (pend_q rfl rfl rfl (ql tok rfl)) ?_)), ?_⟩) | (refine prn_e1 rfl (qt_pev tok rfl) (by decide +kernel) rfl rfl rfl ?_; rintro _ _ _ ⟨rfl, rfl, rfl⟩))
      refine run_ret hC (rs := [.cell 2 27]) rfl (rl tok rfl resN) (fun _ h => h.drop.drop.drop) ⟨?_, rfl, rfl⟩
      rw [bareR, if_neg h1, if_pos hf, if_pos hf, if_pos ⟨h3, hy⟩, if_neg h2]; rfl
    · have hf : fullR r = false := by rw [fullR, h3, hy]; rfl
      repeat (first | with_reducible (first | refine run_seq ?_ | refine run_region ?_ | refine runL_nil ?_ | refine run_skip ?_ | refine run_block ?_ | refine run_inBlock ?_) | refine run_exit rfl ?_ | refine runL_q (qt_pev tok rfl) rfl rfl rfl ?_ | refine runL_g rfl rfl (qt_pev tok rfl) rfl rfl rfl rfl rfl ?_ | refine runL_q (ql tok rfl) rfl rfl rfl ?_ | refine runL_g rfl rfl (ql tok rfl) rfl rfl rfl rfl rfl ?_ | (refine runL_op0 (sst tok rfl rfl rfl rfl rfl) ?_; rintro _ _ _ ⟨rfl, rfl, rfl⟩) | (refine runL_op (st_box rfl) rfl rfl rfl ?_; rintro _ _ _ ⟨_, rfl, rfl, rfl⟩) | (refine runL_op (st_alloc tok rfl) rfl rfl rfl ?_; rintro _ _ _ ⟨_, rfl, rfl, rfl⟩) | (refine runL_op (st_buildSlice tok rfl rfl rfl rfl rfl rfl rfl) rfl rfl rfl ?_; rintro _ _ _ ⟨_, rfl, rfl, rfl⟩) | refine prn_start mixed ?_ | refine prn_end (by decide +kernel) ?_ | refine prn_q rfl (qt_pev tok rfl) (by decide +kernel) rfl rfl rfl ?_ | refine prn_g rfl rfl rfl (qt_pev tok rfl) (by decide +kernel) rfl rfl rfl rfl rfl ?_ | refine prn_q rfl (ql tok rfl) (by decide +kernel) rfl rfl rfl ?_ | refine prn_g rfl rfl rfl (ql tok rfl) (by decide +kernel) rfl rfl rfl rfl rfl ?_ | (refine prn_e0 rfl (sst tok rfl rfl rfl rfl rfl) (by decide +kernel) ?_; rintro _ _ _ ⟨rfl, rfl, rfl⟩) | (refine prn_e1 rfl (st_box rfl) (by decide +kernel) rfl rfl rfl ?_; rintro _ _ _ ⟨_, rfl, rfl, rfl⟩) | (refine prn_e1 rfl (st_alloc tok rfl) (by decide +kernel) rfl rfl rfl ?_; rintro _ _ _ ⟨_, rfl, rfl, rfl⟩) | (refine prn_e1 rfl (st_buildSlice tok rfl rfl rfl rfl rfl rfl rfl) (by decide +kernel) rfl rfl rfl ?_; rintro _ _ _ ⟨_, rfl, rfl, rfl⟩) | (refine prn_o0 rfl (sst tok rfl rfl rfl rfl rfl) (by decide +kernel) ?_; rintro _ _ _ ⟨rfl, rfl, rfl⟩; refine ⟨by (repeat (first | exact trivial | refine And.intro (pend_q rfl rfl rfl (qt_pev tok rfl)) ?_ | refine And.intro (pend_q rfl rfl rfl (ql tok rfl)) ?_)), ?_⟩) | (refine prn_o1 rfl (st_box rfl) (by decide +kernel) rfl rfl rfl ?_; rintro _ _ _ ⟨_, rfl, rfl, rfl⟩; refine ⟨by (repeat (first | exact trivial | refine And.intro (pend_q rfl rfl rfl (qt_pev tok rfl)) ?_ | refine And.intro (pend_q rfl rfl rfl (ql tok rfl)) ?_)), ?_⟩) | (refine prn_o1 rfl (st_alloc tok rfl) (by decide +kernel) rfl rfl rfl ?_; rintro _ _ _ ⟨_, rfl, rfl, rfl⟩; refine ⟨by (repeat (first | exact trivial | refine And.intro (pend_q rfl rfl rfl (qt_pev tok rfl)) ?_ | refine And.intro (pend_q rfl rfl rfl (ql tok rfl)) ?_)), ?_⟩) | (refine prn_o1 rfl (st_buildSlice tok rfl rfl rfl rfl rfl rfl rfl) (by decide +kernel) rfl rfl rfl ?_; rintro _ _ _ ⟨_, rfl, rfl, rfl⟩; refine ⟨by (repeat (first | exact trivial | refine And.intro (pend_q rfl rfl rfl (qt_pev tok rfl)) ?_ | refine And.intro (pend_q rfl rfl rfl (ql tok rfl)) ?_)), ?_⟩) | (refine prn_e1 rfl (qt_pev tok rfl) (by decide +kernel) rfl rfl rfl ?_; rintro _ _ _ ⟨rfl, rfl, rfl⟩) | refine runL_q (qt_callF rfl (fun _ => full_ok _ _ r)) rfl rfl rfl ?_)
      refine run_cond rfl (fun h => by rw [hf] at h; cases h) (fun _ => ?_)
      repeat (first | with_reducible (first | refine run_seq ?_ | refine run_region ?_ | refine runL_nil ?_ | refine run_skip ?_ | refine run_block ?_ | refine run_inBlock ?_) | refine run_exit rfl ?_ | refine runL_q (qt_pev tok rfl) rfl rfl rfl ?_ | refine runL_g rfl rfl (qt_pev tok rfl) rfl rfl rfl rfl rfl ?_ | refine runL_q (ql tok rfl) rfl rfl rfl ?_ | refine runL_g rfl rfl (ql tok rfl) rfl rfl rfl rfl rfl ?_ | (refine runL_op0 (sst tok rfl rfl rfl rfl rfl) ?_; rintro _ _ _ ⟨rfl, rfl, rfl⟩) | (refine runL_op (st_box rfl) rfl rfl rfl ?_; rintro _ _ _ ⟨_, rfl, rfl, rfl⟩) | (refine runL_op (st_alloc tok rfl) rfl rfl rfl ?_; rintro _ _ _ ⟨_, rfl, rfl, rfl⟩) | (refine runL_op (st_buildSlice tok rfl rfl rfl rfl rfl rfl rfl) rfl rfl rfl ?_; rintro _ _ _ ⟨_, rfl, rfl, rfl⟩) | refine prn_start mixed ?_ | refine prn_end (by decide +kernel) ?_ | refine prn_q rfl (qt_pev tok rfl) (by decide +kernel) rfl rfl rfl ?_ | refine prn_g rfl rfl rfl (qt_pev tok rfl) (by decide +kernel) rfl rfl rfl rfl rfl ?_ | refine prn_q rfl (ql tok rfl) (by decide +kernel) rfl rfl rfl ?_ | refine prn_g rfl rfl rfl (ql tok rfl) (by decide +kernel) rfl rfl rfl rfl rfl ?_ | (refine prn_e0 rfl (sst tok rfl rfl rfl rfl rfl) (by decide +kernel) ?_; rintro _ _ _ ⟨rfl, rfl, rfl⟩) | (refine prn_e1 rfl (st_box rfl) (by decide +kernel) rfl rfl rfl ?_; rintro _ _ _ ⟨_, rfl, rfl, rfl⟩) | (refine prn_e1 rfl (st_alloc tok rfl) (by decide +kernel) rfl rfl rfl ?_; rintro _ _ _ ⟨_, rfl, rfl, rfl⟩) | (refine prn_e1 rfl (st_buildSlice tok rfl rfl rfl rfl rfl rfl rfl) (by decide +kernel) rfl rfl rfl ?_; rintro _ _ _ ⟨_, rfl, rfl, rfl⟩) | (refine prn_o0 rfl (sst tok rfl rfl rfl rfl rfl) (by decide +kernel) ?_; rintro _ _ _ ⟨rfl, rfl, rfl⟩; refine ⟨by (repeat (first | exact trivial | refine And.intro (pend_q rfl rfl rfl (qt_pev tok rfl)) ?_ | refine And.intro (pend_q rfl rfl rfl (ql tok rfl)) ?_)), ?_⟩) | (refine prn_o1 rfl (st_box rfl) (by decide +kernel) rfl rfl rfl ?_; rintro _ _ _ ⟨_, rfl, rfl, rfl⟩; refine ⟨by (repeat (first | exact trivial | refine And.intro (pend_q rfl rfl rfl (qt_pev tok rfl)) ?_ | refine And.intro (pend_q rfl rfl rfl (ql tok rfl)) ?_)), ?_⟩) | (refine prn_o1 rfl (st_alloc tok rfl) (by decide +kernel) rfl rfl rfl ?_; rintro _ _ _ ⟨_, rfl, rfl, rfl⟩; refine ⟨by (repeat (first | exact trivial | refine And.intro (pend_q rfl rfl rfl (qt_pev tok rfl)) ?_ | refine And.intro (pend_q rfl rfl rfl (ql tok rfl)) ?_)), ?_⟩) | (refine prn_o1 rfl (st_buildSlice tok rfl rfl rfl rfl rfl rfl rfl) (by decide +kernel) rfl rfl rfl ?_; rintro _ _ _ ⟨_, rfl, rfl, rfl⟩; refine ⟨by (repeat (first | exact trivial | refine And.intro (pend_q rfl rfl rfl (qt_pev tok rfl)) ?_ | refine And.intro (pend_q rfl rfl rfl (ql tok rfl)) ?_)), ?_⟩) | (refine prn_e1 rfl (qt_pev tok rfl) (by decide +kernel) rfl rfl rfl ?_; rintro _ _ _ ⟨rfl, rfl, rfl⟩))
      refine run_ret hC (rs := [.cell 2 27]) rfl (rl tok rfl resN) (fun _ h => h.drop.drop.drop) ⟨?_, rfl, rfl⟩
      rw [bareR, if_neg h1, if_neg (by simp [hf]), if_neg (by simp [hf]), if_neg (by simp [hy]), if_neg h2]; rfl
  · have h3 : ¬ r.kind = 3 := by simpa using h
    have hf : fullR r = false := by simp [fullR, h2, h3]
    repeat (first | with_reducible (first | refine run_seq ?_ | refine run_region ?_ | refine runL_nil ?_ | refine run_skip ?_ | refine run_block ?_ | refine run_inBlock ?_) | refine run_exit rfl ?_ | refine runL_q (qt_pev tok rfl) rfl rfl rfl ?_ | refine runL_g rfl rfl (qt_pev tok rfl) rfl rfl rfl rfl rfl ?_ | refine runL_q (ql tok rfl) rfl rfl rfl ?_ | refine runL_g rfl rfl (ql tok rfl) rfl rfl rfl rfl rfl ?_ | (refine runL_op0 (sst tok rfl rfl rfl rfl rfl) ?_; rintro _ _ _ ⟨rfl, rfl, rfl⟩) | (refine runL_op (st_box rfl) rfl rfl rfl ?_; rintro _ _ _ ⟨_, rfl, rfl, rfl⟩) | (refine runL_op (st_alloc tok rfl) rfl rfl rfl ?_; rintro _ _ _ ⟨_, rfl, rfl, rfl⟩) | (refine runL_op (st_buildSlice tok rfl rfl rfl rfl rfl rfl rfl) rfl rfl rfl ?_; rintro _ _ _ ⟨_, rfl, rfl, rfl⟩) | refine prn_start mixed ?_ | refine prn_end (by decide +kernel) ?_ | refine prn_q rfl (qt_pev tok rfl) (by decide +kernel) rfl rfl rfl ?_ | refine prn_g rfl rfl rfl (qt_pev tok rfl) (by decide +kernel) rfl rfl rfl rfl rfl ?_ | refine prn_q rfl (ql tok rfl) (by decide +kernel) rfl rfl rfl ?_ | refine prn_g rfl rfl rfl (ql tok rfl) (by decide +kernel) rfl rfl rfl rfl rfl ?_ | (refine prn_e0 rfl (sst tok rfl rfl rfl rfl rfl) (by decide +kernel) ?_; rintro _ _ _ ⟨rfl, rfl, rfl⟩) | (refine prn_e1 rfl (st_box rfl) (by decide +kernel) rfl rfl rfl ?_; rintro _ _ _ ⟨_, rfl, rfl, rfl⟩) | (refine prn_e1 rfl (st_alloc tok rfl) (by decide +kernel) rfl rfl rfl ?_; rintro _ _ _ ⟨_, rfl, rfl, rfl⟩) | (refine prn_e1 rfl (st_buildSlice tok rfl rfl rfl rfl rfl rfl rfl) (by decide +kernel) rfl rfl rfl ?_; rintro _ _ _ ⟨_, rfl, rfl, rfl⟩) | (refine prn_o0 rfl (sst tok rfl rfl rfl rfl rfl) (by decide +kernel) ?_; rintro _ _ _ ⟨rfl, rfl, rfl⟩; refine ⟨by (repeat (first | exact trivial | refine And.intro (pend_q rfl rfl rfl (qt_pev tok rfl)) ?_ | refine And.intro (pend_q rfl rfl rfl (ql tok rfl)) ?_)), ?_⟩) | (refine prn_o1 rfl (st_box rfl) (by decide +kernel) rfl rfl rfl ?_; rintro _ _ _ ⟨_, rfl, rfl, rfl⟩; refine ⟨by (repeat (first | exact trivial | refine And.intro (pend_q rfl rfl rfl (qt_pev tok rfl)) ?_ | refine And.intro (pend_q rfl rfl rfl (ql tok rfl)) ?_)), ?_⟩) | (refine prn_o1 rfl (st_alloc tok rfl) (by decide +kernel) rfl rfl rfl ?_; rintro _ _ _ ⟨_, rfl, rfl, rfl⟩; refine ⟨by (repeat (first | exact trivial | refine And.intro (pend_q rfl rfl rfl (qt_pev tok rfl)) ?_ | refine And.intro (pend_q rfl rfl rfl (ql tok rfl)) ?_)), ?_⟩) | (refine prn_o1 rfl (st_buildSlice tok rfl rfl rfl rfl rfl rfl rfl) (by decide +kernel) rfl rfl rfl ?_; rintro _ _ _ ⟨_, rfl, rfl, rfl⟩; refine ⟨by (repeat (first | exact trivial | refine And.intro (pend_q rfl rfl rfl (qt_pev tok rfl)) ?_ | refine And.intro (pend_q rfl rfl rfl (ql tok rfl)) ?_)), ?_⟩) | (refine prn_e1 rfl (qt_pev tok rfl) (by decide +kernel) rfl rfl rfl ?_; rintro _ _ _ ⟨rfl, rfl, rfl⟩) | refine runL_q (qt_callF rfl (fun _ => full_ok _ _ r)) rfl rfl rfl ?_)
    refine run_cond rfl (fun h => by rw [hf] at h; cases h) (fun _ => ?_)
    repeat (first | with_reducible (first | refine run_seq ?_ | refine run_region ?_ | refine runL_nil ?_ | refine run_skip ?_ | refine run_block ?_ | refine run_inBlock ?_) | refine run_exit rfl ?_ | refine runL_q (qt_pev tok rfl) rfl rfl rfl ?_ | refine runL_g rfl rfl (qt_pev tok rfl) rfl rfl rfl rfl rfl ?_ | refine runL_q (ql tok rfl) rfl rfl rfl ?_ | refine runL_g rfl rfl (ql tok rfl) rfl rfl rfl rfl rfl ?_ | (refine runL_op0 (sst tok rfl rfl rfl rfl rfl) ?_; rintro _ _ _ ⟨rfl, rfl, rfl⟩) | (refine runL_op (st_box rfl) rfl rfl rfl ?_; rintro _ _ _ ⟨_, rfl, rfl, rfl⟩) | (refine runL_op (st_alloc tok rfl) rfl rfl rfl ?_; rintro _ _ _ ⟨_, rfl, rfl, rfl⟩) | (refine runL_op (st_buildSlice tok rfl rfl rfl rfl rfl rfl rfl) rfl rfl rfl ?_; rintro _ _ _ ⟨_, rfl, rfl, rfl⟩) | refine prn_start mixed ?_ | refine prn_end (by decide +kernel) ?_ | refine prn_q rfl (qt_pev tok rfl) (by decide +kernel) rfl rfl rfl ?_ | refine prn_g rfl rfl rfl (qt_pev tok rfl) (by decide +kernel) rfl rfl rfl rfl rfl ?_ | refine prn_q rfl (ql tok rfl) (by decide +kernel) rfl rfl rfl ?_ | refine prn_g rfl rfl rfl (ql tok rfl) (by decide +kernel) rfl rfl rfl rfl rfl ?_ | (refine prn_e0 rfl (sst tok rfl rfl rfl rfl rfl) (by decide +kernel) ?_; rintro _ _ _ ⟨rfl, rfl, rfl⟩) | (refine prn_e1 rfl (st_box rfl) (by decide +kernel) rfl rfl rfl ?_; rintro _ _ _ ⟨_, rfl, rfl, rfl⟩) | (refine prn_e1 rfl (st_alloc tok rfl) (by decide +kernel) rfl rfl rfl ?_; rintro _ _ _ ⟨_, rfl, rfl, rfl⟩) | (refine prn_e1 rfl (st_buildSlice tok rfl rfl rfl rfl rfl rfl rfl) (by decide +kernel) rfl rfl rfl ?_; rintro _ _ _ ⟨_, rfl, rfl, rfl⟩) | (refine prn_o0 rfl (sst tok rfl rfl rfl rfl rfl) (by decide +kernel) ?_; rintro _ _ _ ⟨rfl, rfl, rfl⟩; refine ⟨by (repeat (first | exact trivial | refine And.intro (pend_q rfl rfl rfl (qt_pev tok rfl)) ?_ | refine And.intro (pend_q rfl rfl rfl (ql tok rfl)) ?_)), ?_⟩) | (refine prn_o1 rfl (st_box rfl) (by decide +kernel) rfl rfl rfl ?_; rintro _ _ _ ⟨_, rfl, rfl, rfl⟩; refine ⟨by (repeat (first | exact trivial | refine And.intro (pend_q rfl rfl rfl (qt_pev tok rfl)) ?_ | refine And.intro (pend_q rfl rfl rfl (ql tok rfl)) ?_)), ?_⟩) | (refine prn_o1 rfl (st_alloc tok rfl) (by decide +kernel) rfl rfl rfl ?_; rintro _ _ _ ⟨_, rfl, rfl, rfl⟩; refine ⟨by (repeat (first | exact trivial | refine And.intro (pend_q rfl rfl rfl (qt_pev tok rfl)) ?_ | refine And.intro (pend_q rfl rfl rfl (ql tok rfl)) ?_)), ?_⟩) | (refine prn_o1 rfl (st_buildSlice tok rfl rfl rfl rfl rfl rfl rfl) (by decide +kernel) rfl rfl rfl ?_; rintro _ _ _ ⟨_, rfl, rfl, rfl⟩; refine ⟨by (repeat (first | exact trivial | refine And.intro (pend_q rfl rfl rfl (qt_pev tok rfl)) ?_ | refine And.intro (pend_q rfl rfl rfl (ql tok rfl)) ?_)), ?_⟩) | (refine prn_e1 rfl (qt_pev tok rfl) (by decide +kernel) rfl rfl rfl ?_; rintro _ _ _ ⟨rfl, rfl, rfl⟩))
    refine run_ret hC (rs := [.cell 2 27]) rfl (rl tok rfl resN) (fun _ h => h.drop.drop.drop) ⟨?_, rfl, rfl⟩
    rw [bareR, if_neg h1, if_neg (by simp [hf]), if_neg (by simp [hf]), if_neg (by simp [h3]), if_neg h2]; rfl
theorem bareR_mem (M : Mem) (r : Rc) (h : MbOk M r.mem) : MbOk M (bareR r).mem := by
  unfold bareR
  repeat' split
  all_goals first | exact MbOk.nil M | exact h
theorem bareR_tags (M : Mem) (r : Rc) (h : StOk M r.tags) : StOk M (bareR r).tags := by
  unfold bareR
  repeat' split
  all_goals first | exact StOk.nil M | exact h
end Go.Proofs.Ytpjklbkfhgfmnaa
namespace Go.Proofs.Ytpjklbkfhgfmnaa
open Go.Chi

/-! ### records that may be -/
def cA (r : Rc) : Bool := (decide (r.kind < 1) || decide (r.kind > 4)) || !sameRc r (bareR r)
def cB (r : Rc) : Bool := (r.kind == 1) && (decide (r.epoch < 1) || decide (r.epoch > 255))
def cC (r : Rc) : Bool := (r.kind != 1) && !mayTx r.txn
def cD (r : Rc) : Bool := fullR r && ((!orgW r.auditor) || !mayMb r.txn r.mem.xs)
def tagN (r : Rc) : Int := if r.kind = 3 then (r.mem.len : Int) else 0
def cE (r : Rc) : Bool := ((r.tags.len : Int) != tagN r) || r.tags.xs.any fun t => !isT t
def cF (r : Rc) : Bool := (r.kind == 2) && !isT r.body
def recE (r : Rc) : Int := if cA r = true then 2 else if cB r = true then 2 else if cC r = true then 2 else if cD r = true then 2 else if cE r = true then 2 else if cF r = true then 2 else 0
set_option maxHeartbeats 16000000 in
theorem recCheck_ok (M : Mem) (L : HL) (r : Rc) (hr : RcOk M r) : TrQ Try.prog 12 [.agg ⟨rcC r⟩] M L (.int .i64 (recE r)) := by
  refine Tr.intro 83 Try.func12 rfl rfl Try.call12 rfl ?_
  intro C hC hro
  repeat (first | with_reducible (first | refine run_seq ?_ | refine run_region ?_ | refine runL_nil ?_ | refine run_skip ?_ | refine run_block ?_ | refine run_inBlock ?_) | refine run_exit rfl ?_ | refine runL_q (qt_pev tok rfl) rfl rfl rfl ?_ | refine runL_g rfl rfl (qt_pev tok rfl) rfl rfl rfl rfl rfl ?_ | refine runL_q (ql tok rfl) rfl rfl rfl ?_ | refine runL_g rfl rfl (ql tok rfl) rfl rfl rfl rfl rfl ?_ | (refine runL_op0 (sst tok rfl rfl rfl rfl rfl) ?_; rintro _ _ _ ⟨rfl, rfl, rfl⟩) | (refine runL_op (st_box rfl) rfl rfl rfl ?_; rintro _ _ _ ⟨_, rfl, rfl, rfl⟩) | (refine runL_op (st_alloc tok rfl) rfl rfl rfl ?_; rintro _ _ _ ⟨_, rfl, rfl, rfl⟩) | (refine runL_op (st_buildSlice tok rfl rfl rfl rfl rfl rfl rfl) rfl rfl rfl ?_; rintro _ _ _ ⟨_, rfl, rfl, rfl⟩))
  rename_i b1
  refine run_cut (fun σ' M' L' => σ' = [(3, .int .i64 (tagN r)), (1, .pointer (some ⟨b1, 0, none⟩))] ∧ M = M' ∧ L' = (b1, .cells ⟨rcC r⟩ 27 (0, 0)) :: L) ?_ ?_
  rotate_left
  · intro hnext
    refine run_cond rfl (fun h => ?_) (fun h => ?_)
    · have hk : ¬ r.kind = 3 := by simpa using h
      refine run_region ?_
      repeat (first | refine runL_q (qt_pev tok rfl) rfl rfl rfl ?_ | refine runL_g rfl rfl (qt_pev tok rfl) rfl rfl rfl rfl rfl ?_ | refine runL_q (ql tok rfl) rfl rfl rfl ?_ | refine runL_g rfl rfl (ql tok rfl) rfl rfl rfl rfl rfl ?_ | (refine runL_op0 (sst tok rfl rfl rfl rfl rfl) ?_; rintro _ _ _ ⟨rfl, rfl, rfl⟩) | (refine runL_op (st_box rfl) rfl rfl rfl ?_; rintro _ _ _ ⟨_, rfl, rfl, rfl⟩) | (refine runL_op (st_alloc tok rfl) rfl rfl rfl ?_; rintro _ _ _ ⟨_, rfl, rfl, rfl⟩) | (refine runL_op (st_buildSlice tok rfl rfl rfl rfl rfl rfl rfl) rfl rfl rfl ?_; rintro _ _ _ ⟨_, rfl, rfl, rfl⟩))
      refine runL_nil ?_
      exact run_sub' (hnext _ _ _ ⟨rfl, rfl, rfl⟩) ⟨by rw [tagN, if_neg hk]; rfl, rfl, trivial⟩
    · have hk : r.kind = 3 := by simpa using h
      refine run_skip ?_
      exact run_sub' (hnext _ _ _ ⟨rfl, rfl, rfl⟩) ⟨by rw [tagN, if_pos hk]; rfl, rfl, trivial⟩
  rintro _ _ _ ⟨rfl, rfl, rfl⟩
  have hbm := bareR_mem M r hr.mem
  have hbt := bareR_tags M r hr.tags
  repeat (first | with_reducible (first | refine run_seq ?_ | refine run_region ?_ | refine runL_nil ?_ | refine run_skip ?_ | refine run_block ?_ | refine run_inBlock ?_) | refine run_exit rfl ?_ | refine runL_q (qt_pev tok rfl) rfl rfl rfl ?_ | refine runL_g rfl rfl (qt_pev tok rfl) rfl rfl rfl rfl rfl ?_ | refine runL_q (ql tok rfl) rfl rfl rfl ?_ | refine runL_g rfl rfl (ql tok rfl) rfl rfl rfl rfl rfl ?_ | (refine runL_op0 (sst tok rfl rfl rfl rfl rfl) ?_; rintro _ _ _ ⟨rfl, rfl, rfl⟩) | (refine runL_op (st_box rfl) rfl rfl rfl ?_; rintro _ _ _ ⟨_, rfl, rfl, rfl⟩) | (refine runL_op (st_alloc tok rfl) rfl rfl rfl ?_; rintro _ _ _ ⟨_, rfl, rfl, rfl⟩) | (refine runL_op (st_buildSlice tok rfl rfl rfl rfl rfl rfl rfl) rfl rfl rfl ?_; rintro _ _ _ ⟨_, rfl, rfl, rfl⟩) | refine prn_start mixed ?_ | refine prn_end (by decide +kernel) ?_ | refine prn_q rfl (qt_pev tok rfl) (by decide +kernel) rfl rfl rfl ?_ | refine prn_g rfl rfl rfl (qt_pev tok rfl) (by decide +kernel) rfl rfl rfl rfl rfl ?_ | refine prn_q rfl (ql tok rfl) (by decide +kernel) rfl rfl rfl ?_ | refine prn_g rfl rfl rfl (ql tok rfl) (by decide +kernel) rfl rfl rfl rfl rfl ?_ | (refine prn_e0 rfl (sst tok rfl rfl rfl rfl rfl) (by decide +kernel) ?_; rintro _ _ _ ⟨rfl, rfl, rfl⟩) | (refine prn_e1 rfl (st_box rfl) (by decide +kernel) rfl rfl rfl ?_; rintro _ _ _ ⟨_, rfl, rfl, rfl⟩) | (refine prn_e1 rfl (st_alloc tok rfl) (by decide +kernel) rfl rfl rfl ?_; rintro _ _ _ ⟨_, rfl, rfl, rfl⟩) | (refine prn_e1 rfl (st_buildSlice tok rfl rfl rfl rfl rfl rfl rfl) (by decide +kernel) rfl rfl rfl ?_; rintro _ _ _ ⟨_, rfl, rfl, rfl⟩) | (refine prn_o0 rfl (sst tok rfl rfl rfl rfl rfl) (by decide +kernel) ?_; rintro _ _ _ ⟨rfl, rfl, rfl⟩; refine ⟨by (repeat (first | exact trivial | refine And.intro (pend_q rfl rfl rfl (qt_pev tok rfl)) ?_ | refine And.intro (pend_q rfl rfl rfl (ql tok rfl)) ?_)), ?_⟩) | (refine prn_o1 rfl (st_box rfl) (by decide +kernel) rfl rfl rfl ?_; rintro _ _ _ ⟨_, rfl, rfl, rfl⟩; refine ⟨by (repeat (first | exact trivial | refine And.intro (pend_q rfl rfl rfl (qt_pev tok rfl)) ?_ | refine And.intro (pend_q rfl rfl rfl (ql tok rfl)) ?_)), ?_⟩) | (refine prn_o1 rfl (st_alloc tok rfl) (by decide +kernel) rfl rfl rfl ?_; rintro _ _ _ ⟨_, rfl, rfl, rfl⟩; refine ⟨by (repeat (first | exact trivial | refine And.intro (pend_q rfl rfl rfl (qt_pev tok rfl)) ?_ | refine And.intro (pend_q rfl rfl rfl (ql tok rfl)) ?_)), ?_⟩) | (refine prn_o1 rfl (st_buildSlice tok rfl rfl rfl rfl rfl rfl rfl) (by decide +kernel) rfl rfl rfl ?_; rintro _ _ _ ⟨_, rfl, rfl, rfl⟩; refine ⟨by (repeat (first | exact trivial | refine And.intro (pend_q rfl rfl rfl (qt_pev tok rfl)) ?_ | refine And.intro (pend_q rfl rfl rfl (ql tok rfl)) ?_)), ?_⟩) | (refine prn_e1 rfl (qt_pev tok rfl) (by decide +kernel) rfl rfl rfl ?_; rintro _ _ _ ⟨rfl, rfl, rfl⟩) | refine prn_g rfl rfl rfl (qt_callF rfl (fun _ => bare_ok _ _ r)) (by decide +kernel) rfl rfl rfl rfl rfl ?_ | refine prn_g rfl rfl rfl (qt_callF rfl (fun _ => same_ok _ _ r (bareR r) hr.mem hbm hr.tags hbt)) (by decide +kernel) rfl rfl rfl rfl rfl ?_)
  refine run_cond rfl (fun h => ?_) (fun h => ?_)
  · have hcA : cA r = true := h
    repeat (first | with_reducible (first | refine run_seq ?_ | refine run_region ?_ | refine runL_nil ?_ | refine run_skip ?_ | refine run_block ?_ | refine run_inBlock ?_) | refine run_exit rfl ?_ | refine runL_q (qt_pev tok rfl) rfl rfl rfl ?_ | refine runL_g rfl rfl (qt_pev tok rfl) rfl rfl rfl rfl rfl ?_ | refine runL_q (ql tok rfl) rfl rfl rfl ?_ | refine runL_g rfl rfl (ql tok rfl) rfl rfl rfl rfl rfl ?_ | (refine runL_op0 (sst tok rfl rfl rfl rfl rfl) ?_; rintro _ _ _ ⟨rfl, rfl, rfl⟩) | (refine runL_op (st_box rfl) rfl rfl rfl ?_; rintro _ _ _ ⟨_, rfl, rfl, rfl⟩) | (refine runL_op (st_alloc tok rfl) rfl rfl rfl ?_; rintro _ _ _ ⟨_, rfl, rfl, rfl⟩) | (refine runL_op (st_buildSlice tok rfl rfl rfl rfl rfl rfl rfl) rfl rfl rfl ?_; rintro _ _ _ ⟨_, rfl, rfl, rfl⟩))
    refine run_cond rfl (fun _ => ?_) (fun h' => by rw [show cA r = false from h'] at hcA; cases hcA)
    repeat (first | with_reducible (first | refine run_seq ?_ | refine run_region ?_ | refine runL_nil ?_ | refine run_skip ?_ | refine run_block ?_ | refine run_inBlock ?_) | refine run_exit rfl ?_ | refine runL_q (qt_pev tok rfl) rfl rfl rfl ?_ | refine runL_g rfl rfl (qt_pev tok rfl) rfl rfl rfl rfl rfl ?_ | refine runL_q (ql tok rfl) rfl rfl rfl ?_ | refine runL_g rfl rfl (ql tok rfl) rfl rfl rfl rfl rfl ?_ | (refine runL_op0 (sst tok rfl rfl rfl rfl rfl) ?_; rintro _ _ _ ⟨rfl, rfl, rfl⟩) | (refine runL_op (st_box rfl) rfl rfl rfl ?_; rintro _ _ _ ⟨_, rfl, rfl, rfl⟩) | (refine runL_op (st_alloc tok rfl) rfl rfl rfl ?_; rintro _ _ _ ⟨_, rfl, rfl, rfl⟩) | (refine runL_op (st_buildSlice tok rfl rfl rfl rfl rfl rfl rfl) rfl rfl rfl ?_; rintro _ _ _ ⟨_, rfl, rfl, rfl⟩))
    exact run_ret hC (rs := [.tmp 2]) rfl (resT rfl resN) (fun _ h => h.drop) ⟨by rw [recE, if_pos hcA]; rfl, rfl, rfl⟩
  have hcA : ¬ cA r = true := fun e => by rw [show cA r = false from h] at e; cases e
  repeat (first | with_reducible (first | refine run_seq ?_ | refine run_region ?_ | refine runL_nil ?_ | refine run_skip ?_ | refine run_block ?_ | refine run_inBlock ?_) | refine run_exit rfl ?_ | refine runL_q (qt_pev tok rfl) rfl rfl rfl ?_ | refine runL_g rfl rfl (qt_pev tok rfl) rfl rfl rfl rfl rfl ?_ | refine runL_q (ql tok rfl) rfl rfl rfl ?_ | refine runL_g rfl rfl (ql tok rfl) rfl rfl rfl rfl rfl ?_ | (refine runL_op0 (sst tok rfl rfl rfl rfl rfl) ?_; rintro _ _ _ ⟨rfl, rfl, rfl⟩) | (refine runL_op (st_box rfl) rfl rfl rfl ?_; rintro _ _ _ ⟨_, rfl, rfl, rfl⟩) | (refine runL_op (st_alloc tok rfl) rfl rfl rfl ?_; rintro _ _ _ ⟨_, rfl, rfl, rfl⟩) | (refine runL_op (st_buildSlice tok rfl rfl rfl rfl rfl rfl rfl) rfl rfl rfl ?_; rintro _ _ _ ⟨_, rfl, rfl, rfl⟩))
  refine run_cond rfl (fun h => ?_) (fun h => ?_)
  · have hcB : cB r = true := h
    repeat (first | with_reducible (first | refine run_seq ?_ | refine run_region ?_ | refine runL_nil ?_ | refine run_skip ?_ | refine run_block ?_ | refine run_inBlock ?_) | refine run_exit rfl ?_ | refine runL_q (qt_pev tok rfl) rfl rfl rfl ?_ | refine runL_g rfl rfl (qt_pev tok rfl) rfl rfl rfl rfl rfl ?_ | refine runL_q (ql tok rfl) rfl rfl rfl ?_ | refine runL_g rfl rfl (ql tok rfl) rfl rfl rfl rfl rfl ?_ | (refine runL_op0 (sst tok rfl rfl rfl rfl rfl) ?_; rintro _ _ _ ⟨rfl, rfl, rfl⟩) | (refine runL_op (st_box rfl) rfl rfl rfl ?_; rintro _ _ _ ⟨_, rfl, rfl, rfl⟩) | (refine runL_op (st_alloc tok rfl) rfl rfl rfl ?_; rintro _ _ _ ⟨_, rfl, rfl, rfl⟩) | (refine runL_op (st_buildSlice tok rfl rfl rfl rfl rfl rfl rfl) rfl rfl rfl ?_; rintro _ _ _ ⟨_, rfl, rfl, rfl⟩))
    refine run_cond rfl (fun _ => ?_) (fun h' => by rw [show cB r = false from h'] at hcB; cases hcB)
    repeat (first | with_reducible (first | refine run_seq ?_ | refine run_region ?_ | refine runL_nil ?_ | refine run_skip ?_ | refine run_block ?_ | refine run_inBlock ?_) | refine run_exit rfl ?_ | refine runL_q (qt_pev tok rfl) rfl rfl rfl ?_ | refine runL_g rfl rfl (qt_pev tok rfl) rfl rfl rfl rfl rfl ?_ | refine runL_q (ql tok rfl) rfl rfl rfl ?_ | refine runL_g rfl rfl (ql tok rfl) rfl rfl rfl rfl rfl ?_ | (refine runL_op0 (sst tok rfl rfl rfl rfl rfl) ?_; rintro _ _ _ ⟨rfl, rfl, rfl⟩) | (refine runL_op (st_box rfl) rfl rfl rfl ?_; rintro _ _ _ ⟨_, rfl, rfl, rfl⟩) | (refine runL_op (st_alloc tok rfl) rfl rfl rfl ?_; rintro _ _ _ ⟨_, rfl, rfl, rfl⟩) | (refine runL_op (st_buildSlice tok rfl rfl rfl rfl rfl rfl rfl) rfl rfl rfl ?_; rintro _ _ _ ⟨_, rfl, rfl, rfl⟩))
    exact run_ret hC (rs := [.tmp 2]) rfl (resT rfl resN) (fun _ h => h.drop) ⟨by rw [recE, if_neg hcA, if_pos hcB]; rfl, rfl, rfl⟩
  have hcB : ¬ cB r = true := fun e => by rw [show cB r = false from h] at e; cases e
  repeat (first | with_reducible (first | refine run_seq ?_ | refine run_region ?_ | refine runL_nil ?_ | refine run_skip ?_ | refine run_block ?_ | refine run_inBlock ?_) | refine run_exit rfl ?_ | refine runL_q (qt_pev tok rfl) rfl rfl rfl ?_ | refine runL_g rfl rfl (qt_pev tok rfl) rfl rfl rfl rfl rfl ?_ | refine runL_q (ql tok rfl) rfl rfl rfl ?_ | refine runL_g rfl rfl (ql tok rfl) rfl rfl rfl rfl rfl ?_ | (refine runL_op0 (sst tok rfl rfl rfl rfl rfl) ?_; rintro _ _ _ ⟨rfl, rfl, rfl⟩) | (refine runL_op (st_box rfl) rfl rfl rfl ?_; rintro _ _ _ ⟨_, rfl, rfl, rfl⟩) | (refine runL_op (st_alloc tok rfl) rfl rfl rfl ?_; rintro _ _ _ ⟨_, rfl, rfl, rfl⟩) | (refine runL_op (st_buildSlice tok rfl rfl rfl rfl rfl rfl rfl) rfl rfl rfl ?_; rintro _ _ _ ⟨_, rfl, rfl, rfl⟩) | refine runL_g rfl rfl (qt_callF rfl (fun _ => mayTx_ok _ _ r.txn)) rfl rfl rfl rfl rfl ?_)
  refine run_cond rfl (fun h => ?_) (fun h => ?_)
  · have hcC : cC r = true := h
    repeat (first | with_reducible (first | refine run_seq ?_ | refine run_region ?_ | refine runL_nil ?_ | refine run_skip ?_ | refine run_block ?_ | refine run_inBlock ?_) | refine run_exit rfl ?_ | refine runL_q (qt_pev tok rfl) rfl rfl rfl ?_ | refine runL_g rfl rfl (qt_pev tok rfl) rfl rfl rfl rfl rfl ?_ | refine runL_q (ql tok rfl) rfl rfl rfl ?_ | refine runL_g rfl rfl (ql tok rfl) rfl rfl rfl rfl rfl ?_ | (refine runL_op0 (sst tok rfl rfl rfl rfl rfl) ?_; rintro _ _ _ ⟨rfl, rfl, rfl⟩) | (refine runL_op (st_box rfl) rfl rfl rfl ?_; rintro _ _ _ ⟨_, rfl, rfl, rfl⟩) | (refine runL_op (st_alloc tok rfl) rfl rfl rfl ?_; rintro _ _ _ ⟨_, rfl, rfl, rfl⟩) | (refine runL_op (st_buildSlice tok rfl rfl rfl rfl rfl rfl rfl) rfl rfl rfl ?_; rintro _ _ _ ⟨_, rfl, rfl, rfl⟩))
    refine run_cond rfl (fun _ => ?_) (fun h' => by rw [show cC r = false from h'] at hcC; cases hcC)
    repeat (first | with_reducible (first | refine run_seq ?_ | refine run_region ?_ | refine runL_nil ?_ | refine run_skip ?_ | refine run_block ?_ | refine run_inBlock ?_) | refine run_exit rfl ?_ | refine runL_q (qt_pev tok rfl) rfl rfl rfl ?_ | refine runL_g rfl rfl (qt_pev tok rfl) rfl rfl rfl rfl rfl ?_ | refine runL_q (ql tok rfl) rfl rfl rfl ?_ | refine runL_g rfl rfl (ql tok rfl) rfl rfl rfl rfl rfl ?_ | (refine runL_op0 (sst tok rfl rfl rfl rfl rfl) ?_; rintro _ _ _ ⟨rfl, rfl, rfl⟩) | (refine runL_op (st_box rfl) rfl rfl rfl ?_; rintro _ _ _ ⟨_, rfl, rfl, rfl⟩) | (refine runL_op (st_alloc tok rfl) rfl rfl rfl ?_; rintro _ _ _ ⟨_, rfl, rfl, rfl⟩) | (refine runL_op (st_buildSlice tok rfl rfl rfl rfl rfl rfl rfl) rfl rfl rfl ?_; rintro _ _ _ ⟨_, rfl, rfl, rfl⟩))
    exact run_ret hC (rs := [.tmp 2]) rfl (resT rfl resN) (fun _ h => h.drop) ⟨by rw [recE, if_neg hcA, if_neg hcB, if_pos hcC]; rfl, rfl, rfl⟩
  have hcC : ¬ cC r = true := fun e => by rw [show cC r = false from h] at e; cases e
  repeat (first | with_reducible (first | refine run_seq ?_ | refine run_region ?_ | refine runL_nil ?_ | refine run_skip ?_ | refine run_block ?_ | refine run_inBlock ?_) | refine run_exit rfl ?_ | refine runL_q (qt_pev tok rfl) rfl rfl rfl ?_ | refine runL_g rfl rfl (qt_pev tok rfl) rfl rfl rfl rfl rfl ?_ | refine runL_q (ql tok rfl) rfl rfl rfl ?_ | refine runL_g rfl rfl (ql tok rfl) rfl rfl rfl rfl rfl ?_ | (refine runL_op0 (sst tok rfl rfl rfl rfl rfl) ?_; rintro _ _ _ ⟨rfl, rfl, rfl⟩) | (refine runL_op (st_box rfl) rfl rfl rfl ?_; rintro _ _ _ ⟨_, rfl, rfl, rfl⟩) | (refine runL_op (st_alloc tok rfl) rfl rfl rfl ?_; rintro _ _ _ ⟨_, rfl, rfl, rfl⟩) | (refine runL_op (st_buildSlice tok rfl rfl rfl rfl rfl rfl rfl) rfl rfl rfl ?_; rintro _ _ _ ⟨_, rfl, rfl, rfl⟩) | refine runL_q (qt_callF rfl (fun _ => full_ok _ _ r)) rfl rfl rfl ?_ | refine runL_g rfl rfl (qt_callF rfl (fun _ => rorg_ok _ _ _)) rfl rfl rfl rfl rfl ?_ | refine runL_g rfl rfl (qt_callF rfl (fun _ => mayMb_ok _ _ r.txn r.mem hr.mem hr.dig)) rfl rfl rfl rfl rfl ?_)
  refine run_cond rfl (fun h => ?_) (fun h => ?_)
  · have hcD : cD r = true := h
    repeat (first | with_reducible (first | refine run_seq ?_ | refine run_region ?_ | refine runL_nil ?_ | refine run_skip ?_ | refine run_block ?_ | refine run_inBlock ?_) | refine run_exit rfl ?_ | refine runL_q (qt_pev tok rfl) rfl rfl rfl ?_ | refine runL_g rfl rfl (qt_pev tok rfl) rfl rfl rfl rfl rfl ?_ | refine runL_q (ql tok rfl) rfl rfl rfl ?_ | refine runL_g rfl rfl (ql tok rfl) rfl rfl rfl rfl rfl ?_ | (refine runL_op0 (sst tok rfl rfl rfl rfl rfl) ?_; rintro _ _ _ ⟨rfl, rfl, rfl⟩) | (refine runL_op (st_box rfl) rfl rfl rfl ?_; rintro _ _ _ ⟨_, rfl, rfl, rfl⟩) | (refine runL_op (st_alloc tok rfl) rfl rfl rfl ?_; rintro _ _ _ ⟨_, rfl, rfl, rfl⟩) | (refine runL_op (st_buildSlice tok rfl rfl rfl rfl rfl rfl rfl) rfl rfl rfl ?_; rintro _ _ _ ⟨_, rfl, rfl, rfl⟩))
    refine run_cond rfl (fun _ => ?_) (fun h' => by rw [show cD r = false from h'] at hcD; cases hcD)
    repeat (first | with_reducible (first | refine run_seq ?_ | refine run_region ?_ | refine runL_nil ?_ | refine run_skip ?_ | refine run_block ?_ | refine run_inBlock ?_) | refine run_exit rfl ?_ | refine runL_q (qt_pev tok rfl) rfl rfl rfl ?_ | refine runL_g rfl rfl (qt_pev tok rfl) rfl rfl rfl rfl rfl ?_ | refine runL_q (ql tok rfl) rfl rfl rfl ?_ | refine runL_g rfl rfl (ql tok rfl) rfl rfl rfl rfl rfl ?_ | (refine runL_op0 (sst tok rfl rfl rfl rfl rfl) ?_; rintro _ _ _ ⟨rfl, rfl, rfl⟩) | (refine runL_op (st_box rfl) rfl rfl rfl ?_; rintro _ _ _ ⟨_, rfl, rfl, rfl⟩) | (refine runL_op (st_alloc tok rfl) rfl rfl rfl ?_; rintro _ _ _ ⟨_, rfl, rfl, rfl⟩) | (refine runL_op (st_buildSlice tok rfl rfl rfl rfl rfl rfl rfl) rfl rfl rfl ?_; rintro _ _ _ ⟨_, rfl, rfl, rfl⟩))
    exact run_ret hC (rs := [.tmp 2]) rfl (resT rfl resN) (fun _ h => h.drop) ⟨by rw [recE, if_neg hcA, if_neg hcB, if_neg hcC, if_pos hcD]; rfl, rfl, rfl⟩
  have hcD : ¬ cD r = true := fun e => by rw [show cD r = false from h] at e; cases e
  repeat (first | with_reducible (first | refine run_seq ?_ | refine run_region ?_ | refine runL_nil ?_ | refine run_skip ?_ | refine run_block ?_ | refine run_inBlock ?_) | refine run_exit rfl ?_ | refine runL_q (qt_pev tok rfl) rfl rfl rfl ?_ | refine runL_g rfl rfl (qt_pev tok rfl) rfl rfl rfl rfl rfl ?_ | refine runL_q (ql tok rfl) rfl rfl rfl ?_ | refine runL_g rfl rfl (ql tok rfl) rfl rfl rfl rfl rfl ?_ | (refine runL_op0 (sst tok rfl rfl rfl rfl rfl) ?_; rintro _ _ _ ⟨rfl, rfl, rfl⟩) | (refine runL_op (st_box rfl) rfl rfl rfl ?_; rintro _ _ _ ⟨_, rfl, rfl, rfl⟩) | (refine runL_op (st_alloc tok rfl) rfl rfl rfl ?_; rintro _ _ _ ⟨_, rfl, rfl, rfl⟩) | (refine runL_op (st_buildSlice tok rfl rfl rfl rfl rfl rfl rfl) rfl rfl rfl ?_; rintro _ _ _ ⟨_, rfl, rfl, rfl⟩) | refine runL_g rfl rfl (qt_callF rfl (fun _ => containsF_ok _ _ r.tags hr.tags 27 (fun t => !isT t) (fun m hm => check1_ok _ _ m (hr.tag m hm)))) rfl rfl rfl rfl rfl ?_)
  refine run_cond rfl (fun h => ?_) (fun h => ?_)
  · have hcE : cE r = true := h
    repeat (first | with_reducible (first | refine run_seq ?_ | refine run_region ?_ | refine runL_nil ?_ | refine run_skip ?_ | refine run_block ?_ | refine run_inBlock ?_) | refine run_exit rfl ?_ | refine runL_q (qt_pev tok rfl) rfl rfl rfl ?_ | refine runL_g rfl rfl (qt_pev tok rfl) rfl rfl rfl rfl rfl ?_ | refine runL_q (ql tok rfl) rfl rfl rfl ?_ | refine runL_g rfl rfl (ql tok rfl) rfl rfl rfl rfl rfl ?_ | (refine runL_op0 (sst tok rfl rfl rfl rfl rfl) ?_; rintro _ _ _ ⟨rfl, rfl, rfl⟩) | (refine runL_op (st_box rfl) rfl rfl rfl ?_; rintro _ _ _ ⟨_, rfl, rfl, rfl⟩) | (refine runL_op (st_alloc tok rfl) rfl rfl rfl ?_; rintro _ _ _ ⟨_, rfl, rfl, rfl⟩) | (refine runL_op (st_buildSlice tok rfl rfl rfl rfl rfl rfl rfl) rfl rfl rfl ?_; rintro _ _ _ ⟨_, rfl, rfl, rfl⟩))
    refine run_cond rfl (fun _ => ?_) (fun h' => by rw [show cE r = false from h'] at hcE; cases hcE)
    repeat (first | with_reducible (first | refine run_seq ?_ | refine run_region ?_ | refine runL_nil ?_ | refine run_skip ?_ | refine run_block ?_ | refine run_inBlock ?_) | refine run_exit rfl ?_ | refine runL_q (qt_pev tok rfl) rfl rfl rfl ?_ | refine runL_g rfl rfl (qt_pev tok rfl) rfl rfl rfl rfl rfl ?_ | refine runL_q (ql tok rfl) rfl rfl rfl ?_ | refine runL_g rfl rfl (ql tok rfl) rfl rfl rfl rfl rfl ?_ | (refine runL_op0 (sst tok rfl rfl rfl rfl rfl) ?_; rintro _ _ _ ⟨rfl, rfl, rfl⟩) | (refine runL_op (st_box rfl) rfl rfl rfl ?_; rintro _ _ _ ⟨_, rfl, rfl, rfl⟩) | (refine runL_op (st_alloc tok rfl) rfl rfl rfl ?_; rintro _ _ _ ⟨_, rfl, rfl, rfl⟩) | (refine runL_op (st_buildSlice tok rfl rfl rfl rfl rfl rfl rfl) rfl rfl rfl ?_; rintro _ _ _ ⟨_, rfl, rfl, rfl⟩))
    exact run_ret hC (rs := [.tmp 2]) rfl (resT rfl resN) (fun _ h => h.drop) ⟨by rw [recE, if_neg hcA, if_neg hcB, if_neg hcC, if_neg hcD, if_pos hcE]; rfl, rfl, rfl⟩
  have hcE : ¬ cE r = true := fun e => by rw [show cE r = false from h] at e; cases e
  repeat (first | with_reducible (first | refine run_seq ?_ | refine run_region ?_ | refine runL_nil ?_ | refine run_skip ?_ | refine run_block ?_ | refine run_inBlock ?_) | refine run_exit rfl ?_ | refine runL_q (qt_pev tok rfl) rfl rfl rfl ?_ | refine runL_g rfl rfl (qt_pev tok rfl) rfl rfl rfl rfl rfl ?_ | refine runL_q (ql tok rfl) rfl rfl rfl ?_ | refine runL_g rfl rfl (ql tok rfl) rfl rfl rfl rfl rfl ?_ | (refine runL_op0 (sst tok rfl rfl rfl rfl rfl) ?_; rintro _ _ _ ⟨rfl, rfl, rfl⟩) | (refine runL_op (st_box rfl) rfl rfl rfl ?_; rintro _ _ _ ⟨_, rfl, rfl, rfl⟩) | (refine runL_op (st_alloc tok rfl) rfl rfl rfl ?_; rintro _ _ _ ⟨_, rfl, rfl, rfl⟩) | (refine runL_op (st_buildSlice tok rfl rfl rfl rfl rfl rfl rfl) rfl rfl rfl ?_; rintro _ _ _ ⟨_, rfl, rfl, rfl⟩) | refine runL_g rfl rfl (qt_callF rfl (fun _ => isTerm_ok _ _ r.body hr.body)) rfl rfl rfl rfl rfl ?_)
  refine run_cond rfl (fun h => ?_) (fun h => ?_)
  · have hcF : cF r = true := h
    repeat (first | with_reducible (first | refine run_seq ?_ | refine run_region ?_ | refine runL_nil ?_ | refine run_skip ?_ | refine run_block ?_ | refine run_inBlock ?_) | refine run_exit rfl ?_ | refine runL_q (qt_pev tok rfl) rfl rfl rfl ?_ | refine runL_g rfl rfl (qt_pev tok rfl) rfl rfl rfl rfl rfl ?_ | refine runL_q (ql tok rfl) rfl rfl rfl ?_ | refine runL_g rfl rfl (ql tok rfl) rfl rfl rfl rfl rfl ?_ | (refine runL_op0 (sst tok rfl rfl rfl rfl rfl) ?_; rintro _ _ _ ⟨rfl, rfl, rfl⟩) | (refine runL_op (st_box rfl) rfl rfl rfl ?_; rintro _ _ _ ⟨_, rfl, rfl, rfl⟩) | (refine runL_op (st_alloc tok rfl) rfl rfl rfl ?_; rintro _ _ _ ⟨_, rfl, rfl, rfl⟩) | (refine runL_op (st_buildSlice tok rfl rfl rfl rfl rfl rfl rfl) rfl rfl rfl ?_; rintro _ _ _ ⟨_, rfl, rfl, rfl⟩))
    exact run_ret hC (rs := [.tmp 2]) rfl (resT rfl resN) (fun _ h => h.drop) ⟨by rw [recE, if_neg hcA, if_neg hcB, if_neg hcC, if_neg hcD, if_neg hcE, if_pos hcF]; rfl, rfl, rfl⟩
  have hcF : ¬ cF r = true := fun e => by rw [show cF r = false from h] at e; cases e
  repeat (first | with_reducible (first | refine run_seq ?_ | refine run_region ?_ | refine runL_nil ?_ | refine run_skip ?_ | refine run_block ?_ | refine run_inBlock ?_) | refine run_exit rfl ?_ | refine runL_q (qt_pev tok rfl) rfl rfl rfl ?_ | refine runL_g rfl rfl (qt_pev tok rfl) rfl rfl rfl rfl rfl ?_ | refine runL_q (ql tok rfl) rfl rfl rfl ?_ | refine runL_g rfl rfl (ql tok rfl) rfl rfl rfl rfl rfl ?_ | (refine runL_op0 (sst tok rfl rfl rfl rfl rfl) ?_; rintro _ _ _ ⟨rfl, rfl, rfl⟩) | (refine runL_op (st_box rfl) rfl rfl rfl ?_; rintro _ _ _ ⟨_, rfl, rfl, rfl⟩) | (refine runL_op (st_alloc tok rfl) rfl rfl rfl ?_; rintro _ _ _ ⟨_, rfl, rfl, rfl⟩) | (refine runL_op (st_buildSlice tok rfl rfl rfl rfl rfl rfl rfl) rfl rfl rfl ?_; rintro _ _ _ ⟨_, rfl, rfl, rfl⟩))
  exact run_ret hC (rs := [.tmp 2]) rfl (resT rfl resN) (fun _ h => h.drop) ⟨by rw [recE, if_neg hcA, if_neg hcB, if_neg hcC, if_neg hcD, if_neg hcE, if_neg hcF]; rfl, rfl, rfl⟩
theorem recE_kind {r : Rc} (h : recE r = 0) : 1 ≤ r.kind ∧ r.kind ≤ 4 := by
  have hA : ¬ cA r = true := fun hA => by rw [recE, if_pos hA] at h; cases h
  simp only [cA, Bool.or_eq_true, decide_eq_true_eq, not_or] at hA
  omega
end Go.Proofs.Ytpjklbkfhgfmnaa
namespace Go.Chi
section
variable {κ : Type} [DecidableEq κ]
/-- a key that is there, or is made there -/
def kvTouch (es : KV κ) (a : κ) (z : Value) (clock : Nat) : KV κ := match es with
  | [] => [(a, z, clock)]
  | x :: es => if a = x.1 then x :: es else x :: kvTouch es a z clock
def kvBorn (es : KV κ) (a : κ) (clock : Nat) : Nat := match es with
  | [] => clock
  | x :: es => if a = x.1 then x.2.2 else kvBorn es a clock
structure KvOk (es : KV κ) (clock : Nat) : Prop where
  nodup : (es.map (·.2.2)).Nodup
  lt : ∀ x ∈ es, x.2.2 < clock
omit [DecidableEq κ] in
theorem KvOk.nil (clock : Nat) : KvOk ([] : KV κ) clock := ⟨by simp, fun x h => by cases h⟩
theorem kvGet_set (a : κ) (v : Value) (clock : Nat) (b : κ) : ∀ es : KV κ, kvGet (kvSet es a v clock) b = if b = a then some v else kvGet es b
  | [] => by simp only [kvSet, kvGet]
  | x :: es => by
    simp only [kvSet]
    split
    · rename_i e
      subst e
      simp only [kvGet]
      split
      · rfl
      · rfl
    · rename_i e
      simp only [kvGet, kvGet_set a v clock b es]
      by_cases e2 : b = x.1
      · rw [if_pos e2, if_pos e2, if_neg (fun h => e (by rw [← h]; exact e2))]
      · rw [if_neg e2, if_neg e2]
theorem kvGet_touch (a : κ) (z : Value) (clock : Nat) : ∀ es : KV κ, (kvGet (kvTouch es a z clock) a).getD z = (kvGet es a).getD z
  | [] => by simp [kvTouch, kvGet]
  | x :: es => by
    simp only [kvTouch]
    split
    · rfl
    · rename_i e
      simp only [kvGet, if_neg e]
      exact kvGet_touch a z clock es
theorem kvBorn_mem (a : κ) (clock : Nat) : ∀ es : KV κ, kvBorn es a clock = clock ∨ kvBorn es a clock ∈ es.map (·.2.2)
  | [] => .inl rfl
  | x :: es => by
    simp only [kvBorn]
    split
    · exact .inr (by simp)
    · rcases kvBorn_mem a clock es with h | h
      · exact .inl h
      · exact .inr (by rw [List.map_cons]; exact List.mem_cons_of_mem _ h)
theorem touch_set {enc : κ → Value} (a : κ) (z v : Value) (clock : Nat) : ∀ es : KV κ, KvOk es clock →
    ∃ i, (ents enc (kvTouch es a z clock)).findIdx? (fun e => (e.born : Int) == ((kvBorn es a clock : Nat) : Int)) = some i ∧ (ents enc (kvTouch es a z clock)).modify i (fun e => { e with val := v }) = ents enc (kvSet es a v clock)
  | [], _ => ⟨0, by simp [kvTouch, kvBorn, ents, List.findIdx?_cons], by simp [kvTouch, kvSet, ents]⟩
  | x :: es, h => by
    by_cases e : a = x.1
    · refine ⟨0, ?_, ?_⟩
      · simp only [kvTouch, kvBorn, if_pos e, ents, List.map_cons]
        simp [List.findIdx?_cons]
      · simp only [kvTouch, kvSet, if_pos e, ents, List.map_cons]
        simp
    · obtain ⟨i, h1, h2⟩ := touch_set (enc := enc) a z v clock es ⟨(List.nodup_cons.1 (by rw [← List.map_cons]; exact h.nodup)).2, fun y hy => h.lt y (List.mem_cons_of_mem _ hy)⟩
      have hne : x.2.2 ≠ kvBorn es a clock := by
        rcases kvBorn_mem a clock es with hb | hb
        · have := h.lt x List.mem_cons_self; omega
        · intro he
          rw [← he] at hb
          have hnd := h.nodup
          rw [List.map_cons] at hnd
          exact (List.nodup_cons.1 hnd).1 hb
      refine ⟨i + 1, ?_, ?_⟩
      · simp only [kvTouch, kvBorn, if_neg e, ents, List.map_cons]
        rw [List.findIdx?_cons]
        have hf : (((x.2.2 : Nat) : Int) == ((kvBorn es a clock : Nat) : Int)) = false := by
          rw [beq_eq_false_iff_ne]; omega
        simp only [hf]
        simp only [ents] at h1
        rw [h1]; rfl
      · simp only [kvTouch, kvSet, if_neg e, ents, List.map_cons]
        simp only [ents] at h2
        simp [h2]
theorem kvSet_births (a : κ) (v : Value) (clock : Nat) : ∀ es : KV κ, (kvSet es a v clock).map (·.2.2) = if (kvGet es a).isSome then es.map (·.2.2) else es.map (·.2.2) ++ [clock]
  | [] => by simp [kvSet, kvGet]
  | x :: es => by
    simp only [kvSet, kvGet]
    split
    · simp
    · rw [List.map_cons, kvSet_births a v clock es]
      split <;> simp
theorem KvOk.set {es : KV κ} {clock : Nat} (h : KvOk es clock) (a : κ) (v : Value) : KvOk (kvSet es a v clock) (if (kvGet es a).isSome then clock else clock + 1) := by
  have hb := kvSet_births a v clock es
  constructor
  · rw [hb]
    split
    · exact h.nodup
    · rw [List.nodup_append]
      refine ⟨h.nodup, by simp, fun x hx y hy e => ?_⟩
      obtain ⟨z, hz, rfl⟩ := List.mem_map.1 hx
      have := h.lt z hz
      simp at hy
      omega
  · intro x hx
    have hm : x.2.2 ∈ (kvSet es a v clock).map (·.2.2) := List.mem_map_of_mem (f := fun x : κ × Value × Nat => x.2.2) hx
    rw [hb] at hm
    split at hm
    · rename_i hs
      rw [if_pos hs]
      obtain ⟨z, hz, e⟩ := List.mem_map.1 hm
      have := h.lt z hz
      omega
    · rename_i hs
      rw [if_neg hs]
      rcases List.mem_append.1 hm with hm | hm
      · obtain ⟨z, hz, e⟩ := List.mem_map.1 hm
        have := h.lt z hz
        omega
      · simp at hm; omega
theorem touch_of (a : κ) (z : Value) (clock : Nat) : ∀ es : KV κ, kvTouch es a z clock = if (kvGet es a).isSome then es else es ++ [(a, z, clock)]
  | [] => by simp [kvTouch, kvGet]
  | x :: es => by
    simp only [kvTouch, kvGet]
    split
    · simp
    · rw [touch_of a z clock es]
      split <;> simp
theorem born_of (a : κ) (clock : Nat) : ∀ (es : KV κ) (i : Nat),
    (∀ j u, fnd a es i = some (j, u) → i ≤ j ∧ ∃ x, es[j - i]? = some x ∧ x.1 = a ∧ x.2.1 = u ∧ x.2.2 = kvBorn es a clock) ∧ (fnd a es i = none → kvBorn es a clock = clock)
  | [], i => ⟨fun j u h => by simp [fnd] at h, fun _ => rfl⟩
  | x :: es, i => by
    obtain ⟨ih1, ih2⟩ := born_of a clock es (i + 1)
    constructor
    · intro j u h
      simp only [fnd] at h
      split at h
      · rename_i e
        cases h
        exact ⟨Nat.le_refl _, x, by simp, e.symm, rfl, by simp [kvBorn, e]⟩
      · rename_i e
        obtain ⟨h1, y, h2, h3⟩ := ih1 j u h
        refine ⟨by omega, y, ?_, by simpa only [kvBorn, if_neg e] using h3⟩
        rw [show j - i = (j - (i + 1)) + 1 from by omega]; simpa using h2
    · intro h
      simp only [fnd] at h
      split at h
      · cases h
      · rename_i e
        simp only [kvBorn, if_neg e, ih2 h]
variable {P : Program} {kt : TypeId} {enc : κ → Value} {T : TT} {ro : Option Nat} {σ : Env} {δ : Den} {cur : Path} {M : Mem} {L : HL} {d : Option Nat} {op : Op} {ty : TypeId} {pos : String} {aft : Array Edge} {g : Option (Nat × Bool)} {v : Value}
theorem st_mapEntry (hT : TOk P T) (hk : KeyLaw P kt enc) {t : TypeId} {x y : Operand} {b : Nat} {et : TypeId} {kv z : Value} {a : κ} {es : KV κ} {clock : Nat} {L' : HL}
    (hu : und T t = some (.map kt et)) (hx : ev σ δ cur x = some (.map (some b))) (hy : ev σ δ cur y = some kv) (he : kv = enc a) (hz : zeroT T et = some z)
    (hL : Upd L b (.map ⟨ents enc es⟩ clock) (.map ⟨ents enc (kvTouch es a z clock)⟩ (if (kvGet es a).isSome then clock else clock + 1)) L') :
    St P ro ⟨d, .mapEntry t x y, ty, pos, aft, g⟩ σ δ cur M L (fun v' M' L'' => v' = .tuple ⟨[(kvGet es a).getD z, .int .i64 ((kvBorn es a clock : Nat) : Int)]⟩ ∧ M = M' ∧ L'' = L') := fun act w hs hcur hp => by
  have hb' := hp.own _ hL.mem
  subst he
  refine opWp_value (v := .tuple ⟨[(kvGet es a).getD z, .int .i64 ((kvBorn es a clock : Nat) : Int)]⟩) (w' := w.putObj b (.map ⟨ents enc (kvTouch es a z clock)⟩ (if (kvGet es a).isSome then clock else clock + 1))) ?_ ⟨M, L', hp.putObj hL, rfl, rfl, rfl⟩
  rw [semAt_of (by intro c e; cases e)]
  have hget : (getObj b).run P w = .ok (.map ⟨ents enc es⟩ clock) w := by simp [getObj, Sem.run, hb']
  have hset : ∀ o, (setObj b o).run P w = .ok () (w.putObj b o) := fun o => by simp [setObj, Sem.run, hb', World.putObj]
  have hzv : (zeroValue et).run P w = .ok z w := run_zeroT hT hz w
  simp only [execOp, Instr.mapEntry, ev_sound hs hcur hx, ev_sound hs hcur hy, Sem.run_bind, run_und hT hu, Result.andThen_ok, hget, hk.chk, findKey_ok hk]
  have hg := fnd_get a es 0
  obtain ⟨h1, h2⟩ := born_of a clock es 0
  cases h : fnd a es 0 with
  | none =>
    rw [h] at hg
    simp only [hzv, hset, Result.andThen_ok, Sem.run_pure, Sem.run_bind]
    rw [touch_of, ← hg, h2 h]
    simp [ents, goInt]
  | some r =>
    obtain ⟨j, u⟩ := r
    obtain ⟨_, y, h3, h4, h5, h6⟩ := h1 j u h
    simp only [Nat.sub_zero] at h3
    rw [h] at hg
    have hkey : (((⟨ents enc es⟩ : Array MapEntry)[j]?).map (·.key)).getD (enc a) = enc a := by simp [ents, h3, h4]
    have hborn : (((⟨ents enc es⟩ : Array MapEntry)[j]?).map (·.born)).getD 0 = kvBorn es a clock := by simp [ents, h3, h6]
    have hmod : (⟨ents enc es⟩ : Array MapEntry).modify j (fun e => { e with key := enc a }) = ⟨ents enc es⟩ := by
      apply Array.ext'
      simp only [Array.toList_modify, ents]
      apply List.ext_getElem?
      intro n
      simp only [List.getElem?_modify, List.getElem?_map]
      cases hn : es[n]? with
      | none => simp
      | some y' =>
        simp only [Option.map_some]
        by_cases e : j = n
        · subst e; rw [h3] at hn; cases hn; simp [h4]
        · simp [e]
    simp only [hkey, hmod, Sem.run_bind, Instr.keyThatStays, hk.bits, if_true, Sem.run_pure, Result.andThen_ok, hset]
    rw [touch_of, ← hg]
    simp [goInt, ents, h3, h6]
theorem st_entryStore {t : TypeId} {x s q : Operand} {b c1 : Nat} {z : Value} {a : κ} {es : KV κ} {clock : Nat} {L' : HL} (hok : KvOk es clock)
    (hx : ev σ δ cur x = some (.map (some b))) (hs' : ev σ δ cur s = some (.int .i64 ((kvBorn es a clock : Nat) : Int))) (hq : ev σ δ cur q = some v)
    (hL : Upd L b (.map ⟨ents enc (kvTouch es a z clock)⟩ c1) (.map ⟨ents enc (kvSet es a v clock)⟩ c1) L') :
    St P ro ⟨d, .entryStore t x s q, ty, pos, aft, g⟩ σ δ cur M L (fun v' M' L'' => v' = undef ∧ M = M' ∧ L'' = L') := fun act w hs hcur hp => by
  have hb' := hp.own _ hL.mem
  refine opWp_skip (w' := w.putObj b (.map ⟨ents enc (kvSet es a v clock)⟩ c1)) ?_ ⟨M, L', hp.putObj hL, rfl, rfl, rfl⟩
  rw [semAt_of (by intro c e; cases e)]
  have hget : (getObj b).run P w = .ok (.map ⟨ents enc (kvTouch es a z clock)⟩ c1) w := by simp [getObj, Sem.run, hb']
  have hset : ∀ o, (setObj b o).run P w = .ok () (w.putObj b o) := fun o => by simp [setObj, Sem.run, hb', World.putObj]
  obtain ⟨i, h1, h2⟩ := touch_set (enc := enc) a z v clock es hok
  have h1' : (⟨ents enc (kvTouch es a z clock)⟩ : Array MapEntry).findIdx? (fun e => (e.born : Int) == ((kvBorn es a clock : Nat) : Int)) = some i := by
    rw [← h1]; exact List.findIdx?_toArray _ _
  have h2' : (⟨ents enc (kvTouch es a z clock)⟩ : Array MapEntry).modify i (fun e => { e with val := v }) = ⟨ents enc (kvSet es a v clock)⟩ := by
    apply Array.ext'
    simp only [Array.toList_modify]
    exact h2
  simp only [execOp, Instr.entryStore, ev_sound hs hcur hx, ev_sound hs hcur hs', ev_sound hs hcur hq, Sem.run_bind, Result.andThen_ok, hget, asInt, asIntOf, Sem.run_pure, h1', h2', hset]
end
end Go.Chi
namespace Go.Chi
/-- bytes, as a text -/
def bytesI (ns : List Int) : ByteArray := ns.foldl (fun r n => r.push (UInt8.ofNat n.toNat)) ByteArray.empty
section
variable {P : Program} {T : TT} {ro : Option Nat} {σ : Env} {δ : Den} {cur : Path} {M : Mem} {L : HL} {d : Option Nat} {ty : TypeId} {pos : String} {aft : Array Edge} {g : Option (Nat × Bool)} {v : Value}
theorem _root_.Go.Chi.Qt.as {o : Oper} {v' : Value} (h : Qt P ro o σ δ cur M L v) (e : v = v') : Qt P ro o σ δ cur M L v' := e ▸ h
theorem qt_bytesStr (hT : TOk P T) {s t e : TypeId} {x : Operand} {b n c : Nat} (ns : List Int) (hs' : und T s = some (.slice e)) (he : und T e = some (.int .u8)) (hu : und T t = some .string) (hx : ev σ δ cur x = some (.slice (some ⟨b, 0, none⟩) n c)) (hc : Cells M L b 0 (ns.map (Value.int .u8))) (hl : ns.length = n) :
    Qt P ro ⟨d, .convert s t x, ty, pos, aft, g⟩ σ δ cur M L (.string (bytesI ns)) :=
  qt_of_run (semAt_of (by intro c e; cases e)) fun a w hs hcur hp => by
    have h1 := run_loadCells (P := P) hp (ns.map (Value.int .u8)) [] (by simpa using hc)
    have h2 : (loadCells ⟨b, 0, none⟩ n).run P w = .ok (ns.map (Value.int .u8)).toArray w := by
      simp only [List.length_nil, List.nil_append, List.length_map, hl] at h1
      exact h1
    have h3 := run_bytesToString w ⟨b, 0, none⟩ n c ns h2
    have h4 := run_convert_bytes_string (P := P) w s t e (some ⟨b, 0, none⟩) n c (und_ok hT hs') (und_ok hT he) (und_ok hT hu)
    simp only [execOp, ev_sound hs hcur hx, Sem.run_bind, h4, h3, Result.andThen_ok, Sem.run_pure]
    rfl
theorem qt_concat {t u : TypeId} {x y : Operand} {a b : ByteArray} (hx : ev σ δ cur x = some (.string a)) (hy : ev σ δ cur y = some (.string b)) (hsz : a.size + b.size < 4611686018427387904) :
    Qt P ro ⟨d, .binOp .add t x y u, ty, pos, aft, g⟩ σ δ cur M L (.string (a ++ b)) :=
  qt_of_run (semAt_of (by intro c e; cases e)) fun act w hs hcur hp => by
    have hn : ¬ ((a.size + b.size : Nat) : Int) > IntKind.i64.max := by
      have : IntKind.i64.max = 9223372036854775807 := by decide
      omega
    simp only [execOp, eqGuard, binOp, ev_sound hs hcur hx, ev_sound hs hcur hy, Op.stringOp, hn, if_false]
    simp
end
end Go.Chi
namespace Go.Chi

section
variable {P : Program} {T : TT} {ro : Option Nat} {σ : Env} {δ : Den} {cur : Path} {M : Mem} {L : HL} {d : Option Nat} {op : Op} {ty : TypeId} {pos : String} {aft : Array Edge} {g : Option (Nat × Bool)} {v : Value}

/-- a new slice of one-celled elements -/
theorem st_makeSlice (hT : TOk P T) {t e by_ : Nat} {z : Value} {x y : Operand} {k k' : IntKind} (n : Nat) (ht : und T t = some (.slice e)) (hi : sizeT T e = some 1) (hz : zeroT T e = some z) (hzc : cellsL z = [z]) (hb : bytesT T e = some by_)
    (hx : ev σ δ cur x = some (.int k (n : Int))) (hy : ev σ δ cur y = some (.int k' (n : Int))) (hroom : by_ * n ≤ 281474976710656) (hn : n < 4611686018427387904) :
    St P ro ⟨d, .makeSlice t x y, ty, pos, aft, g⟩ σ δ cur M L (fun v' M' L' => ∃ b, v' = .slice (some ⟨b, 0, none⟩) n n ∧ M = M' ∧ L' = (b, .cells ⟨List.replicate n z⟩ e (0, 0)) :: L) := fun a w hs hcur hp => by
  obtain ⟨i, hi1, his⟩ := sizeT_ok hi
  obtain ⟨i2, hi2, hz2⟩ := zeroT_ok hz
  obtain ⟨i3, hi3, rfl⟩ := bytesT_ok hb
  rw [hi1] at hi2 hi3
  cases hi2
  cases hi3
  have hrun := run_make (P := P) w t e i z (und_ok hT ht) (hT.info _ _ hi1) hz2 k k' n n (by omega) (Int.le_refl _) (by
    have h : ((i.bytes * n : Nat) : Int) ≤ 281474976710656 := by omega
    rwa [Int.natCast_mul] at h) (by omega)
  have hcells : madeCells z.cells (n * i.size) = ⟨List.replicate n z⟩ := by
    have : z.cells = #[z] := by apply Array.ext'; rw [cellsL_eq]; exact hzc
    rw [his, Nat.mul_one, this]
    exact Array.ext' (toList_madeCells_one z n)
  simp only [Int.toNat_natCast, hcells] at hrun
  refine opWp_value (v := .slice (some ⟨w.heap.size, 0, none⟩) n n) (w' := w.alloc (.cells ⟨List.replicate n z⟩ e)) ?_ ⟨M, _, hp.push _, _, rfl, rfl, rfl⟩
  rw [semAt_of (by intro c e; cases e)]
  simp only [execOp, ev_sound hs hcur hx, ev_sound hs hcur hy, Sem.run_bind, hrun, Result.andThen_ok, Sem.run_pure]
/-- one-celled elements are copied into a block of ours -/
theorem st_copy (hT : TOk P T) {x y : Operand} {t e b o dl dc b' o' sl sc : Nat} {cs news : List Value} {et : TypeId} {L' : HL} (hx : ev σ δ cur x = some (.slice (some ⟨b, o, none⟩) dl dc)) (hy : ev σ δ cur y = some (.slice (some ⟨b', o', none⟩) sl sc))
    (ht : und T t = some (.slice e)) (hi : sizeT T e = some 1) (hsrc : Cells M L b' o' news) (hlen : news.length = Nat.min sl dl) (hfit : o + news.length ≤ cs.length) (h1 : oneL news = true)
    (hu : Upd L b (.cells ⟨cs⟩ et (0, 0)) (.cells ⟨setSeg cs o news⟩ et (0, 0)) L') :
    St P ro ⟨d, .call ⟨.builtin .copy, #[x, y], #[t, t]⟩, ty, pos, aft, g⟩ σ δ cur M L (fun v' M' L'' => v' = .int .i64 (news.length : Int) ∧ M = M' ∧ L'' = L') := fun a w hse hcur hp => by
  obtain ⟨i, hi1, his⟩ := sizeT_ok hi
  have hes := ev_sound hse hcur hx
  have hey := ev_sound hse hcur hy
  have hrun := run_copy_row (P := P) w t t ty e b o dl dc ⟨b', o', none⟩ sl sc ⟨cs⟩ et news (und_ok hT ht) (by rw [hT.info _ _ hi1]; simp [his]) (hp.own _ hu.mem) hlen
    (fun j v hv => by
      have := hsrc.cell hp hv
      simpa [add_none] using this) (by simpa using hfit) (oneL_ok h1)
  refine opWp_value (v := .int .i64 (news.length : Int)) (w' := w.setRow b ⟨setSeg cs o news⟩) ?_ ⟨M, L', hp.setRow hu, rfl, rfl, rfl⟩
  rw [semAt_of (by intro c e; cases e)]
  simp only [execOp, resolve, Sem.run_bind, Sem.run_pure, Result.andThen_ok, invoke, builtin, List.map_toArray, List.map_cons, List.map_nil, hes, hey, hrun]
  rfl
end

section
variable {P : Program} {ro : Option Nat} {o : Oper} {σ : Env} {δ : Den} {cur : Path} {M : Mem} {L : HL}
/-- an operation whose guard is never met -/
theorem qt_dead {s : Nat} {b b' : Bool} {v : Value} (hl : lka σ δ cur s = some (.bool b')) (hs : (s, b) ∈ cur) (hne : b' ≠ b) : Qt P ro o σ δ cur M L v := fun a w h1 h2 h3 => by
  have e1 := lka_sound h1 h2 hl
  have e2 := h2 _ hs
  rw [e1] at e2
  injection e2 with e2
  injection e2 with e2
  exact absurd e2 hne
theorem St.frz {K K' : Value → Mem → HL → Prop} (h : St P ro o σ δ cur M L K) (hk : ∀ v M' L' w, Hp M' L' w → K v M' L' → ∃ M'' L'', Hp M'' L'' w ∧ K' v M'' L'') : St P ro o σ δ cur M L K' :=
  fun a w h1 h2 h3 => (h a w h1 h2 h3).mono fun _ _ ⟨_, _, h4, h5⟩ => hk _ _ _ _ h4 h5
/-- a block that was made just now is given up for good -/
theorem St.frz1 {V : Nat → Value} {ob : Obj} (h : St P ro o σ δ cur M L (fun v' M' L' => ∃ b, v' = V b ∧ M = M' ∧ L' = (b, ob) :: L)) : St P ro o σ δ cur M L (fun v' M' L' => M.le M' ∧ L = L' ∧ ∃ b, v' = V b ∧ M'.blk b = some ob) :=
  h.frz fun v M' L' w hw ⟨b, h1, h2, h3⟩ => by
    subst h2 h3
    obtain ⟨M2, h4, h5, h6⟩ := hw.freeze1
    exact ⟨M2, L, h6, h4, rfl, b, h1, h5⟩
end
/-- what a call makes of blocks that are given up before it -/
theorem Tr.give {P : Program} {f : FuncId} {args : List Value} {M : Mem} {N L : HL} {K : Value → Mem → HL → Prop} (hc : ∀ w, (callFunc f ⟨args⟩).run P w = .ok (.enter f ⟨args⟩) w)
    (h : ∀ M', M.le M' → (∀ b o, (b, o) ∈ N → M'.blk b = some o) → Tr P f args M' L K) : Tr P f args M (N ++ L) K := by
  refine ⟨hc, fun w hw => ?_⟩
  have key : ∀ (N : HL) (M : Mem), Hp M (N ++ L) w → ∃ M', M.le M' ∧ (∀ b o, (b, o) ∈ N → M'.blk b = some o) ∧ Hp M' L w := by
    intro N
    induction N with
    | nil => exact fun M h => ⟨M, Mem.le_refl _, (fun b o h => by cases h), h⟩
    | cons x N ih =>
      intro M h
      obtain ⟨M1, h1, h2, h3⟩ := Hp.freeze1 (b := x.1) (o := x.2) h
      obtain ⟨M2, h4, h5, h6⟩ := ih M1 h3
      exact ⟨M2, Mem.le_trans h1 h4, fun b o hm => by
        rcases List.mem_cons.1 hm with e | hm
        · cases e; exact h4.blk _ _ h2
        · exact h5 b o hm, h6⟩
  obtain ⟨M1, h1, h2, h3⟩ := key N M hw
  exact (h M1 h1 h2).2 w h3
theorem rep_flat (z : Value) : ∀ n : Nat, List.replicate n z = (List.replicate n [z]).flatten
  | 0 => rfl
  | n + 1 => by rw [List.replicate_succ, List.replicate_succ, List.flatten_cons, ← rep_flat z n]; rfl
/-- the block's cells as a slice -/
theorem SlM.rep {M : Mem} {b e n : Nat} {z : Value} (h : M.blk b = some (.cells ⟨List.replicate n z⟩ e (0, 0))) : SlM M 1 (some ⟨b, 0, none⟩) n (List.replicate n [z]) := by
  have := SlM.ofBlk (M := M) (b := b) (e := e) (size := 1) (ls := List.replicate n [z]) h (rep_flat z n) (fun l hl => by rw [(List.mem_replicate.1 hl).2]; rfl)
  simpa using this
section
variable {P : Program} {C : Cx} {n : Nat} {k : List Item} {ds : List Deferred} {σ : Env} {δ : Den} {M : Mem} {L : HL} {ops : Array Oper} {X : List Nat}
theorem pr_three {D : List Nat} (e f g : Nat) (hac : (acyc ops && chkC ops D [e, f, g]) = true) (h : chkE1 ops D e = true ∧ EffOk P C n ops k ds D X σ δ M L e) (h' : chkE1 ops D f = true ∧ EffOk P C n ops k ds D X σ δ M L f) (h'' : chkE1 ops D g = true ∧ EffOk P C n ops k ds D X σ δ M L g) : PR P C n ops k ds D X σ δ M L := by
  rw [Bool.and_eq_true] at hac
  refine pr_es [e, f, g] hac.1 hac.2 (by simp) fun x hx => ?_
  simp only [List.mem_cons, List.not_mem_nil, or_false] at hx
  rcases hx with rfl | rfl | rfl
  · exact h
  · exact h'
  · exact h''
theorem pr_four {D : List Nat} (e f g i : Nat) (hac : (acyc ops && chkC ops D [e, f, g, i]) = true) (h : chkE1 ops D e = true ∧ EffOk P C n ops k ds D X σ δ M L e) (h' : chkE1 ops D f = true ∧ EffOk P C n ops k ds D X σ δ M L f) (h'' : chkE1 ops D g = true ∧ EffOk P C n ops k ds D X σ δ M L g) (h4 : chkE1 ops D i = true ∧ EffOk P C n ops k ds D X σ δ M L i) : PR P C n ops k ds D X σ δ M L := by
  rw [Bool.and_eq_true] at hac
  refine pr_es [e, f, g, i] hac.1 hac.2 (by simp) fun x hx => ?_
  simp only [List.mem_cons, List.not_mem_nil, or_false] at hx
  rcases hx with rfl | rfl | rfl | rfl
  · exact h
  · exact h'
  · exact h''
  · exact h4
end
end Go.Chi
namespace Go.Proofs.Ytpjklbkfhgfmnaa
open Go.Chi

/-! ### the document's numbers -/
theorem u8_nat {n : Nat} (h : n < 256) : IntKind.u8.wrap (n : Int) = n := by
  simp only [IntKind.wrap, IntKind.signed, IntKind.bits]
  simp
  omega
theorem bytesI_one (x : Int) : (bytesI [x]).size = 1 := rfl
theorem app_size (a b : ByteArray) : (a ++ b).size = a.size + b.size := ByteArray.size_append
def digN (v : Nat) : ByteArray := if v = 0 then ⟨#[]⟩ else digN (v / 256) ++ bytesI [((v % 256 : Nat) : Int)]
termination_by v
decreasing_by omega
theorem digN_zero : digN 0 = ⟨#[]⟩ := by rw [digN, if_pos rfl]
theorem digN_size : ∀ (k v : Nat), v < 256 ^ k → (digN v).size ≤ k
  | 0, v, h => by
    have : v = 0 := by simp at h; omega
    subst this
    rw [digN_zero]; exact Nat.le_refl _
  | k + 1, v, h => by
    by_cases h0 : v = 0
    · subst h0; rw [digN_zero]; exact Nat.zero_le _
    · rw [digN, if_neg h0, app_size, bytesI_one]
      have := digN_size k (v / 256) (by rw [Nat.pow_succ] at h; omega)
      omega
theorem digN_len {v : Nat} (h : v < 18446744073709551616) : (digN v).size ≤ 8 := digN_size 8 v (by simpa using h)
theorem digN_first : ∀ v : Nat, v ≠ 0 → ∃ b : UInt8, (digN v)[0]? = some b ∧ b ≠ 0 := by
  intro v
  induction v using Nat.strongRecOn with
  | _ v ih =>
    intro h0
    rw [digN, if_neg h0]
    by_cases h1 : v / 256 = 0
    · rw [h1, digN_zero]
      have hv : v % 256 = v := by omega
      rw [hv]
      refine ⟨UInt8.ofNat v, by simp [bytesI]; rfl, fun e => ?_⟩
      have := congrArg UInt8.toNat e
      simp at this
      omega
    · obtain ⟨b, hb, hb0⟩ := ih (v / 256) (by omega) h1
      refine ⟨b, ?_, hb0⟩
      have hlt : 0 < (digN (v / 256)).size := by
        apply Classical.byContradiction
        intro hn
        rw [getElem?_neg (digN (v / 256)) 0 hn] at hb
        cases hb
      rw [getElem?_pos (digN (v / 256)) 0 hlt] at hb
      rw [getElem?_pos (digN (v / 256) ++ bytesI [((v % 256 : Nat) : Int)]) 0 (by rw [app_size]; omega), ByteArray.getElem_append_left hlt]
      exact hb
set_option maxRecDepth 10000 in
set_option maxHeartbeats 4000000 in
theorem digits_ok (M : Mem) : ∀ v : Nat, v < 18446744073709551616 → ∀ L : HL, TrQ Try.prog 57 [.int .u64 (v : Int)] M L (.string (digN v)) := by
  intro v
  induction v using Nat.strongRecOn with
  | _ v ih =>
    intro hv L
    refine Tr.intro 14 Try.func57 rfl rfl Try.call57 rfl ?_
    intro C hC hro
    repeat (first | with_reducible (first | refine run_seq ?_ | refine run_region ?_ | refine runL_nil ?_ | refine run_skip ?_ | refine run_block ?_ | refine run_inBlock ?_) | refine run_exit rfl ?_ | refine runL_q (qt_pev tok rfl) rfl rfl rfl ?_ | refine runL_g rfl rfl (qt_pev tok rfl) rfl rfl rfl rfl rfl ?_ | refine runL_q (ql tok rfl) rfl rfl rfl ?_ | refine runL_g rfl rfl (ql tok rfl) rfl rfl rfl rfl rfl ?_ | (refine runL_op0 (sst tok rfl rfl rfl rfl rfl) ?_; rintro _ _ _ ⟨rfl, rfl, rfl⟩) | (refine runL_op (st_box rfl) rfl rfl rfl ?_; rintro _ _ _ ⟨_, rfl, rfl, rfl⟩) | (refine runL_op (st_alloc tok rfl) rfl rfl rfl ?_; rintro _ _ _ ⟨_, rfl, rfl, rfl⟩) | (refine runL_op (st_buildSlice tok rfl rfl rfl rfl rfl rfl rfl) rfl rfl rfl ?_; rintro _ _ _ ⟨_, rfl, rfl, rfl⟩))
    refine run_cond rfl (fun h => ?_) (fun h => ?_)
    · have h0 : v = 0 := by simp at h; omega
      subst h0
      repeat (first | with_reducible (first | refine run_seq ?_ | refine run_region ?_ | refine runL_nil ?_ | refine run_skip ?_ | refine run_block ?_ | refine run_inBlock ?_) | refine run_exit rfl ?_ | refine runL_q (qt_pev tok rfl) rfl rfl rfl ?_ | refine runL_g rfl rfl (qt_pev tok rfl) rfl rfl rfl rfl rfl ?_ | refine runL_q (ql tok rfl) rfl rfl rfl ?_ | refine runL_g rfl rfl (ql tok rfl) rfl rfl rfl rfl rfl ?_ | (refine runL_op0 (sst tok rfl rfl rfl rfl rfl) ?_; rintro _ _ _ ⟨rfl, rfl, rfl⟩) | (refine runL_op (st_box rfl) rfl rfl rfl ?_; rintro _ _ _ ⟨_, rfl, rfl, rfl⟩) | (refine runL_op (st_alloc tok rfl) rfl rfl rfl ?_; rintro _ _ _ ⟨_, rfl, rfl, rfl⟩) | (refine runL_op (st_buildSlice tok rfl rfl rfl rfl rfl rfl rfl) rfl rfl rfl ?_; rintro _ _ _ ⟨_, rfl, rfl, rfl⟩))
      exact run_ret hC (rs := [.tmp 2]) rfl (resT rfl resN) (fun _ h => h) ⟨by rw [digN_zero]; rfl, rfl, rfl⟩
    have h0 : v ≠ 0 := by simp at h; omega
    have hlen := digN_len (v := v / 256) (by omega)
    refine run_skip ?_
    refine run_seq ?_
    refine prn_start mixed ?_
    iterate 1 (first | refine prn_q rfl (qt_pev tok rfl) (by decide +kernel) rfl rfl rfl ?_ | refine prn_gK rfl rfl rfl (qt_pev tok rfl) (by decide +kernel) rfl rfl rfl ?_ | refine prn_gF rfl rfl rfl (by decide +kernel) rfl rfl rfl ?_ | refine prn_g rfl rfl rfl (qt_pev tok rfl) (by decide +kernel) rfl rfl rfl rfl rfl ?_ | refine prn_q rfl (ql tok rfl) (by decide +kernel) rfl rfl rfl ?_ | refine prn_gK rfl rfl rfl (ql tok rfl) (by decide +kernel) rfl rfl rfl ?_ | refine prn_gF rfl rfl rfl (by decide +kernel) rfl rfl rfl ?_ | refine prn_g rfl rfl rfl (ql tok rfl) (by decide +kernel) rfl rfl rfl rfl rfl ?_ | (refine prn_e0 rfl (sst tok rfl rfl rfl rfl rfl) (by decide +kernel) ?_; rintro _ _ _ ⟨rfl, rfl, rfl⟩) | (refine prn_e1 rfl (st_box rfl) (by decide +kernel) rfl rfl rfl ?_; rintro _ _ _ ⟨_, rfl, rfl, rfl⟩) | (refine prn_e1 rfl (st_alloc tok rfl) (by decide +kernel) rfl rfl rfl ?_; rintro _ _ _ ⟨_, rfl, rfl, rfl⟩) | (refine prn_e1 rfl (st_buildSlice tok rfl rfl rfl rfl rfl rfl rfl) (by decide +kernel) rfl rfl rfl ?_; rintro _ _ _ ⟨_, rfl, rfl, rfl⟩) | (refine prn_o0 rfl (sst tok rfl rfl rfl rfl rfl) (by decide +kernel) ?_; rintro _ _ _ ⟨rfl, rfl, rfl⟩; refine ⟨by (repeat (first | exact trivial | refine And.intro (pend_q rfl rfl rfl (qt_pev tok rfl)) ?_ | refine And.intro (pend_q rfl rfl rfl (ql tok rfl)) ?_)), ?_⟩) | (refine prn_o1 rfl (st_box rfl) (by decide +kernel) rfl rfl rfl ?_; rintro _ _ _ ⟨_, rfl, rfl, rfl⟩; refine ⟨by (repeat (first | exact trivial | refine And.intro (pend_q rfl rfl rfl (qt_pev tok rfl)) ?_ | refine And.intro (pend_q rfl rfl rfl (ql tok rfl)) ?_)), ?_⟩) | (refine prn_o1 rfl (st_alloc tok rfl) (by decide +kernel) rfl rfl rfl ?_; rintro _ _ _ ⟨_, rfl, rfl, rfl⟩; refine ⟨by (repeat (first | exact trivial | refine And.intro (pend_q rfl rfl rfl (qt_pev tok rfl)) ?_ | refine And.intro (pend_q rfl rfl rfl (ql tok rfl)) ?_)), ?_⟩) | (refine prn_o1 rfl (st_buildSlice tok rfl rfl rfl rfl rfl rfl rfl) (by decide +kernel) rfl rfl rfl ?_; rintro _ _ _ ⟨_, rfl, rfl, rfl⟩; refine ⟨by (repeat (first | exact trivial | refine And.intro (pend_q rfl rfl rfl (qt_pev tok rfl)) ?_ | refine And.intro (pend_q rfl rfl rfl (ql tok rfl)) ?_)), ?_⟩) | (refine prn_e1 rfl (qt_pev tok rfl) (by decide +kernel) rfl rfl rfl ?_; rintro _ _ _ ⟨rfl, rfl, rfl⟩))
    have e6 : Value.int .u64 (IntKind.u64.wrap ((v : Int).tdiv 256)) = .int .u64 ((v / 256 : Nat) : Int) := by rw [Int.tdiv_eq_ediv_of_nonneg (by omega), show (v : Int) / 256 = ((v / 256 : Nat) : Int) by omega, u64_nat (by omega)]
    have hd : digN v = digN (v / 256) ++ bytesI [((v % 256 : Nat) : Int)] := by rw [digN, if_neg h0]
    refine prn_q rfl ((qt_quo rfl rfl (fun _ => by decide)).as e6) (by decide +kernel) rfl rfl rfl ?_
    refine prn_q rfl (qt_callF rfl (fun _ => ih (v / 256) (by omega) (by omega) _)) (by decide +kernel) rfl rfl rfl ?_
    iterate 1 (first | refine prn_q rfl (qt_pev tok rfl) (by decide +kernel) rfl rfl rfl ?_ | refine prn_gK rfl rfl rfl (qt_pev tok rfl) (by decide +kernel) rfl rfl rfl ?_ | refine prn_gF rfl rfl rfl (by decide +kernel) rfl rfl rfl ?_ | refine prn_g rfl rfl rfl (qt_pev tok rfl) (by decide +kernel) rfl rfl rfl rfl rfl ?_ | refine prn_q rfl (ql tok rfl) (by decide +kernel) rfl rfl rfl ?_ | refine prn_gK rfl rfl rfl (ql tok rfl) (by decide +kernel) rfl rfl rfl ?_ | refine prn_gF rfl rfl rfl (by decide +kernel) rfl rfl rfl ?_ | refine prn_g rfl rfl rfl (ql tok rfl) (by decide +kernel) rfl rfl rfl rfl rfl ?_ | (refine prn_e0 rfl (sst tok rfl rfl rfl rfl rfl) (by decide +kernel) ?_; rintro _ _ _ ⟨rfl, rfl, rfl⟩) | (refine prn_e1 rfl (st_box rfl) (by decide +kernel) rfl rfl rfl ?_; rintro _ _ _ ⟨_, rfl, rfl, rfl⟩) | (refine prn_e1 rfl (st_alloc tok rfl) (by decide +kernel) rfl rfl rfl ?_; rintro _ _ _ ⟨_, rfl, rfl, rfl⟩) | (refine prn_e1 rfl (st_buildSlice tok rfl rfl rfl rfl rfl rfl rfl) (by decide +kernel) rfl rfl rfl ?_; rintro _ _ _ ⟨_, rfl, rfl, rfl⟩) | (refine prn_o0 rfl (sst tok rfl rfl rfl rfl rfl) (by decide +kernel) ?_; rintro _ _ _ ⟨rfl, rfl, rfl⟩; refine ⟨by (repeat (first | exact trivial | refine And.intro (pend_q rfl rfl rfl (qt_pev tok rfl)) ?_ | refine And.intro (pend_q rfl rfl rfl (ql tok rfl)) ?_)), ?_⟩) | (refine prn_o1 rfl (st_box rfl) (by decide +kernel) rfl rfl rfl ?_; rintro _ _ _ ⟨_, rfl, rfl, rfl⟩; refine ⟨by (repeat (first | exact trivial | refine And.intro (pend_q rfl rfl rfl (qt_pev tok rfl)) ?_ | refine And.intro (pend_q rfl rfl rfl (ql tok rfl)) ?_)), ?_⟩) | (refine prn_o1 rfl (st_alloc tok rfl) (by decide +kernel) rfl rfl rfl ?_; rintro _ _ _ ⟨_, rfl, rfl, rfl⟩; refine ⟨by (repeat (first | exact trivial | refine And.intro (pend_q rfl rfl rfl (qt_pev tok rfl)) ?_ | refine And.intro (pend_q rfl rfl rfl (ql tok rfl)) ?_)), ?_⟩) | (refine prn_o1 rfl (st_buildSlice tok rfl rfl rfl rfl rfl rfl rfl) (by decide +kernel) rfl rfl rfl ?_; rintro _ _ _ ⟨_, rfl, rfl, rfl⟩; refine ⟨by (repeat (first | exact trivial | refine And.intro (pend_q rfl rfl rfl (qt_pev tok rfl)) ?_ | refine And.intro (pend_q rfl rfl rfl (ql tok rfl)) ?_)), ?_⟩) | (refine prn_e1 rfl (qt_pev tok rfl) (by decide +kernel) rfl rfl rfl ?_; rintro _ _ _ ⟨rfl, rfl, rfl⟩))
    refine prn_q rfl (qt_rem rfl rfl (fun _ => by decide)) (by decide +kernel) rfl rfl rfl ?_
    refine pr_as 9 (.int .u64 ((v % 256 : Nat) : Int)) rfl (by rw [Int.tmod_eq_emod_of_nonneg (by omega)]; first | rfl | (congr 1; omega)) ?_
    iterate 1 (first | refine prn_q rfl (qt_pev tok rfl) (by decide +kernel) rfl rfl rfl ?_ | refine prn_gK rfl rfl rfl (qt_pev tok rfl) (by decide +kernel) rfl rfl rfl ?_ | refine prn_gF rfl rfl rfl (by decide +kernel) rfl rfl rfl ?_ | refine prn_g rfl rfl rfl (qt_pev tok rfl) (by decide +kernel) rfl rfl rfl rfl rfl ?_ | refine prn_q rfl (ql tok rfl) (by decide +kernel) rfl rfl rfl ?_ | refine prn_gK rfl rfl rfl (ql tok rfl) (by decide +kernel) rfl rfl rfl ?_ | refine prn_gF rfl rfl rfl (by decide +kernel) rfl rfl rfl ?_ | refine prn_g rfl rfl rfl (ql tok rfl) (by decide +kernel) rfl rfl rfl rfl rfl ?_ | (refine prn_e0 rfl (sst tok rfl rfl rfl rfl rfl) (by decide +kernel) ?_; rintro _ _ _ ⟨rfl, rfl, rfl⟩) | (refine prn_e1 rfl (st_box rfl) (by decide +kernel) rfl rfl rfl ?_; rintro _ _ _ ⟨_, rfl, rfl, rfl⟩) | (refine prn_e1 rfl (st_alloc tok rfl) (by decide +kernel) rfl rfl rfl ?_; rintro _ _ _ ⟨_, rfl, rfl, rfl⟩) | (refine prn_e1 rfl (st_buildSlice tok rfl rfl rfl rfl rfl rfl rfl) (by decide +kernel) rfl rfl rfl ?_; rintro _ _ _ ⟨_, rfl, rfl, rfl⟩) | (refine prn_o0 rfl (sst tok rfl rfl rfl rfl rfl) (by decide +kernel) ?_; rintro _ _ _ ⟨rfl, rfl, rfl⟩; refine ⟨by (repeat (first | exact trivial | refine And.intro (pend_q rfl rfl rfl (qt_pev tok rfl)) ?_ | refine And.intro (pend_q rfl rfl rfl (ql tok rfl)) ?_)), ?_⟩) | (refine prn_o1 rfl (st_box rfl) (by decide +kernel) rfl rfl rfl ?_; rintro _ _ _ ⟨_, rfl, rfl, rfl⟩; refine ⟨by (repeat (first | exact trivial | refine And.intro (pend_q rfl rfl rfl (qt_pev tok rfl)) ?_ | refine And.intro (pend_q rfl rfl rfl (ql tok rfl)) ?_)), ?_⟩) | (refine prn_o1 rfl (st_alloc tok rfl) (by decide +kernel) rfl rfl rfl ?_; rintro _ _ _ ⟨_, rfl, rfl, rfl⟩; refine ⟨by (repeat (first | exact trivial | refine And.intro (pend_q rfl rfl rfl (qt_pev tok rfl)) ?_ | refine And.intro (pend_q rfl rfl rfl (ql tok rfl)) ?_)), ?_⟩) | (refine prn_o1 rfl (st_buildSlice tok rfl rfl rfl rfl rfl rfl rfl) (by decide +kernel) rfl rfl rfl ?_; rintro _ _ _ ⟨_, rfl, rfl, rfl⟩; refine ⟨by (repeat (first | exact trivial | refine And.intro (pend_q rfl rfl rfl (qt_pev tok rfl)) ?_ | refine And.intro (pend_q rfl rfl rfl (ql tok rfl)) ?_)), ?_⟩) | (refine prn_e1 rfl (qt_pev tok rfl) (by decide +kernel) rfl rfl rfl ?_; rintro _ _ _ ⟨rfl, rfl, rfl⟩))
    refine pr_as 10 (.int .u8 ((v % 256 : Nat) : Int)) rfl (by rw [u8_nat (by omega)]) ?_
    refine prn_o1 rfl (st_buildSlice tok rfl rfl rfl rfl rfl rfl rfl) (by decide +kernel) rfl rfl rfl ?_
    rintro _ _ _ ⟨bs, rfl, rfl, rfl⟩
    refine ⟨by (repeat (first | exact trivial | refine And.intro (pend_q rfl rfl rfl (qt_pev tok rfl)) ?_ | refine And.intro (pend_q rfl rfl rfl (ql tok rfl)) ?_ | refine And.intro (pend_q rfl rfl rfl ((qt_quo rfl rfl (fun _ => by decide)).as e6)) ?_ | refine And.intro (pend_q rfl rfl rfl (qt_callF rfl (fun _ => ih (v / 256) (by omega) (by omega) _))) ?_)), ?_⟩
    refine prn_q rfl (qt_bytesStr tok [((v % 256 : Nat) : Int)] rfl rfl rfl rfl (cellsAll List.mem_cons_self) rfl) (by decide +kernel) rfl rfl rfl ?_
    refine prn_q rfl (qt_concat rfl rfl (by rw [bytesI_one]; omega)) (by decide +kernel) rfl rfl rfl ?_
    repeat (first | with_reducible (first | refine run_seq ?_ | refine run_region ?_ | refine runL_nil ?_ | refine run_skip ?_ | refine run_block ?_ | refine run_inBlock ?_) | refine run_exit rfl ?_ | refine runL_q (qt_pev tok rfl) rfl rfl rfl ?_ | refine runL_g rfl rfl (qt_pev tok rfl) rfl rfl rfl rfl rfl ?_ | refine runL_q (ql tok rfl) rfl rfl rfl ?_ | refine runL_g rfl rfl (ql tok rfl) rfl rfl rfl rfl rfl ?_ | (refine runL_op0 (sst tok rfl rfl rfl rfl rfl) ?_; rintro _ _ _ ⟨rfl, rfl, rfl⟩) | (refine runL_op (st_box rfl) rfl rfl rfl ?_; rintro _ _ _ ⟨_, rfl, rfl, rfl⟩) | (refine runL_op (st_alloc tok rfl) rfl rfl rfl ?_; rintro _ _ _ ⟨_, rfl, rfl, rfl⟩) | (refine runL_op (st_buildSlice tok rfl rfl rfl rfl rfl rfl rfl) rfl rfl rfl ?_; rintro _ _ _ ⟨_, rfl, rfl, rfl⟩) | refine prn_start mixed ?_ | refine prn_end (by decide +kernel) ?_ | refine prn_q rfl (qt_pev tok rfl) (by decide +kernel) rfl rfl rfl ?_ | refine prn_g rfl rfl rfl (qt_pev tok rfl) (by decide +kernel) rfl rfl rfl rfl rfl ?_ | refine prn_q rfl (ql tok rfl) (by decide +kernel) rfl rfl rfl ?_ | refine prn_g rfl rfl rfl (ql tok rfl) (by decide +kernel) rfl rfl rfl rfl rfl ?_ | (refine prn_e0 rfl (sst tok rfl rfl rfl rfl rfl) (by decide +kernel) ?_; rintro _ _ _ ⟨rfl, rfl, rfl⟩) | (refine prn_e1 rfl (st_box rfl) (by decide +kernel) rfl rfl rfl ?_; rintro _ _ _ ⟨_, rfl, rfl, rfl⟩) | (refine prn_e1 rfl (st_alloc tok rfl) (by decide +kernel) rfl rfl rfl ?_; rintro _ _ _ ⟨_, rfl, rfl, rfl⟩) | (refine prn_e1 rfl (st_buildSlice tok rfl rfl rfl rfl rfl rfl rfl) (by decide +kernel) rfl rfl rfl ?_; rintro _ _ _ ⟨_, rfl, rfl, rfl⟩) | (refine prn_o0 rfl (sst tok rfl rfl rfl rfl rfl) (by decide +kernel) ?_; rintro _ _ _ ⟨rfl, rfl, rfl⟩; refine ⟨by (repeat (first | exact trivial | refine And.intro (pend_q rfl rfl rfl (qt_pev tok rfl)) ?_ | refine And.intro (pend_q rfl rfl rfl (ql tok rfl)) ?_)), ?_⟩) | (refine prn_o1 rfl (st_box rfl) (by decide +kernel) rfl rfl rfl ?_; rintro _ _ _ ⟨_, rfl, rfl, rfl⟩; refine ⟨by (repeat (first | exact trivial | refine And.intro (pend_q rfl rfl rfl (qt_pev tok rfl)) ?_ | refine And.intro (pend_q rfl rfl rfl (ql tok rfl)) ?_)), ?_⟩) | (refine prn_o1 rfl (st_alloc tok rfl) (by decide +kernel) rfl rfl rfl ?_; rintro _ _ _ ⟨_, rfl, rfl, rfl⟩; refine ⟨by (repeat (first | exact trivial | refine And.intro (pend_q rfl rfl rfl (qt_pev tok rfl)) ?_ | refine And.intro (pend_q rfl rfl rfl (ql tok rfl)) ?_)), ?_⟩) | (refine prn_o1 rfl (st_buildSlice tok rfl rfl rfl rfl rfl rfl rfl) (by decide +kernel) rfl rfl rfl ?_; rintro _ _ _ ⟨_, rfl, rfl, rfl⟩; refine ⟨by (repeat (first | exact trivial | refine And.intro (pend_q rfl rfl rfl (qt_pev tok rfl)) ?_ | refine And.intro (pend_q rfl rfl rfl (ql tok rfl)) ?_)), ?_⟩) | (refine prn_e1 rfl (qt_pev tok rfl) (by decide +kernel) rfl rfl rfl ?_; rintro _ _ _ ⟨rfl, rfl, rfl⟩))
    exact run_ret hC (rs := [.tmp 2]) rfl (resT rfl resN) (fun _ h => h.drop) ⟨by rw [hd]; rfl, rfl, rfl⟩
def numB (v : Nat) : ByteArray := if v < 248 then bytesI [IntKind.u8.wrap (v : Int)] else bytesI [IntKind.u8.wrap (IntKind.i64.wrap (247 + ((digN v).size : Int)))] ++ digN v
set_option maxRecDepth 10000 in
set_option maxHeartbeats 4000000 in
theorem num_ok (M : Mem) (L : HL) (v : Nat) (hv : v < 18446744073709551616) : TrQ Try.prog 54 [.int .u64 (v : Int)] M L (.string (numB v)) := by
  have hlen := digN_len hv
  refine Tr.intro 20 Try.func54 rfl rfl Try.call54 rfl ?_
  intro C hC hro
  repeat (first | with_reducible (first | refine run_seq ?_ | refine run_region ?_ | refine runL_nil ?_ | refine run_skip ?_ | refine run_block ?_ | refine run_inBlock ?_) | refine run_exit rfl ?_ | refine runL_q (qt_pev tok rfl) rfl rfl rfl ?_ | refine runL_g rfl rfl (qt_pev tok rfl) rfl rfl rfl rfl rfl ?_ | refine runL_q (ql tok rfl) rfl rfl rfl ?_ | refine runL_g rfl rfl (ql tok rfl) rfl rfl rfl rfl rfl ?_ | (refine runL_op0 (sst tok rfl rfl rfl rfl rfl) ?_; rintro _ _ _ ⟨rfl, rfl, rfl⟩) | (refine runL_op (st_box rfl) rfl rfl rfl ?_; rintro _ _ _ ⟨_, rfl, rfl, rfl⟩) | (refine runL_op (st_alloc tok rfl) rfl rfl rfl ?_; rintro _ _ _ ⟨_, rfl, rfl, rfl⟩) | (refine runL_op (st_buildSlice tok rfl rfl rfl rfl rfl rfl rfl) rfl rfl rfl ?_; rintro _ _ _ ⟨_, rfl, rfl, rfl⟩))
  refine run_cond rfl (fun h => ?_) (fun h => ?_)
  · have h0 : v < 248 := by simp at h; omega
    repeat (first | with_reducible (first | refine run_seq ?_ | refine run_region ?_ | refine runL_nil ?_ | refine run_skip ?_ | refine run_block ?_ | refine run_inBlock ?_) | refine run_exit rfl ?_ | refine runL_q (qt_pev tok rfl) rfl rfl rfl ?_ | refine runL_g rfl rfl (qt_pev tok rfl) rfl rfl rfl rfl rfl ?_ | refine runL_q (ql tok rfl) rfl rfl rfl ?_ | refine runL_g rfl rfl (ql tok rfl) rfl rfl rfl rfl rfl ?_ | (refine runL_op0 (sst tok rfl rfl rfl rfl rfl) ?_; rintro _ _ _ ⟨rfl, rfl, rfl⟩) | (refine runL_op (st_box rfl) rfl rfl rfl ?_; rintro _ _ _ ⟨_, rfl, rfl, rfl⟩) | (refine runL_op (st_alloc tok rfl) rfl rfl rfl ?_; rintro _ _ _ ⟨_, rfl, rfl, rfl⟩) | (refine runL_op (st_buildSlice tok rfl rfl rfl rfl rfl rfl rfl) rfl rfl rfl ?_; rintro _ _ _ ⟨_, rfl, rfl, rfl⟩) | refine runL_q (qt_bytesStr tok [IntKind.u8.wrap (v : Int)] rfl rfl rfl rfl (cellsAll List.mem_cons_self) rfl) rfl rfl rfl ?_)
    exact run_ret hC (rs := [.tmp 2]) rfl (resT rfl resN) (fun _ h => h.drop) ⟨by rw [numB, if_pos h0]; rfl, rfl, rfl⟩
  · have h0 : ¬ v < 248 := by simp at h; omega
    repeat (first | with_reducible (first | refine run_seq ?_ | refine run_region ?_ | refine runL_nil ?_ | refine run_skip ?_ | refine run_block ?_ | refine run_inBlock ?_) | refine run_exit rfl ?_ | refine runL_q (qt_pev tok rfl) rfl rfl rfl ?_ | refine runL_g rfl rfl (qt_pev tok rfl) rfl rfl rfl rfl rfl ?_ | refine runL_q (ql tok rfl) rfl rfl rfl ?_ | refine runL_g rfl rfl (ql tok rfl) rfl rfl rfl rfl rfl ?_ | (refine runL_op0 (sst tok rfl rfl rfl rfl rfl) ?_; rintro _ _ _ ⟨rfl, rfl, rfl⟩) | (refine runL_op (st_box rfl) rfl rfl rfl ?_; rintro _ _ _ ⟨_, rfl, rfl, rfl⟩) | (refine runL_op (st_alloc tok rfl) rfl rfl rfl ?_; rintro _ _ _ ⟨_, rfl, rfl, rfl⟩) | (refine runL_op (st_buildSlice tok rfl rfl rfl rfl rfl rfl rfl) rfl rfl rfl ?_; rintro _ _ _ ⟨_, rfl, rfl, rfl⟩) | refine runL_q (qt_callF rfl (fun _ => digits_ok _ v hv _)) rfl rfl rfl ?_ | refine runL_q (qt_bytesStr tok [IntKind.u8.wrap (IntKind.i64.wrap (247 + ((digN v).size : Int)))] rfl rfl rfl rfl (cellsAll List.mem_cons_self) rfl) rfl rfl rfl ?_ | refine runL_q (qt_concat rfl rfl (by rw [bytesI_one]; omega)) rfl rfl rfl ?_)
    exact run_ret hC (rs := [.tmp 2]) rfl (resT rfl resN) (fun _ h => h.drop) ⟨by rw [numB, if_neg h0]; rfl, rfl, rfl⟩
/-- what is put as more than a byte has no zero ahead -/
theorem numB_of {v n : Nat} {s : ByteArray} (h : numB v = s.extract 0 n) (hn : 2 ≤ n) (hs : n ≤ s.size) : 247 < v ∧ byte s 1 ≠ 0 := by
  have hsz := congrArg ByteArray.size h
  have hz : (s.extract 0 n).size = n := by simp; omega
  rw [hz] at hsz
  by_cases h0 : v < 248
  · rw [numB, if_pos h0, bytesI_one] at hsz
    omega
  · refine ⟨by omega, ?_⟩
    obtain ⟨b, hb, hb0⟩ := digN_first v (by omega)
    have hd : 0 < (digN v).size := by
      apply Classical.byContradiction
      intro hn
      rw [getElem?_neg (digN v) 0 hn] at hb
      cases hb
    rw [getElem?_pos (digN v) 0 hd, Option.some.injEq] at hb
    have h1 : (s.extract 0 n)[1]? = some b := by
      rw [← h, numB, if_neg h0, getElem?_pos (_ ++ digN v) 1 (by rw [app_size, bytesI_one]; omega), ByteArray.getElem_append_right (by rw [bytesI_one]; exact Nat.le_refl _)]
      simp only [bytesI_one, Nat.sub_self]
      rw [hb]
    have h2 : s[1]? = some b := by
      rw [getElem?_pos (s.extract 0 n) 1 (by omega)] at h1
      rw [getElem?_pos s 1 (by omega)]
      rw [← h1, ByteArray.getElem_extract]
    rw [byte, h2]
    intro e
    apply hb0
    have : b.toNat = 0 := by simpa using e
    exact UInt8.toNat_inj.1 this
end Go.Proofs.Ytpjklbkfhgfmnaa
namespace Go.Proofs.Ytpjklbkfhgfmnaa
open Go.Chi

/-! ### the document's reading of numbers and texts -/
def refV (s : ByteArray) : Nat → Int
  | 0 => 0
  | i + 1 => IntKind.u64.wrap (IntKind.u64.wrap (refV s i * 256) + IntKind.u64.wrap (byte s (i + 1)))
theorem u64_wrap (x : Int) : IntKind.u64.wrap x = x % 18446744073709551616 := by
  simp only [IntKind.wrap, IntKind.signed, IntKind.bits]
  simp
theorem or_add (x b : Int) (hb0 : 0 ≤ b) (hb : b < 256) : ior .u64 (ishl .u64 x 8) b = IntKind.u64.wrap (IntKind.u64.wrap (x * 256) + b) := by
  have e1 : ishl .u64 x 8 = IntKind.u64.wrap (x * 256) := by simp [ishl, IntKind.bits]
  rw [e1, u64_wrap (x * 256)]
  obtain ⟨q, hq⟩ : ∃ q : Nat, (x * 256) % 18446744073709551616 = ((2 ^ 8 * q : Nat) : Int) := ⟨(x % 72057594037927936).toNat, by omega⟩
  have hlt : (2 ^ 8 * q : Nat) < 18446744073709551616 := by omega
  obtain ⟨c, rfl⟩ : ∃ c : Nat, b = c := ⟨b.toNat, by omega⟩
  rw [hq, ior]
  congr 1
  have ho := Nat.two_pow_add_eq_or_of_lt (i := 8) (b := c) (by omega) q
  have h1 : (BitVec.ofInt 64 ((2 ^ 8 * q : Nat) : Int)).toNat = 2 ^ 8 * q := by
    rw [BitVec.toNat_ofInt]; omega
  have h2 : (BitVec.ofInt 64 (c : Int)).toNat = c := by
    rw [BitVec.toNat_ofInt]; omega
  show (((BitVec.ofInt 64 ((2 ^ 8 * q : Nat) : Int) ||| BitVec.ofInt 64 (c : Int)).toNat : Nat) : Int) = _
  rw [BitVec.toNat_or, h1, h2, ← ho]
  omega
theorem byte_rest (s : ByteArray) (i : Nat) : byte (rest1 s) i = byte s (i + 1) := by
  unfold byte rest1
  by_cases h : i + 1 < s.size
  · rw [getElem?_pos s _ h, getElem?_pos _ _ (by simp; omega), ByteArray.getElem_extract]
    simp [Nat.add_comm]
  · rw [getElem?_neg s _ h, getElem?_neg _ _ (by simp; omega)]
theorem refV_eq (s : ByteArray) : ∀ i, refV s i = numV (rest1 s) i
  | 0 => rfl
  | i + 1 => by
    have hb := byte_pos s (i + 1)
    have hw : IntKind.u64.wrap (byte s (i + 1)) = byte s (i + 1) := by rw [u64_wrap]; omega
    rw [refV, numV, byte_rest, hw, or_add _ _ hb.1 hb.2, refV_eq s i]
theorem refV_pos (s : ByteArray) (i : Nat) : 0 ≤ refV s i ∧ refV s i < 18446744073709551616 := by
  cases i with
  | zero => exact ⟨Int.le_refl _, show (0 : Int) < 18446744073709551616 by decide⟩
  | succ i => exact u64_pos .u64 rfl _
def refK (s : ByteArray) : Nat := (byte s 0 - 247).toNat
def refNum (s : ByteArray) : Int × Int × Int :=
  if s.size = 0 then (0, 0, 6) else
  if byte s 0 < 248 then (byte s 0, 1, 0) else
  if s.size < refK s + 1 then (0, 0, 6) else
  if numB (refV s (refK s)).toNat ≠ s.extract 0 (refK s + 1) then (0, 0, 7) else (refV s (refK s), ((refK s + 1 : Nat) : Int), 0)
theorem refNum_imp {s : ByteArray} (h : (refNum s).2.2 = 0) : numR s = refNum s := by
  have hb := byte_pos s 0
  unfold refNum at h ⊢
  split at h
  · cases h
  rename_i h0
  rw [if_neg h0]
  split at h
  · rename_i h1
    rw [numR, if_neg h0, if_pos (by omega), if_pos h1]
  rename_i h1
  rw [if_neg h1]
  split at h
  · cases h
  rename_i h2
  rw [if_neg h2]
  split at h
  · cases h
  rename_i h3
  rw [if_neg h3]
  have h3' : numB (refV s (refK s)).toNat = s.extract 0 (refK s + 1) := by simpa using h3
  have hk : (refK s : Int) = byte s 0 - 247 := by unfold refK; omega
  obtain ⟨h4, h5⟩ := numB_of h3' (by omega) (by omega)
  have hr := rest1_size (s := s)
  rw [numR, if_neg h0, if_neg (by omega), if_neg (by omega)]
  have hv := refV_eq s (refK s)
  have hz : (byte s 0 - 247).toNat = refK s := rfl
  rw [hz, ← hv, if_neg (by
    rintro (h6 | h6)
    · rw [byte_rest] at h6; exact h5 h6
    · omega)]
  congr 2
  omega
set_option maxRecDepth 10000 in
set_option maxHeartbeats 8000000 in
theorem refNum_ok (M : Mem) (L : HL) (s : ByteArray) : TrQ Try.prog 52 [.string s] M L (.tuple ⟨[.int .u64 (refNum s).1, .int .i64 (refNum s).2.1, .int .i64 (refNum s).2.2]⟩) := by
  refine Tr.intro 45 Try.func52 rfl rfl Try.call52 rfl ?_
  intro C hC hro
  repeat (first | with_reducible (first | refine run_seq ?_ | refine run_region ?_ | refine runL_nil ?_ | refine run_skip ?_ | refine run_block ?_ | refine run_inBlock ?_) | refine run_exit rfl ?_ | refine runL_q (qt_pev tok rfl) rfl rfl rfl ?_ | refine runL_g rfl rfl (qt_pev tok rfl) rfl rfl rfl rfl rfl ?_ | refine runL_q (ql tok rfl) rfl rfl rfl ?_ | refine runL_g rfl rfl (ql tok rfl) rfl rfl rfl rfl rfl ?_ | (refine runL_op0 (sst tok rfl rfl rfl rfl rfl) ?_; rintro _ _ _ ⟨rfl, rfl, rfl⟩) | (refine runL_op (st_box rfl) rfl rfl rfl ?_; rintro _ _ _ ⟨_, rfl, rfl, rfl⟩) | (refine runL_op (st_alloc tok rfl) rfl rfl rfl ?_; rintro _ _ _ ⟨_, rfl, rfl, rfl⟩) | (refine runL_op (st_buildSlice tok rfl rfl rfl rfl rfl rfl rfl) rfl rfl rfl ?_; rintro _ _ _ ⟨_, rfl, rfl, rfl⟩))
  refine run_cond rfl (fun h => ?_) (fun h => ?_)
  · repeat (first | with_reducible (first | refine run_seq ?_ | refine run_region ?_ | refine runL_nil ?_ | refine run_skip ?_ | refine run_block ?_ | refine run_inBlock ?_) | refine run_exit rfl ?_ | refine runL_q (qt_pev tok rfl) rfl rfl rfl ?_ | refine runL_g rfl rfl (qt_pev tok rfl) rfl rfl rfl rfl rfl ?_ | refine runL_q (ql tok rfl) rfl rfl rfl ?_ | refine runL_g rfl rfl (ql tok rfl) rfl rfl rfl rfl rfl ?_ | (refine runL_op0 (sst tok rfl rfl rfl rfl rfl) ?_; rintro _ _ _ ⟨rfl, rfl, rfl⟩) | (refine runL_op (st_box rfl) rfl rfl rfl ?_; rintro _ _ _ ⟨_, rfl, rfl, rfl⟩) | (refine runL_op (st_alloc tok rfl) rfl rfl rfl ?_; rintro _ _ _ ⟨_, rfl, rfl, rfl⟩) | (refine runL_op (st_buildSlice tok rfl rfl rfl rfl rfl rfl rfl) rfl rfl rfl ?_; rintro _ _ _ ⟨_, rfl, rfl, rfl⟩))
    exact run_ret hC (rs := [.tmp 2, .tmp 3, .tmp 4]) rfl (resT rfl (resT rfl (resT rfl resN))) (fun _ h => h) ⟨by rw [empty_beq, decide_eq_true_eq] at h; rw [refNum, if_pos h]; rfl, rfl, rfl⟩
  rw [empty_beq, decide_eq_false_iff_not] at h
  have hs : 0 < s.size := by omega
  obtain ⟨b0, hb0, hb0'⟩ := byte_at hs
  repeat (first | with_reducible (first | refine run_seq ?_ | refine run_region ?_ | refine runL_nil ?_ | refine run_skip ?_ | refine run_block ?_ | refine run_inBlock ?_) | refine run_exit rfl ?_ | refine runL_q (qt_pev tok rfl) rfl rfl rfl ?_ | refine runL_g rfl rfl (qt_pev tok rfl) rfl rfl rfl rfl rfl ?_ | refine runL_q (ql tok rfl) rfl rfl rfl ?_ | refine runL_g rfl rfl (ql tok rfl) rfl rfl rfl rfl rfl ?_ | (refine runL_op0 (sst tok rfl rfl rfl rfl rfl) ?_; rintro _ _ _ ⟨rfl, rfl, rfl⟩) | (refine runL_op (st_box rfl) rfl rfl rfl ?_; rintro _ _ _ ⟨_, rfl, rfl, rfl⟩) | (refine runL_op (st_alloc tok rfl) rfl rfl rfl ?_; rintro _ _ _ ⟨_, rfl, rfl, rfl⟩) | (refine runL_op (st_buildSlice tok rfl rfl rfl rfl rfl rfl rfl) rfl rfl rfl ?_; rintro _ _ _ ⟨_, rfl, rfl, rfl⟩) | refine runL_q (qt_strIndex (n := 0) tok rfl rfl rfl (fun _ => hb0)) rfl rfl rfl ?_)
  refine run_cond rfl (fun h1 => ?_) (fun h1 => ?_)
  · have h2 : byte s 0 < 248 := by rw [hb0']; simpa using h1
    repeat (first | with_reducible (first | refine run_seq ?_ | refine run_region ?_ | refine runL_nil ?_ | refine run_skip ?_ | refine run_block ?_ | refine run_inBlock ?_) | refine run_exit rfl ?_ | refine runL_q (qt_pev tok rfl) rfl rfl rfl ?_ | refine runL_g rfl rfl (qt_pev tok rfl) rfl rfl rfl rfl rfl ?_ | refine runL_q (ql tok rfl) rfl rfl rfl ?_ | refine runL_g rfl rfl (ql tok rfl) rfl rfl rfl rfl rfl ?_ | (refine runL_op0 (sst tok rfl rfl rfl rfl rfl) ?_; rintro _ _ _ ⟨rfl, rfl, rfl⟩) | (refine runL_op (st_box rfl) rfl rfl rfl ?_; rintro _ _ _ ⟨_, rfl, rfl, rfl⟩) | (refine runL_op (st_alloc tok rfl) rfl rfl rfl ?_; rintro _ _ _ ⟨_, rfl, rfl, rfl⟩) | (refine runL_op (st_buildSlice tok rfl rfl rfl rfl rfl rfl rfl) rfl rfl rfl ?_; rintro _ _ _ ⟨_, rfl, rfl, rfl⟩) | refine runL_q (qt_strIndex (n := 0) tok rfl rfl rfl (fun _ => hb0)) rfl rfl rfl ?_)
    refine run_ret hC (rs := [.tmp 2, .tmp 3, .tmp 4]) rfl (resT rfl (resT rfl (resT rfl resN))) (fun _ h => h) ⟨?_, rfl, rfl⟩
    rw [refNum, if_neg h, if_pos h2, hb0', u64_byte]
    rfl
  have h2 : ¬ byte s 0 < 248 := by rw [hb0']; simpa using h1
  have hlt := b0.toNat_lt
  obtain ⟨k, hk⟩ : ∃ k : Nat, k = b0.toNat - 247 := ⟨_, rfl⟩
  have hk1 : refK s = k := by unfold refK; rw [hb0']; omega
  have hkv : IntKind.i64.wrap (IntKind.i64.wrap (1 + IntKind.i64.wrap (b0.toNat : Int)) - 247) = ((k + 1 : Nat) : Int) := by
    rw [wrap64_nat (by omega), show (1 : Int) + (b0.toNat : Int) = ((1 + b0.toNat : Nat) : Int) by omega, wrap64_nat (by omega), show ((1 + b0.toNat : Nat) : Int) - 247 = ((k + 1 : Nat) : Int) by omega, wrap64_nat (by omega)]
  repeat (first | with_reducible (first | refine run_seq ?_ | refine run_region ?_ | refine runL_nil ?_ | refine run_skip ?_ | refine run_block ?_ | refine run_inBlock ?_) | refine run_exit rfl ?_ | refine runL_q (qt_pev tok rfl) rfl rfl rfl ?_ | refine runL_g rfl rfl (qt_pev tok rfl) rfl rfl rfl rfl rfl ?_ | refine runL_q (ql tok rfl) rfl rfl rfl ?_ | refine runL_g rfl rfl (ql tok rfl) rfl rfl rfl rfl rfl ?_ | (refine runL_op0 (sst tok rfl rfl rfl rfl rfl) ?_; rintro _ _ _ ⟨rfl, rfl, rfl⟩) | (refine runL_op (st_box rfl) rfl rfl rfl ?_; rintro _ _ _ ⟨_, rfl, rfl, rfl⟩) | (refine runL_op (st_alloc tok rfl) rfl rfl rfl ?_; rintro _ _ _ ⟨_, rfl, rfl, rfl⟩) | (refine runL_op (st_buildSlice tok rfl rfl rfl rfl rfl rfl rfl) rfl rfl rfl ?_; rintro _ _ _ ⟨_, rfl, rfl, rfl⟩) | refine runL_q (qt_strIndex (n := 0) tok rfl rfl rfl (fun _ => hb0)) rfl rfl rfl ?_)
  refine run_cond rfl (fun h3 => ?_) (fun h3 => ?_)
  · rw [hkv] at h3
    have h4 : s.size < refK s + 1 := by rw [hk1]; simp at h3; omega
    repeat (first | with_reducible (first | refine run_seq ?_ | refine run_region ?_ | refine runL_nil ?_ | refine run_skip ?_ | refine run_block ?_ | refine run_inBlock ?_) | refine run_exit rfl ?_ | refine runL_q (qt_pev tok rfl) rfl rfl rfl ?_ | refine runL_g rfl rfl (qt_pev tok rfl) rfl rfl rfl rfl rfl ?_ | refine runL_q (ql tok rfl) rfl rfl rfl ?_ | refine runL_g rfl rfl (ql tok rfl) rfl rfl rfl rfl rfl ?_ | (refine runL_op0 (sst tok rfl rfl rfl rfl rfl) ?_; rintro _ _ _ ⟨rfl, rfl, rfl⟩) | (refine runL_op (st_box rfl) rfl rfl rfl ?_; rintro _ _ _ ⟨_, rfl, rfl, rfl⟩) | (refine runL_op (st_alloc tok rfl) rfl rfl rfl ?_; rintro _ _ _ ⟨_, rfl, rfl, rfl⟩) | (refine runL_op (st_buildSlice tok rfl rfl rfl rfl rfl rfl rfl) rfl rfl rfl ?_; rintro _ _ _ ⟨_, rfl, rfl, rfl⟩))
    refine run_ret hC (rs := [.tmp 2, .tmp 3, .tmp 4]) rfl (resT rfl (resT rfl (resT rfl resN))) (fun _ h => h) ⟨?_, rfl, rfl⟩
    rw [refNum, if_neg h, if_neg h2, if_pos h4]
    rfl
  rw [hkv] at h3
  have h4 : ¬ s.size < refK s + 1 := by rw [hk1]; simp at h3; omega
  rw [hk1] at h4
  refine run_as 5 (.int .i64 ((k + 1 : Nat) : Int)) rfl (by rw [hkv]) ?_
  repeat (first | with_reducible (first | refine run_seq ?_ | refine run_region ?_ | refine runL_nil ?_ | refine run_skip ?_ | refine run_block ?_ | refine run_inBlock ?_) | refine run_exit rfl ?_ | refine runL_q (qt_pev tok rfl) rfl rfl rfl ?_ | refine runL_g rfl rfl (qt_pev tok rfl) rfl rfl rfl rfl rfl ?_ | refine runL_q (ql tok rfl) rfl rfl rfl ?_ | refine runL_g rfl rfl (ql tok rfl) rfl rfl rfl rfl rfl ?_ | (refine runL_op0 (sst tok rfl rfl rfl rfl rfl) ?_; rintro _ _ _ ⟨rfl, rfl, rfl⟩) | (refine runL_op (st_box rfl) rfl rfl rfl ?_; rintro _ _ _ ⟨_, rfl, rfl, rfl⟩) | (refine runL_op (st_alloc tok rfl) rfl rfl rfl ?_; rintro _ _ _ ⟨_, rfl, rfl, rfl⟩) | (refine runL_op (st_buildSlice tok rfl rfl rfl rfl rfl rfl rfl) rfl rfl rfl ?_; rintro _ _ _ ⟨_, rfl, rfl, rfl⟩))
  refine run_loopN (fun i σ1 M1 L1 => i ≤ k ∧ σ1 = [(7, .int .i64 ((i + 1 : Nat) : Int)), (6, .int .u64 (refV s i)), (5, .int .i64 ((k + 1 : Nat) : Int)), (0, .string s)] ∧ M = M1 ∧ L = L1) k [(7, .int .i64 ((0 + 1 : Nat) : Int)), (6, .int .u64 0), (5, .int .i64 ((k + 1 : Nat) : Int)), (0, .string s)] ?_ ⟨Nat.zero_le _, rfl, rfl, rfl⟩ (fun j _ _ _ h => h.1) ?_
  · exact ⟨rfl, rfl, rfl, rfl, trivial⟩
  rintro i _ _ _ ⟨hi, rfl, rfl, rfl⟩ hnext
  repeat (first | with_reducible (first | refine run_seq ?_ | refine run_region ?_ | refine runL_nil ?_ | refine run_skip ?_ | refine run_block ?_ | refine run_inBlock ?_) | refine run_exit rfl ?_ | refine runL_q (qt_pev tok rfl) rfl rfl rfl ?_ | refine runL_g rfl rfl (qt_pev tok rfl) rfl rfl rfl rfl rfl ?_ | refine runL_q (ql tok rfl) rfl rfl rfl ?_ | refine runL_g rfl rfl (ql tok rfl) rfl rfl rfl rfl rfl ?_ | (refine runL_op0 (sst tok rfl rfl rfl rfl rfl) ?_; rintro _ _ _ ⟨rfl, rfl, rfl⟩) | (refine runL_op (st_box rfl) rfl rfl rfl ?_; rintro _ _ _ ⟨_, rfl, rfl, rfl⟩) | (refine runL_op (st_alloc tok rfl) rfl rfl rfl ?_; rintro _ _ _ ⟨_, rfl, rfl, rfl⟩) | (refine runL_op (st_buildSlice tok rfl rfl rfl rfl rfl rfl rfl) rfl rfl rfl ?_; rintro _ _ _ ⟨_, rfl, rfl, rfl⟩))
  refine run_cond rfl (fun h5 => ?_) (fun h5 => ?_)
  · have hik : i < k := by simp at h5; omega
    obtain ⟨b, hb, hb'⟩ := byte_at (s := s) (i := i + 1) (by omega)
    repeat (first | with_reducible (first | refine run_seq ?_ | refine run_region ?_ | refine runL_nil ?_ | refine run_skip ?_ | refine run_block ?_ | refine run_inBlock ?_) | refine run_exit rfl ?_ | refine runL_q (qt_pev tok rfl) rfl rfl rfl ?_ | refine runL_g rfl rfl (qt_pev tok rfl) rfl rfl rfl rfl rfl ?_ | refine runL_q (ql tok rfl) rfl rfl rfl ?_ | refine runL_g rfl rfl (ql tok rfl) rfl rfl rfl rfl rfl ?_ | (refine runL_op0 (sst tok rfl rfl rfl rfl rfl) ?_; rintro _ _ _ ⟨rfl, rfl, rfl⟩) | (refine runL_op (st_box rfl) rfl rfl rfl ?_; rintro _ _ _ ⟨_, rfl, rfl, rfl⟩) | (refine runL_op (st_alloc tok rfl) rfl rfl rfl ?_; rintro _ _ _ ⟨_, rfl, rfl, rfl⟩) | (refine runL_op (st_buildSlice tok rfl rfl rfl rfl rfl rfl rfl) rfl rfl rfl ?_; rintro _ _ _ ⟨_, rfl, rfl, rfl⟩) | refine runL_q (qt_strIndex (n := i + 1) tok rfl rfl rfl (fun _ => hb)) rfl rfl rfl ?_)
    exact run_sub' (hnext _ _ _ ⟨hik, rfl, rfl, rfl⟩) ⟨lk_succ rfl (by omega), by rw [refV, hb']; rfl, rfl, rfl, trivial⟩
  · have hik : i = k := by simp at h5; omega
    subst hik
    have hvp := refV_pos s i
    obtain ⟨v, hv⟩ : ∃ v : Nat, refV s i = v := ⟨(refV s i).toNat, by omega⟩
    refine run_as 6 (.int .u64 (v : Int)) rfl (by rw [hv]) ?_
    repeat (first | with_reducible (first | refine run_seq ?_ | refine run_region ?_ | refine runL_nil ?_ | refine run_skip ?_ | refine run_block ?_ | refine run_inBlock ?_) | refine run_exit rfl ?_ | refine runL_q (qt_pev tok rfl) rfl rfl rfl ?_ | refine runL_g rfl rfl (qt_pev tok rfl) rfl rfl rfl rfl rfl ?_ | refine runL_q (ql tok rfl) rfl rfl rfl ?_ | refine runL_g rfl rfl (ql tok rfl) rfl rfl rfl rfl rfl ?_ | (refine runL_op0 (sst tok rfl rfl rfl rfl rfl) ?_; rintro _ _ _ ⟨rfl, rfl, rfl⟩) | (refine runL_op (st_box rfl) rfl rfl rfl ?_; rintro _ _ _ ⟨_, rfl, rfl, rfl⟩) | (refine runL_op (st_alloc tok rfl) rfl rfl rfl ?_; rintro _ _ _ ⟨_, rfl, rfl, rfl⟩) | (refine runL_op (st_buildSlice tok rfl rfl rfl rfl rfl rfl rfl) rfl rfl rfl ?_; rintro _ _ _ ⟨_, rfl, rfl, rfl⟩) | refine prn_start mixed ?_ | refine prn_end (by decide +kernel) ?_ | refine prn_q rfl (qt_pev tok rfl) (by decide +kernel) rfl rfl rfl ?_ | refine prn_g rfl rfl rfl (qt_pev tok rfl) (by decide +kernel) rfl rfl rfl rfl rfl ?_ | refine prn_q rfl (ql tok rfl) (by decide +kernel) rfl rfl rfl ?_ | refine prn_g rfl rfl rfl (ql tok rfl) (by decide +kernel) rfl rfl rfl rfl rfl ?_ | (refine prn_e0 rfl (sst tok rfl rfl rfl rfl rfl) (by decide +kernel) ?_; rintro _ _ _ ⟨rfl, rfl, rfl⟩) | (refine prn_e1 rfl (st_box rfl) (by decide +kernel) rfl rfl rfl ?_; rintro _ _ _ ⟨_, rfl, rfl, rfl⟩) | (refine prn_e1 rfl (st_alloc tok rfl) (by decide +kernel) rfl rfl rfl ?_; rintro _ _ _ ⟨_, rfl, rfl, rfl⟩) | (refine prn_e1 rfl (st_buildSlice tok rfl rfl rfl rfl rfl rfl rfl) (by decide +kernel) rfl rfl rfl ?_; rintro _ _ _ ⟨_, rfl, rfl, rfl⟩) | (refine prn_o0 rfl (sst tok rfl rfl rfl rfl rfl) (by decide +kernel) ?_; rintro _ _ _ ⟨rfl, rfl, rfl⟩; refine ⟨by (repeat (first | exact trivial | refine And.intro (pend_q rfl rfl rfl (qt_pev tok rfl)) ?_ | refine And.intro (pend_q rfl rfl rfl (ql tok rfl)) ?_)), ?_⟩) | (refine prn_o1 rfl (st_box rfl) (by decide +kernel) rfl rfl rfl ?_; rintro _ _ _ ⟨_, rfl, rfl, rfl⟩; refine ⟨by (repeat (first | exact trivial | refine And.intro (pend_q rfl rfl rfl (qt_pev tok rfl)) ?_ | refine And.intro (pend_q rfl rfl rfl (ql tok rfl)) ?_)), ?_⟩) | (refine prn_o1 rfl (st_alloc tok rfl) (by decide +kernel) rfl rfl rfl ?_; rintro _ _ _ ⟨_, rfl, rfl, rfl⟩; refine ⟨by (repeat (first | exact trivial | refine And.intro (pend_q rfl rfl rfl (qt_pev tok rfl)) ?_ | refine And.intro (pend_q rfl rfl rfl (ql tok rfl)) ?_)), ?_⟩) | (refine prn_o1 rfl (st_buildSlice tok rfl rfl rfl rfl rfl rfl rfl) (by decide +kernel) rfl rfl rfl ?_; rintro _ _ _ ⟨_, rfl, rfl, rfl⟩; refine ⟨by (repeat (first | exact trivial | refine And.intro (pend_q rfl rfl rfl (qt_pev tok rfl)) ?_ | refine And.intro (pend_q rfl rfl rfl (ql tok rfl)) ?_)), ?_⟩) | (refine prn_e1 rfl (qt_pev tok rfl) (by decide +kernel) rfl rfl rfl ?_; rintro _ _ _ ⟨rfl, rfl, rfl⟩) | refine prn_q rfl (qt_callF rfl (fun _ => num_ok _ _ v (by omega))) (by decide +kernel) rfl rfl rfl ?_ | refine prn_q rfl (qt_strHi (n := i + 1) tok rfl rfl rfl (fun _ => by omega)) (by decide +kernel) rfl rfl rfl ?_)
    refine run_cond rfl (fun h6 => ?_) (fun h6 => ?_)
    · repeat (first | with_reducible (first | refine run_seq ?_ | refine run_region ?_ | refine runL_nil ?_ | refine run_skip ?_ | refine run_block ?_ | refine run_inBlock ?_) | refine run_exit rfl ?_ | refine runL_q (qt_pev tok rfl) rfl rfl rfl ?_ | refine runL_g rfl rfl (qt_pev tok rfl) rfl rfl rfl rfl rfl ?_ | refine runL_q (ql tok rfl) rfl rfl rfl ?_ | refine runL_g rfl rfl (ql tok rfl) rfl rfl rfl rfl rfl ?_ | (refine runL_op0 (sst tok rfl rfl rfl rfl rfl) ?_; rintro _ _ _ ⟨rfl, rfl, rfl⟩) | (refine runL_op (st_box rfl) rfl rfl rfl ?_; rintro _ _ _ ⟨_, rfl, rfl, rfl⟩) | (refine runL_op (st_alloc tok rfl) rfl rfl rfl ?_; rintro _ _ _ ⟨_, rfl, rfl, rfl⟩) | (refine runL_op (st_buildSlice tok rfl rfl rfl rfl rfl rfl rfl) rfl rfl rfl ?_; rintro _ _ _ ⟨_, rfl, rfl, rfl⟩))
      refine run_ret hC (rs := [.tmp 2, .tmp 3, .tmp 4]) rfl (resT rfl (resT rfl (resT rfl resN))) (fun _ h => h) ⟨?_, rfl, rfl⟩
      have h7 : numB (refV s (refK s)).toNat ≠ s.extract 0 (refK s + 1) := by rw [hk1, hv, Int.toNat_natCast]; rw [bytes_beq] at h6; simpa using h6
      rw [refNum, if_neg h, if_neg h2, if_neg (by rw [hk1]; exact h4), if_pos h7]
      rfl
    · repeat (first | with_reducible (first | refine run_seq ?_ | refine run_region ?_ | refine runL_nil ?_ | refine run_skip ?_ | refine run_block ?_ | refine run_inBlock ?_) | refine run_exit rfl ?_ | refine runL_q (qt_pev tok rfl) rfl rfl rfl ?_ | refine runL_g rfl rfl (qt_pev tok rfl) rfl rfl rfl rfl rfl ?_ | refine runL_q (ql tok rfl) rfl rfl rfl ?_ | refine runL_g rfl rfl (ql tok rfl) rfl rfl rfl rfl rfl ?_ | (refine runL_op0 (sst tok rfl rfl rfl rfl rfl) ?_; rintro _ _ _ ⟨rfl, rfl, rfl⟩) | (refine runL_op (st_box rfl) rfl rfl rfl ?_; rintro _ _ _ ⟨_, rfl, rfl, rfl⟩) | (refine runL_op (st_alloc tok rfl) rfl rfl rfl ?_; rintro _ _ _ ⟨_, rfl, rfl, rfl⟩) | (refine runL_op (st_buildSlice tok rfl rfl rfl rfl rfl rfl rfl) rfl rfl rfl ?_; rintro _ _ _ ⟨_, rfl, rfl, rfl⟩))
      refine run_ret hC (rs := [.tmp 2, .tmp 3, .tmp 4]) rfl (resT rfl (resT rfl (resT rfl resN))) (fun _ h => h) ⟨?_, rfl, rfl⟩
      have h7 : ¬ numB (refV s (refK s)).toNat ≠ s.extract 0 (refK s + 1) := by rw [hk1, hv, Int.toNat_natCast]; rw [bytes_beq] at h6; simpa using h6
      rw [refNum, if_neg h, if_neg h2, if_neg (by rw [hk1]; exact h4), if_neg h7, hk1, hv]
      rfl
def refText (s : ByteArray) (most : Nat) : ByteArray × Int × Int :=
  if (refNum s).2.2 ≠ 0 then (⟨#[]⟩, 0, (refNum s).2.2) else
  if (most : Int) < (refNum s).1 then (⟨#[]⟩, 0, 5) else
  if (s.size : Int) - (refNum s).2.1 < (refNum s).1 then (⟨#[]⟩, 0, 6) else
  (s.extract (refNum s).2.1.toNat ((refNum s).2.1 + (refNum s).1).toNat, (refNum s).2.1 + (refNum s).1, 0)
theorem refText_imp {s : ByteArray} {most : Nat} (h : (refText s most).2.2 = 0) : textR s most = refText s most := by
  have h0 : (refNum s).2.2 = 0 := by
    apply Classical.byContradiction
    intro h0
    rw [refText, if_pos h0] at h
    exact h0 h
  rw [textR, refNum_imp h0, refText]
set_option maxRecDepth 10000 in
set_option maxHeartbeats 8000000 in
theorem refText_ok (M : Mem) (L : HL) (s : ByteArray) (most : Nat) (hs : s.size < 4611686018427387904) (hm : most < 4611686018427387904) : TrQ Try.prog 53 [.string s, .int .i64 (most : Int)] M L (.tuple ⟨[.string (refText s most).1, .int .i64 (refText s most).2.1, .int .i64 (refText s most).2.2]⟩) := by
  refine Tr.intro 53 Try.func53 rfl rfl Try.call53 rfl ?_
  intro C hC hro
  repeat (first | with_reducible (first | refine run_seq ?_ | refine run_region ?_ | refine runL_nil ?_ | refine run_skip ?_ | refine run_block ?_ | refine run_inBlock ?_) | refine run_exit rfl ?_ | refine runL_q (qt_pev tok rfl) rfl rfl rfl ?_ | refine runL_g rfl rfl (qt_pev tok rfl) rfl rfl rfl rfl rfl ?_ | refine runL_q (ql tok rfl) rfl rfl rfl ?_ | refine runL_g rfl rfl (ql tok rfl) rfl rfl rfl rfl rfl ?_ | (refine runL_op0 (sst tok rfl rfl rfl rfl rfl) ?_; rintro _ _ _ ⟨rfl, rfl, rfl⟩) | (refine runL_op (st_box rfl) rfl rfl rfl ?_; rintro _ _ _ ⟨_, rfl, rfl, rfl⟩) | (refine runL_op (st_alloc tok rfl) rfl rfl rfl ?_; rintro _ _ _ ⟨_, rfl, rfl, rfl⟩) | (refine runL_op (st_buildSlice tok rfl rfl rfl rfl rfl rfl rfl) rfl rfl rfl ?_; rintro _ _ _ ⟨_, rfl, rfl, rfl⟩) | refine runL_q (qt_callF rfl (fun _ => refNum_ok _ _ s)) rfl rfl rfl ?_)
  refine run_cond rfl (fun h => ?_) (fun h => ?_)
  · have h0 : (refNum s).2.2 ≠ 0 := by simpa using h
    repeat (first | with_reducible (first | refine run_seq ?_ | refine run_region ?_ | refine runL_nil ?_ | refine run_skip ?_ | refine run_block ?_ | refine run_inBlock ?_) | refine run_exit rfl ?_ | refine runL_q (qt_pev tok rfl) rfl rfl rfl ?_ | refine runL_g rfl rfl (qt_pev tok rfl) rfl rfl rfl rfl rfl ?_ | refine runL_q (ql tok rfl) rfl rfl rfl ?_ | refine runL_g rfl rfl (ql tok rfl) rfl rfl rfl rfl rfl ?_ | (refine runL_op0 (sst tok rfl rfl rfl rfl rfl) ?_; rintro _ _ _ ⟨rfl, rfl, rfl⟩) | (refine runL_op (st_box rfl) rfl rfl rfl ?_; rintro _ _ _ ⟨_, rfl, rfl, rfl⟩) | (refine runL_op (st_alloc tok rfl) rfl rfl rfl ?_; rintro _ _ _ ⟨_, rfl, rfl, rfl⟩) | (refine runL_op (st_buildSlice tok rfl rfl rfl rfl rfl rfl rfl) rfl rfl rfl ?_; rintro _ _ _ ⟨_, rfl, rfl, rfl⟩))
    exact run_ret hC (rs := [.tmp 4, .tmp 5, .tmp 6]) rfl (resT rfl (resT rfl (resT rfl resN))) (fun _ h => h) ⟨by rw [refText, if_pos h0]; rfl, rfl, rfl⟩
  have h0 : (refNum s).2.2 = 0 := by simpa using h
  have himp := refNum_imp h0
  obtain ⟨n, hn, hn1, hn2⟩ := numR_len s (by rw [himp]; exact h0)
  have hv0 := numR_pos s
  rw [himp] at hn hv0
  have e1 : IntKind.u64.wrap (most : Int) = (most : Int) := u64_nat (by omega)
  repeat (first | with_reducible (first | refine run_seq ?_ | refine run_region ?_ | refine runL_nil ?_ | refine run_skip ?_ | refine run_block ?_ | refine run_inBlock ?_) | refine run_exit rfl ?_ | refine runL_q (qt_pev tok rfl) rfl rfl rfl ?_ | refine runL_g rfl rfl (qt_pev tok rfl) rfl rfl rfl rfl rfl ?_ | refine runL_q (ql tok rfl) rfl rfl rfl ?_ | refine runL_g rfl rfl (ql tok rfl) rfl rfl rfl rfl rfl ?_ | (refine runL_op0 (sst tok rfl rfl rfl rfl rfl) ?_; rintro _ _ _ ⟨rfl, rfl, rfl⟩) | (refine runL_op (st_box rfl) rfl rfl rfl ?_; rintro _ _ _ ⟨_, rfl, rfl, rfl⟩) | (refine runL_op (st_alloc tok rfl) rfl rfl rfl ?_; rintro _ _ _ ⟨_, rfl, rfl, rfl⟩) | (refine runL_op (st_buildSlice tok rfl rfl rfl rfl rfl rfl rfl) rfl rfl rfl ?_; rintro _ _ _ ⟨_, rfl, rfl, rfl⟩))
  refine run_cond rfl (fun h1 => ?_) (fun h1 => ?_)
  · rw [e1] at h1
    have h2 : (most : Int) < (refNum s).1 := by
      simp at h1
      omega
    repeat (first | with_reducible (first | refine run_seq ?_ | refine run_region ?_ | refine runL_nil ?_ | refine run_skip ?_ | refine run_block ?_ | refine run_inBlock ?_) | refine run_exit rfl ?_ | refine runL_q (qt_pev tok rfl) rfl rfl rfl ?_ | refine runL_g rfl rfl (qt_pev tok rfl) rfl rfl rfl rfl rfl ?_ | refine runL_q (ql tok rfl) rfl rfl rfl ?_ | refine runL_g rfl rfl (ql tok rfl) rfl rfl rfl rfl rfl ?_ | (refine runL_op0 (sst tok rfl rfl rfl rfl rfl) ?_; rintro _ _ _ ⟨rfl, rfl, rfl⟩) | (refine runL_op (st_box rfl) rfl rfl rfl ?_; rintro _ _ _ ⟨_, rfl, rfl, rfl⟩) | (refine runL_op (st_alloc tok rfl) rfl rfl rfl ?_; rintro _ _ _ ⟨_, rfl, rfl, rfl⟩) | (refine runL_op (st_buildSlice tok rfl rfl rfl rfl rfl rfl rfl) rfl rfl rfl ?_; rintro _ _ _ ⟨_, rfl, rfl, rfl⟩))
    exact run_ret hC (rs := [.tmp 4, .tmp 5, .tmp 6]) rfl (resT rfl (resT rfl (resT rfl resN))) (fun _ h => h) ⟨by rw [refText, if_neg (by simp [h0]), if_pos h2]; rfl, rfl, rfl⟩
  rw [e1] at h1
  have h2 : ¬ (most : Int) < (refNum s).1 := by
    simp at h1
    omega
  have e2 : IntKind.u64.wrap (IntKind.i64.wrap ((s.size : Int) - (refNum s).2.1)) = (s.size : Int) - (refNum s).2.1 := by
    rw [hn, show (s.size : Int) - (n : Int) = ((s.size - n : Nat) : Int) by omega, wrap64_nat (by omega), u64_nat (by omega)]
  obtain ⟨v, hv⟩ : ∃ v : Nat, (refNum s).1 = v := ⟨(refNum s).1.toNat, by omega⟩
  repeat (first | with_reducible (first | refine run_seq ?_ | refine run_region ?_ | refine runL_nil ?_ | refine run_skip ?_ | refine run_block ?_ | refine run_inBlock ?_) | refine run_exit rfl ?_ | refine runL_q (qt_pev tok rfl) rfl rfl rfl ?_ | refine runL_g rfl rfl (qt_pev tok rfl) rfl rfl rfl rfl rfl ?_ | refine runL_q (ql tok rfl) rfl rfl rfl ?_ | refine runL_g rfl rfl (ql tok rfl) rfl rfl rfl rfl rfl ?_ | (refine runL_op0 (sst tok rfl rfl rfl rfl rfl) ?_; rintro _ _ _ ⟨rfl, rfl, rfl⟩) | (refine runL_op (st_box rfl) rfl rfl rfl ?_; rintro _ _ _ ⟨_, rfl, rfl, rfl⟩) | (refine runL_op (st_alloc tok rfl) rfl rfl rfl ?_; rintro _ _ _ ⟨_, rfl, rfl, rfl⟩) | (refine runL_op (st_buildSlice tok rfl rfl rfl rfl rfl rfl rfl) rfl rfl rfl ?_; rintro _ _ _ ⟨_, rfl, rfl, rfl⟩))
  refine run_cond rfl (fun h3 => ?_) (fun h3 => ?_)
  · have h4 : (s.size : Int) - (refNum s).2.1 < (refNum s).1 := by
      have := of_decide_eq_true h3
      rwa [e2] at this
    repeat (first | with_reducible (first | refine run_seq ?_ | refine run_region ?_ | refine runL_nil ?_ | refine run_skip ?_ | refine run_block ?_ | refine run_inBlock ?_) | refine run_exit rfl ?_ | refine runL_q (qt_pev tok rfl) rfl rfl rfl ?_ | refine runL_g rfl rfl (qt_pev tok rfl) rfl rfl rfl rfl rfl ?_ | refine runL_q (ql tok rfl) rfl rfl rfl ?_ | refine runL_g rfl rfl (ql tok rfl) rfl rfl rfl rfl rfl ?_ | (refine runL_op0 (sst tok rfl rfl rfl rfl rfl) ?_; rintro _ _ _ ⟨rfl, rfl, rfl⟩) | (refine runL_op (st_box rfl) rfl rfl rfl ?_; rintro _ _ _ ⟨_, rfl, rfl, rfl⟩) | (refine runL_op (st_alloc tok rfl) rfl rfl rfl ?_; rintro _ _ _ ⟨_, rfl, rfl, rfl⟩) | (refine runL_op (st_buildSlice tok rfl rfl rfl rfl rfl rfl rfl) rfl rfl rfl ?_; rintro _ _ _ ⟨_, rfl, rfl, rfl⟩))
    exact run_ret hC (rs := [.tmp 4, .tmp 5, .tmp 6]) rfl (resT rfl (resT rfl (resT rfl resN))) (fun _ h => h) ⟨by rw [refText, if_neg (by simp [h0]), if_neg h2, if_pos h4]; rfl, rfl, rfl⟩
  have h4 : ¬ (s.size : Int) - (refNum s).2.1 < (refNum s).1 := by
    have := of_decide_eq_false h3
    rwa [e2] at this
  refine run_as 8 (.int .i64 (n : Int)) rfl (by rw [hn]) ?_
  refine run_as 7 (.int .u64 (v : Int)) rfl (by rw [hv]) ?_
  have e3 : IntKind.i64.wrap ((n : Int) + IntKind.i64.wrap (v : Int)) = ((n + v : Nat) : Int) := by
    rw [wrap64_nat (by omega), show (n : Int) + (v : Int) = ((n + v : Nat) : Int) by omega, wrap64_nat (by omega)]
  repeat (first | with_reducible (first | refine run_seq ?_ | refine run_region ?_ | refine runL_nil ?_ | refine run_skip ?_ | refine run_block ?_ | refine run_inBlock ?_) | refine run_exit rfl ?_ | refine runL_q (qt_pev tok rfl) rfl rfl rfl ?_ | refine runL_g rfl rfl (qt_pev tok rfl) rfl rfl rfl rfl rfl ?_ | refine runL_q (ql tok rfl) rfl rfl rfl ?_ | refine runL_g rfl rfl (ql tok rfl) rfl rfl rfl rfl rfl ?_ | (refine runL_op0 (sst tok rfl rfl rfl rfl rfl) ?_; rintro _ _ _ ⟨rfl, rfl, rfl⟩) | (refine runL_op (st_box rfl) rfl rfl rfl ?_; rintro _ _ _ ⟨_, rfl, rfl, rfl⟩) | (refine runL_op (st_alloc tok rfl) rfl rfl rfl ?_; rintro _ _ _ ⟨_, rfl, rfl, rfl⟩) | (refine runL_op (st_buildSlice tok rfl rfl rfl rfl rfl rfl rfl) rfl rfl rfl ?_; rintro _ _ _ ⟨_, rfl, rfl, rfl⟩))
  refine runL_as 47 (.int .i64 ((n + v : Nat) : Int)) rfl (by rw [e3]) ?_
  repeat (first | with_reducible (first | refine run_seq ?_ | refine run_region ?_ | refine runL_nil ?_ | refine run_skip ?_ | refine run_block ?_ | refine run_inBlock ?_) | refine run_exit rfl ?_ | refine runL_q (qt_pev tok rfl) rfl rfl rfl ?_ | refine runL_g rfl rfl (qt_pev tok rfl) rfl rfl rfl rfl rfl ?_ | refine runL_q (ql tok rfl) rfl rfl rfl ?_ | refine runL_g rfl rfl (ql tok rfl) rfl rfl rfl rfl rfl ?_ | (refine runL_op0 (sst tok rfl rfl rfl rfl rfl) ?_; rintro _ _ _ ⟨rfl, rfl, rfl⟩) | (refine runL_op (st_box rfl) rfl rfl rfl ?_; rintro _ _ _ ⟨_, rfl, rfl, rfl⟩) | (refine runL_op (st_alloc tok rfl) rfl rfl rfl ?_; rintro _ _ _ ⟨_, rfl, rfl, rfl⟩) | (refine runL_op (st_buildSlice tok rfl rfl rfl rfl rfl rfl rfl) rfl rfl rfl ?_; rintro _ _ _ ⟨_, rfl, rfl, rfl⟩) | refine runL_q (qt_strMid tok rfl rfl rfl rfl (fun _ => ⟨by omega, by omega⟩)) rfl rfl rfl ?_)
  refine run_ret hC (rs := [.tmp 4, .tmp 5, .tmp 6]) rfl (resT rfl (resT rfl (resT rfl resN))) (fun _ h => h) ⟨?_, rfl, rfl⟩
  rw [refText, if_neg (by simp [h0]), if_neg h2, if_neg h4, e3, hn, hv, show ((n : Int) + (v : Int)).toNat = n + v by omega, Int.toNat_natCast, show (n : Int) + (v : Int) = ((n + v : Nat) : Int) by omega]
  rfl
end Go.Proofs.Ytpjklbkfhgfmnaa
namespace Go.Proofs.Ytpjklbkfhgfmnaa
open Go.Chi

/-! ### the document's names -/
def nameB (c : Int) : Bool := (((decide (c ≥ 97) && decide (c ≤ 122)) || (decide (c ≥ 48) && decide (c ≤ 57))) || c == 47 || c == 46) || c == 45
def nameR (s : ByteArray) : Bool := ((List.range s.size).all fun i => nameB (byte s i)) && decide (s.size ≠ 0)
set_option maxRecDepth 10000 in
set_option maxHeartbeats 4000000 in
theorem name_ok (M : Mem) (L : HL) (s : ByteArray) (hs : s.size < 4611686018427387904) : TrQ Try.prog 69 [.string s] M L (.bool (nameR s)) := by
  refine Tr.intro 43 Try.func69 rfl rfl Try.call69 rfl ?_
  intro C hC hro
  repeat (first | with_reducible (first | refine run_seq ?_ | refine run_region ?_ | refine runL_nil ?_ | refine run_skip ?_ | refine run_block ?_ | refine run_inBlock ?_) | refine run_exit rfl ?_ | refine runL_q (qt_pev tok rfl) rfl rfl rfl ?_ | refine runL_g rfl rfl (qt_pev tok rfl) rfl rfl rfl rfl rfl ?_ | refine runL_q (ql tok rfl) rfl rfl rfl ?_ | refine runL_g rfl rfl (ql tok rfl) rfl rfl rfl rfl rfl ?_ | (refine runL_op0 (sst tok rfl rfl rfl rfl rfl) ?_; rintro _ _ _ ⟨rfl, rfl, rfl⟩) | (refine runL_op (st_box rfl) rfl rfl rfl ?_; rintro _ _ _ ⟨_, rfl, rfl, rfl⟩) | (refine runL_op (st_alloc tok rfl) rfl rfl rfl ?_; rintro _ _ _ ⟨_, rfl, rfl, rfl⟩) | (refine runL_op (st_buildSlice tok rfl rfl rfl rfl rfl rfl rfl) rfl rfl rfl ?_; rintro _ _ _ ⟨_, rfl, rfl, rfl⟩))
  refine run_loopN (fun i σ1 M1 L1 => i ≤ s.size ∧ ((List.range i).all fun i => nameB (byte s i)) = true ∧ σ1 = [(3, .int .i64 (i : Int)), (0, .string s)] ∧ M = M1 ∧ L = L1) s.size [(3, .int .i64 ((0 : Nat) : Int)), (0, .string s)] ?_ ⟨Nat.zero_le _, rfl, rfl, rfl, rfl⟩ (fun j _ _ _ h => h.1) ?_
  · exact ⟨rfl, rfl, trivial⟩
  rintro i _ _ _ ⟨hi, hall, rfl, rfl, rfl⟩ hnext
  repeat (first | with_reducible (first | refine run_seq ?_ | refine run_region ?_ | refine runL_nil ?_ | refine run_skip ?_ | refine run_block ?_ | refine run_inBlock ?_) | refine run_exit rfl ?_ | refine runL_q (qt_pev tok rfl) rfl rfl rfl ?_ | refine runL_g rfl rfl (qt_pev tok rfl) rfl rfl rfl rfl rfl ?_ | refine runL_q (ql tok rfl) rfl rfl rfl ?_ | refine runL_g rfl rfl (ql tok rfl) rfl rfl rfl rfl rfl ?_ | (refine runL_op0 (sst tok rfl rfl rfl rfl rfl) ?_; rintro _ _ _ ⟨rfl, rfl, rfl⟩) | (refine runL_op (st_box rfl) rfl rfl rfl ?_; rintro _ _ _ ⟨_, rfl, rfl, rfl⟩) | (refine runL_op (st_alloc tok rfl) rfl rfl rfl ?_; rintro _ _ _ ⟨_, rfl, rfl, rfl⟩) | (refine runL_op (st_buildSlice tok rfl rfl rfl rfl rfl rfl rfl) rfl rfl rfl ?_; rintro _ _ _ ⟨_, rfl, rfl, rfl⟩))
  refine run_cond rfl (fun h => ?_) (fun h => ?_)
  · have hlt : i < s.size := by simpa using h
    obtain ⟨b, hb, hb'⟩ := byte_at hlt
    repeat (first | with_reducible (first | refine run_seq ?_ | refine run_region ?_ | refine runL_nil ?_ | refine run_skip ?_ | refine run_block ?_ | refine run_inBlock ?_) | refine run_exit rfl ?_ | refine runL_q (qt_pev tok rfl) rfl rfl rfl ?_ | refine runL_g rfl rfl (qt_pev tok rfl) rfl rfl rfl rfl rfl ?_ | refine runL_q (ql tok rfl) rfl rfl rfl ?_ | refine runL_g rfl rfl (ql tok rfl) rfl rfl rfl rfl rfl ?_ | (refine runL_op0 (sst tok rfl rfl rfl rfl rfl) ?_; rintro _ _ _ ⟨rfl, rfl, rfl⟩) | (refine runL_op (st_box rfl) rfl rfl rfl ?_; rintro _ _ _ ⟨_, rfl, rfl, rfl⟩) | (refine runL_op (st_alloc tok rfl) rfl rfl rfl ?_; rintro _ _ _ ⟨_, rfl, rfl, rfl⟩) | (refine runL_op (st_buildSlice tok rfl rfl rfl rfl rfl rfl rfl) rfl rfl rfl ?_; rintro _ _ _ ⟨_, rfl, rfl, rfl⟩) | refine runL_q (qt_strIndex tok rfl rfl rfl (fun _ => hb)) rfl rfl rfl ?_)
    refine run_cond rfl (fun h2 => ?_) (fun h2 => ?_)
    · have h3 : nameB (byte s i) = false := by
        rw [hb']
        have h2' : (!nameB (b.toNat : Int)) = true := h2
        simpa using h2'
      repeat (first | with_reducible (first | refine run_seq ?_ | refine run_region ?_ | refine runL_nil ?_ | refine run_skip ?_ | refine run_block ?_ | refine run_inBlock ?_) | refine run_exit rfl ?_ | refine runL_q (qt_pev tok rfl) rfl rfl rfl ?_ | refine runL_g rfl rfl (qt_pev tok rfl) rfl rfl rfl rfl rfl ?_ | refine runL_q (ql tok rfl) rfl rfl rfl ?_ | refine runL_g rfl rfl (ql tok rfl) rfl rfl rfl rfl rfl ?_ | (refine runL_op0 (sst tok rfl rfl rfl rfl rfl) ?_; rintro _ _ _ ⟨rfl, rfl, rfl⟩) | (refine runL_op (st_box rfl) rfl rfl rfl ?_; rintro _ _ _ ⟨_, rfl, rfl, rfl⟩) | (refine runL_op (st_alloc tok rfl) rfl rfl rfl ?_; rintro _ _ _ ⟨_, rfl, rfl, rfl⟩) | (refine runL_op (st_buildSlice tok rfl rfl rfl rfl rfl rfl rfl) rfl rfl rfl ?_; rintro _ _ _ ⟨_, rfl, rfl, rfl⟩))
      refine run_ret hC (rs := [.tmp 2]) rfl (resT rfl resN) (fun _ h => h) ⟨?_, rfl, rfl⟩
      have : ((List.range s.size).all fun i => nameB (byte s i)) = false := by
        rw [List.all_eq_false]
        exact ⟨i, List.mem_range.2 hlt, by simp [h3]⟩
      rw [nameR, this]; rfl
    · have h3 : nameB (byte s i) = true := by
        rw [hb']
        have h2' : (!nameB (b.toNat : Int)) = false := h2
        simpa using h2'
      repeat (first | with_reducible (first | refine run_seq ?_ | refine run_region ?_ | refine runL_nil ?_ | refine run_skip ?_ | refine run_block ?_ | refine run_inBlock ?_) | refine run_exit rfl ?_ | refine runL_q (qt_pev tok rfl) rfl rfl rfl ?_ | refine runL_g rfl rfl (qt_pev tok rfl) rfl rfl rfl rfl rfl ?_ | refine runL_q (ql tok rfl) rfl rfl rfl ?_ | refine runL_g rfl rfl (ql tok rfl) rfl rfl rfl rfl rfl ?_ | (refine runL_op0 (sst tok rfl rfl rfl rfl rfl) ?_; rintro _ _ _ ⟨rfl, rfl, rfl⟩) | (refine runL_op (st_box rfl) rfl rfl rfl ?_; rintro _ _ _ ⟨_, rfl, rfl, rfl⟩) | (refine runL_op (st_alloc tok rfl) rfl rfl rfl ?_; rintro _ _ _ ⟨_, rfl, rfl, rfl⟩) | (refine runL_op (st_buildSlice tok rfl rfl rfl rfl rfl rfl rfl) rfl rfl rfl ?_; rintro _ _ _ ⟨_, rfl, rfl, rfl⟩))
      exact run_sub' (hnext _ _ _ ⟨hlt, by rw [List.range_succ, List.all_append, hall]; simp [h3], rfl, rfl, rfl⟩) ⟨lk_succ rfl (by omega), rfl, trivial⟩
  · have hge : i = s.size := by simp at h; omega
    subst hge
    repeat (first | with_reducible (first | refine run_seq ?_ | refine run_region ?_ | refine runL_nil ?_ | refine run_skip ?_ | refine run_block ?_ | refine run_inBlock ?_) | refine run_exit rfl ?_ | refine runL_q (qt_pev tok rfl) rfl rfl rfl ?_ | refine runL_g rfl rfl (qt_pev tok rfl) rfl rfl rfl rfl rfl ?_ | refine runL_q (ql tok rfl) rfl rfl rfl ?_ | refine runL_g rfl rfl (ql tok rfl) rfl rfl rfl rfl rfl ?_ | (refine runL_op0 (sst tok rfl rfl rfl rfl rfl) ?_; rintro _ _ _ ⟨rfl, rfl, rfl⟩) | (refine runL_op (st_box rfl) rfl rfl rfl ?_; rintro _ _ _ ⟨_, rfl, rfl, rfl⟩) | (refine runL_op (st_alloc tok rfl) rfl rfl rfl ?_; rintro _ _ _ ⟨_, rfl, rfl, rfl⟩) | (refine runL_op (st_buildSlice tok rfl rfl rfl rfl rfl rfl rfl) rfl rfl rfl ?_; rintro _ _ _ ⟨_, rfl, rfl, rfl⟩))
    refine run_ret hC (rs := [.tmp 2]) rfl (resT rfl resN) (fun _ h => h) ⟨?_, rfl, rfl⟩
    rw [nameR, hall, empty_beq]
    by_cases h0 : s.size = 0
    · simp [h0]; rfl
    · simp [h0]; rfl
theorem abc_all : ∀ n : Fin 256, nameB ((n.val : Nat) : Int) = true → n.val < 128 ∧ inAbc ((n.val : Nat) : Int) = true := by decide +kernel
theorem nameB_imp {b : UInt8} (h : nameB (b.toNat : Int) = true) : b.toNat < 128 ∧ inAbc (b.toNat : Int) = true := abc_all ⟨b.toNat, b.toNat_lt⟩ h
theorem nameAt {s : ByteArray} (h : ((List.range s.size).all fun i => nameB (byte s i)) = true) : ∀ f p, namedAt s f p = true
  | 0, _ => rfl
  | f + 1, p => by
    rw [namedAt]
    split
    · rename_i hp
      have hb := List.all_eq_true.1 h p (List.mem_range.2 hp)
      have hx : byte s p = ((s[p]'hp).toNat : Int) := by rw [byte, getElem?_pos s p hp]; rfl
      rw [hx] at hb
      obtain ⟨h1, h2⟩ := nameB_imp hb
      rw [decode_ascii s p hp h1, h2]
      exact nameAt h f _
    · rfl
theorem nameR_imp {s : ByteArray} (h : nameR s = true) : namedR s = true := by
  rw [nameR, Bool.and_eq_true] at h
  rw [namedR, nameAt h.1, h.2]; rfl

/-! ### the document's terms -/
def headR (s : ByteArray) : Int × Int × Int :=
  if s.size = 0 then (0, 0, 6) else
  if byte s 0 = 100 then (IntKind.i64.wrap (1 + (refText (rest1 s) 1024).2.1), 0, (refText (rest1 s) 1024).2.2) else
  if byte s 0 = 97 then (if (refText (rest1 s) 32).2.2 = 0 ∧ nameR (refText (rest1 s) 32).1 = false then (0, 0, 7) else (IntKind.i64.wrap (1 + (refText (rest1 s) 32).2.1), 0, (refText (rest1 s) 32).2.2)) else
  if byte s 0 = 114 then (if (refNum (rest1 s)).2.2 = 0 ∧ 32 < (refNum (rest1 s)).1 then (0, 0, 5) else (IntKind.i64.wrap (1 + (refNum (rest1 s)).2.1), IntKind.i64.wrap (refNum (rest1 s)).1, (refNum (rest1 s)).2.2)) else
  if byte s 0 = 104 then (1, 1, 0) else
  if byte s 0 = 109 then (1, 2, 0) else
  if byte s 0 = 115 then (1, 3, 0) else (0, 0, 7)
theorem headR_imp {s : ByteArray} (hs : s.size < 4611686018427387904) (h : (headR s).2.2 = 0) : ∃ n p : Nat, headR s = ((n : Int), (p : Int), 0) ∧ frontR s = .ok (n, p) := by
  have hr := rest1_size (s := s)
  unfold headR at h ⊢
  unfold frontR
  split at h
  · cases h
  rename_i h0
  rw [if_neg h0, if_neg h0]
  split at h
  · rename_i h1
    rw [if_pos h1, if_pos h1]
    have hi := refText_imp h
    obtain ⟨m, hm, _, _⟩ := textR_len (rest1 s) 1024 (by rw [hi]; exact h)
    rw [hi] at hm ⊢
    rw [h, hm, one_wrap (by omega)]
    exact ⟨1 + m, 0, rfl, by simp; omega⟩
  rename_i h1
  rw [if_neg h1, if_neg h1]
  split at h
  · rename_i h2
    rw [if_pos h2, if_pos h2]
    split at h
    · cases h
    rename_i h3
    have hi := refText_imp h
    obtain ⟨m, hm, _, _⟩ := textR_len (rest1 s) 32 (by rw [hi]; exact h)
    have h4 : nameR (refText (rest1 s) 32).1 = true := by
      cases e : nameR (refText (rest1 s) 32).1 with
      | true => rfl
      | false => exact absurd ⟨h, e⟩ h3
    have h5 := nameR_imp h4
    rw [if_neg h3]
    rw [hi] at hm ⊢
    rw [h5, h, hm, one_wrap (by omega)]
    exact ⟨1 + m, 0, rfl, by simp; omega⟩
  rename_i h2
  rw [if_neg h2, if_neg h2]
  split at h
  · rename_i h3
    rw [if_pos h3, if_pos h3]
    split at h
    · cases h
    rename_i h4
    have hi := refNum_imp h
    obtain ⟨m, hm, _, _⟩ := numR_len (rest1 s) (by rw [hi]; exact h)
    have hv0 := numR_pos (rest1 s)
    rw [if_neg h4]
    rw [hi] at hm hv0 ⊢
    have h5 : ¬ 32 < (refNum (rest1 s)).1 := fun h5 => h4 ⟨h, h5⟩
    obtain ⟨v, hv⟩ : ∃ v : Nat, (refNum (rest1 s)).1 = v := ⟨(refNum (rest1 s)).1.toNat, by omega⟩
    rw [h, hm, hv, one_wrap (by omega), wrap64_nat (by omega)]
    rw [hv] at h5
    exact ⟨1 + m, v, rfl, by simp [h5]; omega⟩
  rename_i h3
  rw [if_neg h3, if_neg h3]
  split at h
  · rename_i h4; rw [if_pos h4, if_pos h4]; exact ⟨1, 1, rfl, rfl⟩
  rename_i h4
  rw [if_neg h4, if_neg h4]
  split at h
  · rename_i h5; rw [if_pos h5, if_pos h5]; exact ⟨1, 2, rfl, rfl⟩
  rename_i h5
  rw [if_neg h5, if_neg h5]
  split at h
  · rename_i h6; rw [if_pos h6, if_pos h6]; exact ⟨1, 3, rfl, rfl⟩
  · cases h
theorem refText_size (s : ByteArray) (most : Nat) : (refText s most).1.size ≤ s.size := by
  unfold refText
  repeat' split
  all_goals first | exact Nat.zero_le _ | (simp; omega)
set_option maxRecDepth 10000 in
set_option maxHeartbeats 8000000 in
theorem head_ok (M : Mem) (L : HL) (s : ByteArray) (hs : s.size < 4611686018427387904) : TrQ Try.prog 65 [.string s] M L (.tuple ⟨[.int .i64 (headR s).1, .int .i64 (headR s).2.1, .int .i64 (headR s).2.2]⟩) := by
  refine Tr.intro 76 Try.func65 rfl rfl Try.call65 rfl ?_
  intro C hC hro
  repeat (first | with_reducible (first | refine run_seq ?_ | refine run_region ?_ | refine runL_nil ?_ | refine run_skip ?_ | refine run_block ?_ | refine run_inBlock ?_) | refine run_exit rfl ?_ | refine runL_q (qt_pev tok rfl) rfl rfl rfl ?_ | refine runL_g rfl rfl (qt_pev tok rfl) rfl rfl rfl rfl rfl ?_ | refine runL_q (ql tok rfl) rfl rfl rfl ?_ | refine runL_g rfl rfl (ql tok rfl) rfl rfl rfl rfl rfl ?_ | (refine runL_op0 (sst tok rfl rfl rfl rfl rfl) ?_; rintro _ _ _ ⟨rfl, rfl, rfl⟩) | (refine runL_op (st_box rfl) rfl rfl rfl ?_; rintro _ _ _ ⟨_, rfl, rfl, rfl⟩) | (refine runL_op (st_alloc tok rfl) rfl rfl rfl ?_; rintro _ _ _ ⟨_, rfl, rfl, rfl⟩) | (refine runL_op (st_buildSlice tok rfl rfl rfl rfl rfl rfl rfl) rfl rfl rfl ?_; rintro _ _ _ ⟨_, rfl, rfl, rfl⟩))
  refine run_cond rfl (fun h => ?_) (fun h => ?_)
  · repeat (first | with_reducible (first | refine run_seq ?_ | refine run_region ?_ | refine runL_nil ?_ | refine run_skip ?_ | refine run_block ?_ | refine run_inBlock ?_) | refine run_exit rfl ?_ | refine runL_q (qt_pev tok rfl) rfl rfl rfl ?_ | refine runL_g rfl rfl (qt_pev tok rfl) rfl rfl rfl rfl rfl ?_ | refine runL_q (ql tok rfl) rfl rfl rfl ?_ | refine runL_g rfl rfl (ql tok rfl) rfl rfl rfl rfl rfl ?_ | (refine runL_op0 (sst tok rfl rfl rfl rfl rfl) ?_; rintro _ _ _ ⟨rfl, rfl, rfl⟩) | (refine runL_op (st_box rfl) rfl rfl rfl ?_; rintro _ _ _ ⟨_, rfl, rfl, rfl⟩) | (refine runL_op (st_alloc tok rfl) rfl rfl rfl ?_; rintro _ _ _ ⟨_, rfl, rfl, rfl⟩) | (refine runL_op (st_buildSlice tok rfl rfl rfl rfl rfl rfl rfl) rfl rfl rfl ?_; rintro _ _ _ ⟨_, rfl, rfl, rfl⟩))
    have h0 : s.size = 0 := by have := eq_of_beq h; omega
    exact run_ret hC (rs := [.tmp 2, .tmp 3, .tmp 4]) rfl (resT rfl (resT rfl (resT rfl resN))) (fun _ h => h) ⟨by rw [headR, if_pos h0]; rfl, rfl, rfl⟩
  have h : ¬ s.size = 0 := by intro e; rw [e] at h; cases h
  have hp : 0 < s.size := by omega
  obtain ⟨b0, hb0, hb0'⟩ := byte_at hp
  have hr : (rest1 s).size < 4611686018427387904 := by rw [rest1_size]; omega
  repeat (first | with_reducible (first | refine run_seq ?_ | refine run_region ?_ | refine runL_nil ?_ | refine run_skip ?_ | refine run_block ?_ | refine run_inBlock ?_) | refine run_exit rfl ?_ | refine runL_q (qt_pev tok rfl) rfl rfl rfl ?_ | refine runL_g rfl rfl (qt_pev tok rfl) rfl rfl rfl rfl rfl ?_ | refine runL_q (ql tok rfl) rfl rfl rfl ?_ | refine runL_g rfl rfl (ql tok rfl) rfl rfl rfl rfl rfl ?_ | (refine runL_op0 (sst tok rfl rfl rfl rfl rfl) ?_; rintro _ _ _ ⟨rfl, rfl, rfl⟩) | (refine runL_op (st_box rfl) rfl rfl rfl ?_; rintro _ _ _ ⟨_, rfl, rfl, rfl⟩) | (refine runL_op (st_alloc tok rfl) rfl rfl rfl ?_; rintro _ _ _ ⟨_, rfl, rfl, rfl⟩) | (refine runL_op (st_buildSlice tok rfl rfl rfl rfl rfl rfl rfl) rfl rfl rfl ?_; rintro _ _ _ ⟨_, rfl, rfl, rfl⟩) | refine runL_q (qt_strIndex (n := 0) tok rfl rfl rfl (fun _ => hb0)) rfl rfl rfl ?_)
  refine run_cond rfl (fun h1 => ?_) (fun h1 => ?_)
  · have hb1 : byte s 0 = 100 := byte_eq hb0' h1
    repeat (first | with_reducible (first | refine run_seq ?_ | refine run_region ?_ | refine runL_nil ?_ | refine run_skip ?_ | refine run_block ?_ | refine run_inBlock ?_) | refine run_exit rfl ?_ | refine runL_q (qt_pev tok rfl) rfl rfl rfl ?_ | refine runL_g rfl rfl (qt_pev tok rfl) rfl rfl rfl rfl rfl ?_ | refine runL_q (ql tok rfl) rfl rfl rfl ?_ | refine runL_g rfl rfl (ql tok rfl) rfl rfl rfl rfl rfl ?_ | (refine runL_op0 (sst tok rfl rfl rfl rfl rfl) ?_; rintro _ _ _ ⟨rfl, rfl, rfl⟩) | (refine runL_op (st_box rfl) rfl rfl rfl ?_; rintro _ _ _ ⟨_, rfl, rfl, rfl⟩) | (refine runL_op (st_alloc tok rfl) rfl rfl rfl ?_; rintro _ _ _ ⟨_, rfl, rfl, rfl⟩) | (refine runL_op (st_buildSlice tok rfl rfl rfl rfl rfl rfl rfl) rfl rfl rfl ?_; rintro _ _ _ ⟨_, rfl, rfl, rfl⟩) | refine runL_q (qt_strLo (n := 1) tok rfl rfl rfl (fun _ => hp)) rfl rfl rfl ?_ | refine runL_q (qt_callF rfl (fun _ => refText_ok _ _ (rest1 s) 1024 hr (by decide))) rfl rfl rfl ?_)
    exact run_ret hC (rs := [.tmp 2, .tmp 3, .tmp 4]) rfl (resT rfl (resT rfl (resT rfl resN))) (fun _ h => h) ⟨by rw [headR, if_neg h, if_pos hb1]; rfl, rfl, rfl⟩
  have hb1 : byte s 0 ≠ 100 := byte_eq hb0' h1
  repeat (first | with_reducible (first | refine run_seq ?_ | refine run_region ?_ | refine runL_nil ?_ | refine run_skip ?_ | refine run_block ?_ | refine run_inBlock ?_) | refine run_exit rfl ?_ | refine runL_q (qt_pev tok rfl) rfl rfl rfl ?_ | refine runL_g rfl rfl (qt_pev tok rfl) rfl rfl rfl rfl rfl ?_ | refine runL_q (ql tok rfl) rfl rfl rfl ?_ | refine runL_g rfl rfl (ql tok rfl) rfl rfl rfl rfl rfl ?_ | (refine runL_op0 (sst tok rfl rfl rfl rfl rfl) ?_; rintro _ _ _ ⟨rfl, rfl, rfl⟩) | (refine runL_op (st_box rfl) rfl rfl rfl ?_; rintro _ _ _ ⟨_, rfl, rfl, rfl⟩) | (refine runL_op (st_alloc tok rfl) rfl rfl rfl ?_; rintro _ _ _ ⟨_, rfl, rfl, rfl⟩) | (refine runL_op (st_buildSlice tok rfl rfl rfl rfl rfl rfl rfl) rfl rfl rfl ?_; rintro _ _ _ ⟨_, rfl, rfl, rfl⟩))
  refine run_cond rfl (fun h1 => ?_) (fun h1 => ?_)
  · have hb2 : byte s 0 = 97 := byte_eq hb0' h1
    have hts := refText_size (rest1 s) 32
    repeat (first | with_reducible (first | refine run_seq ?_ | refine run_region ?_ | refine runL_nil ?_ | refine run_skip ?_ | refine run_block ?_ | refine run_inBlock ?_) | refine run_exit rfl ?_ | refine runL_q (qt_pev tok rfl) rfl rfl rfl ?_ | refine runL_g rfl rfl (qt_pev tok rfl) rfl rfl rfl rfl rfl ?_ | refine runL_q (ql tok rfl) rfl rfl rfl ?_ | refine runL_g rfl rfl (ql tok rfl) rfl rfl rfl rfl rfl ?_ | (refine runL_op0 (sst tok rfl rfl rfl rfl rfl) ?_; rintro _ _ _ ⟨rfl, rfl, rfl⟩) | (refine runL_op (st_box rfl) rfl rfl rfl ?_; rintro _ _ _ ⟨_, rfl, rfl, rfl⟩) | (refine runL_op (st_alloc tok rfl) rfl rfl rfl ?_; rintro _ _ _ ⟨_, rfl, rfl, rfl⟩) | (refine runL_op (st_buildSlice tok rfl rfl rfl rfl rfl rfl rfl) rfl rfl rfl ?_; rintro _ _ _ ⟨_, rfl, rfl, rfl⟩) | refine runL_q (qt_strLo (n := 1) tok rfl rfl rfl (fun _ => hp)) rfl rfl rfl ?_ | refine runL_q (qt_callF rfl (fun _ => refText_ok _ _ (rest1 s) 32 hr (by decide))) rfl rfl rfl ?_ | refine runL_g rfl rfl (qt_callF rfl (fun _ => name_ok _ _ _ (by omega))) rfl rfl rfl rfl rfl ?_)
    refine run_cond rfl (fun h3 => ?_) (fun h3 => ?_)
    · have h4 : (refText (rest1 s) 32).2.2 = 0 ∧ nameR (refText (rest1 s) 32).1 = false := by simpa using h3
      repeat (first | with_reducible (first | refine run_seq ?_ | refine run_region ?_ | refine runL_nil ?_ | refine run_skip ?_ | refine run_block ?_ | refine run_inBlock ?_) | refine run_exit rfl ?_ | refine runL_q (qt_pev tok rfl) rfl rfl rfl ?_ | refine runL_g rfl rfl (qt_pev tok rfl) rfl rfl rfl rfl rfl ?_ | refine runL_q (ql tok rfl) rfl rfl rfl ?_ | refine runL_g rfl rfl (ql tok rfl) rfl rfl rfl rfl rfl ?_ | (refine runL_op0 (sst tok rfl rfl rfl rfl rfl) ?_; rintro _ _ _ ⟨rfl, rfl, rfl⟩) | (refine runL_op (st_box rfl) rfl rfl rfl ?_; rintro _ _ _ ⟨_, rfl, rfl, rfl⟩) | (refine runL_op (st_alloc tok rfl) rfl rfl rfl ?_; rintro _ _ _ ⟨_, rfl, rfl, rfl⟩) | (refine runL_op (st_buildSlice tok rfl rfl rfl rfl rfl rfl rfl) rfl rfl rfl ?_; rintro _ _ _ ⟨_, rfl, rfl, rfl⟩))
      exact run_ret hC (rs := [.tmp 2, .tmp 3, .tmp 4]) rfl (resT rfl (resT rfl (resT rfl resN))) (fun _ h => h) ⟨by rw [headR, if_neg h, if_neg hb1, if_pos hb2, if_pos h4]; rfl, rfl, rfl⟩
    · have h4 : ¬ ((refText (rest1 s) 32).2.2 = 0 ∧ nameR (refText (rest1 s) 32).1 = false) := by simpa using h3
      repeat (first | with_reducible (first | refine run_seq ?_ | refine run_region ?_ | refine runL_nil ?_ | refine run_skip ?_ | refine run_block ?_ | refine run_inBlock ?_) | refine run_exit rfl ?_ | refine runL_q (qt_pev tok rfl) rfl rfl rfl ?_ | refine runL_g rfl rfl (qt_pev tok rfl) rfl rfl rfl rfl rfl ?_ | refine runL_q (ql tok rfl) rfl rfl rfl ?_ | refine runL_g rfl rfl (ql tok rfl) rfl rfl rfl rfl rfl ?_ | (refine runL_op0 (sst tok rfl rfl rfl rfl rfl) ?_; rintro _ _ _ ⟨rfl, rfl, rfl⟩) | (refine runL_op (st_box rfl) rfl rfl rfl ?_; rintro _ _ _ ⟨_, rfl, rfl, rfl⟩) | (refine runL_op (st_alloc tok rfl) rfl rfl rfl ?_; rintro _ _ _ ⟨_, rfl, rfl, rfl⟩) | (refine runL_op (st_buildSlice tok rfl rfl rfl rfl rfl rfl rfl) rfl rfl rfl ?_; rintro _ _ _ ⟨_, rfl, rfl, rfl⟩))
      exact run_ret hC (rs := [.tmp 2, .tmp 3, .tmp 4]) rfl (resT rfl (resT rfl (resT rfl resN))) (fun _ h => h) ⟨by rw [headR, if_neg h, if_neg hb1, if_pos hb2, if_neg h4]; rfl, rfl, rfl⟩
  have hb2 : byte s 0 ≠ 97 := byte_eq hb0' h1
  repeat (first | with_reducible (first | refine run_seq ?_ | refine run_region ?_ | refine runL_nil ?_ | refine run_skip ?_ | refine run_block ?_ | refine run_inBlock ?_) | refine run_exit rfl ?_ | refine runL_q (qt_pev tok rfl) rfl rfl rfl ?_ | refine runL_g rfl rfl (qt_pev tok rfl) rfl rfl rfl rfl rfl ?_ | refine runL_q (ql tok rfl) rfl rfl rfl ?_ | refine runL_g rfl rfl (ql tok rfl) rfl rfl rfl rfl rfl ?_ | (refine runL_op0 (sst tok rfl rfl rfl rfl rfl) ?_; rintro _ _ _ ⟨rfl, rfl, rfl⟩) | (refine runL_op (st_box rfl) rfl rfl rfl ?_; rintro _ _ _ ⟨_, rfl, rfl, rfl⟩) | (refine runL_op (st_alloc tok rfl) rfl rfl rfl ?_; rintro _ _ _ ⟨_, rfl, rfl, rfl⟩) | (refine runL_op (st_buildSlice tok rfl rfl rfl rfl rfl rfl rfl) rfl rfl rfl ?_; rintro _ _ _ ⟨_, rfl, rfl, rfl⟩))
  refine run_cond rfl (fun h1 => ?_) (fun h1 => ?_)
  · have hb3 : byte s 0 = 114 := byte_eq hb0' h1
    repeat (first | with_reducible (first | refine run_seq ?_ | refine run_region ?_ | refine runL_nil ?_ | refine run_skip ?_ | refine run_block ?_ | refine run_inBlock ?_) | refine run_exit rfl ?_ | refine runL_q (qt_pev tok rfl) rfl rfl rfl ?_ | refine runL_g rfl rfl (qt_pev tok rfl) rfl rfl rfl rfl rfl ?_ | refine runL_q (ql tok rfl) rfl rfl rfl ?_ | refine runL_g rfl rfl (ql tok rfl) rfl rfl rfl rfl rfl ?_ | (refine runL_op0 (sst tok rfl rfl rfl rfl rfl) ?_; rintro _ _ _ ⟨rfl, rfl, rfl⟩) | (refine runL_op (st_box rfl) rfl rfl rfl ?_; rintro _ _ _ ⟨_, rfl, rfl, rfl⟩) | (refine runL_op (st_alloc tok rfl) rfl rfl rfl ?_; rintro _ _ _ ⟨_, rfl, rfl, rfl⟩) | (refine runL_op (st_buildSlice tok rfl rfl rfl rfl rfl rfl rfl) rfl rfl rfl ?_; rintro _ _ _ ⟨_, rfl, rfl, rfl⟩) | refine runL_q (qt_strLo (n := 1) tok rfl rfl rfl (fun _ => hp)) rfl rfl rfl ?_ | refine runL_q (qt_callF rfl (fun _ => refNum_ok _ _ (rest1 s))) rfl rfl rfl ?_)
    refine run_cond rfl (fun h3 => ?_) (fun h3 => ?_)
    · have h4 : (refNum (rest1 s)).2.2 = 0 ∧ 32 < (refNum (rest1 s)).1 := by simpa using h3
      repeat (first | with_reducible (first | refine run_seq ?_ | refine run_region ?_ | refine runL_nil ?_ | refine run_skip ?_ | refine run_block ?_ | refine run_inBlock ?_) | refine run_exit rfl ?_ | refine runL_q (qt_pev tok rfl) rfl rfl rfl ?_ | refine runL_g rfl rfl (qt_pev tok rfl) rfl rfl rfl rfl rfl ?_ | refine runL_q (ql tok rfl) rfl rfl rfl ?_ | refine runL_g rfl rfl (ql tok rfl) rfl rfl rfl rfl rfl ?_ | (refine runL_op0 (sst tok rfl rfl rfl rfl rfl) ?_; rintro _ _ _ ⟨rfl, rfl, rfl⟩) | (refine runL_op (st_box rfl) rfl rfl rfl ?_; rintro _ _ _ ⟨_, rfl, rfl, rfl⟩) | (refine runL_op (st_alloc tok rfl) rfl rfl rfl ?_; rintro _ _ _ ⟨_, rfl, rfl, rfl⟩) | (refine runL_op (st_buildSlice tok rfl rfl rfl rfl rfl rfl rfl) rfl rfl rfl ?_; rintro _ _ _ ⟨_, rfl, rfl, rfl⟩))
      exact run_ret hC (rs := [.tmp 2, .tmp 3, .tmp 4]) rfl (resT rfl (resT rfl (resT rfl resN))) (fun _ h => h) ⟨by rw [headR, if_neg h, if_neg hb1, if_neg hb2, if_pos hb3, if_pos h4]; rfl, rfl, rfl⟩
    · have h4 : ¬ ((refNum (rest1 s)).2.2 = 0 ∧ 32 < (refNum (rest1 s)).1) := by simpa using h3
      repeat (first | with_reducible (first | refine run_seq ?_ | refine run_region ?_ | refine runL_nil ?_ | refine run_skip ?_ | refine run_block ?_ | refine run_inBlock ?_) | refine run_exit rfl ?_ | refine runL_q (qt_pev tok rfl) rfl rfl rfl ?_ | refine runL_g rfl rfl (qt_pev tok rfl) rfl rfl rfl rfl rfl ?_ | refine runL_q (ql tok rfl) rfl rfl rfl ?_ | refine runL_g rfl rfl (ql tok rfl) rfl rfl rfl rfl rfl ?_ | (refine runL_op0 (sst tok rfl rfl rfl rfl rfl) ?_; rintro _ _ _ ⟨rfl, rfl, rfl⟩) | (refine runL_op (st_box rfl) rfl rfl rfl ?_; rintro _ _ _ ⟨_, rfl, rfl, rfl⟩) | (refine runL_op (st_alloc tok rfl) rfl rfl rfl ?_; rintro _ _ _ ⟨_, rfl, rfl, rfl⟩) | (refine runL_op (st_buildSlice tok rfl rfl rfl rfl rfl rfl rfl) rfl rfl rfl ?_; rintro _ _ _ ⟨_, rfl, rfl, rfl⟩))
      exact run_ret hC (rs := [.tmp 2, .tmp 3, .tmp 4]) rfl (resT rfl (resT rfl (resT rfl resN))) (fun _ h => h) ⟨by rw [headR, if_neg h, if_neg hb1, if_neg hb2, if_pos hb3, if_neg h4]; rfl, rfl, rfl⟩
  have hb3 : byte s 0 ≠ 114 := byte_eq hb0' h1
  repeat (first | with_reducible (first | refine run_seq ?_ | refine run_region ?_ | refine runL_nil ?_ | refine run_skip ?_ | refine run_block ?_ | refine run_inBlock ?_) | refine run_exit rfl ?_ | refine runL_q (qt_pev tok rfl) rfl rfl rfl ?_ | refine runL_g rfl rfl (qt_pev tok rfl) rfl rfl rfl rfl rfl ?_ | refine runL_q (ql tok rfl) rfl rfl rfl ?_ | refine runL_g rfl rfl (ql tok rfl) rfl rfl rfl rfl rfl ?_ | (refine runL_op0 (sst tok rfl rfl rfl rfl rfl) ?_; rintro _ _ _ ⟨rfl, rfl, rfl⟩) | (refine runL_op (st_box rfl) rfl rfl rfl ?_; rintro _ _ _ ⟨_, rfl, rfl, rfl⟩) | (refine runL_op (st_alloc tok rfl) rfl rfl rfl ?_; rintro _ _ _ ⟨_, rfl, rfl, rfl⟩) | (refine runL_op (st_buildSlice tok rfl rfl rfl rfl rfl rfl rfl) rfl rfl rfl ?_; rintro _ _ _ ⟨_, rfl, rfl, rfl⟩))
  refine run_cond rfl (fun h1 => ?_) (fun h1 => ?_)
  · have hb4 : byte s 0 = 104 := byte_eq hb0' h1
    repeat (first | with_reducible (first | refine run_seq ?_ | refine run_region ?_ | refine runL_nil ?_ | refine run_skip ?_ | refine run_block ?_ | refine run_inBlock ?_) | refine run_exit rfl ?_ | refine runL_q (qt_pev tok rfl) rfl rfl rfl ?_ | refine runL_g rfl rfl (qt_pev tok rfl) rfl rfl rfl rfl rfl ?_ | refine runL_q (ql tok rfl) rfl rfl rfl ?_ | refine runL_g rfl rfl (ql tok rfl) rfl rfl rfl rfl rfl ?_ | (refine runL_op0 (sst tok rfl rfl rfl rfl rfl) ?_; rintro _ _ _ ⟨rfl, rfl, rfl⟩) | (refine runL_op (st_box rfl) rfl rfl rfl ?_; rintro _ _ _ ⟨_, rfl, rfl, rfl⟩) | (refine runL_op (st_alloc tok rfl) rfl rfl rfl ?_; rintro _ _ _ ⟨_, rfl, rfl, rfl⟩) | (refine runL_op (st_buildSlice tok rfl rfl rfl rfl rfl rfl rfl) rfl rfl rfl ?_; rintro _ _ _ ⟨_, rfl, rfl, rfl⟩))
    exact run_ret hC (rs := [.tmp 2, .tmp 3, .tmp 4]) rfl (resT rfl (resT rfl (resT rfl resN))) (fun _ h => h) ⟨by rw [headR, if_neg h, if_neg hb1, if_neg hb2, if_neg hb3, if_pos hb4]; rfl, rfl, rfl⟩
  have hb4 : byte s 0 ≠ 104 := byte_eq hb0' h1
  repeat (first | with_reducible (first | refine run_seq ?_ | refine run_region ?_ | refine runL_nil ?_ | refine run_skip ?_ | refine run_block ?_ | refine run_inBlock ?_) | refine run_exit rfl ?_ | refine runL_q (qt_pev tok rfl) rfl rfl rfl ?_ | refine runL_g rfl rfl (qt_pev tok rfl) rfl rfl rfl rfl rfl ?_ | refine runL_q (ql tok rfl) rfl rfl rfl ?_ | refine runL_g rfl rfl (ql tok rfl) rfl rfl rfl rfl rfl ?_ | (refine runL_op0 (sst tok rfl rfl rfl rfl rfl) ?_; rintro _ _ _ ⟨rfl, rfl, rfl⟩) | (refine runL_op (st_box rfl) rfl rfl rfl ?_; rintro _ _ _ ⟨_, rfl, rfl, rfl⟩) | (refine runL_op (st_alloc tok rfl) rfl rfl rfl ?_; rintro _ _ _ ⟨_, rfl, rfl, rfl⟩) | (refine runL_op (st_buildSlice tok rfl rfl rfl rfl rfl rfl rfl) rfl rfl rfl ?_; rintro _ _ _ ⟨_, rfl, rfl, rfl⟩))
  refine run_cond rfl (fun h1 => ?_) (fun h1 => ?_)
  · have hb5 : byte s 0 = 109 := byte_eq hb0' h1
    repeat (first | with_reducible (first | refine run_seq ?_ | refine run_region ?_ | refine runL_nil ?_ | refine run_skip ?_ | refine run_block ?_ | refine run_inBlock ?_) | refine run_exit rfl ?_ | refine runL_q (qt_pev tok rfl) rfl rfl rfl ?_ | refine runL_g rfl rfl (qt_pev tok rfl) rfl rfl rfl rfl rfl ?_ | refine runL_q (ql tok rfl) rfl rfl rfl ?_ | refine runL_g rfl rfl (ql tok rfl) rfl rfl rfl rfl rfl ?_ | (refine runL_op0 (sst tok rfl rfl rfl rfl rfl) ?_; rintro _ _ _ ⟨rfl, rfl, rfl⟩) | (refine runL_op (st_box rfl) rfl rfl rfl ?_; rintro _ _ _ ⟨_, rfl, rfl, rfl⟩) | (refine runL_op (st_alloc tok rfl) rfl rfl rfl ?_; rintro _ _ _ ⟨_, rfl, rfl, rfl⟩) | (refine runL_op (st_buildSlice tok rfl rfl rfl rfl rfl rfl rfl) rfl rfl rfl ?_; rintro _ _ _ ⟨_, rfl, rfl, rfl⟩))
    exact run_ret hC (rs := [.tmp 2, .tmp 3, .tmp 4]) rfl (resT rfl (resT rfl (resT rfl resN))) (fun _ h => h) ⟨by rw [headR, if_neg h, if_neg hb1, if_neg hb2, if_neg hb3, if_neg hb4, if_pos hb5]; rfl, rfl, rfl⟩
  have hb5 : byte s 0 ≠ 109 := byte_eq hb0' h1
  repeat (first | with_reducible (first | refine run_seq ?_ | refine run_region ?_ | refine runL_nil ?_ | refine run_skip ?_ | refine run_block ?_ | refine run_inBlock ?_) | refine run_exit rfl ?_ | refine runL_q (qt_pev tok rfl) rfl rfl rfl ?_ | refine runL_g rfl rfl (qt_pev tok rfl) rfl rfl rfl rfl rfl ?_ | refine runL_q (ql tok rfl) rfl rfl rfl ?_ | refine runL_g rfl rfl (ql tok rfl) rfl rfl rfl rfl rfl ?_ | (refine runL_op0 (sst tok rfl rfl rfl rfl rfl) ?_; rintro _ _ _ ⟨rfl, rfl, rfl⟩) | (refine runL_op (st_box rfl) rfl rfl rfl ?_; rintro _ _ _ ⟨_, rfl, rfl, rfl⟩) | (refine runL_op (st_alloc tok rfl) rfl rfl rfl ?_; rintro _ _ _ ⟨_, rfl, rfl, rfl⟩) | (refine runL_op (st_buildSlice tok rfl rfl rfl rfl rfl rfl rfl) rfl rfl rfl ?_; rintro _ _ _ ⟨_, rfl, rfl, rfl⟩))
  refine run_cond rfl (fun h1 => ?_) (fun h1 => ?_)
  · have hb6 : byte s 0 = 115 := byte_eq hb0' h1
    repeat (first | with_reducible (first | refine run_seq ?_ | refine run_region ?_ | refine runL_nil ?_ | refine run_skip ?_ | refine run_block ?_ | refine run_inBlock ?_) | refine run_exit rfl ?_ | refine runL_q (qt_pev tok rfl) rfl rfl rfl ?_ | refine runL_g rfl rfl (qt_pev tok rfl) rfl rfl rfl rfl rfl ?_ | refine runL_q (ql tok rfl) rfl rfl rfl ?_ | refine runL_g rfl rfl (ql tok rfl) rfl rfl rfl rfl rfl ?_ | (refine runL_op0 (sst tok rfl rfl rfl rfl rfl) ?_; rintro _ _ _ ⟨rfl, rfl, rfl⟩) | (refine runL_op (st_box rfl) rfl rfl rfl ?_; rintro _ _ _ ⟨_, rfl, rfl, rfl⟩) | (refine runL_op (st_alloc tok rfl) rfl rfl rfl ?_; rintro _ _ _ ⟨_, rfl, rfl, rfl⟩) | (refine runL_op (st_buildSlice tok rfl rfl rfl rfl rfl rfl rfl) rfl rfl rfl ?_; rintro _ _ _ ⟨_, rfl, rfl, rfl⟩))
    exact run_ret hC (rs := [.tmp 2, .tmp 3, .tmp 4]) rfl (resT rfl (resT rfl (resT rfl resN))) (fun _ h => h) ⟨by rw [headR, if_neg h, if_neg hb1, if_neg hb2, if_neg hb3, if_neg hb4, if_neg hb5, if_pos hb6]; rfl, rfl, rfl⟩
  have hb6 : byte s 0 ≠ 115 := byte_eq hb0' h1
  repeat (first | with_reducible (first | refine run_seq ?_ | refine run_region ?_ | refine runL_nil ?_ | refine run_skip ?_ | refine run_block ?_ | refine run_inBlock ?_) | refine run_exit rfl ?_ | refine runL_q (qt_pev tok rfl) rfl rfl rfl ?_ | refine runL_g rfl rfl (qt_pev tok rfl) rfl rfl rfl rfl rfl ?_ | refine runL_q (ql tok rfl) rfl rfl rfl ?_ | refine runL_g rfl rfl (ql tok rfl) rfl rfl rfl rfl rfl ?_ | (refine runL_op0 (sst tok rfl rfl rfl rfl rfl) ?_; rintro _ _ _ ⟨rfl, rfl, rfl⟩) | (refine runL_op (st_box rfl) rfl rfl rfl ?_; rintro _ _ _ ⟨_, rfl, rfl, rfl⟩) | (refine runL_op (st_alloc tok rfl) rfl rfl rfl ?_; rintro _ _ _ ⟨_, rfl, rfl, rfl⟩) | (refine runL_op (st_buildSlice tok rfl rfl rfl rfl rfl rfl rfl) rfl rfl rfl ?_; rintro _ _ _ ⟨_, rfl, rfl, rfl⟩))
  exact run_ret hC (rs := [.tmp 2, .tmp 3, .tmp 4]) rfl (resT rfl (resT rfl (resT rfl resN))) (fun _ h => h) ⟨by rw [headR, if_neg h, if_neg hb1, if_neg hb2, if_neg hb3, if_neg hb4, if_neg hb5, if_neg hb6]; rfl, rfl, rfl⟩
end Go.Proofs.Ytpjklbkfhgfmnaa
