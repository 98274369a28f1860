import Derived.Test.YtbpgiodfccijmaaBTB
import Derived.Test.YtbpgiodfccijmaaBTC
namespace Go.Proofs.Ytbpgiodfccijmaa
open Go.Chi

/-! ### acts as the program holds them -/
def inC (n : Int) : List Value := [.int .i64 n]
structure SIn where
  a : Option Addr
  len : Nat
  cap : Nat
  xs : List Int
def SIn.v (s : SIn) : Value := .slice s.a s.len s.cap
def InOk (M : Mem) (s : SIn) : Prop := SlM M 1 s.a s.len (s.xs.map inC) ∧ s.len < 1000000
structure Sr where
  do_ : Int
  a : Int
  b : Int
  c : Int
  n : Int
  text : ByteArray
  list : SIn
def srC (x : Sr) : List Value := [.int .u8 x.do_, .int .i64 x.a, .int .i64 x.b, .int .i64 x.c, .int .i64 x.n, .string x.text, x.list.v]
def Sr.sp (x : Sr) : Sp := ⟨x.do_, x.a, x.b, x.c, x.n, x.text, x.list.xs⟩
structure SrOk (M : Mem) (x : Sr) : Prop where
  list : InOk M x.list
  text : x.text.size < 1099511627776
structure SSr where
  a : Option Addr
  len : Nat
  cap : Nat
  xs : List Sr
def SSr.v (s : SSr) : Value := .slice s.a s.len s.cap
structure SsOk (M : Mem) (s : SSr) : Prop where
  sl : SlM M 7 s.a s.len (s.xs.map srC)
  lt : s.len < 1000000
  each : ∀ x ∈ s.xs, SrOk M x
structure Ax where
  do_ : Int
  org : Int
  auditor : Int
  n : Int
  gives : SMb
  txn : Tx
  yes : Bool
  steps : SSr
def axC (x : Ax) : List Value := [.int .u8 x.do_, .int .i64 x.org, .int .i64 x.auditor, .int .i64 x.n, x.gives.v, .int .i64 x.txn.coord, .int .i64 x.txn.epoch, .int .i64 x.txn.seq, .bool x.yes, x.steps.v]
def Ax.aa (x : Ax) : Aa := ⟨x.do_, x.org, x.auditor, x.n, x.gives.xs, x.txn, x.yes, x.steps.xs.map Sr.sp⟩
structure AxOk (M : Mem) (x : Ax) : Prop where
  gives : MbOk M x.gives
  steps : SsOk M x.steps
  pay : ∀ m ∈ x.gives.xs, m.digest.size < 1099511627776
structure SAx where
  a : Option Addr
  len : Nat
  cap : Nat
  xs : List Ax
def SAx.v (s : SAx) : Value := .slice s.a s.len s.cap
structure SaOk (M : Mem) (s : SAx) : Prop where
  sl : SlM M 10 s.a s.len (s.xs.map axC)
  lt : s.len < 1000000
  each : ∀ x ∈ s.xs, AxOk M x
theorem InOk.le {M M' : Mem} {s : SIn} (hm : M.le M') (h : InOk M s) : InOk M' s := ⟨h.1.le hm, h.2⟩
theorem SrOk.le {M M' : Mem} {s : Sr} (hm : M.le M') (h : SrOk M s) : SrOk M' s := ⟨h.list.le hm, h.text⟩
theorem SsOk.le {M M' : Mem} {s : SSr} (hm : M.le M') (h : SsOk M s) : SsOk M' s := ⟨h.sl.le hm, h.lt, fun x hx => (h.each x hx).le hm⟩
theorem AxOk.le {M M' : Mem} {s : Ax} (hm : M.le M') (h : AxOk M s) : AxOk M' s := ⟨h.gives.le hm, h.steps.le hm, h.pay⟩
theorem SaOk.le {M M' : Mem} {s : SAx} (hm : M.le M') (h : SaOk M s) : SaOk M' s := ⟨h.sl.le hm, h.lt, fun x hx => (h.each x hx).le hm⟩
theorem InOk.len {M : Mem} {s : SIn} (h : InOk M s) : s.xs.length = s.len := by have := h.1.1; simpa using this
theorem SsOk.len {M : Mem} {s : SSr} (h : SsOk M s) : s.xs.length = s.len := by have := h.sl.1; simpa using this
theorem SaOk.len {M : Mem} {s : SAx} (h : SaOk M s) : s.xs.length = s.len := by have := h.sl.1; simpa using this
theorem SIn.at_ {M : Mem} {a : Option Addr} {len : Nat} {xs : List Int} (h : SlM M 1 a len (xs.map inC)) {j : Nat} (hj : j < len) : ∃ b off m, a = some ⟨b, off, none⟩ ∧ xs[j]? = some m ∧ Cells M [] b (off + j * 1) (inC m) := by
  obtain ⟨b, off, c, ha, hc, _, hcells⟩ := h.at_ hj
  obtain ⟨m, hm, rfl⟩ : ∃ m, xs[j]? = some m ∧ inC m = c := by simpa using hc
  exact ⟨b, off, m, ha, hm, hcells⟩
theorem SSr.at_ {M : Mem} {a : Option Addr} {len : Nat} {xs : List Sr} (h : SlM M 7 a len (xs.map srC)) {j : Nat} (hj : j < len) : ∃ b off m, a = some ⟨b, off, none⟩ ∧ xs[j]? = some m ∧ Cells M [] b (off + j * 7) (srC m) := by
  obtain ⟨b, off, c, ha, hc, _, hcells⟩ := h.at_ hj
  obtain ⟨m, hm, rfl⟩ : ∃ m, xs[j]? = some m ∧ srC m = c := by simpa using hc
  exact ⟨b, off, m, ha, hm, hcells⟩
theorem SAx.at_ {M : Mem} {a : Option Addr} {len : Nat} {xs : List Ax} (h : SlM M 10 a len (xs.map axC)) {j : Nat} (hj : j < len) : ∃ b off m, a = some ⟨b, off, none⟩ ∧ xs[j]? = some m ∧ Cells M [] b (off + j * 10) (axC m) := by
  obtain ⟨b, off, c, ha, hc, _, hcells⟩ := h.at_ hj
  obtain ⟨m, hm, rfl⟩ : ∃ m, xs[j]? = some m ∧ axC m = c := by simpa using hc
  exact ⟨b, off, m, ha, hm, hcells⟩
theorem allS {α : Type} {xs : List α} {j : Nat} {x : α} (p : α → Bool) (hx : xs[j]? = some x) : (xs.take (j + 1)).all p = ((xs.take j).all p && p x) := by rw [take_snoc hx, List.all_append]; simp

/-! ### script's small functions -/
theorem sorg_ok (M : Mem) (L : HL) (n : Int) : TrQ Try.prog 23 [.int .i64 n] M L (.bool (orgW n)) := by
  refine Tr.intro 9 Try.func23 rfl rfl Try.call23 rfl ?_
  intro C hC hro
  repeat (first | with_reducible (first | refine cS ?_ | refine cR ?_ | refine cN ?_ | refine cK ?_ | refine cB ?_ | refine cI ?_) | refine cE rfl ?_ | refine rq (qt_pev tok rfl) ?_ | refine rg rfl rfl (qt_pev tok rfl) ?_ | refine rq (ql tok rfl) ?_ | refine rg rfl rfl (ql tok rfl) ?_ | (refine runL_op0 (sst tok rfl rfl rfl rfl rfl) ?_; rintro _ _ _ ⟨rfl, rfl, rfl⟩) | ((first | refine ro (st_box rfl) ?_ | refine ro (st_alloc tok rfl) ?_ | refine ro (st_buildSlice tok rfl rfl rfl rfl rfl rfl rfl) ?_); rintro _ _ _ ⟨_, rfl, rfl, rfl⟩))
  exact run_ret hC (rs := [.tmp 2]) rfl (resT rfl resN) (fun _ h => h) ⟨rfl, rfl, rfl⟩
theorem nmW_not {m : Int} {t : Bool} (h : (decide (m < 0) || decide (m > 2147483647)) = t) : nmW m = !t := by
  subst h
  unfold nmW
  rw [Bool.eq_iff_iff]
  simp only [Bool.and_eq_true, decide_eq_true_eq, Bool.not_eq_true', Bool.or_eq_false_iff, decide_eq_false_iff_not]
  omega
set_option maxHeartbeats 4000000 in
theorem snum_ok (M : Mem) (L : HL) (s : SIn) (hs : InOk M s) : TrQ Try.prog 24 [s.v] M L (.bool (s.xs.all nmW)) := by
  have hx1 := hs.len
  have hlt6 := hs.2
  refine Tr.intro 18 Try.func24 rfl rfl Try.call24 rfl ?_
  intro C hC hro
  repeat (first | with_reducible (first | refine cS ?_ | refine cR ?_ | refine cN ?_ | refine cK ?_ | refine cB ?_ | refine cI ?_) | refine cE rfl ?_ | refine rq (qt_pev tok rfl) ?_ | refine rg rfl rfl (qt_pev tok rfl) ?_ | refine rq (ql tok rfl) ?_ | refine rg rfl rfl (ql tok rfl) ?_ | (refine runL_op0 (sst tok rfl rfl rfl rfl rfl) ?_; rintro _ _ _ ⟨rfl, rfl, rfl⟩) | ((first | refine ro (st_box rfl) ?_ | refine ro (st_alloc tok rfl) ?_ | refine ro (st_buildSlice tok rfl rfl rfl rfl rfl rfl rfl) ?_); rintro _ _ _ ⟨_, rfl, rfl, rfl⟩))
  refine run_loopN (fun j σ1 M1 L1 => j ≤ s.len ∧ M = M1 ∧ L = L1 ∧ (s.xs.take j).all nmW = true ∧ σ1 = [(7, .int .i64 (j : Int)), (6, .int .i64 (s.len : Int)), (5, s.v)]) s.len [(7, .int .i64 ((0 : Nat) : Int)), (6, .int .i64 (s.len : Int)), (5, s.v)] ?_ ⟨Nat.zero_le _, rfl, rfl, rfl, rfl⟩ (fun j _ _ _ h => h.1) ?_
  · exact ⟨rfl, rfl, rfl, trivial⟩
  rintro j _ _ _ ⟨hj, rfl, rfl, hpre, rfl⟩ hnext
  repeat (first | with_reducible (first | refine cS ?_ | refine cR ?_ | refine cN ?_ | refine cK ?_ | refine cB ?_ | refine cI ?_) | refine cE rfl ?_ | refine rq (qt_pev tok rfl) ?_ | refine rg rfl rfl (qt_pev tok rfl) ?_ | refine rq (ql tok rfl) ?_ | refine rg rfl rfl (ql tok rfl) ?_ | (refine runL_op0 (sst tok rfl rfl rfl rfl rfl) ?_; rintro _ _ _ ⟨rfl, rfl, rfl⟩) | ((first | refine ro (st_box rfl) ?_ | refine ro (st_alloc tok rfl) ?_ | refine ro (st_buildSlice tok rfl rfl rfl rfl rfl rfl rfl) ?_); rintro _ _ _ ⟨_, rfl, rfl, rfl⟩))
  refine run_cond rfl (fun h => ?_) (fun h => ?_)
  · have hlt : j < s.len := by simpa using h
    obtain ⟨b, off, m, hma, hm, hc⟩ := SIn.at_ hs.1 hlt
    have hv : s.v = .slice (some ⟨b, off, none⟩) s.len s.cap := by rw [← hma]; rfl
    refine run_as 5 (.slice (some ⟨b, off, none⟩) s.len s.cap) rfl hv ?_
    repeat (first | with_reducible (first | refine cS ?_ | refine cR ?_ | refine cN ?_ | refine cK ?_ | refine cB ?_ | refine cI ?_) | refine cE rfl ?_ | refine rq (qt_pev tok rfl) ?_ | refine rg rfl rfl (qt_pev tok rfl) ?_ | refine rq (ql tok rfl) ?_ | refine rg rfl rfl (ql tok rfl) ?_ | (refine runL_op0 (sst tok rfl rfl rfl rfl rfl) ?_; rintro _ _ _ ⟨rfl, rfl, rfl⟩) | ((first | refine ro (st_box rfl) ?_ | refine ro (st_alloc tok rfl) ?_ | refine ro (st_buildSlice tok rfl rfl rfl rfl rfl rfl rfl) ?_); rintro _ _ _ ⟨_, rfl, rfl, rfl⟩) | refine runL_q (qt_indexN tok rfl rfl rfl rfl (fun _ => by omega)) rfl rfl rfl ?_ | refine runL_g rfl rfl (qt_indexN tok rfl rfl rfl rfl (fun _ => by omega)) rfl rfl rfl rfl rfl ?_ | refine runL_q (qt_ldM tok rfl hc rfl) rfl rfl rfl ?_ | refine runL_g rfl rfl (qt_ldM tok rfl hc rfl) rfl rfl rfl rfl rfl ?_ | refine runL_q (qt_ldM0 tok rfl hc rfl) rfl rfl rfl ?_ | refine runL_g rfl rfl (qt_ldM0 tok rfl hc rfl) rfl rfl rfl rfl rfl ?_)
    refine run_cond rfl (fun h => ?_) (fun h => ?_)
    · have hb := nmW_not h
      repeat (first | with_reducible (first | refine cS ?_ | refine cR ?_ | refine cN ?_ | refine cK ?_ | refine cB ?_ | refine cI ?_) | refine cE rfl ?_ | refine rq (qt_pev tok rfl) ?_ | refine rg rfl rfl (qt_pev tok rfl) ?_ | refine rq (ql tok rfl) ?_ | refine rg rfl rfl (ql tok rfl) ?_ | (refine runL_op0 (sst tok rfl rfl rfl rfl rfl) ?_; rintro _ _ _ ⟨rfl, rfl, rfl⟩) | ((first | refine ro (st_box rfl) ?_ | refine ro (st_alloc tok rfl) ?_ | refine ro (st_buildSlice tok rfl rfl rfl rfl rfl rfl rfl) ?_); rintro _ _ _ ⟨_, rfl, rfl, rfl⟩))
      refine run_ret hC (rs := [.tmp 2]) rfl (resT rfl resN) (fun _ h => h) ⟨?_, rfl, rfl⟩
      have : s.xs.all nmW = false := by
        rw [List.all_eq_false]
        exact ⟨m, List.mem_of_getElem? hm, by rw [hb]; decide⟩
      rw [this]; rfl
    · have hb := nmW_not h
      repeat (first | with_reducible (first | refine cS ?_ | refine cR ?_ | refine cN ?_ | refine cK ?_ | refine cB ?_ | refine cI ?_) | refine cE rfl ?_ | refine rq (qt_pev tok rfl) ?_ | refine rg rfl rfl (qt_pev tok rfl) ?_ | refine rq (ql tok rfl) ?_ | refine rg rfl rfl (ql tok rfl) ?_ | (refine runL_op0 (sst tok rfl rfl rfl rfl rfl) ?_; rintro _ _ _ ⟨rfl, rfl, rfl⟩) | ((first | refine ro (st_box rfl) ?_ | refine ro (st_alloc tok rfl) ?_ | refine ro (st_buildSlice tok rfl rfl rfl rfl rfl rfl rfl) ?_); rintro _ _ _ ⟨_, rfl, rfl, rfl⟩))
      exact run_sub' (hnext _ _ _ ⟨hlt, rfl, rfl, by rw [allS _ hm, hpre, hb]; rfl, rfl⟩) ⟨lk_succ rfl (by omega), rfl, by rw [hv]; rfl, trivial⟩
  · have hge : j = s.len := by simp at h; omega
    rw [hge, List.take_of_length_le (by omega)] at hpre
    repeat (first | with_reducible (first | refine cS ?_ | refine cR ?_ | refine cN ?_ | refine cK ?_ | refine cB ?_ | refine cI ?_) | refine cE rfl ?_ | refine rq (qt_pev tok rfl) ?_ | refine rg rfl rfl (qt_pev tok rfl) ?_ | refine rq (ql tok rfl) ?_ | refine rg rfl rfl (ql tok rfl) ?_ | (refine runL_op0 (sst tok rfl rfl rfl rfl rfl) ?_; rintro _ _ _ ⟨rfl, rfl, rfl⟩) | ((first | refine ro (st_box rfl) ?_ | refine ro (st_alloc tok rfl) ?_ | refine ro (st_buildSlice tok rfl rfl rfl rfl rfl rfl rfl) ?_); rintro _ _ _ ⟨_, rfl, rfl, rfl⟩))
    exact run_ret hC (rs := [.tmp 2]) rfl (resT rfl resN) (fun _ h => h) ⟨by rw [hpre]; rfl, rfl, rfl⟩
/-- of a row of our own -/
theorem snumL (M : Mem) (L : HL) (b et n : Nat) (cs : List Value) (ns : List Int) (hcs : cs = (ns.map inC).flatten) (hn : ns.length = n) (hlt : n < 1000000) (hm : (b, Obj.cells ⟨cs⟩ et (0, 0)) ∈ L) : TrQ Try.prog 24 [.slice (some ⟨b, 0, none⟩) n n] M L (.bool (ns.all nmW)) :=
  TrQ.lend (fun w => Try.call24 _ w) fun M' _ hb => by
    have hsl := SlM.ofBlk (M := M') (b := b) (size := 1) (ls := ns.map inC) (hb b _ hm) hcs (by simp [inC])
    rw [List.length_map, hn] at hsl
    exact snum_ok M' [] ⟨some ⟨b, 0, none⟩, n, n, ns⟩ ⟨hsl, hlt⟩
def bareA (a : Ax) : Bool := (((((((a.do_ != 4) || (a.org == 0)) && ((a.do_ == 1) || ((a.auditor == 0) && ((a.gives.len : Int) == 0)))) && (((a.do_ == 2) || (a.do_ == 9)) || ((a.txn.coord == 0) && ((a.txn.epoch == 0) && ((a.txn.seq == 0) && true))))) && ((a.do_ == 2) || !a.yes)) && (((a.do_ == 5) || (a.do_ == 10)) || ((a.steps.len : Int) == 0))) && ((((a.do_ == 4) || (a.do_ == 6)) || (a.do_ == 7)) || (a.n == 0)))
set_option maxHeartbeats 8000000 in
theorem sbare_ok (M : Mem) (L : HL) (a : Ax) : TrQ Try.prog 22 [.agg ⟨axC a⟩] M L (.bool (bareA a)) := by
  refine Tr.intro 97 Try.func22 rfl rfl Try.call22 rfl ?_
  intro C hC hro
  repeat (first | with_reducible (first | refine cS ?_ | refine cR ?_ | refine cN ?_ | refine cK ?_ | refine cB ?_ | refine cI ?_) | refine cE rfl ?_ | refine rq (qt_pev tok rfl) ?_ | refine rg rfl rfl (qt_pev tok rfl) ?_ | refine rq (ql tok rfl) ?_ | refine rg rfl rfl (ql tok rfl) ?_ | (refine runL_op0 (sst tok rfl rfl rfl rfl rfl) ?_; rintro _ _ _ ⟨rfl, rfl, rfl⟩) | ((first | refine ro (st_box rfl) ?_ | refine ro (st_alloc tok rfl) ?_ | refine ro (st_buildSlice tok rfl rfl rfl rfl rfl rfl rfl) ?_); rintro _ _ _ ⟨_, rfl, rfl, rfl⟩) | refine prn_start mixed ?_ | refine prn_end (by decide +kernel) ?_ | refine pq rfl (qt_pev tok rfl) ?_ | refine pg rfl rfl rfl (qt_pev tok rfl) ?_ | refine pq rfl (ql tok rfl) ?_ | refine pg rfl rfl rfl (ql tok rfl) ?_ | (refine prn_e0 rfl (sst tok rfl rfl rfl rfl rfl) (by decide +kernel) ?_; rintro _ _ _ ⟨rfl, rfl, rfl⟩) | ((first | refine pe rfl (st_box rfl) ?_ | refine pe rfl (st_alloc tok rfl) ?_ | refine pe rfl (st_buildSlice tok rfl rfl rfl rfl rfl rfl rfl) ?_); rintro _ _ _ ⟨_, rfl, rfl, rfl⟩) | (refine prn_o0 rfl (sst tok rfl rfl rfl rfl rfl) (by decide +kernel) ?_; rintro _ _ _ ⟨rfl, rfl, rfl⟩; refine ⟨by (repeat (first | exact trivial | refine And.intro (pend_q rfl rfl rfl (qt_pev tok rfl)) ?_ | refine And.intro (pend_q rfl rfl rfl (ql tok rfl)) ?_)), ?_⟩) | ((first | refine po rfl (st_box rfl) ?_ | refine po rfl (st_alloc tok rfl) ?_ | refine po rfl (st_buildSlice tok rfl rfl rfl rfl rfl rfl rfl) ?_); rintro _ _ _ ⟨_, rfl, rfl, rfl⟩; refine ⟨by (repeat (first | exact trivial | refine And.intro (pend_q rfl rfl rfl (qt_pev tok rfl)) ?_ | refine And.intro (pend_q rfl rfl rfl (ql tok rfl)) ?_)), ?_⟩) | (refine pe rfl (qt_pev tok rfl) ?_; rintro _ _ _ ⟨rfl, rfl, rfl⟩))
  exact run_ret hC (rs := [.tmp 2]) rfl (resT rfl resN) (fun _ h => h.drop) ⟨rfl, rfl, rfl⟩
end Go.Proofs.Ytbpgiodfccijmaa
namespace Go.Proofs.Ytbpgiodfccijmaa
open Go.Chi

/-! ### script.Check -/
def pre1 (a : Ax) : Bool := (((decide (a.do_ ≥ 1) && decide (a.do_ ≤ 10)) && bareA a) && orgW a.org) && orgW a.auditor
def fine1 (a : Ax) : Bool := ((pre1 a && [a.n].all nmW) && decide ((a.gives.len : Int) ≤ 6)) && decide ((a.steps.len : Int) ≤ 64)
def fine2 (a : Ax) : Bool := if fine1 a = true ∧ (a.do_ = 2 ∨ a.do_ = 9) then mayTx a.txn else fine1 a
def gvOk (g : Mb) : Bool := orgW g.org && (checkR g.digest == 0)
def spOk (x : Sr) : Bool := (((((decide (x.do_ ≥ 1) && decide (x.do_ ≤ 9)) && [x.a, x.b, x.c, x.n].all nmW) && x.list.xs.all nmW) && decide ((x.text.size : Int) ≤ 1024)) && decide ((x.list.len : Int) ≤ 32))
def fineA (a : Ax) : Bool := (fine2 a && a.gives.xs.all gvOk) && a.steps.xs.all spOk
def chkA (a : Ax) : Int := if fineA a = true then 0 else 2
set_option maxRecDepth 10000 in
set_option maxHeartbeats 16000000 in
theorem scheck_ok (M : Mem) (L : HL) (a : Ax) (ha : AxOk M a) : TrQ Try.prog 13 [.agg ⟨axC a⟩] M L (.int .i64 (chkA a)) := by
  have hgl := ha.gives.len
  have hg6 := ha.gives.2
  have hsl := ha.steps.len
  have hs6 := ha.steps.lt
  refine Tr.intro 132 Try.func13 rfl rfl Try.call13 rfl ?_
  intro C hC hro
  refine run_seq ?_
  (refine run_region ?_; (repeat (first | refine rq (qt_pev tok rfl) ?_ | refine rg rfl rfl (qt_pev tok rfl) ?_ | refine rq (ql tok rfl) ?_ | refine rg rfl rfl (ql tok rfl) ?_ | (refine runL_op0 (sst tok rfl rfl rfl rfl rfl) ?_; rintro _ _ _ ⟨rfl, rfl, rfl⟩) | ((first | refine ro (st_box rfl) ?_ | refine ro (st_alloc tok rfl) ?_ | refine ro (st_buildSlice tok rfl rfl rfl rfl rfl rfl rfl) ?_); rintro _ _ _ ⟨_, rfl, rfl, rfl⟩))); refine runL_nil ?_)
  rename_i b1
  refine run_seq ?_
  refine run_cut (fun σ' M' L' => σ' = [(3, .bool (fine1 a)), (1, .pointer (some ⟨b1, 0, none⟩))] ∧ M = M' ∧ L' = (b1, .cells ⟨axC a⟩ 37 (0, 0)) :: L) ?_ ?_
  rotate_left
  · intro hnext
    refine run_region ?_
    iterate 25 (first | refine runL_q (qt_pev tok rfl) rfl rfl rfl ?_ | refine runL_gK rfl rfl (qt_pev tok rfl) rfl rfl rfl ?_ | refine runL_gF rfl rfl rfl rfl rfl ?_ | refine runL_g rfl rfl (qt_pev tok rfl) rfl rfl rfl rfl rfl ?_ | refine runL_q (ql tok rfl) rfl rfl rfl ?_ | refine runL_gK rfl rfl (ql tok rfl) rfl rfl rfl ?_ | refine runL_gF rfl rfl rfl rfl rfl ?_ | refine runL_g rfl rfl (ql tok rfl) rfl rfl rfl rfl rfl ?_ | (refine runL_op0 (sst tok rfl rfl rfl rfl rfl) ?_; rintro _ _ _ ⟨rfl, rfl, rfl⟩) | ((first | refine ro (st_box rfl) ?_ | refine ro (st_alloc tok rfl) ?_ | refine ro (st_buildSlice tok rfl rfl rfl rfl rfl rfl rfl) ?_); rintro _ _ _ ⟨_, rfl, rfl, rfl⟩) | refine runL_g rfl rfl (qt_callF rfl (fun _ => sbare_ok _ _ a)) rfl rfl rfl rfl rfl ?_ | refine runL_g rfl rfl (qt_callF rfl (fun _ => sorg_ok _ _ _)) rfl rfl rfl rfl rfl ?_)
    by_cases hp : pre1 a = true
    · refine runL_known 30 true rfl hp ?_
      refine runL_gT rfl rfl (st_buildSlice tok rfl rfl rfl rfl rfl rfl rfl) rfl rfl rfl ?_
      rintro _ _ _ ⟨b3, rfl, rfl, rfl⟩
      refine runL_gK rfl rfl (qt_callF rfl (fun _ => snumL _ _ b3 _ 1 _ [a.n] rfl rfl (by decide) List.mem_cons_self)) rfl rfl rfl ?_
      repeat (first | refine runL_q (qt_pev tok rfl) rfl rfl rfl ?_ | refine runL_gK rfl rfl (qt_pev tok rfl) rfl rfl rfl ?_ | refine runL_gF rfl rfl rfl rfl rfl ?_ | refine runL_g rfl rfl (qt_pev tok rfl) rfl rfl rfl rfl rfl ?_ | refine runL_q (ql tok rfl) rfl rfl rfl ?_ | refine runL_gK rfl rfl (ql tok rfl) rfl rfl rfl ?_ | refine runL_gF rfl rfl rfl rfl rfl ?_ | refine runL_g rfl rfl (ql tok rfl) rfl rfl rfl rfl rfl ?_ | (refine runL_op0 (sst tok rfl rfl rfl rfl rfl) ?_; rintro _ _ _ ⟨rfl, rfl, rfl⟩) | ((first | refine ro (st_box rfl) ?_ | refine ro (st_alloc tok rfl) ?_ | refine ro (st_buildSlice tok rfl rfl rfl rfl rfl rfl rfl) ?_); rintro _ _ _ ⟨_, rfl, rfl, rfl⟩))
      refine runL_nil ?_
      exact run_mem (fun _ h => h.drop) (run_sub' (hnext _ _ _ ⟨rfl, rfl, rfl⟩) ⟨by rw [fine1, hp]; rfl, rfl, trivial⟩)
    · have hp' : pre1 a = false := by simpa using hp
      refine runL_known 30 false rfl hp' ?_
      repeat (first | refine runL_q (qt_pev tok rfl) rfl rfl rfl ?_ | refine runL_gK rfl rfl (qt_pev tok rfl) rfl rfl rfl ?_ | refine runL_gF rfl rfl rfl rfl rfl ?_ | refine runL_g rfl rfl (qt_pev tok rfl) rfl rfl rfl rfl rfl ?_ | refine runL_q (ql tok rfl) rfl rfl rfl ?_ | refine runL_gK rfl rfl (ql tok rfl) rfl rfl rfl ?_ | refine runL_gF rfl rfl rfl rfl rfl ?_ | refine runL_g rfl rfl (ql tok rfl) rfl rfl rfl rfl rfl ?_ | (refine runL_op0 (sst tok rfl rfl rfl rfl rfl) ?_; rintro _ _ _ ⟨rfl, rfl, rfl⟩) | ((first | refine ro (st_box rfl) ?_ | refine ro (st_alloc tok rfl) ?_ | refine ro (st_buildSlice tok rfl rfl rfl rfl rfl rfl rfl) ?_); rintro _ _ _ ⟨_, rfl, rfl, rfl⟩))
      refine runL_nil ?_
      exact run_sub' (hnext _ _ _ ⟨rfl, rfl, rfl⟩) ⟨by rw [fine1, hp']; rfl, rfl, trivial⟩
  rintro _ _ _ ⟨rfl, rfl, rfl⟩
  repeat (first | with_reducible (first | refine cS ?_ | refine cR ?_ | refine cN ?_ | refine cK ?_ | refine cB ?_ | refine cI ?_) | refine cE rfl ?_ | refine rq (qt_pev tok rfl) ?_ | refine rg rfl rfl (qt_pev tok rfl) ?_ | refine rq (ql tok rfl) ?_ | refine rg rfl rfl (ql tok rfl) ?_ | (refine runL_op0 (sst tok rfl rfl rfl rfl rfl) ?_; rintro _ _ _ ⟨rfl, rfl, rfl⟩) | ((first | refine ro (st_box rfl) ?_ | refine ro (st_alloc tok rfl) ?_ | refine ro (st_buildSlice tok rfl rfl rfl rfl rfl rfl rfl) ?_); rintro _ _ _ ⟨_, rfl, rfl, rfl⟩))
  have hc2 : ∀ t : Bool, (fine1 a && ((a.do_ == 2) || (a.do_ == 9))) = t → (t = true ↔ (fine1 a = true ∧ (a.do_ = 2 ∨ a.do_ = 9))) := by
    rintro _ rfl
    simp
  refine run_cut (fun σ' M' L' => σ' = [(3, .bool (fine2 a)), (1, .pointer (some ⟨b1, 0, none⟩))] ∧ M = M' ∧ L' = (b1, .cells ⟨axC a⟩ 37 (0, 0)) :: L) ?_ ?_
  rotate_left
  · intro hnext
    refine run_cond rfl (fun h => ?_) (fun h => ?_)
    · have hx := (hc2 true h).1 rfl
      refine run_region ?_
      repeat (first | refine rq (qt_pev tok rfl) ?_ | refine rg rfl rfl (qt_pev tok rfl) ?_ | refine rq (ql tok rfl) ?_ | refine rg rfl rfl (ql tok rfl) ?_ | (refine runL_op0 (sst tok rfl rfl rfl rfl rfl) ?_; rintro _ _ _ ⟨rfl, rfl, rfl⟩) | ((first | refine ro (st_box rfl) ?_ | refine ro (st_alloc tok rfl) ?_ | refine ro (st_buildSlice tok rfl rfl rfl rfl rfl rfl rfl) ?_); rintro _ _ _ ⟨_, rfl, rfl, rfl⟩) | refine runL_q (qt_callF rfl (fun _ => mayTx_ok _ _ a.txn)) rfl rfl rfl ?_)
      refine runL_nil ?_
      exact run_sub' (hnext _ _ _ ⟨rfl, rfl, rfl⟩) ⟨by rw [fine2, if_pos hx]; rfl, rfl, trivial⟩
    · have hx : ¬ (fine1 a = true ∧ (a.do_ = 2 ∨ a.do_ = 9)) := fun e => by have := (hc2 false h).2 e; cases this
      refine run_skip ?_
      exact run_sub' (hnext _ _ _ ⟨rfl, rfl, rfl⟩) ⟨by rw [fine2, if_neg hx]; rfl, rfl, trivial⟩
  rintro _ _ _ ⟨rfl, rfl, rfl⟩
  repeat (first | with_reducible (first | refine cS ?_ | refine cR ?_ | refine cN ?_ | refine cK ?_ | refine cB ?_ | refine cI ?_) | refine cE rfl ?_ | refine rq (qt_pev tok rfl) ?_ | refine rg rfl rfl (qt_pev tok rfl) ?_ | refine rq (ql tok rfl) ?_ | refine rg rfl rfl (ql tok rfl) ?_ | (refine runL_op0 (sst tok rfl rfl rfl rfl rfl) ?_; rintro _ _ _ ⟨rfl, rfl, rfl⟩) | ((first | refine ro (st_box rfl) ?_ | refine ro (st_alloc tok rfl) ?_ | refine ro (st_buildSlice tok rfl rfl rfl rfl rfl rfl rfl) ?_); rintro _ _ _ ⟨_, rfl, rfl, rfl⟩))
  refine run_loopN (fun j σ1 M1 L1 => j ≤ a.gives.len ∧ M = M1 ∧ L1 = (b1, .cells ⟨axC a⟩ 37 (0, 0)) :: L ∧ σ1 = [(65, .int .i64 (j : Int)), (64, .int .i64 (a.gives.len : Int)), (63, a.gives.v), (3, .bool (fine2 a && (a.gives.xs.take j).all gvOk)), (1, .pointer (some ⟨b1, 0, none⟩))]) a.gives.len [(65, .int .i64 ((0 : Nat) : Int)), (64, .int .i64 (a.gives.len : Int)), (63, a.gives.v), (3, .bool (fine2 a && (a.gives.xs.take 0).all gvOk)), (1, .pointer (some ⟨b1, 0, none⟩))] ?_ ⟨Nat.zero_le _, rfl, rfl, rfl⟩ (fun j _ _ _ h => h.1) ?_
  · exact ⟨rfl, rfl, rfl, by rw [List.take_zero, List.all_nil, Bool.and_true]; rfl, rfl, trivial⟩
  rintro j _ _ _ ⟨hj, rfl, rfl, rfl⟩ hnext
  repeat (first | with_reducible (first | refine cS ?_ | refine cR ?_ | refine cN ?_ | refine cK ?_ | refine cB ?_ | refine cI ?_) | refine cE rfl ?_ | refine rq (qt_pev tok rfl) ?_ | refine rg rfl rfl (qt_pev tok rfl) ?_ | refine rq (ql tok rfl) ?_ | refine rg rfl rfl (ql tok rfl) ?_ | (refine runL_op0 (sst tok rfl rfl rfl rfl rfl) ?_; rintro _ _ _ ⟨rfl, rfl, rfl⟩) | ((first | refine ro (st_box rfl) ?_ | refine ro (st_alloc tok rfl) ?_ | refine ro (st_buildSlice tok rfl rfl rfl rfl rfl rfl rfl) ?_); rintro _ _ _ ⟨_, rfl, rfl, rfl⟩))
  refine run_cond rfl (fun h => ?_) (fun h => ?_)
  · have hlt : j < a.gives.len := by simpa using h
    obtain ⟨b, off, m, hma, hm, hc⟩ := SMb.at_ ha.gives.1 hlt
    have hv : a.gives.v = .slice (some ⟨b, off, none⟩) a.gives.len a.gives.cap := by rw [← hma]; rfl
    have hmd : m.digest.size < 4611686018427387904 := by have := ha.pay m (List.mem_of_getElem? hm); omega
    refine run_as 63 (.slice (some ⟨b, off, none⟩) a.gives.len a.gives.cap) rfl hv ?_
    repeat (first | with_reducible (first | refine cS ?_ | refine cR ?_ | refine cN ?_ | refine cK ?_ | refine cB ?_ | refine cI ?_) | refine cE rfl ?_ | refine rq (qt_pev tok rfl) ?_ | refine rg rfl rfl (qt_pev tok rfl) ?_ | refine rq (ql tok rfl) ?_ | refine rg rfl rfl (ql tok rfl) ?_ | (refine runL_op0 (sst tok rfl rfl rfl rfl rfl) ?_; rintro _ _ _ ⟨rfl, rfl, rfl⟩) | ((first | refine ro (st_box rfl) ?_ | refine ro (st_alloc tok rfl) ?_ | refine ro (st_buildSlice tok rfl rfl rfl rfl rfl rfl rfl) ?_); rintro _ _ _ ⟨_, rfl, rfl, rfl⟩) | refine runL_q (qt_indexN tok rfl rfl rfl rfl (fun _ => by omega)) rfl rfl rfl ?_ | refine runL_g rfl rfl (qt_indexN tok rfl rfl rfl rfl (fun _ => by omega)) rfl rfl rfl rfl rfl ?_ | refine runL_q (qt_ldM tok rfl hc rfl) rfl rfl rfl ?_ | refine runL_g rfl rfl (qt_ldM tok rfl hc rfl) rfl rfl rfl rfl rfl ?_ | refine runL_q (qt_ldM0 tok rfl hc rfl) rfl rfl rfl ?_ | refine runL_g rfl rfl (qt_ldM0 tok rfl hc rfl) rfl rfl rfl rfl rfl ?_ | refine runL_g rfl rfl (qt_callF rfl (fun _ => sorg_ok _ _ _)) rfl rfl rfl rfl rfl ?_ | refine runL_g rfl rfl (qt_callF rfl (fun _ => check_ok _ _ _ hmd)) rfl rfl rfl rfl rfl ?_)
    refine run_mem (fun _ h => h.drop) (run_sub' (hnext _ _ _ ⟨hlt, rfl, rfl, rfl⟩) ⟨lk_succ rfl (by omega), rfl, by rw [hv]; rfl, ?_, rfl, trivial⟩)
    rw [allS _ hm, ← Bool.and_assoc, gvOk, ← Bool.and_assoc]
    rfl
  have hge : j = a.gives.len := by simp at h; omega
  rw [hge, List.take_of_length_le (by omega)]
  clear hnext
  generalize hf : (fine2 a && a.gives.xs.all gvOk) = f3
  have hfA : fineA a = (f3 && a.steps.xs.all spOk) := by rw [fineA, hf]
  repeat (first | with_reducible (first | refine cS ?_ | refine cR ?_ | refine cN ?_ | refine cK ?_ | refine cB ?_ | refine cI ?_) | refine cE rfl ?_ | refine rq (qt_pev tok rfl) ?_ | refine rg rfl rfl (qt_pev tok rfl) ?_ | refine rq (ql tok rfl) ?_ | refine rg rfl rfl (ql tok rfl) ?_ | (refine runL_op0 (sst tok rfl rfl rfl rfl rfl) ?_; rintro _ _ _ ⟨rfl, rfl, rfl⟩) | ((first | refine ro (st_box rfl) ?_ | refine ro (st_alloc tok rfl) ?_ | refine ro (st_buildSlice tok rfl rfl rfl rfl rfl rfl rfl) ?_); rintro _ _ _ ⟨_, rfl, rfl, rfl⟩))
  refine run_loopN (fun j σ1 M1 L1 => j ≤ a.steps.len ∧ M = M1 ∧ L1 = (b1, .cells ⟨axC a⟩ 37 (0, 0)) :: L ∧ σ1 = [(85, .int .i64 (j : Int)), (84, .int .i64 (a.steps.len : Int)), (83, a.steps.v), (3, .bool (f3 && (a.steps.xs.take j).all spOk))]) a.steps.len [(85, .int .i64 ((0 : Nat) : Int)), (84, .int .i64 (a.steps.len : Int)), (83, a.steps.v), (3, .bool (f3 && (a.steps.xs.take 0).all spOk))] ?_ ⟨Nat.zero_le _, rfl, rfl, rfl⟩ (fun j _ _ _ h => h.1) ?_
  · exact ⟨rfl, rfl, rfl, by rw [List.take_zero, List.all_nil, Bool.and_true]; rfl, trivial⟩
  rintro i _ _ _ ⟨hi, rfl, rfl, rfl⟩ hnext
  repeat (first | with_reducible (first | refine cS ?_ | refine cR ?_ | refine cN ?_ | refine cK ?_ | refine cB ?_ | refine cI ?_) | refine cE rfl ?_ | refine rq (qt_pev tok rfl) ?_ | refine rg rfl rfl (qt_pev tok rfl) ?_ | refine rq (ql tok rfl) ?_ | refine rg rfl rfl (ql tok rfl) ?_ | (refine runL_op0 (sst tok rfl rfl rfl rfl rfl) ?_; rintro _ _ _ ⟨rfl, rfl, rfl⟩) | ((first | refine ro (st_box rfl) ?_ | refine ro (st_alloc tok rfl) ?_ | refine ro (st_buildSlice tok rfl rfl rfl rfl rfl rfl rfl) ?_); rintro _ _ _ ⟨_, rfl, rfl, rfl⟩))
  refine run_cond rfl (fun h => ?_) (fun h => ?_)
  · have hlt : i < a.steps.len := by simpa using h
    obtain ⟨b, off, m, hma, hm, hc⟩ := SSr.at_ ha.steps.sl hlt
    have hv : a.steps.v = .slice (some ⟨b, off, none⟩) a.steps.len a.steps.cap := by rw [← hma]; rfl
    have hmo := ha.steps.each m (List.mem_of_getElem? hm)
    refine run_as 83 (.slice (some ⟨b, off, none⟩) a.steps.len a.steps.cap) rfl hv ?_
    repeat (first | with_reducible (first | refine cS ?_ | refine cR ?_ | refine cN ?_ | refine cK ?_ | refine cB ?_ | refine cI ?_) | refine cE rfl ?_ | refine rq (qt_pev tok rfl) ?_ | refine rg rfl rfl (qt_pev tok rfl) ?_ | refine rq (ql tok rfl) ?_ | refine rg rfl rfl (ql tok rfl) ?_ | (refine runL_op0 (sst tok rfl rfl rfl rfl rfl) ?_; rintro _ _ _ ⟨rfl, rfl, rfl⟩) | ((first | refine ro (st_box rfl) ?_ | refine ro (st_alloc tok rfl) ?_ | refine ro (st_buildSlice tok rfl rfl rfl rfl rfl rfl rfl) ?_); rintro _ _ _ ⟨_, rfl, rfl, rfl⟩) | refine runL_q (qt_indexN tok rfl rfl rfl rfl (fun _ => by omega)) rfl rfl rfl ?_ | refine runL_g rfl rfl (qt_indexN tok rfl rfl rfl rfl (fun _ => by omega)) rfl rfl rfl rfl rfl ?_ | refine runL_q (qt_ldM tok rfl hc rfl) rfl rfl rfl ?_ | refine runL_g rfl rfl (qt_ldM tok rfl hc rfl) rfl rfl rfl rfl rfl ?_ | refine runL_q (qt_ldM0 tok rfl hc rfl) rfl rfl rfl ?_ | refine runL_g rfl rfl (qt_ldM0 tok rfl hc rfl) rfl rfl rfl rfl rfl ?_)
    have hsn : spOk m = (((((decide (m.do_ ≥ 1) && decide (m.do_ ≤ 9)) && [m.a, m.b, m.c, m.n].all nmW) && m.list.xs.all nmW) && decide ((m.text.size : Int) ≤ 1024)) && decide ((m.list.len : Int) ≤ 32)) := rfl
    generalize hg : (f3 && (a.steps.xs.take i).all spOk) = g
    by_cases hp : ((g && decide (m.do_ ≥ 1)) && decide (m.do_ ≤ 9)) = true
    · refine runL_known 100 true rfl hp ?_
      refine runL_gT rfl rfl (st_buildSlice tok rfl rfl rfl rfl rfl rfl rfl) rfl rfl rfl ?_
      rintro _ _ _ ⟨b3, rfl, rfl, rfl⟩
      refine runL_gK rfl rfl (qt_callF rfl (fun _ => snumL _ _ b3 _ 4 _ [m.a, m.b, m.c, m.n] rfl rfl (by decide) List.mem_cons_self)) rfl rfl rfl ?_
      repeat (first | refine runL_q (qt_pev tok rfl) rfl rfl rfl ?_ | refine runL_gK rfl rfl (qt_pev tok rfl) rfl rfl rfl ?_ | refine runL_gF rfl rfl rfl rfl rfl ?_ | refine runL_g rfl rfl (qt_pev tok rfl) rfl rfl rfl rfl rfl ?_ | refine runL_q (ql tok rfl) rfl rfl rfl ?_ | refine runL_gK rfl rfl (ql tok rfl) rfl rfl rfl ?_ | refine runL_gF rfl rfl rfl rfl rfl ?_ | refine runL_g rfl rfl (ql tok rfl) rfl rfl rfl rfl rfl ?_ | (refine runL_op0 (sst tok rfl rfl rfl rfl rfl) ?_; rintro _ _ _ ⟨rfl, rfl, rfl⟩) | ((first | refine ro (st_box rfl) ?_ | refine ro (st_alloc tok rfl) ?_ | refine ro (st_buildSlice tok rfl rfl rfl rfl rfl rfl rfl) ?_); rintro _ _ _ ⟨_, rfl, rfl, rfl⟩) | refine runL_g rfl rfl (qt_callF rfl (fun _ => snum_ok _ _ m.list hmo.list)) rfl rfl rfl rfl rfl ?_)
      refine runL_nil ?_
      repeat (first | with_reducible (first | refine cS ?_ | refine cR ?_ | refine cN ?_ | refine cK ?_ | refine cB ?_ | refine cI ?_) | refine cE rfl ?_ | refine rq (qt_pev tok rfl) ?_ | refine rg rfl rfl (qt_pev tok rfl) ?_ | refine rq (ql tok rfl) ?_ | refine rg rfl rfl (ql tok rfl) ?_ | (refine runL_op0 (sst tok rfl rfl rfl rfl rfl) ?_; rintro _ _ _ ⟨rfl, rfl, rfl⟩) | ((first | refine ro (st_box rfl) ?_ | refine ro (st_alloc tok rfl) ?_ | refine ro (st_buildSlice tok rfl rfl rfl rfl rfl rfl rfl) ?_); rintro _ _ _ ⟨_, rfl, rfl, rfl⟩))
      refine run_mem (fun _ h => h.drop.drop) (run_sub' (hnext _ _ _ ⟨hlt, rfl, rfl, rfl⟩) ⟨lk_succ rfl (by omega), rfl, by rw [hv]; rfl, ?_, trivial⟩)
      rw [allS _ hm, ← Bool.and_assoc, hg, hsn]
      have hp3 : (g = true ∧ decide (m.do_ ≥ 1) = true) ∧ decide (m.do_ ≤ 9) = true := by simpa only [Bool.and_eq_true] using hp
      rw [hp3.1.1, hp3.1.2, hp3.2]
      rfl
    · have hp' : ((g && decide (m.do_ ≥ 1)) && decide (m.do_ ≤ 9)) = false := by simpa only [Bool.not_eq_true] using hp
      refine runL_known 100 false rfl hp' ?_
      repeat (first | refine runL_q (qt_pev tok rfl) rfl rfl rfl ?_ | refine runL_gK rfl rfl (qt_pev tok rfl) rfl rfl rfl ?_ | refine runL_gF rfl rfl rfl rfl rfl ?_ | refine runL_g rfl rfl (qt_pev tok rfl) rfl rfl rfl rfl rfl ?_ | refine runL_q (ql tok rfl) rfl rfl rfl ?_ | refine runL_gK rfl rfl (ql tok rfl) rfl rfl rfl ?_ | refine runL_gF rfl rfl rfl rfl rfl ?_ | refine runL_g rfl rfl (ql tok rfl) rfl rfl rfl rfl rfl ?_ | (refine runL_op0 (sst tok rfl rfl rfl rfl rfl) ?_; rintro _ _ _ ⟨rfl, rfl, rfl⟩) | ((first | refine ro (st_box rfl) ?_ | refine ro (st_alloc tok rfl) ?_ | refine ro (st_buildSlice tok rfl rfl rfl rfl rfl rfl rfl) ?_); rintro _ _ _ ⟨_, rfl, rfl, rfl⟩))
      refine runL_nil ?_
      repeat (first | with_reducible (first | refine cS ?_ | refine cR ?_ | refine cN ?_ | refine cK ?_ | refine cB ?_ | refine cI ?_) | refine cE rfl ?_ | refine rq (qt_pev tok rfl) ?_ | refine rg rfl rfl (qt_pev tok rfl) ?_ | refine rq (ql tok rfl) ?_ | refine rg rfl rfl (ql tok rfl) ?_ | (refine runL_op0 (sst tok rfl rfl rfl rfl rfl) ?_; rintro _ _ _ ⟨rfl, rfl, rfl⟩) | ((first | refine ro (st_box rfl) ?_ | refine ro (st_alloc tok rfl) ?_ | refine ro (st_buildSlice tok rfl rfl rfl rfl rfl rfl rfl) ?_); rintro _ _ _ ⟨_, rfl, rfl, rfl⟩))
      refine run_mem (fun _ h => h.drop) (run_sub' (hnext _ _ _ ⟨hlt, rfl, rfl, rfl⟩) ⟨lk_succ rfl (by omega), rfl, by rw [hv]; rfl, ?_, trivial⟩)
      have : (g && spOk m) = false := by
        rw [hsn]
        cases g
        · rfl
        · rw [Bool.true_and] at hp' ⊢
          rw [hp']
          rfl
      rw [allS _ hm, ← Bool.and_assoc, hg, this]
      rfl
  have hge2 : i = a.steps.len := by simp at h; omega
  rw [hge2, List.take_of_length_le (by omega), ← hfA]
  repeat (first | with_reducible (first | refine cS ?_ | refine cR ?_ | refine cN ?_ | refine cK ?_ | refine cB ?_ | refine cI ?_) | refine cE rfl ?_ | refine rq (qt_pev tok rfl) ?_ | refine rg rfl rfl (qt_pev tok rfl) ?_ | refine rq (ql tok rfl) ?_ | refine rg rfl rfl (ql tok rfl) ?_ | (refine runL_op0 (sst tok rfl rfl rfl rfl rfl) ?_; rintro _ _ _ ⟨rfl, rfl, rfl⟩) | ((first | refine ro (st_box rfl) ?_ | refine ro (st_alloc tok rfl) ?_ | refine ro (st_buildSlice tok rfl rfl rfl rfl rfl rfl rfl) ?_); rintro _ _ _ ⟨_, rfl, rfl, rfl⟩))
  refine run_cond rfl (fun h => ?_) (fun h => ?_)
  · have hx : ¬ fineA a = true := by simpa using h
    repeat (first | with_reducible (first | refine cS ?_ | refine cR ?_ | refine cN ?_ | refine cK ?_ | refine cB ?_ | refine cI ?_) | refine cE rfl ?_ | refine rq (qt_pev tok rfl) ?_ | refine rg rfl rfl (qt_pev tok rfl) ?_ | refine rq (ql tok rfl) ?_ | refine rg rfl rfl (ql tok rfl) ?_ | (refine runL_op0 (sst tok rfl rfl rfl rfl rfl) ?_; rintro _ _ _ ⟨rfl, rfl, rfl⟩) | ((first | refine ro (st_box rfl) ?_ | refine ro (st_alloc tok rfl) ?_ | refine ro (st_buildSlice tok rfl rfl rfl rfl rfl rfl rfl) ?_); rintro _ _ _ ⟨_, rfl, rfl, rfl⟩))
    exact run_ret hC (rs := [.tmp 2]) rfl (resT rfl resN) (fun _ h => h.drop) ⟨by rw [chkA, if_neg hx]; rfl, rfl, rfl⟩
  · have hx : fineA a = true := by simpa using h
    repeat (first | with_reducible (first | refine cS ?_ | refine cR ?_ | refine cN ?_ | refine cK ?_ | refine cB ?_ | refine cI ?_) | refine cE rfl ?_ | refine rq (qt_pev tok rfl) ?_ | refine rg rfl rfl (qt_pev tok rfl) ?_ | refine rq (ql tok rfl) ?_ | refine rg rfl rfl (ql tok rfl) ?_ | (refine runL_op0 (sst tok rfl rfl rfl rfl rfl) ?_; rintro _ _ _ ⟨rfl, rfl, rfl⟩) | ((first | refine ro (st_box rfl) ?_ | refine ro (st_alloc tok rfl) ?_ | refine ro (st_buildSlice tok rfl rfl rfl rfl rfl rfl rfl) ?_); rintro _ _ _ ⟨_, rfl, rfl, rfl⟩))
    exact run_ret hC (rs := [.tmp 2]) rfl (resT rfl resN) (fun _ h => h.drop) ⟨by rw [chkA, if_pos hx]; rfl, rfl, rfl⟩
end Go.Proofs.Ytbpgiodfccijmaa
namespace Go.Proofs.Ytbpgiodfccijmaa
open Go.Chi

/-! ### which acts may be written -/
theorem spOk_iff {x : Sr} (hl : x.list.xs.length = x.list.len) : spOk x = true ↔ SpP x.sp := by
  unfold spOk
  simp only [Bool.and_eq_true, decide_eq_true_eq, List.all_cons, List.all_nil, and_true, List.all_eq_true]
  constructor
  · rintro ⟨⟨⟨⟨⟨h1, h2⟩, h3, h4, h5, h6⟩, h7⟩, h8⟩, h9⟩
    exact ⟨⟨h1, h2⟩, h3, h4, h5, h6, by show x.text.size ≤ 1024; omega, by show x.list.xs.length ≤ 32; omega, h7⟩
  · rintro ⟨h1, h3, h4, h5, h6, h8, h9, h7⟩
    have h8 : x.text.size ≤ 1024 := h8
    have h9 : x.list.xs.length ≤ 32 := h9
    exact ⟨⟨⟨⟨⟨h1.1, h1.2⟩, h3, h4, h5, h6⟩, h7⟩, by omega⟩, by omega⟩
theorem gvOk_iff (g : Mb) : gvOk g = true ↔ GvP g := by
  unfold gvOk GvP
  simp
structure FineP (a : Ax) : Prop where
  kind : 1 ≤ a.do_ ∧ a.do_ ≤ 10
  bare : bareA a = true
  org : orgW a.org = true
  auditor : orgW a.auditor = true
  n : nmW a.n = true
  gl : a.gives.len ≤ 6
  sl : a.steps.len ≤ 64
  txn : (a.do_ = 2 ∨ a.do_ = 9) → mayTx a.txn = true
  gives : ∀ g ∈ a.gives.xs, GvP g
  steps : ∀ x ∈ a.steps.xs, SpP x.sp
theorem fineA_iff {a : Ax} (hl : ∀ x ∈ a.steps.xs, x.list.xs.length = x.list.len) : fineA a = true ↔ FineP a := by
  have h1 : fine1 a = true ↔ (((1 ≤ a.do_ ∧ a.do_ ≤ 10) ∧ bareA a = true) ∧ orgW a.org = true ∧ orgW a.auditor = true ∧ nmW a.n = true) ∧ a.gives.len ≤ 6 ∧ a.steps.len ≤ 64 := by
    unfold fine1 pre1
    simp only [Bool.and_eq_true, decide_eq_true_eq, List.all_cons, List.all_nil, and_true]
    constructor
    · rintro ⟨⟨⟨⟨⟨⟨⟨a1, a2⟩, a3⟩, a4⟩, a5⟩, a6⟩, a7⟩, a8⟩; exact ⟨⟨⟨⟨a1, a2⟩, a3⟩, a4, a5, a6⟩, by omega, by omega⟩
    · rintro ⟨⟨⟨⟨a1, a2⟩, a3⟩, a4, a5, a6⟩, a7, a8⟩; exact ⟨⟨⟨⟨⟨⟨⟨a1, a2⟩, a3⟩, a4⟩, a5⟩, a6⟩, by omega⟩, by omega⟩
  have h2 : fine2 a = true ↔ fine1 a = true ∧ ((a.do_ = 2 ∨ a.do_ = 9) → mayTx a.txn = true) := by
    unfold fine2
    by_cases hf : fine1 a = true
    · by_cases hd : a.do_ = 2 ∨ a.do_ = 9
      · rw [if_pos ⟨hf, hd⟩]; exact ⟨fun h => ⟨hf, fun _ => h⟩, fun h => h.2 hd⟩
      · rw [if_neg (fun e => hd e.2)]; exact ⟨fun h => ⟨h, fun e => absurd e hd⟩, fun h => h.1⟩
    · rw [if_neg (fun e => hf e.1)]; exact ⟨fun h => absurd h hf, fun h => h.1⟩
  unfold fineA
  rw [Bool.and_eq_true, Bool.and_eq_true, List.all_eq_true, List.all_eq_true, h2, h1]
  constructor
  · rintro ⟨⟨⟨⟨⟨⟨⟨a1, a2⟩, a3⟩, a4, a5, a6⟩, a7, a8⟩, a9⟩, a10⟩, a11⟩
    exact ⟨⟨a1, a2⟩, a3, a4, a5, a6, a7, a8, a9, fun g hg => (gvOk_iff g).1 (a10 g hg), fun x hx => (spOk_iff (hl x hx)).1 (a11 x hx)⟩
  · rintro ⟨a1, a3, a4, a5, a6, a7, a8, a9, a10, a11⟩
    exact ⟨⟨⟨⟨⟨⟨⟨a1.1, a1.2⟩, a3⟩, a4, a5, a6⟩, a7, a8⟩, a9⟩, fun g hg => (gvOk_iff g).2 (a10 g hg)⟩, fun x hx => (spOk_iff (hl x hx)).2 (a11 x hx)⟩
theorem tx_tz {t : Tx} (h : ((t.coord == 0) && ((t.epoch == 0) && ((t.seq == 0) && true))) = true) : t = tz := by
  obtain ⟨a, b, c⟩ := t
  simp at h
  obtain ⟨rfl, rfl, rfl⟩ := h
  rfl
theorem bareA_iff (a : Ax) : bareA a = true ↔ ((a.do_ = 4 → a.org = 0) ∧ (a.do_ ≠ 1 → a.auditor = 0 ∧ a.gives.len = 0) ∧ ((a.do_ ≠ 2 ∧ a.do_ ≠ 9) → a.txn = tz) ∧ (a.do_ ≠ 2 → a.yes = false) ∧ ((a.do_ ≠ 5 ∧ a.do_ ≠ 10) → a.steps.len = 0) ∧ ((a.do_ ≠ 4 ∧ a.do_ ≠ 6 ∧ a.do_ ≠ 7) → a.n = 0)) := by
  have e0 : ((a.txn.coord == 0) && ((a.txn.epoch == 0) && ((a.txn.seq == 0) && true))) = decide (a.txn = tz) := by
    rw [Bool.eq_iff_iff, decide_eq_true_eq]
    exact ⟨tx_tz, fun h => by rw [h]; rfl⟩
  have e1 : ∀ n : Nat, ((n : Int) == 0) = decide (n = 0) := fun n => by rw [Bool.eq_iff_iff]; simp
  unfold bareA
  rw [e0, e1, e1]
  simp only [Bool.and_eq_true, Bool.or_eq_true, bne_iff_ne, beq_iff_eq, decide_eq_true_eq, Bool.not_eq_true']
  constructor
  · rintro ⟨⟨⟨⟨⟨h1, h2⟩, h3⟩, h4⟩, h5⟩, h6⟩
    exact ⟨fun h => h1.resolve_left (fun x => x h), fun h => h2.resolve_left h, fun h => h3.resolve_left (fun x => x.elim h.1 h.2), fun h => h4.resolve_left h, fun h => h5.resolve_left (fun x => x.elim h.1 h.2), fun h => h6.resolve_left (fun x => x.elim (fun y => y.elim h.1 h.2.1) h.2.2)⟩
  · rintro ⟨h1, h2, h3, h4, h5, h6⟩
    refine ⟨⟨⟨⟨⟨?_, ?_⟩, ?_⟩, ?_⟩, ?_⟩, ?_⟩
    · by_cases h : a.do_ = 4
      · exact .inr (h1 h)
      · exact .inl h
    · by_cases h : a.do_ = 1
      · exact .inl h
      · exact .inr (h2 h)
    · by_cases h : a.do_ = 2 ∨ a.do_ = 9
      · exact .inl h
      · exact .inr (h3 ⟨fun e => h (.inl e), fun e => h (.inr e)⟩)
    · by_cases h : a.do_ = 2
      · exact .inl h
      · exact .inr (h4 h)
    · by_cases h : a.do_ = 5 ∨ a.do_ = 10
      · exact .inl h
      · exact .inr (h5 ⟨fun e => h (.inl e), fun e => h (.inr e)⟩)
    · by_cases h : (a.do_ = 4 ∨ a.do_ = 6) ∨ a.do_ = 7
      · exact .inl h
      · exact .inr (h6 ⟨fun e => h (.inl (.inl e)), fun e => h (.inl (.inr e)), fun e => h (.inr e)⟩)
theorem chkA_iff {a : Ax} (hg : a.gives.xs.length = a.gives.len) (hs : a.steps.xs.length = a.steps.len) (hl : ∀ x ∈ a.steps.xs, x.list.xs.length = x.list.len) : chkA a = 0 ↔ AcP a.aa := by
  have h0 : chkA a = 0 ↔ fineA a = true := by unfold chkA; split <;> simp_all
  rw [h0, fineA_iff hl]
  constructor
  · rintro ⟨hk, hb, ho, hau, hn, hgl, hsl, ht, hgv, hsp⟩
    obtain ⟨b1, b2, b3, b4, b5, b6⟩ := (bareA_iff a).1 hb
    obtain ⟨k, o, au, n, g, t, y, st⟩ := a
    simp only at hk ho hau hn hgl hsl ht hgv hsp b1 b2 b3 b4 b5 b6 hg hs
    have eg : g.len = 0 → g.xs = [] := fun h => List.length_eq_zero_iff.1 (by omega)
    have es : st.len = 0 → st.xs = [] := fun h => List.length_eq_zero_iff.1 (by omega)
    have hlen : (st.xs.map Sr.sp).length ≤ 64 := by rw [List.length_map]; omega
    have hspm : ∀ x ∈ st.xs.map Sr.sp, SpP x := fun x hx => by obtain ⟨y, hy, rfl⟩ := List.mem_map.1 hx; exact hsp y hy
    have hk10 : k = 1 ∨ k = 2 ∨ k = 3 ∨ k = 4 ∨ k = 5 ∨ k = 6 ∨ k = 7 ∨ k = 8 ∨ k = 9 ∨ k = 10 := by omega
    show AcP ⟨k, o, au, n, g.xs, t, y, st.xs.map Sr.sp⟩
    rcases hk10 with rfl | rfl | rfl | rfl | rfl | rfl | rfl | rfl | rfl | rfl
    · rw [b3 (by omega), b4 (by omega), b6 (by omega), es (b5 (by omega))]
      exact AcP.begin_ o au g.xs ho hau (by omega) hgv
    · rw [(b2 (by omega)).1, eg (b2 (by omega)).2, b6 (by omega), es (b5 (by omega))]
      exact AcP.submit o t y ho (ht (by omega))
    · rw [(b2 (by omega)).1, eg (b2 (by omega)).2, b3 (by omega), b4 (by omega), b6 (by omega), es (b5 (by omega))]
      exact AcP.tick o ho
    · rw [b1 rfl, (b2 (by omega)).1, eg (b2 (by omega)).2, b3 (by omega), b4 (by omega), es (b5 (by omega))]
      exact AcP.deliver n hn
    · rw [(b2 (by omega)).1, eg (b2 (by omega)).2, b3 (by omega), b4 (by omega), b6 (by omega)]
      exact AcP.inject o _ ho hlen hspm
    · rw [(b2 (by omega)).1, eg (b2 (by omega)).2, b3 (by omega), b4 (by omega), es (b5 (by omega))]
      exact AcP.arm o n ho hn
    · rw [(b2 (by omega)).1, eg (b2 (by omega)).2, b3 (by omega), b4 (by omega), es (b5 (by omega))]
      exact AcP.crash o n ho hn
    · rw [(b2 (by omega)).1, eg (b2 (by omega)).2, b3 (by omega), b4 (by omega), b6 (by omega), es (b5 (by omega))]
      exact AcP.restart o ho
    · rw [(b2 (by omega)).1, eg (b2 (by omega)).2, b4 (by omega), b6 (by omega), es (b5 (by omega))]
      exact AcP.exprt o t ho (ht (by omega))
    · rw [(b2 (by omega)).1, eg (b2 (by omega)).2, b3 (by omega), b4 (by omega), b6 (by omega)]
      exact AcP.present o _ ho hlen hspm
  · intro h
    have key : ∀ x : Aa, x = a.aa → AcP x → FineP a := by
      intro x hx h
      have d0 : x.do_ = a.do_ := by rw [hx]; rfl
      have d1 : x.org = a.org := by rw [hx]; rfl
      have d2 : x.auditor = a.auditor := by rw [hx]; rfl
      have d3 : x.n = a.n := by rw [hx]; rfl
      have d4 : x.gives = a.gives.xs := by rw [hx]; rfl
      have d5 : x.txn = a.txn := by rw [hx]; rfl
      have d6 : x.yes = a.yes := by rw [hx]; rfl
      have d7 : x.steps = a.steps.xs.map Sr.sp := by rw [hx]; rfl
      have dg : a.gives.len = x.gives.length := by rw [d4]; omega
      have ds : a.steps.len = x.steps.length := by rw [d7, List.length_map]; omega
      have o0 : orgW 0 = true := by decide
      have n0 : nmW 0 = true := by decide
      refine ⟨?_, (bareA_iff a).2 ?_, ?_, ?_, ?_, ?_, ?_, ?_, ?_, fun y hy => ?_⟩
      · rw [← d0]; cases h <;> simp
      · rw [← d0, ← d1, ← d2, ← d3, ← d5, ← d6, dg, ds]; cases h <;> simp
      · rw [← d1]; cases h <;> assumption
      · rw [← d2]; cases h <;> assumption
      · rw [← d3]; cases h <;> assumption
      · rw [dg]; cases h <;> first | assumption | exact Nat.zero_le _
      · rw [ds]; cases h <;> first | assumption | exact Nat.zero_le _
      · rw [← d0, ← d5]; cases h <;> first | (intro _; assumption) | (intro h; exact absurd h (by simp))
      · rw [← d4]; cases h <;> first | assumption | (intro g hg; cases hg)
      · have hy' : y.sp ∈ x.steps := by rw [d7]; exact List.mem_map_of_mem hy
        have hall : ∀ z ∈ x.steps, SpP z := by
          cases h <;> first | assumption | (intro g hg; cases hg)
        exact hall _ hy'
    exact key _ rfl h
end Go.Proofs.Ytbpgiodfccijmaa
namespace Go.Chi

/-! ### what is known for good, and may be stored again as it is -/
def CellsZ (M : Mem) (b off : Nat) (vs : List Value) : Prop := ∃ cs t, M.blk b = some (.cells cs t (0, 0)) ∧ ∀ i v, vs[i]? = some v → cs[off + i]? = some v
theorem CellsZ.cells {M : Mem} {b off : Nat} {vs : List Value} (h : CellsZ M b off vs) : Cells M [] b off vs := by
  obtain ⟨cs, t, h1, h2⟩ := h
  exact ⟨cs, t, (0, 0), .inr h1, h2⟩
theorem CellsZ.le {M M' : Mem} {b off : Nat} {vs : List Value} (hm : M.le M') (h : CellsZ M b off vs) : CellsZ M' b off vs := by
  obtain ⟨cs, t, h1, h2⟩ := h
  exact ⟨cs, t, hm.blk _ _ h1, h2⟩
def SlZ (M : Mem) (size : Nat) (a : Option Addr) (len : Nat) (ls : List (List Value)) : Prop :=
  ls.length = len ∧ (∀ l ∈ ls, l.length = size) ∧ (ls = [] ∨ ∃ b off, a = some ⟨b, off, none⟩ ∧ ∀ (i : Nat) c, ls[i]? = some c → CellsZ M b (off + i * size) c)
theorem SlZ.m {M : Mem} {size : Nat} {a : Option Addr} {len : Nat} {ls : List (List Value)} (h : SlZ M size a len ls) : SlM M size a len ls := by
  obtain ⟨h1, h2, h3⟩ := h
  refine ⟨h1, h2, h3.imp id ?_⟩
  rintro ⟨b, off, e, h⟩
  exact ⟨b, off, e, fun i c hc => (h i c hc).cells⟩
theorem SlZ.le {M M' : Mem} {size : Nat} {a : Option Addr} {len : Nat} {ls : List (List Value)} (hm : M.le M') (h : SlZ M size a len ls) : SlZ M' size a len ls := by
  obtain ⟨h1, h2, h3⟩ := h
  refine ⟨h1, h2, h3.imp id ?_⟩
  rintro ⟨b, off, e, h⟩
  exact ⟨b, off, e, fun i c hc => (h i c hc).le hm⟩
theorem SlZ.nil (M : Mem) (size : Nat) (a : Option Addr) : SlZ M size a 0 [] := ⟨rfl, (fun _ h => by cases h), .inl rfl⟩
theorem SlZ.at_ {M : Mem} {size : Nat} {a : Option Addr} {len : Nat} {ls : List (List Value)} (h : SlZ M size a len ls) {k : Nat} (hk : k < len) : ∃ b off c, a = some ⟨b, off, none⟩ ∧ ls[k]? = some c ∧ c.length = size ∧ CellsZ M b (off + k * size) c := by
  obtain ⟨h1, h2, h3⟩ := h
  have hl : k < ls.length := by omega
  rcases h3 with h3 | ⟨b, off, e, h⟩
  · rw [h3] at hl; simp at hl
  · exact ⟨b, off, ls[k], e, List.getElem?_eq_getElem hl, h2 _ (List.getElem_mem hl), h k _ (List.getElem?_eq_getElem hl)⟩
theorem SlZ.ofBlk {M : Mem} {b e size : Nat} {ls : List (List Value)} {cs : List Value} (h : M.blk b = some (.cells ⟨cs⟩ e (0, 0))) (hcs : cs = ls.flatten) (hsz : ∀ l ∈ ls, l.length = size) : SlZ M size (some ⟨b, 0, none⟩) ls.length ls :=
  ⟨rfl, hsz, .inr ⟨b, 0, rfl, fun i c hc => ⟨⟨cs⟩, e, h, fun j v hv => by
    have := flat_at hsz hc hv
    rw [← hcs] at this
    simpa using this⟩⟩⟩
/-- a slice of our own is given up -/
theorem Hp.freezeOZ {M : Mem} {L N : HL} {w : World} {e size n : Nat} {v : Value} {ls : List (List Value)} (h : Hp M (N ++ L) w) (ho : OS e size v n ls.flatten N) (hl : ls.length = n) (hsz : ∀ l ∈ ls, l.length = size) :
    ∃ M' a cap, M.le M' ∧ Hp M' L w ∧ v = .slice a n cap ∧ SlZ M' size a n ls := by
  rcases ho with ⟨rfl, rfl, hx, rfl⟩ | ⟨b, cap, cs, rfl, rfl, hle, hcl, hxs⟩
  · have : ls = [] := List.length_eq_zero_iff.1 hl
    subst this
    exact ⟨M, none, 0, Mem.le_refl M, h, rfl, SlZ.nil _ _ _⟩
  · obtain ⟨M', h1, h2, h3⟩ := Hp.freeze1 h
    refine ⟨M', some ⟨b, 0, none⟩, cap, h1, h3, rfl, hl, hsz, .inr ⟨b, 0, rfl, fun i c hc => ?_⟩⟩
    refine ⟨⟨cs⟩, e, h2, fun j u hu => ?_⟩
    have hj : j < size := by
      have h4 := hsz c (List.mem_of_getElem? hc)
      have := (List.getElem?_eq_some_iff.1 hu).1
      omega
    have hi : i < ls.length := (List.getElem?_eq_some_iff.1 hc).1
    have key : ls.flatten[i * size + j]? = some u := flat_at hsz hc hu
    have hlt : i * size + j < n * size := by
      have : (i + 1) * size ≤ n * size := Nat.mul_le_mul_right _ (by omega)
      rw [Nat.add_mul] at this; omega
    rw [← hxs, List.getElem?_take, if_pos hlt] at key
    simpa using key
section
variable {P : Program} {T : TT} {ro : Option Nat} {σ : Env} {δ : Den} {cur : Path} {M : Mem} {L : HL} {d : Option Nat} {op : Op} {ty : TypeId} {pos : String} {aft : Array Edge} {g : Option (Nat × Bool)} {v : Value}
/-- a store of what is there already -/
theorem st_storeZ (hT : TOk P T) {t : TypeId} {x y : Operand} {b off k : Nat} {vs : List Value} (hx : ev σ δ cur x = some (.pointer (some ⟨b, off + k, none⟩))) (hy : ev σ δ cur y = some v) (hi : sizeT T t = some 1) (hl : cellsL v = [v]) (h1 : oneL [v] = true)
    (hz : CellsZ M b off vs) (hv : vs[k]? = some v) : St P ro ⟨d, .store t x y, ty, pos, aft, g⟩ σ δ cur M L (fun v' M' L' => v' = undef ∧ M = M' ∧ L = L') := fun a w hs hcur hp => by
  obtain ⟨cs, et, hb, hc⟩ := hz
  have hcv := hc k v hv
  have hw := hp.blk _ _ hb
  refine opWp_skip (w' := w) ?_ ⟨M, L, hp, rfl, rfl, rfl⟩
  rw [semAt_of (by intro c e; cases e)]
  have hlt : off + k < cs.size := (Array.getElem?_eq_some_iff.1 hcv).1
  have hrun := run_storeCells_at (P := P) b (off + k) et [v] 0 cs w hw (by simp; omega) (oneL_ok h1)
  simp only [Nat.add_zero] at hrun
  have hsame : (cs.toList.take (off + k) ++ [v] ++ cs.toList.drop (off + k + [v].length)).toArray = cs := by
    apply Array.ext'
    have e1 : cs.toList[off + k]? = some v := by simpa using hcv
    have hlt' : off + k < cs.toList.length := by simpa using hlt
    have e2 : cs.toList[off + k] = v := by
      have := List.getElem?_eq_getElem hlt'
      rw [this] at e1; exact Option.some.inj e1
    simp only [List.length_singleton, List.append_assoc]
    rw [← e2]
    show cs.toList.take (off + k) ++ (cs.toList[off + k] :: cs.toList.drop (off + k + 1)) = cs.toList
    rw [List.getElem_cons_drop, List.take_append_drop]
  rw [hsame, setRow_self w b cs et (0, 0) hw] at hrun
  have hsz : v.cells.size = 1 := by rw [cellsL_eq, hl]; rfl
  have hvl : v.cells.toList = [v] := by rw [cellsL_eq, hl]
  simp only [execOp, Instr.storeAt, ev_sound hs hcur hx, ev_sound hs hcur hy, Instr.sureAddr, Sem.run_bind, Sem.run_pure, Result.andThen_ok, storeVar, run_sizeT hT hi, hsz, ne_eq, not_true_eq_false, Sem.run_ite, if_false]
  rw [hvl, hrun]
  rfl
/-- a load of what is known to be there -/
def Holds (P : Program) (M : Mem) (L : HL) (t b off : Nat) (v : Value) : Prop := ∀ w, Hp M L w → (loadVar t ⟨b, off, none⟩).run P w = .ok v w
theorem qt_ldH {t : TypeId} {x : Operand} {b off : Nat} (hx : ev σ δ cur x = some (.pointer (some ⟨b, off, none⟩))) (h : Holds P M L t b off v) : Qt P ro ⟨d, .load t x, ty, pos, aft, g⟩ σ δ cur M L v :=
  qt_of_run (semAt_of (by intro c e; cases e)) fun a w hs hcur hp => by
    simp [execOp, Instr.loadAt, ev_sound hs hcur hx, Instr.sureAddr, h w hp]
theorem holdsL (hT : TOk P T) {t b off : Nat} {cs : List Value} {et : TypeId} {fz : Nat × Nat} (hm : (b, Obj.cells ⟨cs⟩ et fz) ∈ L) (hv : ldE T t cs off = some v) : Holds P M L t b off v := fun _ hw => run_ldE hT hw (.inl hm) hv
theorem holdsM (hT : TOk P T) {t b off k : Nat} {cs : List Value} (hc : Cells M [] b off cs) (ha : aggT T t = some false) (hv : cs[k]? = some v) : Holds P M L t b (off + k) v := fun _ hw => run_loadVar1 hT hw ha ((hc.one hv).ofM)
end
end Go.Chi
namespace Go.Chi

section
variable {P : Program} {T : TT} {ro : Option Nat} {σ : Env} {δ : Den} {cur : Path} {M : Mem} {L : HL} {d : Option Nat} {op : Op} {ty : TypeId} {pos : String} {aft : Array Edge} {g : Option (Nat × Bool)} {v : Value}
/-- an array's place -/
theorem qt_indexA (hT : TOk P T) {t : TypeId} {x y : Operand} {b off len : Nat} {k : IntKind} {n e s : Nat}
    (hx : ev σ δ cur x = some (.pointer (some ⟨b, off, none⟩))) (hy : ev σ δ cur y = some (.int k (n : Int))) (hu : und T t = some (.array len e)) (hi : sizeT T e = some s) (hb : Hy σ δ cur → n < len) :
    Qt P ro ⟨d, .indexAddr t x y, ty, pos, aft, g⟩ σ δ cur M L (.pointer (some ⟨b, off + n * s, none⟩)) :=
  qt_of_run (semAt_of (by intro c e; cases e)) fun a w hs hcur hp => by
    have h := hb (Hy_of hs hcur)
    simp [execOp, Instr.indexAt, Instr.sureAddr, ev_sound hs hcur hx, ev_sound hs hcur hy, asIntOf, run_und hT hu, run_sizeT hT hi, add_none, h]
/-- an array's end as a slice -/
theorem qt_sliceArr (hT : TOk P T) {t : TypeId} {x y : Operand} {b off len : Nat} {k : IntKind} {n e s : Nat}
    (hx : ev σ δ cur x = some (.pointer (some ⟨b, off, none⟩))) (hy : ev σ δ cur y = some (.int k (n : Int))) (hu : und T t = some (.array len e)) (hi : sizeT T e = some s) (hb : Hy σ δ cur → n < len) :
    Qt P ro ⟨d, .slice t x (some y) none none, ty, pos, aft, g⟩ σ δ cur M L (.slice (some ⟨b, off + n * s, none⟩) (len - n) (len - n)) :=
  qt_of_run (semAt_of (by intro c e; cases e)) fun a w hs hcur hp => by
    have h := hb (Hy_of hs hcur)
    have h1 : n ≤ len := by omega
    have h2 : ¬ len = n := by omega
    simp [execOp, Instr.sliceAt, Instr.sureAddr, Instr.sliceBounds, Instr.sliceBound, ev_sound hs hcur hx, ev_sound hs hcur hy, asIntOf, run_und hT hu, run_sizeT hT hi, add_none, h1, h2]
/-- a slice's bytes as a text, from any place on -/
theorem qt_bytesStrO (hT : TOk P T) {s t e : TypeId} {x : Operand} {b o n c : Nat} (ns : List Int) (hs' : und T s = some (.slice e)) (he : und T e = some (.int .u8)) (hu : und T t = some .string) (hx : ev σ δ cur x = some (.slice (some ⟨b, o, none⟩) n c)) (hc : Cells M L b o (ns.map (Value.int .u8))) (hl : ns.length = n) :
    Qt P ro ⟨d, .convert s t x, ty, pos, aft, g⟩ σ δ cur M L (.string (bytesI ns)) :=
  qt_of_run (semAt_of (by intro c e; cases e)) fun a w hs hcur hp => by
    have h1 := run_loadCells (P := P) hp (ns.map (Value.int .u8)) [] (by simpa using hc)
    have h2 : (loadCells ⟨b, o, none⟩ n).run P w = .ok (ns.map (Value.int .u8)).toArray w := by
      simp only [List.length_nil, List.nil_append, List.length_map, hl] at h1
      exact h1
    have h3 := run_bytesToString w ⟨b, o, none⟩ n c ns h2
    have h4 := run_convert_bytes_string (P := P) w s t e (some ⟨b, o, none⟩) n c (und_ok hT hs') (und_ok hT he) (und_ok hT hu)
    simp only [execOp, ev_sound hs hcur hx, Sem.run_bind, h4, h3, Result.andThen_ok, Sem.run_pure]
    rfl
end
theorem bytesI_ext (ns : List Int) : ∀ r : ByteArray, (ns.foldl (fun r n => r.push (UInt8.ofNat n.toNat)) r).data.toList = r.data.toList ++ ns.map (fun n => UInt8.ofNat n.toNat) := by
  induction ns with
  | nil => intro r; simp
  | cons x ns ih => intro r; rw [List.foldl_cons, ih]; simp
theorem bytesI_list (ns : List Int) : (bytesI ns).data.toList = ns.map (fun n => UInt8.ofNat n.toNat) := by
  unfold bytesI
  rw [bytesI_ext]
  rfl
theorem bytesI_app (a b : List Int) : bytesI (a ++ b) = bytesI a ++ bytesI b := by
  apply ByteArray.ext
  apply Array.ext'
  simp [ByteArray.data_append, bytesI_list]
/-- a byte is put ahead of the end of a block of cells -/
theorem setSeg_tail {cs : List Value} {k : Nat} (v : Value) (hk : k + 1 ≤ cs.length) : (setSeg cs k [v]).length = cs.length ∧ (setSeg cs k [v]).drop k = v :: cs.drop (k + 1) := by
  unfold setSeg
  constructor
  · simp; omega
  · rw [List.append_assoc, List.drop_append_of_le_length (by simp; omega), List.drop_eq_nil_of_le (by simp; omega)]
    simp
theorem Cells.tail {M : Mem} {L : HL} {b k : Nat} {cs xs : List Value} {et : TypeId} {fz : Nat × Nat} (hm : (b, Obj.cells ⟨cs⟩ et fz) ∈ L) (h : cs.drop k = xs) : Cells M L b k xs := by
  obtain ⟨cs', t', fz', hb, hc⟩ := cellsAll (M := M) hm
  refine ⟨cs', t', fz', hb, fun i v hv => hc (k + i) v ?_ |> fun h => by simpa using h⟩
  rw [← h, List.getElem?_drop] at hv
  exact hv
end Go.Chi
namespace Go.Proofs.Ytbpgiodfccijmaa
open Go.Chi

theorem u8_mod (w : Nat) : IntKind.u8.wrap (w : Int) = ((w % 256 : Nat) : Int) := by
  simp only [IntKind.wrap, IntKind.signed, IntKind.bits]
  simp
theorem shr8 (w : Nat) : ishr .u64 (w : Int) 8 = ((w / 256 : Nat) : Int) := by
  have : ishr .u64 (w : Int) 8 = (w : Int).fdiv 256 := rfl
  rw [this]
  exact Int.ofNat_fdiv w 256 |>.symm
set_option maxRecDepth 10000 in
set_option maxHeartbeats 4000000 in
theorem onum_ok (M : Mem) (L : HL) (v : Nat) (hv : v < 18446744073709551616) : TrQ Try.prog 101 [.int .u64 (v : Int)] M L (.string (numB v)) := by
  have hlen := digN_len hv
  refine Tr.intro 31 Try.func101 rfl rfl Try.call101 rfl ?_
  intro C hC hro
  repeat (first | with_reducible (first | refine cS ?_ | refine cR ?_ | refine cN ?_ | refine cK ?_ | refine cB ?_ | refine cI ?_) | refine cE rfl ?_ | refine rq (qt_pev tok rfl) ?_ | refine rg rfl rfl (qt_pev tok rfl) ?_ | refine rq (ql tok rfl) ?_ | refine rg rfl rfl (ql tok rfl) ?_ | (refine runL_op0 (sst tok rfl rfl rfl rfl rfl) ?_; rintro _ _ _ ⟨rfl, rfl, rfl⟩) | ((first | refine ro (st_box rfl) ?_ | refine ro (st_alloc tok rfl) ?_ | refine ro (st_buildSlice tok rfl rfl rfl rfl rfl rfl rfl) ?_); rintro _ _ _ ⟨_, rfl, rfl, rfl⟩))
  refine run_cond rfl (fun h => ?_) (fun h => ?_)
  · have h0 : v < 248 := by simp at h; omega
    repeat (first | with_reducible (first | refine cS ?_ | refine cR ?_ | refine cN ?_ | refine cK ?_ | refine cB ?_ | refine cI ?_) | refine cE rfl ?_ | refine rq (qt_pev tok rfl) ?_ | refine rg rfl rfl (qt_pev tok rfl) ?_ | refine rq (ql tok rfl) ?_ | refine rg rfl rfl (ql tok rfl) ?_ | (refine runL_op0 (sst tok rfl rfl rfl rfl rfl) ?_; rintro _ _ _ ⟨rfl, rfl, rfl⟩) | ((first | refine ro (st_box rfl) ?_ | refine ro (st_alloc tok rfl) ?_ | refine ro (st_buildSlice tok rfl rfl rfl rfl rfl rfl rfl) ?_); rintro _ _ _ ⟨_, rfl, rfl, rfl⟩) | refine runL_q (qt_bytesStr tok [IntKind.u8.wrap (v : Int)] rfl rfl rfl rfl (cellsAll List.mem_cons_self) rfl) rfl rfl rfl ?_)
    exact run_ret hC (rs := [.tmp 2]) rfl (resT rfl resN) (fun _ h => h.drop) ⟨by rw [numB, if_pos h0]; rfl, rfl, rfl⟩
  · have h0 : ¬ v < 248 := by simp at h; omega
    repeat (first | with_reducible (first | refine cS ?_ | refine cR ?_ | refine cN ?_ | refine cK ?_ | refine cB ?_ | refine cI ?_) | refine cE rfl ?_ | refine rq (qt_pev tok rfl) ?_ | refine rg rfl rfl (qt_pev tok rfl) ?_ | refine rq (ql tok rfl) ?_ | refine rg rfl rfl (ql tok rfl) ?_ | (refine runL_op0 (sst tok rfl rfl rfl rfl rfl) ?_; rintro _ _ _ ⟨rfl, rfl, rfl⟩) | ((first | refine ro (st_box rfl) ?_ | refine ro (st_alloc tok rfl) ?_ | refine ro (st_buildSlice tok rfl rfl rfl rfl rfl rfl rfl) ?_); rintro _ _ _ ⟨_, rfl, rfl, rfl⟩))
    rename_i b
    refine run_loopN (fun i σ1 M1 L1 => i ≤ 8 ∧ ∃ (w : Nat) (ns : List Int) (cs : List Value), digN v = digN w ++ bytesI ns ∧ ns.length = i ∧ w < 18446744073709551616 ∧ cs.length = 9 ∧ cs.drop (9 - i) = ns.map (Value.int .u8) ∧ σ1 = [(4, .int .i64 ((9 - i : Nat) : Int)), (3, .pointer (some ⟨b, 0, none⟩)), (2, .string ⟨#[]⟩), (0, .int .u64 (w : Int))] ∧ M = M1 ∧ L1 = (b, Obj.cells ⟨cs⟩ 143 (0, 0)) :: L) 8 [(4, .int .i64 ((9 - 0 : Nat) : Int)), (3, .pointer (some ⟨b, 0, none⟩)), (2, .string ⟨#[]⟩), (0, .int .u64 (v : Int))] ?_ ⟨Nat.zero_le _, v, [], _, (app_nil _).symm, rfl, hv, rfl, rfl, rfl, rfl, rfl⟩ (fun j _ _ _ h => h.1) ?_
    · exact ⟨rfl, rfl, rfl, rfl, trivial⟩
    rintro i _ _ _ ⟨hi, w, ns, cs, hd, hns, hw, hcs, hdr, rfl, rfl, rfl⟩ hnext
    have hsz := congrArg ByteArray.size hd
    rw [app_size] at hsz
    have hbn : (bytesI ns).size = i := by
      rw [← ba_len, bytesI_list, List.length_map, hns]
    repeat (first | with_reducible (first | refine cS ?_ | refine cR ?_ | refine cN ?_ | refine cK ?_ | refine cB ?_ | refine cI ?_) | refine cE rfl ?_ | refine rq (qt_pev tok rfl) ?_ | refine rg rfl rfl (qt_pev tok rfl) ?_ | refine rq (ql tok rfl) ?_ | refine rg rfl rfl (ql tok rfl) ?_ | (refine runL_op0 (sst tok rfl rfl rfl rfl rfl) ?_; rintro _ _ _ ⟨rfl, rfl, rfl⟩) | ((first | refine ro (st_box rfl) ?_ | refine ro (st_alloc tok rfl) ?_ | refine ro (st_buildSlice tok rfl rfl rfl rfl rfl rfl rfl) ?_); rintro _ _ _ ⟨_, rfl, rfl, rfl⟩))
    refine run_cond rfl (fun h5 => ?_) (fun h5 => ?_)
    · have hw0 : w ≠ 0 := by simp at h5; omega
      have hdw : digN w = digN (w / 256) ++ bytesI [((w % 256 : Nat) : Int)] := by rw [digN, if_neg hw0]
      have hsw := congrArg ByteArray.size hdw
      rw [app_size, bytesI_one] at hsw
      have hi8 : i < 8 := by omega
      have e1 : IntKind.i64.wrap (((9 - i : Nat) : Int) - 1) = ((9 - (i + 1) : Nat) : Int) := by
        rw [show ((9 - i : Nat) : Int) - 1 = ((9 - (i + 1) : Nat) : Int) by omega, wrap64_nat (by omega)]
      repeat (first | with_reducible (first | refine cS ?_ | refine cR ?_ | refine cN ?_ | refine cK ?_ | refine cB ?_ | refine cI ?_) | refine cE rfl ?_ | refine rq (qt_pev tok rfl) ?_ | refine rg rfl rfl (qt_pev tok rfl) ?_ | refine rq (ql tok rfl) ?_ | refine rg rfl rfl (ql tok rfl) ?_ | (refine runL_op0 (sst tok rfl rfl rfl rfl rfl) ?_; rintro _ _ _ ⟨rfl, rfl, rfl⟩) | ((first | refine ro (st_box rfl) ?_ | refine ro (st_alloc tok rfl) ?_ | refine ro (st_buildSlice tok rfl rfl rfl rfl rfl rfl rfl) ?_); rintro _ _ _ ⟨_, rfl, rfl, rfl⟩))
      refine runL_as 4 (.int .i64 ((9 - (i + 1) : Nat) : Int)) rfl (by rw [e1]) ?_
      refine runL_as 17 (.int .i64 ((9 - (i + 1) : Nat) : Int)) rfl (by rw [e1]) ?_
      refine runL_as 19 (.int .u8 ((w % 256 : Nat) : Int)) rfl (by rw [u8_mod]) ?_
      repeat (first | with_reducible (first | refine cS ?_ | refine cR ?_ | refine cN ?_ | refine cK ?_ | refine cB ?_ | refine cI ?_) | refine cE rfl ?_ | refine rq (qt_pev tok rfl) ?_ | refine rg rfl rfl (qt_pev tok rfl) ?_ | refine rq (ql tok rfl) ?_ | refine rg rfl rfl (ql tok rfl) ?_ | (refine runL_op0 (sst tok rfl rfl rfl rfl rfl) ?_; rintro _ _ _ ⟨rfl, rfl, rfl⟩) | ((first | refine ro (st_box rfl) ?_ | refine ro (st_alloc tok rfl) ?_ | refine ro (st_buildSlice tok rfl rfl rfl rfl rfl rfl rfl) ?_); rintro _ _ _ ⟨_, rfl, rfl, rfl⟩) | refine runL_q (qt_indexA (n := 9 - (i + 1)) tok rfl rfl rfl rfl (fun _ => by omega)) rfl rfl rfl ?_)
      refine runL_op0 (st_store tok rfl rfl rfl rfl rfl (Upd.here _ _ _ _) (setE_of (cs := cs) (off := 0 + (9 - (i + 1)) * 1) (vs := [.int .u8 ((w % 256 : Nat) : Int)]) (by rw [List.length_singleton]; omega))) ?_
      rintro _ _ _ ⟨rfl, rfl, rfl⟩
      repeat (first | with_reducible (first | refine cS ?_ | refine cR ?_ | refine cN ?_ | refine cK ?_ | refine cB ?_ | refine cI ?_) | refine cE rfl ?_ | refine rq (qt_pev tok rfl) ?_ | refine rg rfl rfl (qt_pev tok rfl) ?_ | refine rq (ql tok rfl) ?_ | refine rg rfl rfl (ql tok rfl) ?_ | (refine runL_op0 (sst tok rfl rfl rfl rfl rfl) ?_; rintro _ _ _ ⟨rfl, rfl, rfl⟩) | ((first | refine ro (st_box rfl) ?_ | refine ro (st_alloc tok rfl) ?_ | refine ro (st_buildSlice tok rfl rfl rfl rfl rfl rfl rfl) ?_); rintro _ _ _ ⟨_, rfl, rfl, rfl⟩) | refine runL_q (qt_shr rfl rfl (fun _ => by decide)) rfl rfl rfl ?_)
      refine run_as 0 (.int .u64 ((w / 256 : Nat) : Int)) rfl (by rw [shr8]) ?_
      have hk : 9 - (i + 1) + 1 ≤ cs.length := by omega
      obtain ⟨h6, h7⟩ := setSeg_tail (cs := cs) (.int .u8 ((w % 256 : Nat) : Int)) hk
      refine run_sub' (hnext _ _ _ ⟨by omega, w / 256, ((w % 256 : Nat) : Int) :: ns, _, ?_, by simp [hns], by omega, ?_, ?_, rfl, rfl, rfl⟩) ⟨rfl, rfl, rfl, rfl, trivial⟩
      · rw [hd, hdw, app_assoc, ← bytesI_app]; rfl
      · simp only [Nat.mul_one, Nat.zero_add]
        exact h6.trans hcs
      · simp only [Nat.mul_one, Nat.zero_add]
        refine h7.trans ?_
        rw [show 9 - (i + 1) + 1 = 9 - i by omega, hdr]
        rfl
    · have hw0 : w = 0 := by simp at h5; omega
      subst hw0
      rw [digN_zero, nil_app] at hd
      have hik : i = (digN v).size := by rw [hd]; omega
      have e1 : IntKind.i64.wrap (((9 - i : Nat) : Int) - 1) = ((8 - i : Nat) : Int) := by
        rw [show ((9 - i : Nat) : Int) - 1 = ((8 - i : Nat) : Int) by omega, wrap64_nat (by omega)]
      have e2 : IntKind.u8.wrap (IntKind.i64.wrap (255 - ((8 - i : Nat) : Int))) = ((247 + i : Nat) : Int) := by
        rw [show 255 - ((8 - i : Nat) : Int) = ((247 + i : Nat) : Int) by omega, wrap64_nat (by omega), u8_nat (by omega)]
      repeat (first | with_reducible (first | refine cS ?_ | refine cR ?_ | refine cN ?_ | refine cK ?_ | refine cB ?_ | refine cI ?_) | refine cE rfl ?_ | refine rq (qt_pev tok rfl) ?_ | refine rg rfl rfl (qt_pev tok rfl) ?_ | refine rq (ql tok rfl) ?_ | refine rg rfl rfl (ql tok rfl) ?_ | (refine runL_op0 (sst tok rfl rfl rfl rfl rfl) ?_; rintro _ _ _ ⟨rfl, rfl, rfl⟩) | ((first | refine ro (st_box rfl) ?_ | refine ro (st_alloc tok rfl) ?_ | refine ro (st_buildSlice tok rfl rfl rfl rfl rfl rfl rfl) ?_); rintro _ _ _ ⟨_, rfl, rfl, rfl⟩))
      refine runL_as 4 (.int .i64 ((8 - i : Nat) : Int)) rfl (by rw [e1]) ?_
      refine runL_as 23 (.int .i64 ((8 - i : Nat) : Int)) rfl (by rw [e1]) ?_
      refine runL_as 26 (.int .u8 ((247 + i : Nat) : Int)) rfl (by rw [e1, e2]) ?_
      repeat (first | with_reducible (first | refine cS ?_ | refine cR ?_ | refine cN ?_ | refine cK ?_ | refine cB ?_ | refine cI ?_) | refine cE rfl ?_ | refine rq (qt_pev tok rfl) ?_ | refine rg rfl rfl (qt_pev tok rfl) ?_ | refine rq (ql tok rfl) ?_ | refine rg rfl rfl (ql tok rfl) ?_ | (refine runL_op0 (sst tok rfl rfl rfl rfl rfl) ?_; rintro _ _ _ ⟨rfl, rfl, rfl⟩) | ((first | refine ro (st_box rfl) ?_ | refine ro (st_alloc tok rfl) ?_ | refine ro (st_buildSlice tok rfl rfl rfl rfl rfl rfl rfl) ?_); rintro _ _ _ ⟨_, rfl, rfl, rfl⟩) | refine runL_q (qt_indexA (n := 8 - i) tok rfl rfl rfl rfl (fun _ => by omega)) rfl rfl rfl ?_)
      refine runL_op0 (st_store tok rfl rfl rfl rfl rfl (Upd.here _ _ _ _) (setE_of (cs := cs) (off := 0 + (8 - i) * 1) (vs := [.int .u8 ((247 + i : Nat) : Int)]) (by rw [List.length_singleton]; omega))) ?_
      rintro _ _ _ ⟨rfl, rfl, rfl⟩
      obtain ⟨h6, h7⟩ := setSeg_tail (cs := cs) (k := 8 - i) (.int .u8 ((247 + i : Nat) : Int)) (by omega)
      repeat (first | with_reducible (first | refine cS ?_ | refine cR ?_ | refine cN ?_ | refine cK ?_ | refine cB ?_ | refine cI ?_) | refine cE rfl ?_ | refine rq (qt_pev tok rfl) ?_ | refine rg rfl rfl (qt_pev tok rfl) ?_ | refine rq (ql tok rfl) ?_ | refine rg rfl rfl (ql tok rfl) ?_ | (refine runL_op0 (sst tok rfl rfl rfl rfl rfl) ?_; rintro _ _ _ ⟨rfl, rfl, rfl⟩) | ((first | refine ro (st_box rfl) ?_ | refine ro (st_alloc tok rfl) ?_ | refine ro (st_buildSlice tok rfl rfl rfl rfl rfl rfl rfl) ?_); rintro _ _ _ ⟨_, rfl, rfl, rfl⟩) | refine runL_q (qt_sliceArr (n := 8 - i) tok rfl rfl rfl rfl (fun _ => by omega)) rfl rfl rfl ?_ | refine runL_q (qt_bytesStrO tok (((247 + i : Nat) : Int) :: ns) rfl rfl rfl rfl (Cells.tail (cs := setSeg cs (0 + (8 - i) * 1) [.int .u8 ((247 + i : Nat) : Int)]) List.mem_cons_self (by simp only [Nat.mul_one, Nat.zero_add]; rw [h7, show 8 - i + 1 = 9 - i by omega, hdr]; rfl)) (by rw [List.length_cons]; omega)) rfl rfl rfl ?_)
      refine run_ret hC (rs := [.tmp 2]) rfl (resT rfl resN) (fun _ h => h.drop) ⟨?_, rfl, rfl⟩
      rw [(numB_big h0 hv).1, ← hik, show ((247 + i : Nat) : Int) :: ns = [((247 + i : Nat) : Int)] ++ ns from rfl, bytesI_app, ← hd]
      rfl
set_option maxRecDepth 10000 in
set_option maxHeartbeats 4000000 in
theorem otext_ok (M : Mem) (L : HL) (s : ByteArray) (hs : s.size < 2305843009213693952) : TrQ Try.prog 102 [.string s] M L (.string (textB s)) := by
  have hz := numB_size (v := s.size) (by omega)
  have e1 : IntKind.u64.wrap (s.size : Int) = (s.size : Int) := u64_nat (by omega)
  refine Tr.intro 9 Try.func102 rfl rfl Try.call102 rfl ?_
  intro C hC hro
  repeat (first | with_reducible (first | refine cS ?_ | refine cR ?_ | refine cN ?_ | refine cK ?_ | refine cB ?_ | refine cI ?_) | refine cE rfl ?_ | refine rq (qt_pev tok rfl) ?_ | refine rg rfl rfl (qt_pev tok rfl) ?_ | refine rq (ql tok rfl) ?_ | refine rg rfl rfl (ql tok rfl) ?_ | (refine runL_op0 (sst tok rfl rfl rfl rfl rfl) ?_; rintro _ _ _ ⟨rfl, rfl, rfl⟩) | ((first | refine ro (st_box rfl) ?_ | refine ro (st_alloc tok rfl) ?_ | refine ro (st_buildSlice tok rfl rfl rfl rfl rfl rfl rfl) ?_); rintro _ _ _ ⟨_, rfl, rfl, rfl⟩))
  refine runL_as 5 (.int .u64 (s.size : Int)) rfl (by rw [e1]) ?_
  repeat (first | with_reducible (first | refine cS ?_ | refine cR ?_ | refine cN ?_ | refine cK ?_ | refine cB ?_ | refine cI ?_) | refine cE rfl ?_ | refine rq (qt_pev tok rfl) ?_ | refine rg rfl rfl (qt_pev tok rfl) ?_ | refine rq (ql tok rfl) ?_ | refine rg rfl rfl (ql tok rfl) ?_ | (refine runL_op0 (sst tok rfl rfl rfl rfl rfl) ?_; rintro _ _ _ ⟨rfl, rfl, rfl⟩) | ((first | refine ro (st_box rfl) ?_ | refine ro (st_alloc tok rfl) ?_ | refine ro (st_buildSlice tok rfl rfl rfl rfl rfl rfl rfl) ?_); rintro _ _ _ ⟨_, rfl, rfl, rfl⟩) | refine runL_q (qt_callF rfl (fun _ => onum_ok _ _ s.size (by omega))) rfl rfl rfl ?_ | refine runL_q (qt_concat rfl rfl (by omega)) rfl rfl rfl ?_)
  exact run_ret hC (rs := [.tmp 2]) rfl (resT rfl resN) (fun _ h => h) ⟨rfl, rfl, rfl⟩
end Go.Proofs.Ytbpgiodfccijmaa
namespace Go.Proofs.Ytbpgiodfccijmaa
open Go.Chi

/-! ### the script's writer -/
abbrev wcB (bw : Nat) (s : ByteArray) : Nat × Obj := (bw, .cells ⟨[.string s]⟩ 72 (0, 0))
abbrev rcB (br : Nat) (s : ByteArray) : Nat × Obj := (br, .cells ⟨[.string s]⟩ 89 (0, 0))
def fmC (ba t bc : Nat) : List Value := [.pointer (some ⟨ba, 0, none⟩), .iface t (.pointer (some ⟨bc, 0, none⟩))]
abbrev wT : Nat := 69
abbrev rT : Nat := 88
theorem mw_num : MethOk Try.prog wT "chirograph/script.num" 99 := .of (by kernel_rfl)
theorem mw_text : MethOk Try.prog wT "chirograph/script.text" 100 := .of (by kernel_rfl)
theorem mr_num : MethOk Try.prog rT "chirograph/script.num" 103 := .of (by kernel_rfl)
theorem mr_text : MethOk Try.prog rT "chirograph/script.text" 104 := .of (by kernel_rfl)
theorem trPerm {P : Program} {f : FuncId} {args : List Value} {M : Mem} {L L' : HL} {K : Value → Mem → HL → Prop} (hp : L.Perm L') (h : Tr P f args M L' K) : Tr P f args M L K := ⟨h.1, fun w hw => h.2 w (hw.perm hp)⟩
theorem nB_size {n : Int} (h : n < 4611686018427387904) : (nB n).size ≤ 9 := (numB_size (v := n.toNat) (by omega)).2
theorem textB_sz {t : ByteArray} (h : t.size < 1099511627776) : (textB t).size ≤ t.size + 9 := by
  have := numB_size (v := t.size) (by omega)
  rw [textB, app_size]
  omega
set_option maxRecDepth 10000 in
set_option maxHeartbeats 4000000 in
theorem swnum_ok (M : Mem) (L : HL) (bw : Nat) (s : ByteArray) (pb po : Nat) (n : Int) (most : Int) (hn : 0 ≤ n ∧ n < 4611686018427387904) (hs : s.size < 2305843009213693952) (hld : Holds Try.prog M (wcB bw s :: L) 3 pb po (.int .i64 n)) :
    Tr Try.prog 99 [.pointer (some ⟨bw, 0, none⟩), .pointer (some ⟨pb, po, none⟩), .int .i64 most] M (wcB bw s :: L) (fun v M' L' => v = .tuple ⟨[]⟩ ∧ M = M' ∧ L' = wcB bw (s ++ nB n) :: L) := by
  have hz := nB_size hn.2
  have e1 : IntKind.u64.wrap n = ((n.toNat : Nat) : Int) := by
    rw [show n = ((n.toNat : Nat) : Int) by omega, u64_nat (by omega)]
    simp
  have e2 : s.size + (numB n.toNat).size < 4611686018427387904 := by
    have : (numB n.toNat).size ≤ 9 := hz
    omega
  refine Tr.intro 18 Try.func99 rfl rfl Try.call99 rfl ?_
  intro C hC hro
  repeat (first | with_reducible (first | refine cS ?_ | refine cR ?_ | refine cN ?_ | refine cK ?_ | refine cB ?_ | refine cI ?_) | refine cE rfl ?_ | refine rq (qt_pev tok rfl) ?_ | refine rg rfl rfl (qt_pev tok rfl) ?_ | refine rq (ql tok rfl) ?_ | refine rg rfl rfl (ql tok rfl) ?_ | (refine runL_op0 (sst tok rfl rfl rfl rfl rfl) ?_; rintro _ _ _ ⟨rfl, rfl, rfl⟩) | ((first | refine ro (st_box rfl) ?_ | refine ro (st_alloc tok rfl) ?_ | refine ro (st_buildSlice tok rfl rfl rfl rfl rfl rfl rfl) ?_); rintro _ _ _ ⟨_, rfl, rfl, rfl⟩) | refine prn_start mixed ?_ | refine prn_end (by decide +kernel) ?_ | refine pq rfl (qt_pev tok rfl) ?_ | refine pg rfl rfl rfl (qt_pev tok rfl) ?_ | refine pq rfl (ql tok rfl) ?_ | refine pg rfl rfl rfl (ql tok rfl) ?_ | (refine prn_e0 rfl (sst tok rfl rfl rfl rfl rfl) (by decide +kernel) ?_; rintro _ _ _ ⟨rfl, rfl, rfl⟩) | ((first | refine pe rfl (st_box rfl) ?_ | refine pe rfl (st_alloc tok rfl) ?_ | refine pe rfl (st_buildSlice tok rfl rfl rfl rfl rfl rfl rfl) ?_); rintro _ _ _ ⟨_, rfl, rfl, rfl⟩) | (refine prn_o0 rfl (sst tok rfl rfl rfl rfl rfl) (by decide +kernel) ?_; rintro _ _ _ ⟨rfl, rfl, rfl⟩; refine ⟨by (repeat (first | exact trivial | refine And.intro (pend_q rfl rfl rfl (qt_pev tok rfl)) ?_ | refine And.intro (pend_q rfl rfl rfl (ql tok rfl)) ?_)), ?_⟩) | ((first | refine po rfl (st_box rfl) ?_ | refine po rfl (st_alloc tok rfl) ?_ | refine po rfl (st_buildSlice tok rfl rfl rfl rfl rfl rfl rfl) ?_); rintro _ _ _ ⟨_, rfl, rfl, rfl⟩; refine ⟨by (repeat (first | exact trivial | refine And.intro (pend_q rfl rfl rfl (qt_pev tok rfl)) ?_ | refine And.intro (pend_q rfl rfl rfl (ql tok rfl)) ?_)), ?_⟩) | (refine pe rfl (qt_pev tok rfl) ?_; rintro _ _ _ ⟨rfl, rfl, rfl⟩) | refine prn_q rfl (qt_ldH rfl hld) (by decide +kernel) rfl rfl rfl ?_)
  refine pr_as 13 (.int .u64 ((n.toNat : Nat) : Int)) rfl (by rw [e1]) ?_
  repeat (first | with_reducible (first | refine cS ?_ | refine cR ?_ | refine cN ?_ | refine cK ?_ | refine cB ?_ | refine cI ?_) | refine cE rfl ?_ | refine rq (qt_pev tok rfl) ?_ | refine rg rfl rfl (qt_pev tok rfl) ?_ | refine rq (ql tok rfl) ?_ | refine rg rfl rfl (ql tok rfl) ?_ | (refine runL_op0 (sst tok rfl rfl rfl rfl rfl) ?_; rintro _ _ _ ⟨rfl, rfl, rfl⟩) | ((first | refine ro (st_box rfl) ?_ | refine ro (st_alloc tok rfl) ?_ | refine ro (st_buildSlice tok rfl rfl rfl rfl rfl rfl rfl) ?_); rintro _ _ _ ⟨_, rfl, rfl, rfl⟩) | refine prn_start mixed ?_ | refine prn_end (by decide +kernel) ?_ | refine pq rfl (qt_pev tok rfl) ?_ | refine pg rfl rfl rfl (qt_pev tok rfl) ?_ | refine pq rfl (ql tok rfl) ?_ | refine pg rfl rfl rfl (ql tok rfl) ?_ | (refine prn_e0 rfl (sst tok rfl rfl rfl rfl rfl) (by decide +kernel) ?_; rintro _ _ _ ⟨rfl, rfl, rfl⟩) | ((first | refine pe rfl (st_box rfl) ?_ | refine pe rfl (st_alloc tok rfl) ?_ | refine pe rfl (st_buildSlice tok rfl rfl rfl rfl rfl rfl rfl) ?_); rintro _ _ _ ⟨_, rfl, rfl, rfl⟩) | (refine prn_o0 rfl (sst tok rfl rfl rfl rfl rfl) (by decide +kernel) ?_; rintro _ _ _ ⟨rfl, rfl, rfl⟩; refine ⟨by (repeat (first | exact trivial | refine And.intro (pend_q rfl rfl rfl (qt_pev tok rfl)) ?_ | refine And.intro (pend_q rfl rfl rfl (ql tok rfl)) ?_)), ?_⟩) | ((first | refine po rfl (st_box rfl) ?_ | refine po rfl (st_alloc tok rfl) ?_ | refine po rfl (st_buildSlice tok rfl rfl rfl rfl rfl rfl rfl) ?_); rintro _ _ _ ⟨_, rfl, rfl, rfl⟩; refine ⟨by (repeat (first | exact trivial | refine And.intro (pend_q rfl rfl rfl (qt_pev tok rfl)) ?_ | refine And.intro (pend_q rfl rfl rfl (ql tok rfl)) ?_)), ?_⟩) | (refine pe rfl (qt_pev tok rfl) ?_; rintro _ _ _ ⟨rfl, rfl, rfl⟩) | refine prn_q rfl (qt_callF rfl (fun _ => onum_ok _ _ n.toNat (by omega))) (by decide +kernel) rfl rfl rfl ?_ | refine prn_q rfl (qt_concat rfl rfl e2) (by decide +kernel) rfl rfl rfl ?_)
  exact run_end hC (rs := []) rfl resN (fun _ h => h) ⟨rfl, rfl, rfl⟩
set_option maxRecDepth 10000 in
set_option maxHeartbeats 4000000 in
theorem swtext_ok (M : Mem) (L : HL) (bw : Nat) (s : ByteArray) (pb po : Nat) (t : ByteArray) (most : Int) (ht : t.size < 1099511627776) (hs : s.size < 2305843009213693952) (hld : Holds Try.prog M (wcB bw s :: L) 9 pb po (.string t)) :
    Tr Try.prog 100 [.pointer (some ⟨bw, 0, none⟩), .pointer (some ⟨pb, po, none⟩), .int .i64 most] M (wcB bw s :: L) (fun v M' L' => v = .tuple ⟨[]⟩ ∧ M = M' ∧ L' = wcB bw (s ++ textB t) :: L) := by
  have hz := textB_sz ht
  have e2 : s.size + (textB t).size < 4611686018427387904 := by omega
  refine Tr.intro 17 Try.func100 rfl rfl Try.call100 rfl ?_
  intro C hC hro
  repeat (first | with_reducible (first | refine cS ?_ | refine cR ?_ | refine cN ?_ | refine cK ?_ | refine cB ?_ | refine cI ?_) | refine cE rfl ?_ | refine rq (qt_pev tok rfl) ?_ | refine rg rfl rfl (qt_pev tok rfl) ?_ | refine rq (ql tok rfl) ?_ | refine rg rfl rfl (ql tok rfl) ?_ | (refine runL_op0 (sst tok rfl rfl rfl rfl rfl) ?_; rintro _ _ _ ⟨rfl, rfl, rfl⟩) | ((first | refine ro (st_box rfl) ?_ | refine ro (st_alloc tok rfl) ?_ | refine ro (st_buildSlice tok rfl rfl rfl rfl rfl rfl rfl) ?_); rintro _ _ _ ⟨_, rfl, rfl, rfl⟩) | refine prn_start mixed ?_ | refine prn_end (by decide +kernel) ?_ | refine pq rfl (qt_pev tok rfl) ?_ | refine pg rfl rfl rfl (qt_pev tok rfl) ?_ | refine pq rfl (ql tok rfl) ?_ | refine pg rfl rfl rfl (ql tok rfl) ?_ | (refine prn_e0 rfl (sst tok rfl rfl rfl rfl rfl) (by decide +kernel) ?_; rintro _ _ _ ⟨rfl, rfl, rfl⟩) | ((first | refine pe rfl (st_box rfl) ?_ | refine pe rfl (st_alloc tok rfl) ?_ | refine pe rfl (st_buildSlice tok rfl rfl rfl rfl rfl rfl rfl) ?_); rintro _ _ _ ⟨_, rfl, rfl, rfl⟩) | (refine prn_o0 rfl (sst tok rfl rfl rfl rfl rfl) (by decide +kernel) ?_; rintro _ _ _ ⟨rfl, rfl, rfl⟩; refine ⟨by (repeat (first | exact trivial | refine And.intro (pend_q rfl rfl rfl (qt_pev tok rfl)) ?_ | refine And.intro (pend_q rfl rfl rfl (ql tok rfl)) ?_)), ?_⟩) | ((first | refine po rfl (st_box rfl) ?_ | refine po rfl (st_alloc tok rfl) ?_ | refine po rfl (st_buildSlice tok rfl rfl rfl rfl rfl rfl rfl) ?_); rintro _ _ _ ⟨_, rfl, rfl, rfl⟩; refine ⟨by (repeat (first | exact trivial | refine And.intro (pend_q rfl rfl rfl (qt_pev tok rfl)) ?_ | refine And.intro (pend_q rfl rfl rfl (ql tok rfl)) ?_)), ?_⟩) | (refine pe rfl (qt_pev tok rfl) ?_; rintro _ _ _ ⟨rfl, rfl, rfl⟩) | refine prn_q rfl (qt_ldH rfl hld) (by decide +kernel) rfl rfl rfl ?_ | refine prn_q rfl (qt_callF rfl (fun _ => otext_ok _ _ t (by omega))) (by decide +kernel) rfl rfl rfl ?_ | refine prn_q rfl (qt_concat rfl rfl e2) (by decide +kernel) rfl rfl rfl ?_)
  exact run_end hC (rs := []) rfl resN (fun _ h => h) ⟨rfl, rfl, rfl⟩

/-! ### which methods a kind calls -/
def partF (k : Int) : List Nat :=
  if k = 1 then [46, 47, 48] else
  if k = 2 then [46, 49, 50] else
  if k = 3 ∨ k = 8 then [46] else
  if k = 4 then [51] else
  if k = 5 ∨ k = 10 then [46, 52] else
  if k = 6 ∨ k = 7 then [46, 51] else
  if k = 9 then [46, 49] else []
def fmV (ba t bc : Nat) (f : Nat) : Value := .func (.func f) ⟨[.agg ⟨fmC ba t bc⟩]⟩ ⟨[]⟩
def partK (k : Int) (ba t bc : Nat) (M : Mem) (L : HL) (v : Value) (M' : Mem) (L' : HL) : Prop := M.le M' ∧ L' = L ∧ ∃ a c, v = .slice a (partF k).length c ∧ SlM M' 1 a (partF k).length ((partF k).map fun f => [fmV ba t bc f])
theorem part_flat (ba t bc : Nat) (l : List Nat) : l.map (fmV ba t bc) = (l.map fun f => [fmV ba t bc f]).flatten := by
  induction l with
  | nil => rfl
  | cons x l ih => rw [List.map_cons, List.map_cons, List.flatten_cons, ih]; rfl
theorem partK_of {k : Int} {ba t bc b : Nat} {M M' : Mem} {L : HL} {cs : List Value} (hM : M.le M') (h : M'.blk b = some (.cells ⟨cs⟩ 1 (0, 0))) (hcs : cs = (partF k).map (fmV ba t bc)) : partK k ba t bc M L (.slice (some ⟨b, 0, none⟩) (partF k).length (partF k).length) M' L := by
  have := SlM.ofBlk (size := 1) h (hcs.trans (part_flat ba t bc _)) (by simp)
  rw [List.length_map] at this
  exact ⟨hM, rfl, _, _, rfl, this⟩
set_option maxRecDepth 10000 in
set_option maxHeartbeats 16000000 in
theorem parts_ok (M : Mem) (L : HL) (ba t bc : Nat) (k : Int) (cs : List Value) (hm : (ba, Obj.cells ⟨cs⟩ 37 (0, 0)) ∈ L) (hv : cs[0]? = some (.int .u8 k)) : Tr Try.prog 35 [.agg ⟨fmC ba t bc⟩] M L (partK k ba t bc M L) := by
  refine Tr.intro 60 Try.func35 rfl rfl Try.call35 rfl ?_
  intro C hC hro
  repeat (first | with_reducible (first | refine cS ?_ | refine cR ?_ | refine cN ?_ | refine cK ?_ | refine cB ?_ | refine cI ?_) | refine cE rfl ?_ | refine rq (qt_pev tok rfl) ?_ | refine rg rfl rfl (qt_pev tok rfl) ?_ | refine rq (ql tok rfl) ?_ | refine rg rfl rfl (ql tok rfl) ?_ | (refine runL_op0 (sst tok rfl rfl rfl rfl rfl) ?_; rintro _ _ _ ⟨rfl, rfl, rfl⟩) | ((first | refine ro (st_box rfl) ?_ | refine ro (st_alloc tok rfl) ?_ | refine ro (st_buildSlice tok rfl rfl rfl rfl rfl rfl rfl) ?_); rintro _ _ _ ⟨_, rfl, rfl, rfl⟩) | refine runL_q (qt_ld tok (v := .int .u8 k) rfl (List.mem_cons_of_mem _ hm) hv) rfl rfl rfl ?_)
  by_cases hk : 1 ≤ k ∧ k ≤ 10
  · have hk10 : k = 1 ∨ k = 2 ∨ k = 3 ∨ k = 4 ∨ k = 5 ∨ k = 6 ∨ k = 7 ∨ k = 8 ∨ k = 9 ∨ k = 10 := by omega
    rcases hk10 with rfl | rfl | rfl | rfl | rfl | rfl | rfl | rfl | rfl | rfl
    · repeat (first | with_reducible (first | refine cS ?_ | refine cR ?_ | refine cN ?_ | refine cK ?_ | refine cB ?_ | refine cI ?_) | refine cE rfl ?_ | refine rq (qt_pev tok rfl) ?_ | refine rg rfl rfl (qt_pev tok rfl) ?_ | refine rq (ql tok rfl) ?_ | refine rg rfl rfl (ql tok rfl) ?_ | (refine runL_op0 (sst tok rfl rfl rfl rfl rfl) ?_; rintro _ _ _ ⟨rfl, rfl, rfl⟩) | ((first | refine ro (st_box rfl) ?_ | refine ro (st_alloc tok rfl) ?_ | refine ro (st_buildSlice tok rfl rfl rfl rfl rfl rfl rfl) ?_); rintro _ _ _ ⟨_, rfl, rfl, rfl⟩) | refine run_cond rfl (fun _ => ?_) (fun h => absurd h (by decide)) | refine run_cond rfl (fun h => absurd h (by decide)) (fun _ => ?_))
      refine run_frz 0 rfl ?_
      intro M1 hM1 hb
      exact run_ret hC (rs := [.tmp 2]) rfl (resT rfl resN) (fun _ h => h.drop) (partK_of hM1 hb rfl)
    · repeat (first | with_reducible (first | refine cS ?_ | refine cR ?_ | refine cN ?_ | refine cK ?_ | refine cB ?_ | refine cI ?_) | refine cE rfl ?_ | refine rq (qt_pev tok rfl) ?_ | refine rg rfl rfl (qt_pev tok rfl) ?_ | refine rq (ql tok rfl) ?_ | refine rg rfl rfl (ql tok rfl) ?_ | (refine runL_op0 (sst tok rfl rfl rfl rfl rfl) ?_; rintro _ _ _ ⟨rfl, rfl, rfl⟩) | ((first | refine ro (st_box rfl) ?_ | refine ro (st_alloc tok rfl) ?_ | refine ro (st_buildSlice tok rfl rfl rfl rfl rfl rfl rfl) ?_); rintro _ _ _ ⟨_, rfl, rfl, rfl⟩) | refine run_cond rfl (fun _ => ?_) (fun h => absurd h (by decide)) | refine run_cond rfl (fun h => absurd h (by decide)) (fun _ => ?_))
      refine run_frz 0 rfl ?_
      intro M1 hM1 hb
      exact run_ret hC (rs := [.tmp 2]) rfl (resT rfl resN) (fun _ h => h.drop) (partK_of hM1 hb rfl)
    · repeat (first | with_reducible (first | refine cS ?_ | refine cR ?_ | refine cN ?_ | refine cK ?_ | refine cB ?_ | refine cI ?_) | refine cE rfl ?_ | refine rq (qt_pev tok rfl) ?_ | refine rg rfl rfl (qt_pev tok rfl) ?_ | refine rq (ql tok rfl) ?_ | refine rg rfl rfl (ql tok rfl) ?_ | (refine runL_op0 (sst tok rfl rfl rfl rfl rfl) ?_; rintro _ _ _ ⟨rfl, rfl, rfl⟩) | ((first | refine ro (st_box rfl) ?_ | refine ro (st_alloc tok rfl) ?_ | refine ro (st_buildSlice tok rfl rfl rfl rfl rfl rfl rfl) ?_); rintro _ _ _ ⟨_, rfl, rfl, rfl⟩) | refine run_cond rfl (fun _ => ?_) (fun h => absurd h (by decide)) | refine run_cond rfl (fun h => absurd h (by decide)) (fun _ => ?_))
      refine run_frz 0 rfl ?_
      intro M1 hM1 hb
      exact run_ret hC (rs := [.tmp 2]) rfl (resT rfl resN) (fun _ h => h.drop) (partK_of hM1 hb rfl)
    · repeat (first | with_reducible (first | refine cS ?_ | refine cR ?_ | refine cN ?_ | refine cK ?_ | refine cB ?_ | refine cI ?_) | refine cE rfl ?_ | refine rq (qt_pev tok rfl) ?_ | refine rg rfl rfl (qt_pev tok rfl) ?_ | refine rq (ql tok rfl) ?_ | refine rg rfl rfl (ql tok rfl) ?_ | (refine runL_op0 (sst tok rfl rfl rfl rfl rfl) ?_; rintro _ _ _ ⟨rfl, rfl, rfl⟩) | ((first | refine ro (st_box rfl) ?_ | refine ro (st_alloc tok rfl) ?_ | refine ro (st_buildSlice tok rfl rfl rfl rfl rfl rfl rfl) ?_); rintro _ _ _ ⟨_, rfl, rfl, rfl⟩) | refine run_cond rfl (fun _ => ?_) (fun h => absurd h (by decide)) | refine run_cond rfl (fun h => absurd h (by decide)) (fun _ => ?_))
      refine run_frz 0 rfl ?_
      intro M1 hM1 hb
      exact run_ret hC (rs := [.tmp 2]) rfl (resT rfl resN) (fun _ h => h.drop) (partK_of hM1 hb rfl)
    · repeat (first | with_reducible (first | refine cS ?_ | refine cR ?_ | refine cN ?_ | refine cK ?_ | refine cB ?_ | refine cI ?_) | refine cE rfl ?_ | refine rq (qt_pev tok rfl) ?_ | refine rg rfl rfl (qt_pev tok rfl) ?_ | refine rq (ql tok rfl) ?_ | refine rg rfl rfl (ql tok rfl) ?_ | (refine runL_op0 (sst tok rfl rfl rfl rfl rfl) ?_; rintro _ _ _ ⟨rfl, rfl, rfl⟩) | ((first | refine ro (st_box rfl) ?_ | refine ro (st_alloc tok rfl) ?_ | refine ro (st_buildSlice tok rfl rfl rfl rfl rfl rfl rfl) ?_); rintro _ _ _ ⟨_, rfl, rfl, rfl⟩) | refine run_cond rfl (fun _ => ?_) (fun h => absurd h (by decide)) | refine run_cond rfl (fun h => absurd h (by decide)) (fun _ => ?_))
      refine run_frz 0 rfl ?_
      intro M1 hM1 hb
      exact run_ret hC (rs := [.tmp 2]) rfl (resT rfl resN) (fun _ h => h.drop) (partK_of hM1 hb rfl)
    · repeat (first | with_reducible (first | refine cS ?_ | refine cR ?_ | refine cN ?_ | refine cK ?_ | refine cB ?_ | refine cI ?_) | refine cE rfl ?_ | refine rq (qt_pev tok rfl) ?_ | refine rg rfl rfl (qt_pev tok rfl) ?_ | refine rq (ql tok rfl) ?_ | refine rg rfl rfl (ql tok rfl) ?_ | (refine runL_op0 (sst tok rfl rfl rfl rfl rfl) ?_; rintro _ _ _ ⟨rfl, rfl, rfl⟩) | ((first | refine ro (st_box rfl) ?_ | refine ro (st_alloc tok rfl) ?_ | refine ro (st_buildSlice tok rfl rfl rfl rfl rfl rfl rfl) ?_); rintro _ _ _ ⟨_, rfl, rfl, rfl⟩) | refine run_cond rfl (fun _ => ?_) (fun h => absurd h (by decide)) | refine run_cond rfl (fun h => absurd h (by decide)) (fun _ => ?_))
      refine run_frz 0 rfl ?_
      intro M1 hM1 hb
      exact run_ret hC (rs := [.tmp 2]) rfl (resT rfl resN) (fun _ h => h.drop) (partK_of hM1 hb rfl)
    · repeat (first | with_reducible (first | refine cS ?_ | refine cR ?_ | refine cN ?_ | refine cK ?_ | refine cB ?_ | refine cI ?_) | refine cE rfl ?_ | refine rq (qt_pev tok rfl) ?_ | refine rg rfl rfl (qt_pev tok rfl) ?_ | refine rq (ql tok rfl) ?_ | refine rg rfl rfl (ql tok rfl) ?_ | (refine runL_op0 (sst tok rfl rfl rfl rfl rfl) ?_; rintro _ _ _ ⟨rfl, rfl, rfl⟩) | ((first | refine ro (st_box rfl) ?_ | refine ro (st_alloc tok rfl) ?_ | refine ro (st_buildSlice tok rfl rfl rfl rfl rfl rfl rfl) ?_); rintro _ _ _ ⟨_, rfl, rfl, rfl⟩) | refine run_cond rfl (fun _ => ?_) (fun h => absurd h (by decide)) | refine run_cond rfl (fun h => absurd h (by decide)) (fun _ => ?_))
      refine run_frz 0 rfl ?_
      intro M1 hM1 hb
      exact run_ret hC (rs := [.tmp 2]) rfl (resT rfl resN) (fun _ h => h.drop) (partK_of hM1 hb rfl)
    · repeat (first | with_reducible (first | refine cS ?_ | refine cR ?_ | refine cN ?_ | refine cK ?_ | refine cB ?_ | refine cI ?_) | refine cE rfl ?_ | refine rq (qt_pev tok rfl) ?_ | refine rg rfl rfl (qt_pev tok rfl) ?_ | refine rq (ql tok rfl) ?_ | refine rg rfl rfl (ql tok rfl) ?_ | (refine runL_op0 (sst tok rfl rfl rfl rfl rfl) ?_; rintro _ _ _ ⟨rfl, rfl, rfl⟩) | ((first | refine ro (st_box rfl) ?_ | refine ro (st_alloc tok rfl) ?_ | refine ro (st_buildSlice tok rfl rfl rfl rfl rfl rfl rfl) ?_); rintro _ _ _ ⟨_, rfl, rfl, rfl⟩) | refine run_cond rfl (fun _ => ?_) (fun h => absurd h (by decide)) | refine run_cond rfl (fun h => absurd h (by decide)) (fun _ => ?_))
      refine run_frz 0 rfl ?_
      intro M1 hM1 hb
      exact run_ret hC (rs := [.tmp 2]) rfl (resT rfl resN) (fun _ h => h.drop) (partK_of hM1 hb rfl)
    · repeat (first | with_reducible (first | refine cS ?_ | refine cR ?_ | refine cN ?_ | refine cK ?_ | refine cB ?_ | refine cI ?_) | refine cE rfl ?_ | refine rq (qt_pev tok rfl) ?_ | refine rg rfl rfl (qt_pev tok rfl) ?_ | refine rq (ql tok rfl) ?_ | refine rg rfl rfl (ql tok rfl) ?_ | (refine runL_op0 (sst tok rfl rfl rfl rfl rfl) ?_; rintro _ _ _ ⟨rfl, rfl, rfl⟩) | ((first | refine ro (st_box rfl) ?_ | refine ro (st_alloc tok rfl) ?_ | refine ro (st_buildSlice tok rfl rfl rfl rfl rfl rfl rfl) ?_); rintro _ _ _ ⟨_, rfl, rfl, rfl⟩) | refine run_cond rfl (fun _ => ?_) (fun h => absurd h (by decide)) | refine run_cond rfl (fun h => absurd h (by decide)) (fun _ => ?_))
      refine run_frz 0 rfl ?_
      intro M1 hM1 hb
      exact run_ret hC (rs := [.tmp 2]) rfl (resT rfl resN) (fun _ h => h.drop) (partK_of hM1 hb rfl)
    · repeat (first | with_reducible (first | refine cS ?_ | refine cR ?_ | refine cN ?_ | refine cK ?_ | refine cB ?_ | refine cI ?_) | refine cE rfl ?_ | refine rq (qt_pev tok rfl) ?_ | refine rg rfl rfl (qt_pev tok rfl) ?_ | refine rq (ql tok rfl) ?_ | refine rg rfl rfl (ql tok rfl) ?_ | (refine runL_op0 (sst tok rfl rfl rfl rfl rfl) ?_; rintro _ _ _ ⟨rfl, rfl, rfl⟩) | ((first | refine ro (st_box rfl) ?_ | refine ro (st_alloc tok rfl) ?_ | refine ro (st_buildSlice tok rfl rfl rfl rfl rfl rfl rfl) ?_); rintro _ _ _ ⟨_, rfl, rfl, rfl⟩) | refine run_cond rfl (fun _ => ?_) (fun h => absurd h (by decide)) | refine run_cond rfl (fun h => absurd h (by decide)) (fun _ => ?_))
      refine run_frz 0 rfl ?_
      intro M1 hM1 hb
      exact run_ret hC (rs := [.tmp 2]) rfl (resT rfl resN) (fun _ h => h.drop) (partK_of hM1 hb rfl)
  · have n1 : k ≠ 1 := by omega
    have n2 : k ≠ 2 := by omega
    have n3 : k ≠ 3 := by omega
    have n4 : k ≠ 4 := by omega
    have n5 : k ≠ 5 := by omega
    have n6 : k ≠ 6 := by omega
    have n7 : k ≠ 7 := by omega
    have n8 : k ≠ 8 := by omega
    have n9 : k ≠ 9 := by omega
    have n10 : k ≠ 10 := by omega
    have hp : partF k = [] := by rw [partF, if_neg n1, if_neg n2, if_neg (by omega), if_neg n4, if_neg (by omega), if_neg (by omega), if_neg n9]
    refine run_cond rfl (fun h => absurd (by simpa using h) n1) (fun _ => ?_)
    repeat (first | with_reducible (first | refine cS ?_ | refine cR ?_ | refine cN ?_ | refine cK ?_ | refine cB ?_ | refine cI ?_) | refine cE rfl ?_ | refine rq (qt_pev tok rfl) ?_ | refine rg rfl rfl (qt_pev tok rfl) ?_ | refine rq (ql tok rfl) ?_ | refine rg rfl rfl (ql tok rfl) ?_ | (refine runL_op0 (sst tok rfl rfl rfl rfl rfl) ?_; rintro _ _ _ ⟨rfl, rfl, rfl⟩) | ((first | refine ro (st_box rfl) ?_ | refine ro (st_alloc tok rfl) ?_ | refine ro (st_buildSlice tok rfl rfl rfl rfl rfl rfl rfl) ?_); rintro _ _ _ ⟨_, rfl, rfl, rfl⟩))
    refine run_cond rfl (fun h => absurd (by simpa using h) n2) (fun _ => ?_)
    repeat (first | with_reducible (first | refine cS ?_ | refine cR ?_ | refine cN ?_ | refine cK ?_ | refine cB ?_ | refine cI ?_) | refine cE rfl ?_ | refine rq (qt_pev tok rfl) ?_ | refine rg rfl rfl (qt_pev tok rfl) ?_ | refine rq (ql tok rfl) ?_ | refine rg rfl rfl (ql tok rfl) ?_ | (refine runL_op0 (sst tok rfl rfl rfl rfl rfl) ?_; rintro _ _ _ ⟨rfl, rfl, rfl⟩) | ((first | refine ro (st_box rfl) ?_ | refine ro (st_alloc tok rfl) ?_ | refine ro (st_buildSlice tok rfl rfl rfl rfl rfl rfl rfl) ?_); rintro _ _ _ ⟨_, rfl, rfl, rfl⟩))
    refine run_cond rfl (fun h => absurd (by simpa using h) n3) (fun _ => ?_)
    repeat (first | with_reducible (first | refine cS ?_ | refine cR ?_ | refine cN ?_ | refine cK ?_ | refine cB ?_ | refine cI ?_) | refine cE rfl ?_ | refine rq (qt_pev tok rfl) ?_ | refine rg rfl rfl (qt_pev tok rfl) ?_ | refine rq (ql tok rfl) ?_ | refine rg rfl rfl (ql tok rfl) ?_ | (refine runL_op0 (sst tok rfl rfl rfl rfl rfl) ?_; rintro _ _ _ ⟨rfl, rfl, rfl⟩) | ((first | refine ro (st_box rfl) ?_ | refine ro (st_alloc tok rfl) ?_ | refine ro (st_buildSlice tok rfl rfl rfl rfl rfl rfl rfl) ?_); rintro _ _ _ ⟨_, rfl, rfl, rfl⟩))
    refine run_cond rfl (fun h => absurd (by simpa using h) n8) (fun _ => ?_)
    repeat (first | with_reducible (first | refine cS ?_ | refine cR ?_ | refine cN ?_ | refine cK ?_ | refine cB ?_ | refine cI ?_) | refine cE rfl ?_ | refine rq (qt_pev tok rfl) ?_ | refine rg rfl rfl (qt_pev tok rfl) ?_ | refine rq (ql tok rfl) ?_ | refine rg rfl rfl (ql tok rfl) ?_ | (refine runL_op0 (sst tok rfl rfl rfl rfl rfl) ?_; rintro _ _ _ ⟨rfl, rfl, rfl⟩) | ((first | refine ro (st_box rfl) ?_ | refine ro (st_alloc tok rfl) ?_ | refine ro (st_buildSlice tok rfl rfl rfl rfl rfl rfl rfl) ?_); rintro _ _ _ ⟨_, rfl, rfl, rfl⟩))
    refine run_cond rfl (fun h => absurd (by simpa using h) n4) (fun _ => ?_)
    repeat (first | with_reducible (first | refine cS ?_ | refine cR ?_ | refine cN ?_ | refine cK ?_ | refine cB ?_ | refine cI ?_) | refine cE rfl ?_ | refine rq (qt_pev tok rfl) ?_ | refine rg rfl rfl (qt_pev tok rfl) ?_ | refine rq (ql tok rfl) ?_ | refine rg rfl rfl (ql tok rfl) ?_ | (refine runL_op0 (sst tok rfl rfl rfl rfl rfl) ?_; rintro _ _ _ ⟨rfl, rfl, rfl⟩) | ((first | refine ro (st_box rfl) ?_ | refine ro (st_alloc tok rfl) ?_ | refine ro (st_buildSlice tok rfl rfl rfl rfl rfl rfl rfl) ?_); rintro _ _ _ ⟨_, rfl, rfl, rfl⟩))
    refine run_cond rfl (fun h => absurd (by simpa using h) n5) (fun _ => ?_)
    repeat (first | with_reducible (first | refine cS ?_ | refine cR ?_ | refine cN ?_ | refine cK ?_ | refine cB ?_ | refine cI ?_) | refine cE rfl ?_ | refine rq (qt_pev tok rfl) ?_ | refine rg rfl rfl (qt_pev tok rfl) ?_ | refine rq (ql tok rfl) ?_ | refine rg rfl rfl (ql tok rfl) ?_ | (refine runL_op0 (sst tok rfl rfl rfl rfl rfl) ?_; rintro _ _ _ ⟨rfl, rfl, rfl⟩) | ((first | refine ro (st_box rfl) ?_ | refine ro (st_alloc tok rfl) ?_ | refine ro (st_buildSlice tok rfl rfl rfl rfl rfl rfl rfl) ?_); rintro _ _ _ ⟨_, rfl, rfl, rfl⟩))
    refine run_cond rfl (fun h => absurd (by simpa using h) n10) (fun _ => ?_)
    repeat (first | with_reducible (first | refine cS ?_ | refine cR ?_ | refine cN ?_ | refine cK ?_ | refine cB ?_ | refine cI ?_) | refine cE rfl ?_ | refine rq (qt_pev tok rfl) ?_ | refine rg rfl rfl (qt_pev tok rfl) ?_ | refine rq (ql tok rfl) ?_ | refine rg rfl rfl (ql tok rfl) ?_ | (refine runL_op0 (sst tok rfl rfl rfl rfl rfl) ?_; rintro _ _ _ ⟨rfl, rfl, rfl⟩) | ((first | refine ro (st_box rfl) ?_ | refine ro (st_alloc tok rfl) ?_ | refine ro (st_buildSlice tok rfl rfl rfl rfl rfl rfl rfl) ?_); rintro _ _ _ ⟨_, rfl, rfl, rfl⟩))
    refine run_cond rfl (fun h => absurd (by simpa using h) n6) (fun _ => ?_)
    repeat (first | with_reducible (first | refine cS ?_ | refine cR ?_ | refine cN ?_ | refine cK ?_ | refine cB ?_ | refine cI ?_) | refine cE rfl ?_ | refine rq (qt_pev tok rfl) ?_ | refine rg rfl rfl (qt_pev tok rfl) ?_ | refine rq (ql tok rfl) ?_ | refine rg rfl rfl (ql tok rfl) ?_ | (refine runL_op0 (sst tok rfl rfl rfl rfl rfl) ?_; rintro _ _ _ ⟨rfl, rfl, rfl⟩) | ((first | refine ro (st_box rfl) ?_ | refine ro (st_alloc tok rfl) ?_ | refine ro (st_buildSlice tok rfl rfl rfl rfl rfl rfl rfl) ?_); rintro _ _ _ ⟨_, rfl, rfl, rfl⟩))
    refine run_cond rfl (fun h => absurd (by simpa using h) n7) (fun _ => ?_)
    repeat (first | with_reducible (first | refine cS ?_ | refine cR ?_ | refine cN ?_ | refine cK ?_ | refine cB ?_ | refine cI ?_) | refine cE rfl ?_ | refine rq (qt_pev tok rfl) ?_ | refine rg rfl rfl (qt_pev tok rfl) ?_ | refine rq (ql tok rfl) ?_ | refine rg rfl rfl (ql tok rfl) ?_ | (refine runL_op0 (sst tok rfl rfl rfl rfl rfl) ?_; rintro _ _ _ ⟨rfl, rfl, rfl⟩) | ((first | refine ro (st_box rfl) ?_ | refine ro (st_alloc tok rfl) ?_ | refine ro (st_buildSlice tok rfl rfl rfl rfl rfl rfl rfl) ?_); rintro _ _ _ ⟨_, rfl, rfl, rfl⟩))
    refine run_cond rfl (fun h => absurd (by simpa using h) n9) (fun _ => ?_)
    repeat (first | with_reducible (first | refine cS ?_ | refine cR ?_ | refine cN ?_ | refine cK ?_ | refine cB ?_ | refine cI ?_) | refine cE rfl ?_ | refine rq (qt_pev tok rfl) ?_ | refine rg rfl rfl (qt_pev tok rfl) ?_ | refine rq (ql tok rfl) ?_ | refine rg rfl rfl (ql tok rfl) ?_ | (refine runL_op0 (sst tok rfl rfl rfl rfl rfl) ?_; rintro _ _ _ ⟨rfl, rfl, rfl⟩) | ((first | refine ro (st_box rfl) ?_ | refine ro (st_alloc tok rfl) ?_ | refine ro (st_buildSlice tok rfl rfl rfl rfl rfl rfl rfl) ?_); rintro _ _ _ ⟨_, rfl, rfl, rfl⟩))
    refine run_ret hC (rs := [.tmp 2]) rfl (resT rfl resN) (fun _ h => h.drop) ⟨Mem.le_refl _, rfl, none, 0, ?_, ?_⟩
    · rw [hp]; rfl
    · rw [hp]; exact SlM.nil _ _ _
end Go.Proofs.Ytbpgiodfccijmaa
namespace Go.Proofs.Ytbpgiodfccijmaa
open Go.Chi

/-! ### script's reader: a number, a text -/
def panS : List PanicEntry := [{ v := .iface 86 (.agg ⟨[]⟩), recovered := false }]
def smustK (b : Bool) (M : Mem) (L : HL) (en : Ending) (M' : Mem) (L' : HL) : Prop := M = M' ∧ L = L' ∧ if b = true then en = .returned (.tuple ⟨[]⟩) else en = .panicked panS
theorem smust_ok (M : Mem) (L : HL) (b : Bool) : TrE Try.prog 105 [.bool b] M L (smustK b M L) := by
  refine TrE.intro 6 Try.func105 rfl rfl Try.call105 rfl ?_
  intro C hC hro
  repeat (first | with_reducible (first | refine cS ?_ | refine cR ?_ | refine cN ?_ | refine cK ?_ | refine cB ?_ | refine cI ?_) | refine cE rfl ?_ | refine rq (qt_pev tok rfl) ?_ | refine rg rfl rfl (qt_pev tok rfl) ?_ | refine rq (ql tok rfl) ?_ | refine rg rfl rfl (ql tok rfl) ?_ | (refine runL_op0 (sst tok rfl rfl rfl rfl rfl) ?_; rintro _ _ _ ⟨rfl, rfl, rfl⟩) | ((first | refine ro (st_box rfl) ?_ | refine ro (st_alloc tok rfl) ?_ | refine ro (st_buildSlice tok rfl rfl rfl rfl rfl rfl rfl) ?_); rintro _ _ _ ⟨_, rfl, rfl, rfl⟩))
  refine run_cond rfl (fun h => ?_) (fun h => ?_)
  · have h0 : b = false := by simpa using h
    subst h0
    repeat (first | with_reducible (first | refine cS ?_ | refine cR ?_ | refine cN ?_ | refine cK ?_ | refine cB ?_ | refine cI ?_) | refine cE rfl ?_ | refine rq (qt_pev tok rfl) ?_ | refine rg rfl rfl (qt_pev tok rfl) ?_ | refine rq (ql tok rfl) ?_ | refine rg rfl rfl (ql tok rfl) ?_ | (refine runL_op0 (sst tok rfl rfl rfl rfl rfl) ?_; rintro _ _ _ ⟨rfl, rfl, rfl⟩) | ((first | refine ro (st_box rfl) ?_ | refine ro (st_alloc tok rfl) ?_ | refine ro (st_buildSlice tok rfl rfl rfl rfl rfl rfl rfl) ?_); rintro _ _ _ ⟨_, rfl, rfl, rfl⟩) | refine runL_q (qt_makeIface tok rfl rfl) rfl rfl rfl ?_)
    refine runL_panic hro rfl ?_
    exact runX_pan hC (fun _ h => h) ⟨rfl, rfl, rfl⟩
  · have h0 : b = true := by simpa using h
    subst h0
    repeat (first | with_reducible (first | refine cS ?_ | refine cR ?_ | refine cN ?_ | refine cK ?_ | refine cB ?_ | refine cI ?_) | refine cE rfl ?_ | refine rq (qt_pev tok rfl) ?_ | refine rg rfl rfl (qt_pev tok rfl) ?_ | refine rq (ql tok rfl) ?_ | refine rg rfl rfl (ql tok rfl) ?_ | (refine runL_op0 (sst tok rfl rfl rfl rfl rfl) ?_; rintro _ _ _ ⟨rfl, rfl, rfl⟩) | ((first | refine ro (st_box rfl) ?_ | refine ro (st_alloc tok rfl) ?_ | refine ro (st_buildSlice tok rfl rfl rfl rfl rfl rfl rfl) ?_); rintro _ _ _ ⟨_, rfl, rfl, rfl⟩))
    refine run_endX hro ?_
    exact runX_ret hC (rs := []) rfl (vs := []) trivial (fun _ h => h) ⟨rfl, rfl, rfl⟩
abbrev obB (pb : Nat) (cs : List Value) (ty : TypeId) : Nat × Obj := (pb, .cells ⟨cs⟩ ty (0, 0))
def sgK {α : Type} (o : Option (α × ByteArray)) (f : α → List Value) (br pb : Nat) (ty : TypeId) (s : ByteArray) (cs : List Value) (M : Mem) (L : HL) (en : Ending) (M' : Mem) (L' : HL) : Prop :=
  M' = M ∧ match o with | some x => en = .returned (.tuple ⟨[]⟩) ∧ L' = rcB br x.2 :: obB pb (f x.1) ty :: L | none => en = .panicked panS ∧ L' = rcB br s :: obB pb cs ty :: L
set_option maxRecDepth 10000 in
set_option maxHeartbeats 8000000 in
theorem srnum_ok (M : Mem) (L : HL) (br : Nat) (s : ByteArray) (pb po : Nat) (ty : TypeId) (cs : List Value) (f : Int → List Value) (hf : ∀ v, setE cs po [Value.int .i64 v] = some (f v)) (most : Nat) (hm : most < 4611686018427387904) (_hs : s.size < 4611686018427387904) :
    TrE Try.prog 103 [.pointer (some ⟨br, 0, none⟩), .pointer (some ⟨pb, po, none⟩), .int .i64 (most : Int)] M (rcB br s :: obB pb cs ty :: L) (sgK (pN most s) f br pb ty s cs M L) := by
  refine TrE.intro 40 Try.func103 rfl rfl Try.call103 rfl ?_
  intro C hC hro
  have e1 : IntKind.u64.wrap (most : Int) = (most : Int) := u64_nat (by omega)
  have hnp := numR_pos s
  repeat (first | with_reducible (first | refine cS ?_ | refine cR ?_ | refine cN ?_ | refine cK ?_ | refine cB ?_ | refine cI ?_) | refine cE rfl ?_ | refine rq (qt_pev tok rfl) ?_ | refine rg rfl rfl (qt_pev tok rfl) ?_ | refine rq (ql tok rfl) ?_ | refine rg rfl rfl (ql tok rfl) ?_ | (refine runL_op0 (sst tok rfl rfl rfl rfl rfl) ?_; rintro _ _ _ ⟨rfl, rfl, rfl⟩) | ((first | refine ro (st_box rfl) ?_ | refine ro (st_alloc tok rfl) ?_ | refine ro (st_buildSlice tok rfl rfl rfl rfl rfl rfl rfl) ?_); rintro _ _ _ ⟨_, rfl, rfl, rfl⟩) | refine runL_q (qt_callF rfl (fun _ => readNum_ok _ _ s)) rfl rfl rfl ?_)
  have hb : ((numR s).2.2 == 0 && decide ((numR s).1 ≤ IntKind.u64.wrap (most : Int))) = true ↔ (numR s).2.2 = 0 ∧ (numR s).1 ≤ (most : Int) := by
    rw [e1]; simp
  refine runL_callE rfl (smust_ok _ _ _) rfl rfl rfl ?_ ?_
  · rintro v _ _ ⟨rfl, rfl, hv⟩
    split at hv
    rotate_left
    · cases hv
    rename_i hc
    have h1 := hb.1 hc
    obtain ⟨m, hm1, hm2, hm3⟩ := numR_len s h1.1
    have e2 : IntKind.i64.wrap (numR s).1 = (numR s).1 := by
      obtain ⟨x, hx⟩ : ∃ x : Nat, (numR s).1 = x := ⟨(numR s).1.toNat, by omega⟩
      rw [hx, wrap64_nat (by omega)]
    have hst := hf (numR s).1
    have e3 : pN most s = some ((numR s).1, s.extract m s.size) := by rw [pN, if_pos h1, hm1]; rfl
    refine runL_as 7 (.int .i64 (m : Int)) rfl (by rw [hm1]) ?_
    repeat (first | with_reducible (first | refine cS ?_ | refine cR ?_ | refine cN ?_ | refine cK ?_ | refine cB ?_ | refine cI ?_) | refine cE rfl ?_ | refine rq (qt_pev tok rfl) ?_ | refine rg rfl rfl (qt_pev tok rfl) ?_ | refine rq (ql tok rfl) ?_ | refine rg rfl rfl (ql tok rfl) ?_ | (refine runL_op0 (sst tok rfl rfl rfl rfl rfl) ?_; rintro _ _ _ ⟨rfl, rfl, rfl⟩) | ((first | refine ro (st_box rfl) ?_ | refine ro (st_alloc tok rfl) ?_ | refine ro (st_buildSlice tok rfl rfl rfl rfl rfl rfl rfl) ?_); rintro _ _ _ ⟨_, rfl, rfl, rfl⟩) | refine prn_start mixed ?_ | refine prn_end (by decide +kernel) ?_ | refine pq rfl (qt_pev tok rfl) ?_ | refine pg rfl rfl rfl (qt_pev tok rfl) ?_ | refine pq rfl (ql tok rfl) ?_ | refine pg rfl rfl rfl (ql tok rfl) ?_ | (refine prn_e0 rfl (sst tok rfl rfl rfl rfl rfl) (by decide +kernel) ?_; rintro _ _ _ ⟨rfl, rfl, rfl⟩) | ((first | refine pe rfl (st_box rfl) ?_ | refine pe rfl (st_alloc tok rfl) ?_ | refine pe rfl (st_buildSlice tok rfl rfl rfl rfl rfl rfl rfl) ?_); rintro _ _ _ ⟨_, rfl, rfl, rfl⟩) | (refine prn_o0 rfl (sst tok rfl rfl rfl rfl rfl) (by decide +kernel) ?_; rintro _ _ _ ⟨rfl, rfl, rfl⟩; refine ⟨by (repeat (first | exact trivial | refine And.intro (pend_q rfl rfl rfl (qt_pev tok rfl)) ?_ | refine And.intro (pend_q rfl rfl rfl (ql tok rfl)) ?_)), ?_⟩) | ((first | refine po rfl (st_box rfl) ?_ | refine po rfl (st_alloc tok rfl) ?_ | refine po rfl (st_buildSlice tok rfl rfl rfl rfl rfl rfl rfl) ?_); rintro _ _ _ ⟨_, rfl, rfl, rfl⟩; refine ⟨by (repeat (first | exact trivial | refine And.intro (pend_q rfl rfl rfl (qt_pev tok rfl)) ?_ | refine And.intro (pend_q rfl rfl rfl (ql tok rfl)) ?_)), ?_⟩) | (refine pe rfl (qt_pev tok rfl) ?_; rintro _ _ _ ⟨rfl, rfl, rfl⟩))
    refine pr_as 30 (.int .i64 (numR s).1) rfl (by rw [e2]) ?_
    repeat (first | with_reducible (first | refine cS ?_ | refine cR ?_ | refine cN ?_ | refine cK ?_ | refine cB ?_ | refine cI ?_) | refine cE rfl ?_ | refine rq (qt_pev tok rfl) ?_ | refine rg rfl rfl (qt_pev tok rfl) ?_ | refine rq (ql tok rfl) ?_ | refine rg rfl rfl (ql tok rfl) ?_ | (refine runL_op0 (sst tok rfl rfl rfl rfl rfl) ?_; rintro _ _ _ ⟨rfl, rfl, rfl⟩) | ((first | refine ro (st_box rfl) ?_ | refine ro (st_alloc tok rfl) ?_ | refine ro (st_buildSlice tok rfl rfl rfl rfl rfl rfl rfl) ?_); rintro _ _ _ ⟨_, rfl, rfl, rfl⟩) | refine prn_start mixed ?_ | refine prn_end (by decide +kernel) ?_ | refine pq rfl (qt_pev tok rfl) ?_ | refine pg rfl rfl rfl (qt_pev tok rfl) ?_ | refine pq rfl (ql tok rfl) ?_ | refine pg rfl rfl rfl (ql tok rfl) ?_ | (refine prn_e0 rfl (sst tok rfl rfl rfl rfl rfl) (by decide +kernel) ?_; rintro _ _ _ ⟨rfl, rfl, rfl⟩) | ((first | refine pe rfl (st_box rfl) ?_ | refine pe rfl (st_alloc tok rfl) ?_ | refine pe rfl (st_buildSlice tok rfl rfl rfl rfl rfl rfl rfl) ?_); rintro _ _ _ ⟨_, rfl, rfl, rfl⟩) | (refine prn_o0 rfl (sst tok rfl rfl rfl rfl rfl) (by decide +kernel) ?_; rintro _ _ _ ⟨rfl, rfl, rfl⟩; refine ⟨by (repeat (first | exact trivial | refine And.intro (pend_q rfl rfl rfl (qt_pev tok rfl)) ?_ | refine And.intro (pend_q rfl rfl rfl (ql tok rfl)) ?_)), ?_⟩) | ((first | refine po rfl (st_box rfl) ?_ | refine po rfl (st_alloc tok rfl) ?_ | refine po rfl (st_buildSlice tok rfl rfl rfl rfl rfl rfl rfl) ?_); rintro _ _ _ ⟨_, rfl, rfl, rfl⟩; refine ⟨by (repeat (first | exact trivial | refine And.intro (pend_q rfl rfl rfl (qt_pev tok rfl)) ?_ | refine And.intro (pend_q rfl rfl rfl (ql tok rfl)) ?_)), ?_⟩) | (refine pe rfl (qt_pev tok rfl) ?_; rintro _ _ _ ⟨rfl, rfl, rfl⟩) | refine prn_q rfl (qt_strLo (n := m) tok rfl rfl rfl (fun _ => hm3)) (by decide +kernel) rfl rfl rfl ?_)
    refine prn_o0 rfl (st_store tok rfl rfl rfl rfl rfl (by (repeat (first | with_reducible apply Upd.here | with_reducible apply Upd.there | with_reducible apply Upd.append_left))) hst) (by decide +kernel) ?_
    rintro _ _ _ ⟨rfl, rfl, rfl⟩
    refine ⟨by (repeat (first | exact trivial | refine And.intro (pend_q rfl rfl rfl (qt_pev tok rfl)) ?_ | refine And.intro (pend_q rfl rfl rfl (ql tok rfl)) ?_ | refine And.intro (pend_q rfl rfl rfl (qt_strLo (n := m) tok rfl rfl rfl (fun _ => hm3))) ?_)), ?_⟩
    repeat (first | with_reducible (first | refine cS ?_ | refine cR ?_ | refine cN ?_ | refine cK ?_ | refine cB ?_ | refine cI ?_) | refine cE rfl ?_ | refine rq (qt_pev tok rfl) ?_ | refine rg rfl rfl (qt_pev tok rfl) ?_ | refine rq (ql tok rfl) ?_ | refine rg rfl rfl (ql tok rfl) ?_ | (refine runL_op0 (sst tok rfl rfl rfl rfl rfl) ?_; rintro _ _ _ ⟨rfl, rfl, rfl⟩) | ((first | refine ro (st_box rfl) ?_ | refine ro (st_alloc tok rfl) ?_ | refine ro (st_buildSlice tok rfl rfl rfl rfl rfl rfl rfl) ?_); rintro _ _ _ ⟨_, rfl, rfl, rfl⟩) | refine prn_start mixed ?_ | refine prn_end (by decide +kernel) ?_ | refine pq rfl (qt_pev tok rfl) ?_ | refine pg rfl rfl rfl (qt_pev tok rfl) ?_ | refine pq rfl (ql tok rfl) ?_ | refine pg rfl rfl rfl (ql tok rfl) ?_ | (refine prn_e0 rfl (sst tok rfl rfl rfl rfl rfl) (by decide +kernel) ?_; rintro _ _ _ ⟨rfl, rfl, rfl⟩) | ((first | refine pe rfl (st_box rfl) ?_ | refine pe rfl (st_alloc tok rfl) ?_ | refine pe rfl (st_buildSlice tok rfl rfl rfl rfl rfl rfl rfl) ?_); rintro _ _ _ ⟨_, rfl, rfl, rfl⟩) | (refine prn_o0 rfl (sst tok rfl rfl rfl rfl rfl) (by decide +kernel) ?_; rintro _ _ _ ⟨rfl, rfl, rfl⟩; refine ⟨by (repeat (first | exact trivial | refine And.intro (pend_q rfl rfl rfl (qt_pev tok rfl)) ?_ | refine And.intro (pend_q rfl rfl rfl (ql tok rfl)) ?_)), ?_⟩) | ((first | refine po rfl (st_box rfl) ?_ | refine po rfl (st_alloc tok rfl) ?_ | refine po rfl (st_buildSlice tok rfl rfl rfl rfl rfl rfl rfl) ?_); rintro _ _ _ ⟨_, rfl, rfl, rfl⟩; refine ⟨by (repeat (first | exact trivial | refine And.intro (pend_q rfl rfl rfl (qt_pev tok rfl)) ?_ | refine And.intro (pend_q rfl rfl rfl (ql tok rfl)) ?_)), ?_⟩) | (refine pe rfl (qt_pev tok rfl) ?_; rintro _ _ _ ⟨rfl, rfl, rfl⟩))
    refine run_endX hro ?_
    refine runX_ret hC (rs := []) rfl (vs := []) trivial (fun _ h => h) ⟨rfl, ?_⟩
    rw [e3]
    exact ⟨rfl, rfl⟩
  · rintro ch _ _ ⟨rfl, rfl, hv⟩
    split at hv
    · cases hv
    rename_i hc
    have h1 : ¬ ((numR s).2.2 = 0 ∧ (numR s).1 ≤ (most : Int)) := fun h => hc (hb.2 h)
    rw [Ending.panicked.injEq] at hv
    subst hv
    exact runX_pan hC (fun _ h => h) ⟨rfl, by rw [pN, if_neg h1]; exact ⟨rfl, rfl⟩⟩
set_option maxRecDepth 10000 in
set_option maxHeartbeats 8000000 in
theorem srtext_ok (M : Mem) (L : HL) (br : Nat) (s : ByteArray) (pb po : Nat) (ty : TypeId) (cs : List Value) (f : ByteArray → List Value) (hf : ∀ v, setE cs po [Value.string v] = some (f v)) (most : Nat) (hm : most < 4611686018427387904) (hs : s.size < 4611686018427387904) :
    TrE Try.prog 104 [.pointer (some ⟨br, 0, none⟩), .pointer (some ⟨pb, po, none⟩), .int .i64 (most : Int)] M (rcB br s :: obB pb cs ty :: L) (sgK (pTm most s) f br pb ty s cs M L) := by
  refine TrE.intro 34 Try.func104 rfl rfl Try.call104 rfl ?_
  intro C hC hro
  repeat (first | with_reducible (first | refine cS ?_ | refine cR ?_ | refine cN ?_ | refine cK ?_ | refine cB ?_ | refine cI ?_) | refine cE rfl ?_ | refine rq (qt_pev tok rfl) ?_ | refine rg rfl rfl (qt_pev tok rfl) ?_ | refine rq (ql tok rfl) ?_ | refine rg rfl rfl (ql tok rfl) ?_ | (refine runL_op0 (sst tok rfl rfl rfl rfl rfl) ?_; rintro _ _ _ ⟨rfl, rfl, rfl⟩) | ((first | refine ro (st_box rfl) ?_ | refine ro (st_alloc tok rfl) ?_ | refine ro (st_buildSlice tok rfl rfl rfl rfl rfl rfl rfl) ?_); rintro _ _ _ ⟨_, rfl, rfl, rfl⟩) | refine runL_q (qt_callF rfl (fun _ => readText_ok _ _ s most hs hm)) rfl rfl rfl ?_)
  have hb : ((textR s most).2.2 == 0) = true ↔ (textR s most).2.2 = 0 := by simp
  refine runL_callE rfl (smust_ok _ _ _) rfl rfl rfl ?_ ?_
  · rintro v _ _ ⟨rfl, rfl, hv⟩
    split at hv
    rotate_left
    · cases hv
    rename_i hc
    have h1 := hb.1 hc
    obtain ⟨m, hm1, hm2, hm3⟩ := textR_len s most h1
    have hst := hf (textR s most).1
    have e3 : pTm most s = some ((textR s most).1, s.extract m s.size) := by rw [pTm, if_pos h1, hm1]; rfl
    refine runL_as 7 (.int .i64 (m : Int)) rfl (by rw [hm1]) ?_
    repeat (first | with_reducible (first | refine cS ?_ | refine cR ?_ | refine cN ?_ | refine cK ?_ | refine cB ?_ | refine cI ?_) | refine cE rfl ?_ | refine rq (qt_pev tok rfl) ?_ | refine rg rfl rfl (qt_pev tok rfl) ?_ | refine rq (ql tok rfl) ?_ | refine rg rfl rfl (ql tok rfl) ?_ | (refine runL_op0 (sst tok rfl rfl rfl rfl rfl) ?_; rintro _ _ _ ⟨rfl, rfl, rfl⟩) | ((first | refine ro (st_box rfl) ?_ | refine ro (st_alloc tok rfl) ?_ | refine ro (st_buildSlice tok rfl rfl rfl rfl rfl rfl rfl) ?_); rintro _ _ _ ⟨_, rfl, rfl, rfl⟩) | refine prn_start mixed ?_ | refine prn_end (by decide +kernel) ?_ | refine pq rfl (qt_pev tok rfl) ?_ | refine pg rfl rfl rfl (qt_pev tok rfl) ?_ | refine pq rfl (ql tok rfl) ?_ | refine pg rfl rfl rfl (ql tok rfl) ?_ | (refine prn_e0 rfl (sst tok rfl rfl rfl rfl rfl) (by decide +kernel) ?_; rintro _ _ _ ⟨rfl, rfl, rfl⟩) | ((first | refine pe rfl (st_box rfl) ?_ | refine pe rfl (st_alloc tok rfl) ?_ | refine pe rfl (st_buildSlice tok rfl rfl rfl rfl rfl rfl rfl) ?_); rintro _ _ _ ⟨_, rfl, rfl, rfl⟩) | (refine prn_o0 rfl (sst tok rfl rfl rfl rfl rfl) (by decide +kernel) ?_; rintro _ _ _ ⟨rfl, rfl, rfl⟩; refine ⟨by (repeat (first | exact trivial | refine And.intro (pend_q rfl rfl rfl (qt_pev tok rfl)) ?_ | refine And.intro (pend_q rfl rfl rfl (ql tok rfl)) ?_)), ?_⟩) | ((first | refine po rfl (st_box rfl) ?_ | refine po rfl (st_alloc tok rfl) ?_ | refine po rfl (st_buildSlice tok rfl rfl rfl rfl rfl rfl rfl) ?_); rintro _ _ _ ⟨_, rfl, rfl, rfl⟩; refine ⟨by (repeat (first | exact trivial | refine And.intro (pend_q rfl rfl rfl (qt_pev tok rfl)) ?_ | refine And.intro (pend_q rfl rfl rfl (ql tok rfl)) ?_)), ?_⟩) | (refine pe rfl (qt_pev tok rfl) ?_; rintro _ _ _ ⟨rfl, rfl, rfl⟩) | refine prn_q rfl (qt_strLo (n := m) tok rfl rfl rfl (fun _ => hm3)) (by decide +kernel) rfl rfl rfl ?_)
    refine prn_o0 rfl (st_store tok rfl rfl rfl rfl rfl (by (repeat (first | with_reducible apply Upd.here | with_reducible apply Upd.there | with_reducible apply Upd.append_left))) hst) (by decide +kernel) ?_
    rintro _ _ _ ⟨rfl, rfl, rfl⟩
    refine ⟨by (repeat (first | exact trivial | refine And.intro (pend_q rfl rfl rfl (qt_pev tok rfl)) ?_ | refine And.intro (pend_q rfl rfl rfl (ql tok rfl)) ?_ | refine And.intro (pend_q rfl rfl rfl (qt_strLo (n := m) tok rfl rfl rfl (fun _ => hm3))) ?_)), ?_⟩
    repeat (first | with_reducible (first | refine cS ?_ | refine cR ?_ | refine cN ?_ | refine cK ?_ | refine cB ?_ | refine cI ?_) | refine cE rfl ?_ | refine rq (qt_pev tok rfl) ?_ | refine rg rfl rfl (qt_pev tok rfl) ?_ | refine rq (ql tok rfl) ?_ | refine rg rfl rfl (ql tok rfl) ?_ | (refine runL_op0 (sst tok rfl rfl rfl rfl rfl) ?_; rintro _ _ _ ⟨rfl, rfl, rfl⟩) | ((first | refine ro (st_box rfl) ?_ | refine ro (st_alloc tok rfl) ?_ | refine ro (st_buildSlice tok rfl rfl rfl rfl rfl rfl rfl) ?_); rintro _ _ _ ⟨_, rfl, rfl, rfl⟩) | refine prn_start mixed ?_ | refine prn_end (by decide +kernel) ?_ | refine pq rfl (qt_pev tok rfl) ?_ | refine pg rfl rfl rfl (qt_pev tok rfl) ?_ | refine pq rfl (ql tok rfl) ?_ | refine pg rfl rfl rfl (ql tok rfl) ?_ | (refine prn_e0 rfl (sst tok rfl rfl rfl rfl rfl) (by decide +kernel) ?_; rintro _ _ _ ⟨rfl, rfl, rfl⟩) | ((first | refine pe rfl (st_box rfl) ?_ | refine pe rfl (st_alloc tok rfl) ?_ | refine pe rfl (st_buildSlice tok rfl rfl rfl rfl rfl rfl rfl) ?_); rintro _ _ _ ⟨_, rfl, rfl, rfl⟩) | (refine prn_o0 rfl (sst tok rfl rfl rfl rfl rfl) (by decide +kernel) ?_; rintro _ _ _ ⟨rfl, rfl, rfl⟩; refine ⟨by (repeat (first | exact trivial | refine And.intro (pend_q rfl rfl rfl (qt_pev tok rfl)) ?_ | refine And.intro (pend_q rfl rfl rfl (ql tok rfl)) ?_)), ?_⟩) | ((first | refine po rfl (st_box rfl) ?_ | refine po rfl (st_alloc tok rfl) ?_ | refine po rfl (st_buildSlice tok rfl rfl rfl rfl rfl rfl rfl) ?_); rintro _ _ _ ⟨_, rfl, rfl, rfl⟩; refine ⟨by (repeat (first | exact trivial | refine And.intro (pend_q rfl rfl rfl (qt_pev tok rfl)) ?_ | refine And.intro (pend_q rfl rfl rfl (ql tok rfl)) ?_)), ?_⟩) | (refine pe rfl (qt_pev tok rfl) ?_; rintro _ _ _ ⟨rfl, rfl, rfl⟩))
    refine run_endX hro ?_
    refine runX_ret hC (rs := []) rfl (vs := []) trivial (fun _ h => h) ⟨rfl, ?_⟩
    rw [e3]
    exact ⟨rfl, rfl⟩
  · rintro ch _ _ ⟨rfl, rfl, hv⟩
    split at hv
    · cases hv
    rename_i hc
    have h1 : ¬ (textR s most).2.2 = 0 := fun h => hc (hb.2 h)
    rw [Ending.panicked.injEq] at hv
    subst hv
    exact runX_pan hC (fun _ h => h) ⟨rfl, by rw [pTm, if_neg h1]; exact ⟨rfl, rfl⟩⟩
end Go.Proofs.Ytbpgiodfccijmaa
namespace Go.Proofs.Ytbpgiodfccijmaa
open Go.Chi

/-! ### the form's methods, writing -/
abbrev axB (ba : Nat) (a : Ax) : Nat × Obj := (ba, .cells ⟨axC a⟩ 37 (0, 0))
theorem p3 (x y z : Nat × Obj) (L : HL) : (x :: y :: z :: L).Perm (z :: x :: y :: L) := pm2 x y [z] L
theorem p4 (x y z u : Nat × Obj) (L : HL) : (x :: y :: z :: u :: L).Perm (u :: x :: y :: z :: L) := pm3 x y z [u] L
theorem p5 (x y z u v : Nat × Obj) (L : HL) : (x :: y :: z :: u :: v :: L).Perm (v :: x :: y :: z :: u :: L) := pm4 x y z u [v] L
def wrK (bw ba : Nat) (s : ByteArray) (a : Ax) (M : Mem) (L : HL) (v : Value) (M' : Mem) (L' : HL) : Prop := v = .tuple ⟨[]⟩ ∧ M.le M' ∧ L' = wcB bw s :: axB ba a :: L
set_option maxRecDepth 10000 in
set_option maxHeartbeats 4000000 in
theorem worgF_ok (M : Mem) (L : HL) (ba bw : Nat) (s : ByteArray) (a : Ax) (hn : 0 ≤ a.org ∧ a.org < 4611686018427387904) (hs : s.size < 2305843009213693952) : Tr Try.prog 46 [.agg ⟨fmC ba wT bw⟩] M (wcB bw s :: axB ba a :: L) (wrK bw ba (s ++ nB a.org) a M L) := by
  refine Tr.intro 11 Try.func46 rfl rfl Try.call46 rfl ?_
  intro C hC hro
  repeat (first | with_reducible (first | refine cS ?_ | refine cR ?_ | refine cN ?_ | refine cK ?_ | refine cB ?_ | refine cI ?_) | refine cE rfl ?_ | refine rq (qt_pev tok rfl) ?_ | refine rg rfl rfl (qt_pev tok rfl) ?_ | refine rq (ql tok rfl) ?_ | refine rg rfl rfl (ql tok rfl) ?_ | (refine runL_op0 (sst tok rfl rfl rfl rfl rfl) ?_; rintro _ _ _ ⟨rfl, rfl, rfl⟩) | ((first | refine ro (st_box rfl) ?_ | refine ro (st_alloc tok rfl) ?_ | refine ro (st_buildSlice tok rfl rfl rfl rfl rfl rfl rfl) ?_); rintro _ _ _ ⟨_, rfl, rfl, rfl⟩) | refine prn_start mixed ?_ | refine prn_end (by decide +kernel) ?_ | refine pq rfl (qt_pev tok rfl) ?_ | refine pg rfl rfl rfl (qt_pev tok rfl) ?_ | refine pq rfl (ql tok rfl) ?_ | refine pg rfl rfl rfl (ql tok rfl) ?_ | (refine prn_e0 rfl (sst tok rfl rfl rfl rfl rfl) (by decide +kernel) ?_; rintro _ _ _ ⟨rfl, rfl, rfl⟩) | ((first | refine pe rfl (st_box rfl) ?_ | refine pe rfl (st_alloc tok rfl) ?_ | refine pe rfl (st_buildSlice tok rfl rfl rfl rfl rfl rfl rfl) ?_); rintro _ _ _ ⟨_, rfl, rfl, rfl⟩) | (refine prn_o0 rfl (sst tok rfl rfl rfl rfl rfl) (by decide +kernel) ?_; rintro _ _ _ ⟨rfl, rfl, rfl⟩; refine ⟨by (repeat (first | exact trivial | refine And.intro (pend_q rfl rfl rfl (qt_pev tok rfl)) ?_ | refine And.intro (pend_q rfl rfl rfl (ql tok rfl)) ?_)), ?_⟩) | ((first | refine po rfl (st_box rfl) ?_ | refine po rfl (st_alloc tok rfl) ?_ | refine po rfl (st_buildSlice tok rfl rfl rfl rfl rfl rfl rfl) ?_); rintro _ _ _ ⟨_, rfl, rfl, rfl⟩; refine ⟨by (repeat (first | exact trivial | refine And.intro (pend_q rfl rfl rfl (qt_pev tok rfl)) ?_ | refine And.intro (pend_q rfl rfl rfl (ql tok rfl)) ?_)), ?_⟩) | (refine pe rfl (qt_pev tok rfl) ?_; rintro _ _ _ ⟨rfl, rfl, rfl⟩) | refine prn_q rfl (qt_nilIface rfl) (by decide +kernel) rfl rfl rfl ?_)
  refine prn_e1 rfl (st_invoke rfl rfl mw_num (fun _ => trPerm (List.Perm.swap _ _ _) (swnum_ok M _ bw s ba _ a.org _ hn hs (holdsL tok (cs := axC a) (by (repeat (first | with_reducible apply List.mem_cons_self | with_reducible assumption | with_reducible apply List.mem_cons_of_mem | with_reducible apply List.mem_append_right))) rfl)))) (by decide +kernel) rfl rfl rfl ?_
  rintro _ _ _ ⟨rfl, rfl, rfl⟩
  repeat (first | with_reducible (first | refine cS ?_ | refine cR ?_ | refine cN ?_ | refine cK ?_ | refine cB ?_ | refine cI ?_) | refine cE rfl ?_ | refine rq (qt_pev tok rfl) ?_ | refine rg rfl rfl (qt_pev tok rfl) ?_ | refine rq (ql tok rfl) ?_ | refine rg rfl rfl (ql tok rfl) ?_ | (refine runL_op0 (sst tok rfl rfl rfl rfl rfl) ?_; rintro _ _ _ ⟨rfl, rfl, rfl⟩) | ((first | refine ro (st_box rfl) ?_ | refine ro (st_alloc tok rfl) ?_ | refine ro (st_buildSlice tok rfl rfl rfl rfl rfl rfl rfl) ?_); rintro _ _ _ ⟨_, rfl, rfl, rfl⟩) | refine prn_start mixed ?_ | refine prn_end (by decide +kernel) ?_ | refine pq rfl (qt_pev tok rfl) ?_ | refine pg rfl rfl rfl (qt_pev tok rfl) ?_ | refine pq rfl (ql tok rfl) ?_ | refine pg rfl rfl rfl (ql tok rfl) ?_ | (refine prn_e0 rfl (sst tok rfl rfl rfl rfl rfl) (by decide +kernel) ?_; rintro _ _ _ ⟨rfl, rfl, rfl⟩) | ((first | refine pe rfl (st_box rfl) ?_ | refine pe rfl (st_alloc tok rfl) ?_ | refine pe rfl (st_buildSlice tok rfl rfl rfl rfl rfl rfl rfl) ?_); rintro _ _ _ ⟨_, rfl, rfl, rfl⟩) | (refine prn_o0 rfl (sst tok rfl rfl rfl rfl rfl) (by decide +kernel) ?_; rintro _ _ _ ⟨rfl, rfl, rfl⟩; refine ⟨by (repeat (first | exact trivial | refine And.intro (pend_q rfl rfl rfl (qt_pev tok rfl)) ?_ | refine And.intro (pend_q rfl rfl rfl (ql tok rfl)) ?_)), ?_⟩) | ((first | refine po rfl (st_box rfl) ?_ | refine po rfl (st_alloc tok rfl) ?_ | refine po rfl (st_buildSlice tok rfl rfl rfl rfl rfl rfl rfl) ?_); rintro _ _ _ ⟨_, rfl, rfl, rfl⟩; refine ⟨by (repeat (first | exact trivial | refine And.intro (pend_q rfl rfl rfl (qt_pev tok rfl)) ?_ | refine And.intro (pend_q rfl rfl rfl (ql tok rfl)) ?_)), ?_⟩) | (refine pe rfl (qt_pev tok rfl) ?_; rintro _ _ _ ⟨rfl, rfl, rfl⟩))
  exact run_end hC (rs := []) rfl resN (fun _ h => (h.perm (List.Perm.swap _ _ _)).drop) ⟨rfl, Mem.le_refl _, rfl⟩
set_option maxRecDepth 10000 in
set_option maxHeartbeats 4000000 in
theorem wauditorF_ok (M : Mem) (L : HL) (ba bw : Nat) (s : ByteArray) (a : Ax) (hn : 0 ≤ a.auditor ∧ a.auditor < 4611686018427387904) (hs : s.size < 2305843009213693952) : Tr Try.prog 47 [.agg ⟨fmC ba wT bw⟩] M (wcB bw s :: axB ba a :: L) (wrK bw ba (s ++ nB a.auditor) a M L) := by
  refine Tr.intro 11 Try.func47 rfl rfl Try.call47 rfl ?_
  intro C hC hro
  repeat (first | with_reducible (first | refine cS ?_ | refine cR ?_ | refine cN ?_ | refine cK ?_ | refine cB ?_ | refine cI ?_) | refine cE rfl ?_ | refine rq (qt_pev tok rfl) ?_ | refine rg rfl rfl (qt_pev tok rfl) ?_ | refine rq (ql tok rfl) ?_ | refine rg rfl rfl (ql tok rfl) ?_ | (refine runL_op0 (sst tok rfl rfl rfl rfl rfl) ?_; rintro _ _ _ ⟨rfl, rfl, rfl⟩) | ((first | refine ro (st_box rfl) ?_ | refine ro (st_alloc tok rfl) ?_ | refine ro (st_buildSlice tok rfl rfl rfl rfl rfl rfl rfl) ?_); rintro _ _ _ ⟨_, rfl, rfl, rfl⟩) | refine prn_start mixed ?_ | refine prn_end (by decide +kernel) ?_ | refine pq rfl (qt_pev tok rfl) ?_ | refine pg rfl rfl rfl (qt_pev tok rfl) ?_ | refine pq rfl (ql tok rfl) ?_ | refine pg rfl rfl rfl (ql tok rfl) ?_ | (refine prn_e0 rfl (sst tok rfl rfl rfl rfl rfl) (by decide +kernel) ?_; rintro _ _ _ ⟨rfl, rfl, rfl⟩) | ((first | refine pe rfl (st_box rfl) ?_ | refine pe rfl (st_alloc tok rfl) ?_ | refine pe rfl (st_buildSlice tok rfl rfl rfl rfl rfl rfl rfl) ?_); rintro _ _ _ ⟨_, rfl, rfl, rfl⟩) | (refine prn_o0 rfl (sst tok rfl rfl rfl rfl rfl) (by decide +kernel) ?_; rintro _ _ _ ⟨rfl, rfl, rfl⟩; refine ⟨by (repeat (first | exact trivial | refine And.intro (pend_q rfl rfl rfl (qt_pev tok rfl)) ?_ | refine And.intro (pend_q rfl rfl rfl (ql tok rfl)) ?_)), ?_⟩) | ((first | refine po rfl (st_box rfl) ?_ | refine po rfl (st_alloc tok rfl) ?_ | refine po rfl (st_buildSlice tok rfl rfl rfl rfl rfl rfl rfl) ?_); rintro _ _ _ ⟨_, rfl, rfl, rfl⟩; refine ⟨by (repeat (first | exact trivial | refine And.intro (pend_q rfl rfl rfl (qt_pev tok rfl)) ?_ | refine And.intro (pend_q rfl rfl rfl (ql tok rfl)) ?_)), ?_⟩) | (refine pe rfl (qt_pev tok rfl) ?_; rintro _ _ _ ⟨rfl, rfl, rfl⟩) | refine prn_q rfl (qt_nilIface rfl) (by decide +kernel) rfl rfl rfl ?_)
  refine prn_e1 rfl (st_invoke rfl rfl mw_num (fun _ => trPerm (List.Perm.swap _ _ _) (swnum_ok M _ bw s ba _ a.auditor _ hn hs (holdsL tok (cs := axC a) (by (repeat (first | with_reducible apply List.mem_cons_self | with_reducible assumption | with_reducible apply List.mem_cons_of_mem | with_reducible apply List.mem_append_right))) rfl)))) (by decide +kernel) rfl rfl rfl ?_
  rintro _ _ _ ⟨rfl, rfl, rfl⟩
  repeat (first | with_reducible (first | refine cS ?_ | refine cR ?_ | refine cN ?_ | refine cK ?_ | refine cB ?_ | refine cI ?_) | refine cE rfl ?_ | refine rq (qt_pev tok rfl) ?_ | refine rg rfl rfl (qt_pev tok rfl) ?_ | refine rq (ql tok rfl) ?_ | refine rg rfl rfl (ql tok rfl) ?_ | (refine runL_op0 (sst tok rfl rfl rfl rfl rfl) ?_; rintro _ _ _ ⟨rfl, rfl, rfl⟩) | ((first | refine ro (st_box rfl) ?_ | refine ro (st_alloc tok rfl) ?_ | refine ro (st_buildSlice tok rfl rfl rfl rfl rfl rfl rfl) ?_); rintro _ _ _ ⟨_, rfl, rfl, rfl⟩) | refine prn_start mixed ?_ | refine prn_end (by decide +kernel) ?_ | refine pq rfl (qt_pev tok rfl) ?_ | refine pg rfl rfl rfl (qt_pev tok rfl) ?_ | refine pq rfl (ql tok rfl) ?_ | refine pg rfl rfl rfl (ql tok rfl) ?_ | (refine prn_e0 rfl (sst tok rfl rfl rfl rfl rfl) (by decide +kernel) ?_; rintro _ _ _ ⟨rfl, rfl, rfl⟩) | ((first | refine pe rfl (st_box rfl) ?_ | refine pe rfl (st_alloc tok rfl) ?_ | refine pe rfl (st_buildSlice tok rfl rfl rfl rfl rfl rfl rfl) ?_); rintro _ _ _ ⟨_, rfl, rfl, rfl⟩) | (refine prn_o0 rfl (sst tok rfl rfl rfl rfl rfl) (by decide +kernel) ?_; rintro _ _ _ ⟨rfl, rfl, rfl⟩; refine ⟨by (repeat (first | exact trivial | refine And.intro (pend_q rfl rfl rfl (qt_pev tok rfl)) ?_ | refine And.intro (pend_q rfl rfl rfl (ql tok rfl)) ?_)), ?_⟩) | ((first | refine po rfl (st_box rfl) ?_ | refine po rfl (st_alloc tok rfl) ?_ | refine po rfl (st_buildSlice tok rfl rfl rfl rfl rfl rfl rfl) ?_); rintro _ _ _ ⟨_, rfl, rfl, rfl⟩; refine ⟨by (repeat (first | exact trivial | refine And.intro (pend_q rfl rfl rfl (qt_pev tok rfl)) ?_ | refine And.intro (pend_q rfl rfl rfl (ql tok rfl)) ?_)), ?_⟩) | (refine pe rfl (qt_pev tok rfl) ?_; rintro _ _ _ ⟨rfl, rfl, rfl⟩))
  exact run_end hC (rs := []) rfl resN (fun _ h => (h.perm (List.Perm.swap _ _ _)).drop) ⟨rfl, Mem.le_refl _, rfl⟩
set_option maxRecDepth 10000 in
set_option maxHeartbeats 4000000 in
theorem wnF_ok (M : Mem) (L : HL) (ba bw : Nat) (s : ByteArray) (a : Ax) (hn : 0 ≤ a.n ∧ a.n < 4611686018427387904) (hs : s.size < 2305843009213693952) : Tr Try.prog 51 [.agg ⟨fmC ba wT bw⟩] M (wcB bw s :: axB ba a :: L) (wrK bw ba (s ++ nB a.n) a M L) := by
  refine Tr.intro 11 Try.func51 rfl rfl Try.call51 rfl ?_
  intro C hC hro
  repeat (first | with_reducible (first | refine cS ?_ | refine cR ?_ | refine cN ?_ | refine cK ?_ | refine cB ?_ | refine cI ?_) | refine cE rfl ?_ | refine rq (qt_pev tok rfl) ?_ | refine rg rfl rfl (qt_pev tok rfl) ?_ | refine rq (ql tok rfl) ?_ | refine rg rfl rfl (ql tok rfl) ?_ | (refine runL_op0 (sst tok rfl rfl rfl rfl rfl) ?_; rintro _ _ _ ⟨rfl, rfl, rfl⟩) | ((first | refine ro (st_box rfl) ?_ | refine ro (st_alloc tok rfl) ?_ | refine ro (st_buildSlice tok rfl rfl rfl rfl rfl rfl rfl) ?_); rintro _ _ _ ⟨_, rfl, rfl, rfl⟩) | refine prn_start mixed ?_ | refine prn_end (by decide +kernel) ?_ | refine pq rfl (qt_pev tok rfl) ?_ | refine pg rfl rfl rfl (qt_pev tok rfl) ?_ | refine pq rfl (ql tok rfl) ?_ | refine pg rfl rfl rfl (ql tok rfl) ?_ | (refine prn_e0 rfl (sst tok rfl rfl rfl rfl rfl) (by decide +kernel) ?_; rintro _ _ _ ⟨rfl, rfl, rfl⟩) | ((first | refine pe rfl (st_box rfl) ?_ | refine pe rfl (st_alloc tok rfl) ?_ | refine pe rfl (st_buildSlice tok rfl rfl rfl rfl rfl rfl rfl) ?_); rintro _ _ _ ⟨_, rfl, rfl, rfl⟩) | (refine prn_o0 rfl (sst tok rfl rfl rfl rfl rfl) (by decide +kernel) ?_; rintro _ _ _ ⟨rfl, rfl, rfl⟩; refine ⟨by (repeat (first | exact trivial | refine And.intro (pend_q rfl rfl rfl (qt_pev tok rfl)) ?_ | refine And.intro (pend_q rfl rfl rfl (ql tok rfl)) ?_)), ?_⟩) | ((first | refine po rfl (st_box rfl) ?_ | refine po rfl (st_alloc tok rfl) ?_ | refine po rfl (st_buildSlice tok rfl rfl rfl rfl rfl rfl rfl) ?_); rintro _ _ _ ⟨_, rfl, rfl, rfl⟩; refine ⟨by (repeat (first | exact trivial | refine And.intro (pend_q rfl rfl rfl (qt_pev tok rfl)) ?_ | refine And.intro (pend_q rfl rfl rfl (ql tok rfl)) ?_)), ?_⟩) | (refine pe rfl (qt_pev tok rfl) ?_; rintro _ _ _ ⟨rfl, rfl, rfl⟩) | refine prn_q rfl (qt_nilIface rfl) (by decide +kernel) rfl rfl rfl ?_)
  refine prn_e1 rfl (st_invoke rfl rfl mw_num (fun _ => trPerm (List.Perm.swap _ _ _) (swnum_ok M _ bw s ba _ a.n _ hn hs (holdsL tok (cs := axC a) (by (repeat (first | with_reducible apply List.mem_cons_self | with_reducible assumption | with_reducible apply List.mem_cons_of_mem | with_reducible apply List.mem_append_right))) rfl)))) (by decide +kernel) rfl rfl rfl ?_
  rintro _ _ _ ⟨rfl, rfl, rfl⟩
  repeat (first | with_reducible (first | refine cS ?_ | refine cR ?_ | refine cN ?_ | refine cK ?_ | refine cB ?_ | refine cI ?_) | refine cE rfl ?_ | refine rq (qt_pev tok rfl) ?_ | refine rg rfl rfl (qt_pev tok rfl) ?_ | refine rq (ql tok rfl) ?_ | refine rg rfl rfl (ql tok rfl) ?_ | (refine runL_op0 (sst tok rfl rfl rfl rfl rfl) ?_; rintro _ _ _ ⟨rfl, rfl, rfl⟩) | ((first | refine ro (st_box rfl) ?_ | refine ro (st_alloc tok rfl) ?_ | refine ro (st_buildSlice tok rfl rfl rfl rfl rfl rfl rfl) ?_); rintro _ _ _ ⟨_, rfl, rfl, rfl⟩) | refine prn_start mixed ?_ | refine prn_end (by decide +kernel) ?_ | refine pq rfl (qt_pev tok rfl) ?_ | refine pg rfl rfl rfl (qt_pev tok rfl) ?_ | refine pq rfl (ql tok rfl) ?_ | refine pg rfl rfl rfl (ql tok rfl) ?_ | (refine prn_e0 rfl (sst tok rfl rfl rfl rfl rfl) (by decide +kernel) ?_; rintro _ _ _ ⟨rfl, rfl, rfl⟩) | ((first | refine pe rfl (st_box rfl) ?_ | refine pe rfl (st_alloc tok rfl) ?_ | refine pe rfl (st_buildSlice tok rfl rfl rfl rfl rfl rfl rfl) ?_); rintro _ _ _ ⟨_, rfl, rfl, rfl⟩) | (refine prn_o0 rfl (sst tok rfl rfl rfl rfl rfl) (by decide +kernel) ?_; rintro _ _ _ ⟨rfl, rfl, rfl⟩; refine ⟨by (repeat (first | exact trivial | refine And.intro (pend_q rfl rfl rfl (qt_pev tok rfl)) ?_ | refine And.intro (pend_q rfl rfl rfl (ql tok rfl)) ?_)), ?_⟩) | ((first | refine po rfl (st_box rfl) ?_ | refine po rfl (st_alloc tok rfl) ?_ | refine po rfl (st_buildSlice tok rfl rfl rfl rfl rfl rfl rfl) ?_); rintro _ _ _ ⟨_, rfl, rfl, rfl⟩; refine ⟨by (repeat (first | exact trivial | refine And.intro (pend_q rfl rfl rfl (qt_pev tok rfl)) ?_ | refine And.intro (pend_q rfl rfl rfl (ql tok rfl)) ?_)), ?_⟩) | (refine pe rfl (qt_pev tok rfl) ?_; rintro _ _ _ ⟨rfl, rfl, rfl⟩))
  exact run_end hC (rs := []) rfl resN (fun _ h => (h.perm (List.Perm.swap _ _ _)).drop) ⟨rfl, Mem.le_refl _, rfl⟩
set_option maxRecDepth 10000 in
set_option maxHeartbeats 8000000 in
theorem wtxnF_ok (M : Mem) (L : HL) (ba bw : Nat) (s : ByteArray) (a : Ax) (hn : mayTx a.txn = true) (hs : s.size < 1099511627776) : Tr Try.prog 49 [.agg ⟨fmC ba wT bw⟩] M (wcB bw s :: axB ba a :: L) (wrK bw ba (s ++ txB a.txn) a M L) := by
  obtain ⟨h1, h2, h3⟩ := mayTx_r hn
  have z1 := nB_size (n := a.txn.coord) (by omega)
  have z2 := nB_size (n := a.txn.epoch) (by omega)
  have s1 : (s ++ nB a.txn.coord).size < 2305843009213693952 := by rw [app_size]; omega
  have s2 : (s ++ nB a.txn.coord ++ nB a.txn.epoch).size < 2305843009213693952 := by rw [app_size, app_size]; omega
  refine Tr.intro 32 Try.func49 rfl rfl Try.call49 rfl ?_
  intro C hC hro
  repeat (first | with_reducible (first | refine cS ?_ | refine cR ?_ | refine cN ?_ | refine cK ?_ | refine cB ?_ | refine cI ?_) | refine cE rfl ?_ | refine rq (qt_pev tok rfl) ?_ | refine rg rfl rfl (qt_pev tok rfl) ?_ | refine rq (ql tok rfl) ?_ | refine rg rfl rfl (ql tok rfl) ?_ | (refine runL_op0 (sst tok rfl rfl rfl rfl rfl) ?_; rintro _ _ _ ⟨rfl, rfl, rfl⟩) | ((first | refine ro (st_box rfl) ?_ | refine ro (st_alloc tok rfl) ?_ | refine ro (st_buildSlice tok rfl rfl rfl rfl rfl rfl rfl) ?_); rintro _ _ _ ⟨_, rfl, rfl, rfl⟩) | refine prn_start mixed ?_ | refine prn_end (by decide +kernel) ?_ | refine pq rfl (qt_pev tok rfl) ?_ | refine pg rfl rfl rfl (qt_pev tok rfl) ?_ | refine pq rfl (ql tok rfl) ?_ | refine pg rfl rfl rfl (ql tok rfl) ?_ | (refine prn_e0 rfl (sst tok rfl rfl rfl rfl rfl) (by decide +kernel) ?_; rintro _ _ _ ⟨rfl, rfl, rfl⟩) | ((first | refine pe rfl (st_box rfl) ?_ | refine pe rfl (st_alloc tok rfl) ?_ | refine pe rfl (st_buildSlice tok rfl rfl rfl rfl rfl rfl rfl) ?_); rintro _ _ _ ⟨_, rfl, rfl, rfl⟩) | (refine prn_o0 rfl (sst tok rfl rfl rfl rfl rfl) (by decide +kernel) ?_; rintro _ _ _ ⟨rfl, rfl, rfl⟩; refine ⟨by (repeat (first | exact trivial | refine And.intro (pend_q rfl rfl rfl (qt_pev tok rfl)) ?_ | refine And.intro (pend_q rfl rfl rfl (ql tok rfl)) ?_)), ?_⟩) | ((first | refine po rfl (st_box rfl) ?_ | refine po rfl (st_alloc tok rfl) ?_ | refine po rfl (st_buildSlice tok rfl rfl rfl rfl rfl rfl rfl) ?_); rintro _ _ _ ⟨_, rfl, rfl, rfl⟩; refine ⟨by (repeat (first | exact trivial | refine And.intro (pend_q rfl rfl rfl (qt_pev tok rfl)) ?_ | refine And.intro (pend_q rfl rfl rfl (ql tok rfl)) ?_)), ?_⟩) | (refine pe rfl (qt_pev tok rfl) ?_; rintro _ _ _ ⟨rfl, rfl, rfl⟩) | refine prn_q rfl (qt_nilIface rfl) (by decide +kernel) rfl rfl rfl ?_)
  refine prn_e1 rfl (st_invoke rfl rfl mw_num (fun _ => trPerm (List.Perm.swap _ _ _) (swnum_ok M _ bw s ba _ a.txn.coord _ (by omega) (by omega) (holdsL tok (cs := axC a) (by (repeat (first | with_reducible apply List.mem_cons_self | with_reducible assumption | with_reducible apply List.mem_cons_of_mem | with_reducible apply List.mem_append_right))) rfl)))) (by decide +kernel) rfl rfl rfl ?_
  rintro _ _ _ ⟨rfl, rfl, rfl⟩
  repeat (first | with_reducible (first | refine cS ?_ | refine cR ?_ | refine cN ?_ | refine cK ?_ | refine cB ?_ | refine cI ?_) | refine cE rfl ?_ | refine rq (qt_pev tok rfl) ?_ | refine rg rfl rfl (qt_pev tok rfl) ?_ | refine rq (ql tok rfl) ?_ | refine rg rfl rfl (ql tok rfl) ?_ | (refine runL_op0 (sst tok rfl rfl rfl rfl rfl) ?_; rintro _ _ _ ⟨rfl, rfl, rfl⟩) | ((first | refine ro (st_box rfl) ?_ | refine ro (st_alloc tok rfl) ?_ | refine ro (st_buildSlice tok rfl rfl rfl rfl rfl rfl rfl) ?_); rintro _ _ _ ⟨_, rfl, rfl, rfl⟩) | refine prn_start mixed ?_ | refine prn_end (by decide +kernel) ?_ | refine pq rfl (qt_pev tok rfl) ?_ | refine pg rfl rfl rfl (qt_pev tok rfl) ?_ | refine pq rfl (ql tok rfl) ?_ | refine pg rfl rfl rfl (ql tok rfl) ?_ | (refine prn_e0 rfl (sst tok rfl rfl rfl rfl rfl) (by decide +kernel) ?_; rintro _ _ _ ⟨rfl, rfl, rfl⟩) | ((first | refine pe rfl (st_box rfl) ?_ | refine pe rfl (st_alloc tok rfl) ?_ | refine pe rfl (st_buildSlice tok rfl rfl rfl rfl rfl rfl rfl) ?_); rintro _ _ _ ⟨_, rfl, rfl, rfl⟩) | (refine prn_o0 rfl (sst tok rfl rfl rfl rfl rfl) (by decide +kernel) ?_; rintro _ _ _ ⟨rfl, rfl, rfl⟩; refine ⟨by (repeat (first | exact trivial | refine And.intro (pend_q rfl rfl rfl (qt_pev tok rfl)) ?_ | refine And.intro (pend_q rfl rfl rfl (ql tok rfl)) ?_)), ?_⟩) | ((first | refine po rfl (st_box rfl) ?_ | refine po rfl (st_alloc tok rfl) ?_ | refine po rfl (st_buildSlice tok rfl rfl rfl rfl rfl rfl rfl) ?_); rintro _ _ _ ⟨_, rfl, rfl, rfl⟩; refine ⟨by (repeat (first | exact trivial | refine And.intro (pend_q rfl rfl rfl (qt_pev tok rfl)) ?_ | refine And.intro (pend_q rfl rfl rfl (ql tok rfl)) ?_)), ?_⟩) | (refine pe rfl (qt_pev tok rfl) ?_; rintro _ _ _ ⟨rfl, rfl, rfl⟩) | refine prn_q rfl (qt_nilIface rfl) (by decide +kernel) rfl rfl rfl ?_)
  refine prn_e1 rfl (st_invoke rfl rfl mw_num (fun _ => swnum_ok M _ bw _ ba _ a.txn.epoch _ (by omega) s1 (holdsL tok (cs := axC a) (by (repeat (first | with_reducible apply List.mem_cons_self | with_reducible assumption | with_reducible apply List.mem_cons_of_mem | with_reducible apply List.mem_append_right))) rfl))) (by decide +kernel) rfl rfl rfl ?_
  rintro _ _ _ ⟨rfl, rfl, rfl⟩
  repeat (first | with_reducible (first | refine cS ?_ | refine cR ?_ | refine cN ?_ | refine cK ?_ | refine cB ?_ | refine cI ?_) | refine cE rfl ?_ | refine rq (qt_pev tok rfl) ?_ | refine rg rfl rfl (qt_pev tok rfl) ?_ | refine rq (ql tok rfl) ?_ | refine rg rfl rfl (ql tok rfl) ?_ | (refine runL_op0 (sst tok rfl rfl rfl rfl rfl) ?_; rintro _ _ _ ⟨rfl, rfl, rfl⟩) | ((first | refine ro (st_box rfl) ?_ | refine ro (st_alloc tok rfl) ?_ | refine ro (st_buildSlice tok rfl rfl rfl rfl rfl rfl rfl) ?_); rintro _ _ _ ⟨_, rfl, rfl, rfl⟩) | refine prn_start mixed ?_ | refine prn_end (by decide +kernel) ?_ | refine pq rfl (qt_pev tok rfl) ?_ | refine pg rfl rfl rfl (qt_pev tok rfl) ?_ | refine pq rfl (ql tok rfl) ?_ | refine pg rfl rfl rfl (ql tok rfl) ?_ | (refine prn_e0 rfl (sst tok rfl rfl rfl rfl rfl) (by decide +kernel) ?_; rintro _ _ _ ⟨rfl, rfl, rfl⟩) | ((first | refine pe rfl (st_box rfl) ?_ | refine pe rfl (st_alloc tok rfl) ?_ | refine pe rfl (st_buildSlice tok rfl rfl rfl rfl rfl rfl rfl) ?_); rintro _ _ _ ⟨_, rfl, rfl, rfl⟩) | (refine prn_o0 rfl (sst tok rfl rfl rfl rfl rfl) (by decide +kernel) ?_; rintro _ _ _ ⟨rfl, rfl, rfl⟩; refine ⟨by (repeat (first | exact trivial | refine And.intro (pend_q rfl rfl rfl (qt_pev tok rfl)) ?_ | refine And.intro (pend_q rfl rfl rfl (ql tok rfl)) ?_)), ?_⟩) | ((first | refine po rfl (st_box rfl) ?_ | refine po rfl (st_alloc tok rfl) ?_ | refine po rfl (st_buildSlice tok rfl rfl rfl rfl rfl rfl rfl) ?_); rintro _ _ _ ⟨_, rfl, rfl, rfl⟩; refine ⟨by (repeat (first | exact trivial | refine And.intro (pend_q rfl rfl rfl (qt_pev tok rfl)) ?_ | refine And.intro (pend_q rfl rfl rfl (ql tok rfl)) ?_)), ?_⟩) | (refine pe rfl (qt_pev tok rfl) ?_; rintro _ _ _ ⟨rfl, rfl, rfl⟩) | refine prn_q rfl (qt_nilIface rfl) (by decide +kernel) rfl rfl rfl ?_)
  refine prn_e1 rfl (st_invoke rfl rfl mw_num (fun _ => swnum_ok M _ bw _ ba _ a.txn.seq _ (by omega) s2 (holdsL tok (cs := axC a) (by (repeat (first | with_reducible apply List.mem_cons_self | with_reducible assumption | with_reducible apply List.mem_cons_of_mem | with_reducible apply List.mem_append_right))) rfl))) (by decide +kernel) rfl rfl rfl ?_
  rintro _ _ _ ⟨rfl, rfl, rfl⟩
  repeat (first | with_reducible (first | refine cS ?_ | refine cR ?_ | refine cN ?_ | refine cK ?_ | refine cB ?_ | refine cI ?_) | refine cE rfl ?_ | refine rq (qt_pev tok rfl) ?_ | refine rg rfl rfl (qt_pev tok rfl) ?_ | refine rq (ql tok rfl) ?_ | refine rg rfl rfl (ql tok rfl) ?_ | (refine runL_op0 (sst tok rfl rfl rfl rfl rfl) ?_; rintro _ _ _ ⟨rfl, rfl, rfl⟩) | ((first | refine ro (st_box rfl) ?_ | refine ro (st_alloc tok rfl) ?_ | refine ro (st_buildSlice tok rfl rfl rfl rfl rfl rfl rfl) ?_); rintro _ _ _ ⟨_, rfl, rfl, rfl⟩) | refine prn_start mixed ?_ | refine prn_end (by decide +kernel) ?_ | refine pq rfl (qt_pev tok rfl) ?_ | refine pg rfl rfl rfl (qt_pev tok rfl) ?_ | refine pq rfl (ql tok rfl) ?_ | refine pg rfl rfl rfl (ql tok rfl) ?_ | (refine prn_e0 rfl (sst tok rfl rfl rfl rfl rfl) (by decide +kernel) ?_; rintro _ _ _ ⟨rfl, rfl, rfl⟩) | ((first | refine pe rfl (st_box rfl) ?_ | refine pe rfl (st_alloc tok rfl) ?_ | refine pe rfl (st_buildSlice tok rfl rfl rfl rfl rfl rfl rfl) ?_); rintro _ _ _ ⟨_, rfl, rfl, rfl⟩) | (refine prn_o0 rfl (sst tok rfl rfl rfl rfl rfl) (by decide +kernel) ?_; rintro _ _ _ ⟨rfl, rfl, rfl⟩; refine ⟨by (repeat (first | exact trivial | refine And.intro (pend_q rfl rfl rfl (qt_pev tok rfl)) ?_ | refine And.intro (pend_q rfl rfl rfl (ql tok rfl)) ?_)), ?_⟩) | ((first | refine po rfl (st_box rfl) ?_ | refine po rfl (st_alloc tok rfl) ?_ | refine po rfl (st_buildSlice tok rfl rfl rfl rfl rfl rfl rfl) ?_); rintro _ _ _ ⟨_, rfl, rfl, rfl⟩; refine ⟨by (repeat (first | exact trivial | refine And.intro (pend_q rfl rfl rfl (qt_pev tok rfl)) ?_ | refine And.intro (pend_q rfl rfl rfl (ql tok rfl)) ?_)), ?_⟩) | (refine pe rfl (qt_pev tok rfl) ?_; rintro _ _ _ ⟨rfl, rfl, rfl⟩))
  refine run_end hC (rs := []) rfl resN (fun _ h => (h.perm (List.Perm.swap _ _ _)).drop) ⟨rfl, Mem.le_refl _, ?_⟩
  rw [txB]
  simp only [app_assoc]
set_option maxRecDepth 10000 in
set_option maxHeartbeats 8000000 in
theorem wyesF_ok (M : Mem) (L : HL) (ba bw : Nat) (s : ByteArray) (a : Ax) (hs : s.size < 1099511627776) : Tr Try.prog 50 [.agg ⟨fmC ba wT bw⟩] M (wcB bw s :: axB ba a :: L) (wrK bw ba (s ++ yB a.yes) a M L) := by
  refine Tr.intro 17 Try.func50 rfl rfl Try.call50 rfl ?_
  intro C hC hro
  repeat (first | with_reducible (first | refine cS ?_ | refine cR ?_ | refine cN ?_ | refine cK ?_ | refine cB ?_ | refine cI ?_) | refine cE rfl ?_ | refine rq (qt_pev tok rfl) ?_ | refine rg rfl rfl (qt_pev tok rfl) ?_ | refine rq (ql tok rfl) ?_ | refine rg rfl rfl (ql tok rfl) ?_ | (refine runL_op0 (sst tok rfl rfl rfl rfl rfl) ?_; rintro _ _ _ ⟨rfl, rfl, rfl⟩) | ((first | refine ro (st_box rfl) ?_ | refine ro (st_alloc tok rfl) ?_ | refine ro (st_buildSlice tok rfl rfl rfl rfl rfl rfl rfl) ?_); rintro _ _ _ ⟨_, rfl, rfl, rfl⟩))
  rename_i bf b2
  refine run_cut (fun σ' M' L' => ∃ n : Int, (n = 0 ∨ n = 1) ∧ (n == 1) = a.yes ∧ yB a.yes = nB n ∧ σ' = [(2, .pointer (some ⟨b2, 0, none⟩)), (1, .pointer (some ⟨bf, 0, none⟩))] ∧ M = M' ∧ L' = (b2, .cells ⟨[.int .i64 n]⟩ 3 (0, 0)) :: (bf, .cells ⟨fmC ba wT bw⟩ 78 (0, 0)) :: wcB bw s :: axB ba a :: L) ?_ ?_
  · rintro _ _ _ ⟨n, hn01, hn, hy, rfl, rfl, rfl⟩
    repeat (first | with_reducible (first | refine cS ?_ | refine cR ?_ | refine cN ?_ | refine cK ?_ | refine cB ?_ | refine cI ?_) | refine cE rfl ?_ | refine rq (qt_pev tok rfl) ?_ | refine rg rfl rfl (qt_pev tok rfl) ?_ | refine rq (ql tok rfl) ?_ | refine rg rfl rfl (ql tok rfl) ?_ | (refine runL_op0 (sst tok rfl rfl rfl rfl rfl) ?_; rintro _ _ _ ⟨rfl, rfl, rfl⟩) | ((first | refine ro (st_box rfl) ?_ | refine ro (st_alloc tok rfl) ?_ | refine ro (st_buildSlice tok rfl rfl rfl rfl rfl rfl rfl) ?_); rintro _ _ _ ⟨_, rfl, rfl, rfl⟩))
    refine runL_op (st_invoke rfl rfl mw_num (fun _ => trPerm (p3 _ _ _ _) (swnum_ok M _ bw s b2 _ n _ (by omega) (by omega) (holdsL tok (cs := [.int .i64 n]) (by (repeat (first | with_reducible apply List.mem_cons_self | with_reducible assumption | with_reducible apply List.mem_cons_of_mem | with_reducible apply List.mem_append_right))) rfl)))) rfl rfl rfl ?_
    rintro _ _ _ ⟨rfl, rfl, rfl⟩
    repeat (first | with_reducible (first | refine cS ?_ | refine cR ?_ | refine cN ?_ | refine cK ?_ | refine cB ?_ | refine cI ?_) | refine cE rfl ?_ | refine rq (qt_pev tok rfl) ?_ | refine rg rfl rfl (qt_pev tok rfl) ?_ | refine rq (ql tok rfl) ?_ | refine rg rfl rfl (ql tok rfl) ?_ | (refine runL_op0 (sst tok rfl rfl rfl rfl rfl) ?_; rintro _ _ _ ⟨rfl, rfl, rfl⟩) | ((first | refine ro (st_box rfl) ?_ | refine ro (st_alloc tok rfl) ?_ | refine ro (st_buildSlice tok rfl rfl rfl rfl rfl rfl rfl) ?_); rintro _ _ _ ⟨_, rfl, rfl, rfl⟩))
    refine run_end hC (rs := []) rfl resN (fun _ h => ((h.perm (List.Perm.swap _ _ _)).drop.perm (List.Perm.swap _ _ _)).drop) ⟨rfl, Mem.le_refl _, ?_⟩
    rw [hy]
    show wcB bw (s ++ nB n) :: (ba, Obj.cells ⟨[.int .u8 a.do_, .int .i64 a.org, .int .i64 a.auditor, .int .i64 a.n, a.gives.v, .int .i64 a.txn.coord, .int .i64 a.txn.epoch, .int .i64 a.txn.seq, .bool (n == 1), a.steps.v]⟩ 37 (0, 0)) :: L = _
    rw [hn]
    rfl
  · intro hnext
    refine run_cond rfl (fun h => ?_) (fun h => ?_)
    · refine run_region ?_
      repeat (first | refine rq (qt_pev tok rfl) ?_ | refine rg rfl rfl (qt_pev tok rfl) ?_ | refine rq (ql tok rfl) ?_ | refine rg rfl rfl (ql tok rfl) ?_ | (refine runL_op0 (sst tok rfl rfl rfl rfl rfl) ?_; rintro _ _ _ ⟨rfl, rfl, rfl⟩) | ((first | refine ro (st_box rfl) ?_ | refine ro (st_alloc tok rfl) ?_ | refine ro (st_buildSlice tok rfl rfl rfl rfl rfl rfl rfl) ?_); rintro _ _ _ ⟨_, rfl, rfl, rfl⟩))
      refine runL_nil ?_
      exact run_sub' (hnext _ _ _ ⟨1, .inr rfl, by rw [h]; rfl, by rw [h]; rfl, rfl, rfl, rfl⟩) ⟨rfl, rfl, trivial⟩
    · refine run_skip ?_
      exact run_sub' (hnext _ _ _ ⟨0, .inl rfl, by rw [h]; rfl, by rw [h]; rfl, rfl, rfl, rfl⟩) ⟨rfl, rfl, trivial⟩
end Go.Proofs.Ytbpgiodfccijmaa
namespace Go.Proofs.Ytbpgiodfccijmaa
open Go.Chi

theorem _root_.Go.Chi.Hp.drop2 {M : Mem} {x y : Nat × Obj} {L : HL} {w : World} (h : Hp M (x :: y :: L) w) : Hp M (x :: L) w := (h.perm (List.Perm.swap _ _ _)).drop
set_option maxRecDepth 10000 in
set_option maxHeartbeats 4000000 in
theorem wrows_ok (M : Mem) (L : HL) (ba bw : Nat) (s : ByteArray) (n : Nat) (most : Int) (f : Value) (hn : n < 1000000) (hs : s.size < 1099511627776) :
    Tr Try.prog 63 [.agg ⟨fmC ba wT bw⟩, .int .i64 (n : Int), .int .i64 most, f] M (wcB bw s :: L) (fun v M' L' => v = .int .i64 (n : Int) ∧ M = M' ∧ L' = wcB bw (s ++ nB (n : Int)) :: L) := by
  refine Tr.intro 26 Try.func63 rfl rfl Try.call63 rfl ?_
  intro C hC hro
  repeat (first | with_reducible (first | refine cS ?_ | refine cR ?_ | refine cN ?_ | refine cK ?_ | refine cB ?_ | refine cI ?_) | refine cE rfl ?_ | refine rq (qt_pev tok rfl) ?_ | refine rg rfl rfl (qt_pev tok rfl) ?_ | refine rq (ql tok rfl) ?_ | refine rg rfl rfl (ql tok rfl) ?_ | (refine runL_op0 (sst tok rfl rfl rfl rfl rfl) ?_; rintro _ _ _ ⟨rfl, rfl, rfl⟩) | ((first | refine ro (st_box rfl) ?_ | refine ro (st_alloc tok rfl) ?_ | refine ro (st_buildSlice tok rfl rfl rfl rfl rfl rfl rfl) ?_); rintro _ _ _ ⟨_, rfl, rfl, rfl⟩))
  rename_i b4 b5
  refine runL_op (st_invoke rfl rfl mw_num (fun _ => trPerm (p3 _ _ _ _) (swnum_ok M _ bw s b5 _ (n : Int) _ (by omega) (by omega) (holdsL tok (cs := [.int .i64 (n : Int)]) (List.mem_cons_of_mem _ List.mem_cons_self) rfl)))) rfl rfl rfl ?_
  rintro _ _ _ ⟨rfl, rfl, rfl⟩
  repeat (first | with_reducible (first | refine cS ?_ | refine cR ?_ | refine cN ?_ | refine cK ?_ | refine cB ?_ | refine cI ?_) | refine cE rfl ?_ | refine rq (qt_pev tok rfl) ?_ | refine rg rfl rfl (qt_pev tok rfl) ?_ | refine rq (ql tok rfl) ?_ | refine rg rfl rfl (ql tok rfl) ?_ | (refine runL_op0 (sst tok rfl rfl rfl rfl rfl) ?_; rintro _ _ _ ⟨rfl, rfl, rfl⟩) | ((first | refine ro (st_box rfl) ?_ | refine ro (st_alloc tok rfl) ?_ | refine ro (st_buildSlice tok rfl rfl rfl rfl rfl rfl rfl) ?_); rintro _ _ _ ⟨_, rfl, rfl, rfl⟩) | refine runL_q (qt_assertNo tok rfl rfl rfl rfl rfl) rfl rfl rfl ?_)
  refine run_cond rfl (fun h => by cases h) (fun _ => ?_)
  repeat (first | with_reducible (first | refine cS ?_ | refine cR ?_ | refine cN ?_ | refine cK ?_ | refine cB ?_ | refine cI ?_) | refine cE rfl ?_ | refine rq (qt_pev tok rfl) ?_ | refine rg rfl rfl (qt_pev tok rfl) ?_ | refine rq (ql tok rfl) ?_ | refine rg rfl rfl (ql tok rfl) ?_ | (refine runL_op0 (sst tok rfl rfl rfl rfl rfl) ?_; rintro _ _ _ ⟨rfl, rfl, rfl⟩) | ((first | refine ro (st_box rfl) ?_ | refine ro (st_alloc tok rfl) ?_ | refine ro (st_buildSlice tok rfl rfl rfl rfl rfl rfl rfl) ?_); rintro _ _ _ ⟨_, rfl, rfl, rfl⟩))
  exact run_ret hC (rs := [.tmp 8]) rfl (resT rfl resN) (fun _ h => h.drop2.drop2) ⟨rfl, rfl, rfl⟩
theorem mbB_snoc (l : List Mb) (m : Mb) : mbB (l ++ [m]) = mbB l ++ (nB m.org ++ textB m.digest) := by
  induction l with
  | nil => show nB m.org ++ (textB m.digest ++ bz) = bz ++ _; rw [show bz = (⟨#[]⟩ : ByteArray) from rfl, app_nil, nil_app]
  | cons x l ih => show nB x.org ++ (textB x.digest ++ mbB (l ++ [m])) = (nB x.org ++ (textB x.digest ++ mbB l)) ++ _; rw [ih]; simp only [app_assoc]
theorem mbB_sz {l : List Mb} (h : ∀ m ∈ l, (0 ≤ m.org ∧ m.org ≤ 7) ∧ m.digest.size < 1099511627776) : (mbB l).size ≤ l.length * 1099511627800 := by
  induction l with
  | nil => exact Nat.le_refl _
  | cons x l ih =>
    have h1 := ih fun t ht => h t (List.mem_cons_of_mem _ ht)
    obtain ⟨h2, h3⟩ := h x List.mem_cons_self
    have h4 := textB_sz h3
    have h5 := nB_size (n := x.org) (by omega)
    show (nB x.org ++ (textB x.digest ++ mbB l)).size ≤ _
    rw [app_size, app_size, List.length_cons]
    omega
set_option maxRecDepth 10000 in
set_option maxHeartbeats 16000000 in
theorem wgivesF_ok (M : Mem) (L : HL) (ba bw : Nat) (s : ByteArray) (a : Ax) (hg : MbOk M a.gives) (hgl : a.gives.len ≤ 6) (hlim : ∀ m ∈ a.gives.xs, (0 ≤ m.org ∧ m.org ≤ 7) ∧ m.digest.size < 1099511627776) (hs : s.size < 1099511627776) :
    Tr Try.prog 48 [.agg ⟨fmC ba wT bw⟩] M (wcB bw s :: axB ba a :: L) (wrK bw ba (s ++ msB a.gives.xs) a M L) := by
  have hx1 := hg.len
  have z0 := nB_size (n := (a.gives.len : Int)) (by omega)
  refine Tr.intro 42 Try.func48 rfl rfl Try.call48 rfl ?_
  intro C hC hro
  repeat (first | with_reducible (first | refine cS ?_ | refine cR ?_ | refine cN ?_ | refine cK ?_ | refine cB ?_ | refine cI ?_) | refine cE rfl ?_ | refine rq (qt_pev tok rfl) ?_ | refine rg rfl rfl (qt_pev tok rfl) ?_ | refine rq (ql tok rfl) ?_ | refine rg rfl rfl (ql tok rfl) ?_ | (refine runL_op0 (sst tok rfl rfl rfl rfl rfl) ?_; rintro _ _ _ ⟨rfl, rfl, rfl⟩) | ((first | refine ro (st_box rfl) ?_ | refine ro (st_alloc tok rfl) ?_ | refine ro (st_buildSlice tok rfl rfl rfl rfl rfl rfl rfl) ?_); rintro _ _ _ ⟨_, rfl, rfl, rfl⟩) | refine prn_start mixed ?_ | refine prn_end (by decide +kernel) ?_ | refine pq rfl (qt_pev tok rfl) ?_ | refine pg rfl rfl rfl (qt_pev tok rfl) ?_ | refine pq rfl (ql tok rfl) ?_ | refine pg rfl rfl rfl (ql tok rfl) ?_ | (refine prn_e0 rfl (sst tok rfl rfl rfl rfl rfl) (by decide +kernel) ?_; rintro _ _ _ ⟨rfl, rfl, rfl⟩) | ((first | refine pe rfl (st_box rfl) ?_ | refine pe rfl (st_alloc tok rfl) ?_ | refine pe rfl (st_buildSlice tok rfl rfl rfl rfl rfl rfl rfl) ?_); rintro _ _ _ ⟨_, rfl, rfl, rfl⟩) | (refine prn_o0 rfl (sst tok rfl rfl rfl rfl rfl) (by decide +kernel) ?_; rintro _ _ _ ⟨rfl, rfl, rfl⟩; refine ⟨by (repeat (first | exact trivial | refine And.intro (pend_q rfl rfl rfl (qt_pev tok rfl)) ?_ | refine And.intro (pend_q rfl rfl rfl (ql tok rfl)) ?_)), ?_⟩) | ((first | refine po rfl (st_box rfl) ?_ | refine po rfl (st_alloc tok rfl) ?_ | refine po rfl (st_buildSlice tok rfl rfl rfl rfl rfl rfl rfl) ?_); rintro _ _ _ ⟨_, rfl, rfl, rfl⟩; refine ⟨by (repeat (first | exact trivial | refine And.intro (pend_q rfl rfl rfl (qt_pev tok rfl)) ?_ | refine And.intro (pend_q rfl rfl rfl (ql tok rfl)) ?_)), ?_⟩) | (refine pe rfl (qt_pev tok rfl) ?_; rintro _ _ _ ⟨rfl, rfl, rfl⟩))
  rename_i bf
  refine pr_q 9 (by decide +kernel) rfl (qt_pev tok rfl) rfl rfl rfl ?_
  refine pr_one 8 (by decide +kernel) (eff1 8 rfl (st_callF rfl (fun _ => trPerm (List.Perm.swap _ _ _) (wrows_ok M _ ba bw s a.gives.len _ _ (by omega) hs))) (by decide +kernel) (qs := _) rfl rfl rfl rfl ?_)
  rintro _ _ _ ⟨rfl, rfl, rfl⟩
  refine ⟨by (repeat (first | exact trivial | refine And.intro (pend_q rfl rfl rfl (qt_pev tok rfl)) ?_ | refine And.intro (pend_q rfl rfl rfl (ql tok rfl)) ?_)), ?_⟩
  refine pr_end (by decide +kernel) (by decide +kernel) ?_
  repeat (first | with_reducible (first | refine cS ?_ | refine cR ?_ | refine cN ?_ | refine cK ?_ | refine cB ?_ | refine cI ?_) | refine cE rfl ?_ | refine rq (qt_pev tok rfl) ?_ | refine rg rfl rfl (qt_pev tok rfl) ?_ | refine rq (ql tok rfl) ?_ | refine rg rfl rfl (ql tok rfl) ?_ | (refine runL_op0 (sst tok rfl rfl rfl rfl rfl) ?_; rintro _ _ _ ⟨rfl, rfl, rfl⟩) | ((first | refine ro (st_box rfl) ?_ | refine ro (st_alloc tok rfl) ?_ | refine ro (st_buildSlice tok rfl rfl rfl rfl rfl rfl rfl) ?_); rintro _ _ _ ⟨_, rfl, rfl, rfl⟩))
  generalize hS : s ++ nB (a.gives.len : Int) = S
  have hSz : S.size ≤ s.size + 9 := by rw [← hS, app_size]; omega
  refine run_loopN (fun j σ1 M1 L1 => j ≤ a.gives.len ∧ M = M1 ∧ L1 = wcB bw (S ++ mbB (a.gives.xs.take j)) :: (bf, .cells ⟨fmC ba wT bw⟩ 78 (0, 0)) :: axB ba a :: L ∧ σ1 = [(12, .int .i64 (j : Int)), (11, .int .i64 (a.gives.len : Int)), (1, .pointer (some ⟨bf, 0, none⟩))]) a.gives.len [(12, .int .i64 ((0 : Nat) : Int)), (11, .int .i64 (a.gives.len : Int)), (1, .pointer (some ⟨bf, 0, none⟩))] ?_ ⟨Nat.zero_le _, rfl, by rw [List.take_zero, mbB, show bz = (⟨#[]⟩ : ByteArray) from rfl, app_nil]; rfl, rfl⟩ (fun j _ _ _ h => h.1) ?_
  · exact ⟨rfl, rfl, rfl, trivial⟩
  rintro j _ _ _ ⟨hj, rfl, rfl, rfl⟩ hnext
  repeat (first | with_reducible (first | refine cS ?_ | refine cR ?_ | refine cN ?_ | refine cK ?_ | refine cB ?_ | refine cI ?_) | refine cE rfl ?_ | refine rq (qt_pev tok rfl) ?_ | refine rg rfl rfl (qt_pev tok rfl) ?_ | refine rq (ql tok rfl) ?_ | refine rg rfl rfl (ql tok rfl) ?_ | (refine runL_op0 (sst tok rfl rfl rfl rfl rfl) ?_; rintro _ _ _ ⟨rfl, rfl, rfl⟩) | ((first | refine ro (st_box rfl) ?_ | refine ro (st_alloc tok rfl) ?_ | refine ro (st_buildSlice tok rfl rfl rfl rfl rfl rfl rfl) ?_); rintro _ _ _ ⟨_, rfl, rfl, rfl⟩))
  refine run_cond rfl (fun h => ?_) (fun h => ?_)
  · have hlt : j < a.gives.len := by simpa using h
    obtain ⟨b, off, m, hma, hm, hc⟩ := SMb.at_ hg.1 hlt
    have hv : a.gives.v = .slice (some ⟨b, off, none⟩) a.gives.len a.gives.cap := by rw [← hma]; rfl
    obtain ⟨hl1, hl2⟩ := hlim m (List.mem_of_getElem? hm)
    have z1 := mbB_sz (l := a.gives.xs.take j) fun t ht => hlim t (List.mem_of_mem_take ht)
    have z2 : (a.gives.xs.take j).length ≤ 6 := by rw [List.length_take]; omega
    have z3 := nB_size (n := m.org) (by omega)
    have z4 : (S ++ mbB (a.gives.xs.take j)).size < 2305843009213693952 := by rw [app_size]; omega
    have z5 : (S ++ mbB (a.gives.xs.take j) ++ nB m.org).size < 2305843009213693952 := by rw [app_size, app_size]; omega
    repeat (first | with_reducible (first | refine cS ?_ | refine cR ?_ | refine cN ?_ | refine cK ?_ | refine cB ?_ | refine cI ?_) | refine cE rfl ?_ | refine rq (qt_pev tok rfl) ?_ | refine rg rfl rfl (qt_pev tok rfl) ?_ | refine rq (ql tok rfl) ?_ | refine rg rfl rfl (ql tok rfl) ?_ | (refine runL_op0 (sst tok rfl rfl rfl rfl rfl) ?_; rintro _ _ _ ⟨rfl, rfl, rfl⟩) | ((first | refine ro (st_box rfl) ?_ | refine ro (st_alloc tok rfl) ?_ | refine ro (st_buildSlice tok rfl rfl rfl rfl rfl rfl rfl) ?_); rintro _ _ _ ⟨_, rfl, rfl, rfl⟩))
    repeat (first | with_reducible (first | refine cS ?_ | refine cR ?_ | refine cN ?_ | refine cK ?_ | refine cB ?_ | refine cI ?_) | refine cE rfl ?_ | refine rq (qt_pev tok rfl) ?_ | refine rg rfl rfl (qt_pev tok rfl) ?_ | refine rq (ql tok rfl) ?_ | refine rg rfl rfl (ql tok rfl) ?_ | (refine runL_op0 (sst tok rfl rfl rfl rfl rfl) ?_; rintro _ _ _ ⟨rfl, rfl, rfl⟩) | ((first | refine ro (st_box rfl) ?_ | refine ro (st_alloc tok rfl) ?_ | refine ro (st_buildSlice tok rfl rfl rfl rfl rfl rfl rfl) ?_); rintro _ _ _ ⟨_, rfl, rfl, rfl⟩) | refine prn_start mixed ?_ | refine prn_end (by decide +kernel) ?_ | refine pq rfl (qt_pev tok rfl) ?_ | refine pg rfl rfl rfl (qt_pev tok rfl) ?_ | refine pq rfl (ql tok rfl) ?_ | refine pg rfl rfl rfl (ql tok rfl) ?_ | (refine prn_e0 rfl (sst tok rfl rfl rfl rfl rfl) (by decide +kernel) ?_; rintro _ _ _ ⟨rfl, rfl, rfl⟩) | ((first | refine pe rfl (st_box rfl) ?_ | refine pe rfl (st_alloc tok rfl) ?_ | refine pe rfl (st_buildSlice tok rfl rfl rfl rfl rfl rfl rfl) ?_); rintro _ _ _ ⟨_, rfl, rfl, rfl⟩) | (refine prn_o0 rfl (sst tok rfl rfl rfl rfl rfl) (by decide +kernel) ?_; rintro _ _ _ ⟨rfl, rfl, rfl⟩; refine ⟨by (repeat (first | exact trivial | refine And.intro (pend_q rfl rfl rfl (qt_pev tok rfl)) ?_ | refine And.intro (pend_q rfl rfl rfl (ql tok rfl)) ?_)), ?_⟩) | ((first | refine po rfl (st_box rfl) ?_ | refine po rfl (st_alloc tok rfl) ?_ | refine po rfl (st_buildSlice tok rfl rfl rfl rfl rfl rfl rfl) ?_); rintro _ _ _ ⟨_, rfl, rfl, rfl⟩; refine ⟨by (repeat (first | exact trivial | refine And.intro (pend_q rfl rfl rfl (qt_pev tok rfl)) ?_ | refine And.intro (pend_q rfl rfl rfl (ql tok rfl)) ?_)), ?_⟩) | (refine pe rfl (qt_pev tok rfl) ?_; rintro _ _ _ ⟨rfl, rfl, rfl⟩))
    refine pr_as 21 (.slice (some ⟨b, off, none⟩) a.gives.len a.gives.cap) rfl hv ?_
    repeat (first | with_reducible (first | refine cS ?_ | refine cR ?_ | refine cN ?_ | refine cK ?_ | refine cB ?_ | refine cI ?_) | refine cE rfl ?_ | refine rq (qt_pev tok rfl) ?_ | refine rg rfl rfl (qt_pev tok rfl) ?_ | refine rq (ql tok rfl) ?_ | refine rg rfl rfl (ql tok rfl) ?_ | (refine runL_op0 (sst tok rfl rfl rfl rfl rfl) ?_; rintro _ _ _ ⟨rfl, rfl, rfl⟩) | ((first | refine ro (st_box rfl) ?_ | refine ro (st_alloc tok rfl) ?_ | refine ro (st_buildSlice tok rfl rfl rfl rfl rfl rfl rfl) ?_); rintro _ _ _ ⟨_, rfl, rfl, rfl⟩) | refine prn_start mixed ?_ | refine prn_end (by decide +kernel) ?_ | refine pq rfl (qt_pev tok rfl) ?_ | refine pg rfl rfl rfl (qt_pev tok rfl) ?_ | refine pq rfl (ql tok rfl) ?_ | refine pg rfl rfl rfl (ql tok rfl) ?_ | (refine prn_e0 rfl (sst tok rfl rfl rfl rfl rfl) (by decide +kernel) ?_; rintro _ _ _ ⟨rfl, rfl, rfl⟩) | ((first | refine pe rfl (st_box rfl) ?_ | refine pe rfl (st_alloc tok rfl) ?_ | refine pe rfl (st_buildSlice tok rfl rfl rfl rfl rfl rfl rfl) ?_); rintro _ _ _ ⟨_, rfl, rfl, rfl⟩) | (refine prn_o0 rfl (sst tok rfl rfl rfl rfl rfl) (by decide +kernel) ?_; rintro _ _ _ ⟨rfl, rfl, rfl⟩; refine ⟨by (repeat (first | exact trivial | refine And.intro (pend_q rfl rfl rfl (qt_pev tok rfl)) ?_ | refine And.intro (pend_q rfl rfl rfl (ql tok rfl)) ?_)), ?_⟩) | ((first | refine po rfl (st_box rfl) ?_ | refine po rfl (st_alloc tok rfl) ?_ | refine po rfl (st_buildSlice tok rfl rfl rfl rfl rfl rfl rfl) ?_); rintro _ _ _ ⟨_, rfl, rfl, rfl⟩; refine ⟨by (repeat (first | exact trivial | refine And.intro (pend_q rfl rfl rfl (qt_pev tok rfl)) ?_ | refine And.intro (pend_q rfl rfl rfl (ql tok rfl)) ?_)), ?_⟩) | (refine pe rfl (qt_pev tok rfl) ?_; rintro _ _ _ ⟨rfl, rfl, rfl⟩) | refine prn_q rfl (qt_indexN tok rfl rfl rfl rfl (fun _ => by omega)) (by decide +kernel) rfl rfl rfl ?_ | refine prn_g rfl rfl rfl (qt_indexN tok rfl rfl rfl rfl (fun _ => by omega)) (by decide +kernel) rfl rfl rfl rfl rfl ?_ | refine prn_q rfl (qt_ldM tok rfl hc rfl) (by decide +kernel) rfl rfl rfl ?_ | refine prn_g rfl rfl rfl (qt_ldM tok rfl hc rfl) (by decide +kernel) rfl rfl rfl rfl rfl ?_ | refine prn_q rfl (qt_ldM0 tok rfl hc rfl) (by decide +kernel) rfl rfl rfl ?_ | refine prn_g rfl rfl rfl (qt_ldM0 tok rfl hc rfl) (by decide +kernel) rfl rfl rfl rfl rfl ?_ | refine prn_q rfl (qt_nilIface rfl) (by decide +kernel) rfl rfl rfl ?_)
    refine prn_e1 rfl (st_invoke rfl rfl mw_num (fun _ => swnum_ok M _ bw _ b _ m.org _ (by omega) z4 (holdsM (k := 0) tok hc rfl rfl))) (by decide +kernel) rfl rfl rfl ?_
    rintro _ _ _ ⟨rfl, rfl, rfl⟩
    repeat (first | with_reducible (first | refine cS ?_ | refine cR ?_ | refine cN ?_ | refine cK ?_ | refine cB ?_ | refine cI ?_) | refine cE rfl ?_ | refine rq (qt_pev tok rfl) ?_ | refine rg rfl rfl (qt_pev tok rfl) ?_ | refine rq (ql tok rfl) ?_ | refine rg rfl rfl (ql tok rfl) ?_ | (refine runL_op0 (sst tok rfl rfl rfl rfl rfl) ?_; rintro _ _ _ ⟨rfl, rfl, rfl⟩) | ((first | refine ro (st_box rfl) ?_ | refine ro (st_alloc tok rfl) ?_ | refine ro (st_buildSlice tok rfl rfl rfl rfl rfl rfl rfl) ?_); rintro _ _ _ ⟨_, rfl, rfl, rfl⟩) | refine prn_start mixed ?_ | refine prn_end (by decide +kernel) ?_ | refine pq rfl (qt_pev tok rfl) ?_ | refine pg rfl rfl rfl (qt_pev tok rfl) ?_ | refine pq rfl (ql tok rfl) ?_ | refine pg rfl rfl rfl (ql tok rfl) ?_ | (refine prn_e0 rfl (sst tok rfl rfl rfl rfl rfl) (by decide +kernel) ?_; rintro _ _ _ ⟨rfl, rfl, rfl⟩) | ((first | refine pe rfl (st_box rfl) ?_ | refine pe rfl (st_alloc tok rfl) ?_ | refine pe rfl (st_buildSlice tok rfl rfl rfl rfl rfl rfl rfl) ?_); rintro _ _ _ ⟨_, rfl, rfl, rfl⟩) | (refine prn_o0 rfl (sst tok rfl rfl rfl rfl rfl) (by decide +kernel) ?_; rintro _ _ _ ⟨rfl, rfl, rfl⟩; refine ⟨by (repeat (first | exact trivial | refine And.intro (pend_q rfl rfl rfl (qt_pev tok rfl)) ?_ | refine And.intro (pend_q rfl rfl rfl (ql tok rfl)) ?_)), ?_⟩) | ((first | refine po rfl (st_box rfl) ?_ | refine po rfl (st_alloc tok rfl) ?_ | refine po rfl (st_buildSlice tok rfl rfl rfl rfl rfl rfl rfl) ?_); rintro _ _ _ ⟨_, rfl, rfl, rfl⟩; refine ⟨by (repeat (first | exact trivial | refine And.intro (pend_q rfl rfl rfl (qt_pev tok rfl)) ?_ | refine And.intro (pend_q rfl rfl rfl (ql tok rfl)) ?_)), ?_⟩) | (refine pe rfl (qt_pev tok rfl) ?_; rintro _ _ _ ⟨rfl, rfl, rfl⟩))
    refine pr_as 34 (.slice (some ⟨b, off, none⟩) a.gives.len a.gives.cap) rfl hv ?_
    repeat (first | with_reducible (first | refine cS ?_ | refine cR ?_ | refine cN ?_ | refine cK ?_ | refine cB ?_ | refine cI ?_) | refine cE rfl ?_ | refine rq (qt_pev tok rfl) ?_ | refine rg rfl rfl (qt_pev tok rfl) ?_ | refine rq (ql tok rfl) ?_ | refine rg rfl rfl (ql tok rfl) ?_ | (refine runL_op0 (sst tok rfl rfl rfl rfl rfl) ?_; rintro _ _ _ ⟨rfl, rfl, rfl⟩) | ((first | refine ro (st_box rfl) ?_ | refine ro (st_alloc tok rfl) ?_ | refine ro (st_buildSlice tok rfl rfl rfl rfl rfl rfl rfl) ?_); rintro _ _ _ ⟨_, rfl, rfl, rfl⟩) | refine prn_start mixed ?_ | refine prn_end (by decide +kernel) ?_ | refine pq rfl (qt_pev tok rfl) ?_ | refine pg rfl rfl rfl (qt_pev tok rfl) ?_ | refine pq rfl (ql tok rfl) ?_ | refine pg rfl rfl rfl (ql tok rfl) ?_ | (refine prn_e0 rfl (sst tok rfl rfl rfl rfl rfl) (by decide +kernel) ?_; rintro _ _ _ ⟨rfl, rfl, rfl⟩) | ((first | refine pe rfl (st_box rfl) ?_ | refine pe rfl (st_alloc tok rfl) ?_ | refine pe rfl (st_buildSlice tok rfl rfl rfl rfl rfl rfl rfl) ?_); rintro _ _ _ ⟨_, rfl, rfl, rfl⟩) | (refine prn_o0 rfl (sst tok rfl rfl rfl rfl rfl) (by decide +kernel) ?_; rintro _ _ _ ⟨rfl, rfl, rfl⟩; refine ⟨by (repeat (first | exact trivial | refine And.intro (pend_q rfl rfl rfl (qt_pev tok rfl)) ?_ | refine And.intro (pend_q rfl rfl rfl (ql tok rfl)) ?_)), ?_⟩) | ((first | refine po rfl (st_box rfl) ?_ | refine po rfl (st_alloc tok rfl) ?_ | refine po rfl (st_buildSlice tok rfl rfl rfl rfl rfl rfl rfl) ?_); rintro _ _ _ ⟨_, rfl, rfl, rfl⟩; refine ⟨by (repeat (first | exact trivial | refine And.intro (pend_q rfl rfl rfl (qt_pev tok rfl)) ?_ | refine And.intro (pend_q rfl rfl rfl (ql tok rfl)) ?_)), ?_⟩) | (refine pe rfl (qt_pev tok rfl) ?_; rintro _ _ _ ⟨rfl, rfl, rfl⟩) | refine prn_q rfl (qt_indexN tok rfl rfl rfl rfl (fun _ => by omega)) (by decide +kernel) rfl rfl rfl ?_ | refine prn_g rfl rfl rfl (qt_indexN tok rfl rfl rfl rfl (fun _ => by omega)) (by decide +kernel) rfl rfl rfl rfl rfl ?_ | refine prn_q rfl (qt_ldM tok rfl hc rfl) (by decide +kernel) rfl rfl rfl ?_ | refine prn_g rfl rfl rfl (qt_ldM tok rfl hc rfl) (by decide +kernel) rfl rfl rfl rfl rfl ?_ | refine prn_q rfl (qt_ldM0 tok rfl hc rfl) (by decide +kernel) rfl rfl rfl ?_ | refine prn_g rfl rfl rfl (qt_ldM0 tok rfl hc rfl) (by decide +kernel) rfl rfl rfl rfl rfl ?_ | refine prn_q rfl (qt_nilIface rfl) (by decide +kernel) rfl rfl rfl ?_)
    refine prn_e1 rfl (st_invoke rfl rfl mw_text (fun _ => swtext_ok M _ bw _ b _ m.digest _ (by omega) z5 (holdsM (k := 1) tok hc rfl rfl))) (by decide +kernel) rfl rfl rfl ?_
    rintro _ _ _ ⟨rfl, rfl, rfl⟩
    repeat (first | with_reducible (first | refine cS ?_ | refine cR ?_ | refine cN ?_ | refine cK ?_ | refine cB ?_ | refine cI ?_) | refine cE rfl ?_ | refine rq (qt_pev tok rfl) ?_ | refine rg rfl rfl (qt_pev tok rfl) ?_ | refine rq (ql tok rfl) ?_ | refine rg rfl rfl (ql tok rfl) ?_ | (refine runL_op0 (sst tok rfl rfl rfl rfl rfl) ?_; rintro _ _ _ ⟨rfl, rfl, rfl⟩) | ((first | refine ro (st_box rfl) ?_ | refine ro (st_alloc tok rfl) ?_ | refine ro (st_buildSlice tok rfl rfl rfl rfl rfl rfl rfl) ?_); rintro _ _ _ ⟨_, rfl, rfl, rfl⟩) | refine prn_start mixed ?_ | refine prn_end (by decide +kernel) ?_ | refine pq rfl (qt_pev tok rfl) ?_ | refine pg rfl rfl rfl (qt_pev tok rfl) ?_ | refine pq rfl (ql tok rfl) ?_ | refine pg rfl rfl rfl (ql tok rfl) ?_ | (refine prn_e0 rfl (sst tok rfl rfl rfl rfl rfl) (by decide +kernel) ?_; rintro _ _ _ ⟨rfl, rfl, rfl⟩) | ((first | refine pe rfl (st_box rfl) ?_ | refine pe rfl (st_alloc tok rfl) ?_ | refine pe rfl (st_buildSlice tok rfl rfl rfl rfl rfl rfl rfl) ?_); rintro _ _ _ ⟨_, rfl, rfl, rfl⟩) | (refine prn_o0 rfl (sst tok rfl rfl rfl rfl rfl) (by decide +kernel) ?_; rintro _ _ _ ⟨rfl, rfl, rfl⟩; refine ⟨by (repeat (first | exact trivial | refine And.intro (pend_q rfl rfl rfl (qt_pev tok rfl)) ?_ | refine And.intro (pend_q rfl rfl rfl (ql tok rfl)) ?_)), ?_⟩) | ((first | refine po rfl (st_box rfl) ?_ | refine po rfl (st_alloc tok rfl) ?_ | refine po rfl (st_buildSlice tok rfl rfl rfl rfl rfl rfl rfl) ?_); rintro _ _ _ ⟨_, rfl, rfl, rfl⟩; refine ⟨by (repeat (first | exact trivial | refine And.intro (pend_q rfl rfl rfl (qt_pev tok rfl)) ?_ | refine And.intro (pend_q rfl rfl rfl (ql tok rfl)) ?_)), ?_⟩) | (refine pe rfl (qt_pev tok rfl) ?_; rintro _ _ _ ⟨rfl, rfl, rfl⟩))
    refine run_sub' (hnext _ _ _ ⟨hlt, rfl, ?_, rfl⟩) ⟨lk_succ rfl (by omega), rfl, rfl, trivial⟩
    rw [take_snoc hm, mbB_snoc]
    simp only [app_assoc]
  · have hge : j = a.gives.len := by simp at h; omega
    repeat (first | with_reducible (first | refine cS ?_ | refine cR ?_ | refine cN ?_ | refine cK ?_ | refine cB ?_ | refine cI ?_) | refine cE rfl ?_ | refine rq (qt_pev tok rfl) ?_ | refine rg rfl rfl (qt_pev tok rfl) ?_ | refine rq (ql tok rfl) ?_ | refine rg rfl rfl (ql tok rfl) ?_ | (refine runL_op0 (sst tok rfl rfl rfl rfl rfl) ?_; rintro _ _ _ ⟨rfl, rfl, rfl⟩) | ((first | refine ro (st_box rfl) ?_ | refine ro (st_alloc tok rfl) ?_ | refine ro (st_buildSlice tok rfl rfl rfl rfl rfl rfl rfl) ?_); rintro _ _ _ ⟨_, rfl, rfl, rfl⟩))
    refine run_end hC (rs := []) rfl resN (fun _ h => h.drop2) ⟨rfl, Mem.le_refl _, ?_⟩
    rw [hge, List.take_of_length_le (by omega), msB, hx1, ← hS]
    simp only [app_assoc]
end Go.Proofs.Ytbpgiodfccijmaa
namespace Go.Proofs.Ytbpgiodfccijmaa
open Go.Chi

/-! ### steps, writing -/
structure SsZ (M : Mem) (s : SSr) : Prop where
  sl : SlZ M 7 s.a s.len (s.xs.map srC)
  lt : s.len < 1000000
  each : ∀ x ∈ s.xs, SrOk M x
theorem SsZ.ok {M : Mem} {s : SSr} (h : SsZ M s) : SsOk M s := ⟨h.sl.m, h.lt, h.each⟩
theorem SsZ.le {M M' : Mem} {s : SSr} (hm : M.le M') (h : SsZ M s) : SsZ M' s := ⟨h.sl.le hm, h.lt, fun x hx => (h.each x hx).le hm⟩
theorem SsZ.at_ {M : Mem} {s : SSr} (h : SsZ M s) {j : Nat} (hj : j < s.len) : ∃ b off m, s.a = some ⟨b, off, none⟩ ∧ s.xs[j]? = some m ∧ CellsZ M b (off + j * 7) (srC m) := by
  obtain ⟨b, off, c, ha, hc, _, hcells⟩ := h.sl.at_ hj
  obtain ⟨m, hm, rfl⟩ : ∃ m, s.xs[j]? = some m ∧ srC m = c := by simpa using hc
  exact ⟨b, off, m, ha, hm, hcells⟩
theorem nsB_snoc (l : List Int) (n : Int) : nsB (l ++ [n]) = nsB l ++ nB n := by
  induction l with
  | nil => show nB n ++ bz = bz ++ nB n; rw [show bz = (⟨#[]⟩ : ByteArray) from rfl, app_nil, nil_app]
  | cons x l ih => show nB x ++ nsB (l ++ [n]) = (nB x ++ nsB l) ++ nB n; rw [ih, app_assoc]
theorem nsB_sz {l : List Int} (h : ∀ v ∈ l, nmW v = true) : (nsB l).size ≤ 9 * l.length := by
  induction l with
  | nil => exact Nat.le_refl _
  | cons x l ih =>
    have h1 := ih fun t ht => h t (List.mem_cons_of_mem _ ht)
    have h2 := nm_r (h x List.mem_cons_self)
    have h3 := nB_size (n := x) (by omega)
    rw [nsB, app_size, List.length_cons]
    omega
theorem spsB_snoc (l : List Sp) (x : Sp) : spsB (l ++ [x]) = spsB l ++ spB x := by
  induction l with
  | nil => show spB x ++ bz = bz ++ spB x; rw [show bz = (⟨#[]⟩ : ByteArray) from rfl, app_nil, nil_app]
  | cons y l ih => show spB y ++ spsB (l ++ [x]) = (spB y ++ spsB l) ++ spB x; rw [ih, app_assoc]
theorem spB_sz {x : Sp} (h : SpP x) : (spB x).size ≤ 2000 := by
  have z1 := nB_size (n := x.do_) (by have := h.do_; omega)
  have z2 := nB_size (n := x.a) (by have := nm_r h.a; omega)
  have z3 := nB_size (n := x.b) (by have := nm_r h.b; omega)
  have z4 := nB_size (n := x.c) (by have := nm_r h.c; omega)
  have z5 := nB_size (n := x.n) (by have := nm_r h.n; omega)
  have z6 := textB_sz (t := x.text) (by have := h.text; omega)
  have hl := h.len
  have z7 := nB_size (n := (x.list.length : Int)) (by omega)
  have z8 := nsB_sz h.list
  have ht := h.text
  rw [spB]
  simp only [app_size]
  omega
theorem spsB_sz : ∀ {l : List Sp}, (∀ x ∈ l, SpP x) → (spsB l).size ≤ 2000 * l.length
  | [], _ => Nat.le_refl _
  | x :: l, h => by
    have h1 := spsB_sz fun t ht => h t (List.mem_cons_of_mem _ ht)
    have h2 := spB_sz (h x List.mem_cons_self)
    rw [spsB, app_size, List.length_cons]
    omega
theorem app_bz' (x : ByteArray) : x ++ bz = x := app_nil x
theorem bz_app' (x : ByteArray) : bz ++ x = x := nil_app x
theorem spB_parts (x : Sp) (S : ByteArray) : S ++ nB x.do_ ++ nB x.a ++ nB x.b ++ nB x.c ++ nB x.n ++ textB x.text ++ nB (x.list.length : Int) ++ nsB x.list = S ++ spB x := by
  rw [spB]
  simp only [app_assoc]
set_option maxRecDepth 20000 in
set_option maxHeartbeats 64000000 in
theorem wstepsF_ok (M : Mem) (L : HL) (ba bw : Nat) (s : ByteArray) (a : Ax) (hg : SsZ M a.steps) (hgl : a.steps.len ≤ 64) (hlim : ∀ x ∈ a.steps.xs, SpP x.sp) (hs : s.size < 1000000) :
    Tr Try.prog 52 [.agg ⟨fmC ba wT bw⟩] M (wcB bw s :: axB ba a :: L) (wrK bw ba (s ++ stepsB (a.steps.xs.map Sr.sp)) a M L) := by
  have hx1 := hg.ok.len
  have z0 := nB_size (n := (a.steps.len : Int)) (by omega)
  refine Tr.intro 95 Try.func52 rfl rfl Try.call52 rfl ?_
  intro C hC hro
  repeat (first | with_reducible (first | refine cS ?_ | refine cR ?_ | refine cN ?_ | refine cK ?_ | refine cB ?_ | refine cI ?_) | refine cE rfl ?_ | refine rq (qt_pev tok rfl) ?_ | refine rg rfl rfl (qt_pev tok rfl) ?_ | refine rq (ql tok rfl) ?_ | refine rg rfl rfl (ql tok rfl) ?_ | (refine runL_op0 (sst tok rfl rfl rfl rfl rfl) ?_; rintro _ _ _ ⟨rfl, rfl, rfl⟩) | ((first | refine ro (st_box rfl) ?_ | refine ro (st_alloc tok rfl) ?_ | refine ro (st_buildSlice tok rfl rfl rfl rfl rfl rfl rfl) ?_); rintro _ _ _ ⟨_, rfl, rfl, rfl⟩) | refine prn_start mixed ?_ | refine prn_end (by decide +kernel) ?_ | refine pq rfl (qt_pev tok rfl) ?_ | refine pg rfl rfl rfl (qt_pev tok rfl) ?_ | refine pq rfl (ql tok rfl) ?_ | refine pg rfl rfl rfl (ql tok rfl) ?_ | (refine prn_e0 rfl (sst tok rfl rfl rfl rfl rfl) (by decide +kernel) ?_; rintro _ _ _ ⟨rfl, rfl, rfl⟩) | ((first | refine pe rfl (st_box rfl) ?_ | refine pe rfl (st_alloc tok rfl) ?_ | refine pe rfl (st_buildSlice tok rfl rfl rfl rfl rfl rfl rfl) ?_); rintro _ _ _ ⟨_, rfl, rfl, rfl⟩) | (refine prn_o0 rfl (sst tok rfl rfl rfl rfl rfl) (by decide +kernel) ?_; rintro _ _ _ ⟨rfl, rfl, rfl⟩; refine ⟨by (repeat (first | exact trivial | refine And.intro (pend_q rfl rfl rfl (qt_pev tok rfl)) ?_ | refine And.intro (pend_q rfl rfl rfl (ql tok rfl)) ?_)), ?_⟩) | ((first | refine po rfl (st_box rfl) ?_ | refine po rfl (st_alloc tok rfl) ?_ | refine po rfl (st_buildSlice tok rfl rfl rfl rfl rfl rfl rfl) ?_); rintro _ _ _ ⟨_, rfl, rfl, rfl⟩; refine ⟨by (repeat (first | exact trivial | refine And.intro (pend_q rfl rfl rfl (qt_pev tok rfl)) ?_ | refine And.intro (pend_q rfl rfl rfl (ql tok rfl)) ?_)), ?_⟩) | (refine pe rfl (qt_pev tok rfl) ?_; rintro _ _ _ ⟨rfl, rfl, rfl⟩))
  rename_i bf
  refine pr_q 9 (by decide +kernel) rfl (qt_pev tok rfl) rfl rfl rfl ?_
  refine pr_one 8 (by decide +kernel) (eff1 8 rfl (st_callF rfl (fun _ => trPerm (List.Perm.swap _ _ _) (wrows_ok M _ ba bw s a.steps.len _ _ (by omega) (by omega)))) (by decide +kernel) (qs := _) rfl rfl rfl rfl ?_)
  rintro _ _ _ ⟨rfl, rfl, rfl⟩
  refine ⟨by (repeat (first | exact trivial | refine And.intro (pend_q rfl rfl rfl (qt_pev tok rfl)) ?_ | refine And.intro (pend_q rfl rfl rfl (ql tok rfl)) ?_)), ?_⟩
  refine pr_end (by decide +kernel) (by decide +kernel) ?_
  repeat (first | with_reducible (first | refine cS ?_ | refine cR ?_ | refine cN ?_ | refine cK ?_ | refine cB ?_ | refine cI ?_) | refine cE rfl ?_ | refine rq (qt_pev tok rfl) ?_ | refine rg rfl rfl (qt_pev tok rfl) ?_ | refine rq (ql tok rfl) ?_ | refine rg rfl rfl (ql tok rfl) ?_ | (refine runL_op0 (sst tok rfl rfl rfl rfl rfl) ?_; rintro _ _ _ ⟨rfl, rfl, rfl⟩) | ((first | refine ro (st_box rfl) ?_ | refine ro (st_alloc tok rfl) ?_ | refine ro (st_buildSlice tok rfl rfl rfl rfl rfl rfl rfl) ?_); rintro _ _ _ ⟨_, rfl, rfl, rfl⟩))
  generalize hS0 : s ++ nB (a.steps.len : Int) = S0
  have hS0z : S0.size ≤ s.size + 9 := by rw [← hS0, app_size]; omega
  refine run_loopN (fun j σ1 M1 L1 => j ≤ a.steps.len ∧ M.le M1 ∧ L1 = wcB bw (S0 ++ spsB ((a.steps.xs.take j).map Sr.sp)) :: (bf, .cells ⟨fmC ba wT bw⟩ 78 (0, 0)) :: axB ba a :: L ∧ σ1 = [(17, .int .i64 (j : Int)), (16, .int .i64 (a.steps.len : Int)), (1, .pointer (some ⟨bf, 0, none⟩))]) a.steps.len [(17, .int .i64 ((0 : Nat) : Int)), (16, .int .i64 (a.steps.len : Int)), (1, .pointer (some ⟨bf, 0, none⟩))] ?_ ⟨Nat.zero_le _, Mem.le_refl _, by rw [List.take_zero, List.map_nil, spsB, show bz = (⟨#[]⟩ : ByteArray) from rfl, app_nil]; rfl, rfl⟩ (fun j _ _ _ h => h.1) ?_
  · exact ⟨rfl, rfl, rfl, trivial⟩
  rintro j _ M1 _ ⟨hj, hM1, rfl, rfl⟩ hnext
  repeat (first | with_reducible (first | refine cS ?_ | refine cR ?_ | refine cN ?_ | refine cK ?_ | refine cB ?_ | refine cI ?_) | refine cE rfl ?_ | refine rq (qt_pev tok rfl) ?_ | refine rg rfl rfl (qt_pev tok rfl) ?_ | refine rq (ql tok rfl) ?_ | refine rg rfl rfl (ql tok rfl) ?_ | (refine runL_op0 (sst tok rfl rfl rfl rfl rfl) ?_; rintro _ _ _ ⟨rfl, rfl, rfl⟩) | ((first | refine ro (st_box rfl) ?_ | refine ro (st_alloc tok rfl) ?_ | refine ro (st_buildSlice tok rfl rfl rfl rfl rfl rfl rfl) ?_); rintro _ _ _ ⟨_, rfl, rfl, rfl⟩))
  refine run_cond rfl (fun h => ?_) (fun h => ?_)
  · have hlt : j < a.steps.len := by simpa using h
    obtain ⟨b, off, m, hma, hm, hcz⟩ := (hg.le hM1).at_ hlt
    have hc := hcz.cells
    have hv : a.steps.v = .slice (some ⟨b, off, none⟩) a.steps.len a.steps.cap := by rw [← hma]; rfl
    have hsp := hlim m (List.mem_of_getElem? hm)
    have hmo := hg.each m (List.mem_of_getElem? hm)
    have z1 := spsB_sz (l := (a.steps.xs.take j).map Sr.sp) fun x hx => by
      obtain ⟨y, hy, rfl⟩ := List.mem_map.1 hx
      exact hlim y (List.mem_of_mem_take hy)
    have z2 : ((a.steps.xs.take j).map Sr.sp).length ≤ 64 := by rw [List.length_map, List.length_take]; omega
    have hd : 1 ≤ m.do_ ∧ m.do_ ≤ 9 := hsp.do_
    have ra := nm_r (show nmW m.a = true from hsp.a)
    have rb := nm_r (show nmW m.b = true from hsp.b)
    have rc := nm_r (show nmW m.c = true from hsp.c)
    have rn := nm_r (show nmW m.n = true from hsp.n)
    have rt : m.text.size ≤ 1024 := hsp.text
    have rl : m.list.xs.length ≤ 32 := hsp.len
    have rll := hmo.list.len
    have y1 := nB_size (n := m.do_) (by omega)
    have y2 := nB_size (n := m.a) (by omega)
    have y3 := nB_size (n := m.b) (by omega)
    have y4 := nB_size (n := m.c) (by omega)
    have y5 := nB_size (n := m.n) (by omega)
    have y6 := textB_sz (t := m.text) (by omega)
    have y7 := nB_size (n := (m.list.len : Int)) (by omega)
    have e1 : IntKind.i64.wrap m.do_ = m.do_ := by
      obtain ⟨x, hx⟩ : ∃ x : Nat, m.do_ = x := ⟨m.do_.toNat, by omega⟩
      rw [hx, wrap64_nat (by omega)]
    have e2 : IntKind.u8.wrap m.do_ = m.do_ := by
      obtain ⟨x, hx⟩ : ∃ x : Nat, m.do_ = x := ⟨m.do_.toNat, by omega⟩
      rw [hx, u8_nat (by omega)]
    generalize hSj : S0 ++ spsB ((a.steps.xs.take j).map Sr.sp) = S
    have hSz : S.size < 2000000 := by rw [← hSj, app_size]; omega
    repeat (first | with_reducible (first | refine cS ?_ | refine cR ?_ | refine cN ?_ | refine cK ?_ | refine cB ?_ | refine cI ?_) | refine cE rfl ?_ | refine rq (qt_pev tok rfl) ?_ | refine rg rfl rfl (qt_pev tok rfl) ?_ | refine rq (ql tok rfl) ?_ | refine rg rfl rfl (ql tok rfl) ?_ | (refine runL_op0 (sst tok rfl rfl rfl rfl rfl) ?_; rintro _ _ _ ⟨rfl, rfl, rfl⟩) | ((first | refine ro (st_box rfl) ?_ | refine ro (st_alloc tok rfl) ?_ | refine ro (st_buildSlice tok rfl rfl rfl rfl rfl rfl rfl) ?_); rintro _ _ _ ⟨_, rfl, rfl, rfl⟩))
    refine runL_as 24 (.slice (some ⟨b, off, none⟩) a.steps.len a.steps.cap) rfl hv ?_
    repeat (first | with_reducible (first | refine cS ?_ | refine cR ?_ | refine cN ?_ | refine cK ?_ | refine cB ?_ | refine cI ?_) | refine cE rfl ?_ | refine rq (qt_pev tok rfl) ?_ | refine rg rfl rfl (qt_pev tok rfl) ?_ | refine rq (ql tok rfl) ?_ | refine rg rfl rfl (ql tok rfl) ?_ | (refine runL_op0 (sst tok rfl rfl rfl rfl rfl) ?_; rintro _ _ _ ⟨rfl, rfl, rfl⟩) | ((first | refine ro (st_box rfl) ?_ | refine ro (st_alloc tok rfl) ?_ | refine ro (st_buildSlice tok rfl rfl rfl rfl rfl rfl rfl) ?_); rintro _ _ _ ⟨_, rfl, rfl, rfl⟩) | refine runL_q (qt_indexN tok rfl rfl rfl rfl (fun _ => by omega)) rfl rfl rfl ?_ | refine runL_g rfl rfl (qt_indexN tok rfl rfl rfl rfl (fun _ => by omega)) rfl rfl rfl rfl rfl ?_ | refine runL_q (qt_ldM tok rfl hc rfl) rfl rfl rfl ?_ | refine runL_g rfl rfl (qt_ldM tok rfl hc rfl) rfl rfl rfl rfl rfl ?_ | refine runL_q (qt_ldM0 tok rfl hc rfl) rfl rfl rfl ?_ | refine runL_g rfl rfl (qt_ldM0 tok rfl hc rfl) rfl rfl rfl rfl rfl ?_)
    rename_i b3 b4
    refine runL_mem (M' := M1) (L' := wcB bw S :: (b4, .cells ⟨[.int .i64 m.do_]⟩ 3 (0, 0)) :: (b3, .cells ⟨[.pointer (some ⟨b, off + j * 7, none⟩)]⟩ 110 (0, 0)) :: (bf, .cells ⟨fmC ba wT bw⟩ 78 (0, 0)) :: axB ba a :: L) (fun _ h => by rw [e1] at h; exact h.perm (p3 _ _ _ _)) ?_
    refine runL_op (st_invoke rfl rfl mw_num (fun _ => swnum_ok M1 _ bw S b4 _ m.do_ _ (by omega) (by omega) (holdsL tok (cs := [.int .i64 m.do_]) (List.mem_cons_of_mem _ List.mem_cons_self) rfl))) rfl rfl rfl ?_
    rintro _ _ _ ⟨rfl, rfl, rfl⟩
    repeat (first | with_reducible (first | refine cS ?_ | refine cR ?_ | refine cN ?_ | refine cK ?_ | refine cB ?_ | refine cI ?_) | refine cE rfl ?_ | refine rq (qt_pev tok rfl) ?_ | refine rg rfl rfl (qt_pev tok rfl) ?_ | refine rq (ql tok rfl) ?_ | refine rg rfl rfl (ql tok rfl) ?_ | (refine runL_op0 (sst tok rfl rfl rfl rfl rfl) ?_; rintro _ _ _ ⟨rfl, rfl, rfl⟩) | ((first | refine ro (st_box rfl) ?_ | refine ro (st_alloc tok rfl) ?_ | refine ro (st_buildSlice tok rfl rfl rfl rfl rfl rfl rfl) ?_); rintro _ _ _ ⟨_, rfl, rfl, rfl⟩))
    refine runL_as 37 (.int .u8 m.do_) rfl (by rw [e2]) ?_
    repeat (first | with_reducible (first | refine cS ?_ | refine cR ?_ | refine cN ?_ | refine cK ?_ | refine cB ?_ | refine cI ?_) | refine cE rfl ?_ | refine rq (qt_pev tok rfl) ?_ | refine rg rfl rfl (qt_pev tok rfl) ?_ | refine rq (ql tok rfl) ?_ | refine rg rfl rfl (ql tok rfl) ?_ | (refine runL_op0 (sst tok rfl rfl rfl rfl rfl) ?_; rintro _ _ _ ⟨rfl, rfl, rfl⟩) | ((first | refine ro (st_box rfl) ?_ | refine ro (st_alloc tok rfl) ?_ | refine ro (st_buildSlice tok rfl rfl rfl rfl rfl rfl rfl) ?_); rintro _ _ _ ⟨_, rfl, rfl, rfl⟩))
    refine runL_op0 (st_storeZ (k := 0) tok rfl rfl rfl rfl rfl hcz rfl) ?_
    rintro _ _ _ ⟨rfl, rfl, rfl⟩
    repeat (first | with_reducible (first | refine cS ?_ | refine cR ?_ | refine cN ?_ | refine cK ?_ | refine cB ?_ | refine cI ?_) | refine cE rfl ?_ | refine rq (qt_pev tok rfl) ?_ | refine rg rfl rfl (qt_pev tok rfl) ?_ | refine rq (ql tok rfl) ?_ | refine rg rfl rfl (ql tok rfl) ?_ | (refine runL_op0 (sst tok rfl rfl rfl rfl rfl) ?_; rintro _ _ _ ⟨rfl, rfl, rfl⟩) | ((first | refine ro (st_box rfl) ?_ | refine ro (st_alloc tok rfl) ?_ | refine ro (st_buildSlice tok rfl rfl rfl rfl rfl rfl rfl) ?_); rintro _ _ _ ⟨_, rfl, rfl, rfl⟩))
    repeat (first | with_reducible (first | refine cS ?_ | refine cR ?_ | refine cN ?_ | refine cK ?_ | refine cB ?_ | refine cI ?_) | refine cE rfl ?_ | refine rq (qt_pev tok rfl) ?_ | refine rg rfl rfl (qt_pev tok rfl) ?_ | refine rq (ql tok rfl) ?_ | refine rg rfl rfl (ql tok rfl) ?_ | (refine runL_op0 (sst tok rfl rfl rfl rfl rfl) ?_; rintro _ _ _ ⟨rfl, rfl, rfl⟩) | ((first | refine ro (st_box rfl) ?_ | refine ro (st_alloc tok rfl) ?_ | refine ro (st_buildSlice tok rfl rfl rfl rfl rfl rfl rfl) ?_); rintro _ _ _ ⟨_, rfl, rfl, rfl⟩) | refine prn_start mixed ?_ | refine prn_end (by decide +kernel) ?_ | refine pq rfl (qt_pev tok rfl) ?_ | refine pg rfl rfl rfl (qt_pev tok rfl) ?_ | refine pq rfl (ql tok rfl) ?_ | refine pg rfl rfl rfl (ql tok rfl) ?_ | (refine prn_e0 rfl (sst tok rfl rfl rfl rfl rfl) (by decide +kernel) ?_; rintro _ _ _ ⟨rfl, rfl, rfl⟩) | ((first | refine pe rfl (st_box rfl) ?_ | refine pe rfl (st_alloc tok rfl) ?_ | refine pe rfl (st_buildSlice tok rfl rfl rfl rfl rfl rfl rfl) ?_); rintro _ _ _ ⟨_, rfl, rfl, rfl⟩) | (refine prn_o0 rfl (sst tok rfl rfl rfl rfl rfl) (by decide +kernel) ?_; rintro _ _ _ ⟨rfl, rfl, rfl⟩; refine ⟨by (repeat (first | exact trivial | refine And.intro (pend_q rfl rfl rfl (qt_pev tok rfl)) ?_ | refine And.intro (pend_q rfl rfl rfl (ql tok rfl)) ?_)), ?_⟩) | ((first | refine po rfl (st_box rfl) ?_ | refine po rfl (st_alloc tok rfl) ?_ | refine po rfl (st_buildSlice tok rfl rfl rfl rfl rfl rfl rfl) ?_); rintro _ _ _ ⟨_, rfl, rfl, rfl⟩; refine ⟨by (repeat (first | exact trivial | refine And.intro (pend_q rfl rfl rfl (qt_pev tok rfl)) ?_ | refine And.intro (pend_q rfl rfl rfl (ql tok rfl)) ?_)), ?_⟩) | (refine pe rfl (qt_pev tok rfl) ?_; rintro _ _ _ ⟨rfl, rfl, rfl⟩))
    refine pr_q 14 (by decide +kernel) rfl (qt_pev tok rfl) rfl rfl rfl ?_
    refine pr_one 12 (by decide +kernel) (eff1 12 rfl (St.frz1 (V := fun b => .slice (some ⟨b, 0, none⟩) 4 4) (st_buildSlice tok rfl rfl rfl rfl rfl rfl rfl)) (by decide +kernel) (qs := _) rfl rfl rfl rfl ?_)
    rintro _ M2 _ ⟨hM2, rfl, bq, rfl, hbq⟩
    have hq := Cells.ofBlk hbq
    have hc2 := hc.le hM2
    refine ⟨by (repeat (first | exact trivial | refine And.intro (pend_q rfl rfl rfl (qt_pev tok rfl)) ?_ | refine And.intro (pend_q rfl rfl rfl (ql tok rfl)) ?_)), ?_⟩
    refine pr_q 13 (by decide +kernel) rfl (qt_pev tok rfl) rfl rfl rfl ?_
    refine pr_end (by decide +kernel) (by decide +kernel) ?_
    generalize hS1 : S ++ nB m.do_ = S1
    have hS1z : S1.size ≤ S.size + 9 := by rw [← hS1, app_size]; omega
    refine run_block ?_
    refine run_loopN (fun i σ1 M3 L1 => i ≤ 4 ∧ M2 = M3 ∧ L1 = wcB bw (S1 ++ nsB ([m.a, m.b, m.c, m.n].take i)) :: (b4, .cells ⟨[.int .i64 m.do_]⟩ 3 (0, 0)) :: (b3, .cells ⟨[.pointer (some ⟨b, off + j * 7, none⟩)]⟩ 110 (0, 0)) :: (bf, .cells ⟨fmC ba wT bw⟩ 78 (0, 0)) :: axB ba a :: L ∧ σ1 = [(54, .int .i64 (i : Int)), (53, .int .i64 ((4 : Nat) : Int)), (52, .slice (some ⟨bq, 0, none⟩) 4 4), (3, .pointer (some ⟨b3, 0, none⟩)), (17, .int .i64 (j : Int)), (16, .int .i64 (a.steps.len : Int)), (1, .pointer (some ⟨bf, 0, none⟩))]) 4 [(54, .int .i64 ((0 : Nat) : Int)), (53, .int .i64 ((4 : Nat) : Int)), (52, .slice (some ⟨bq, 0, none⟩) 4 4), (3, .pointer (some ⟨b3, 0, none⟩)), (17, .int .i64 (j : Int)), (16, .int .i64 (a.steps.len : Int)), (1, .pointer (some ⟨bf, 0, none⟩))] ?_ ⟨Nat.zero_le _, rfl, by rw [List.take_zero, nsB, show bz = (⟨#[]⟩ : ByteArray) from rfl, app_nil], rfl⟩ (fun j _ _ _ h => h.1) ?_
    · exact ⟨rfl, rfl, rfl, rfl, rfl, rfl, rfl, trivial⟩
    rintro i _ _ _ ⟨hi, rfl, rfl, rfl⟩ hnx
    have hin : ∀ k : Nat, k ≤ 4 → (S1 ++ nsB ([m.a, m.b, m.c, m.n].take k)).size < 3000000 := by
      intro k hk
      have q1 := nsB_sz (l := [m.a, m.b, m.c, m.n].take k) (fun v hv => by
        have := List.mem_of_mem_take hv
        simp only [List.mem_cons, List.not_mem_nil, or_false] at this
        rcases this with rfl | rfl | rfl | rfl
        · exact hsp.a
        · exact hsp.b
        · exact hsp.c
        · exact hsp.n)
      have q2 : ([m.a, m.b, m.c, m.n].take k).length ≤ 4 := by rw [List.length_take]; exact Nat.min_le_right _ _
      rw [app_size]
      omega
    repeat (first | with_reducible (first | refine cS ?_ | refine cR ?_ | refine cN ?_ | refine cK ?_ | refine cB ?_ | refine cI ?_) | refine cE rfl ?_ | refine rq (qt_pev tok rfl) ?_ | refine rg rfl rfl (qt_pev tok rfl) ?_ | refine rq (ql tok rfl) ?_ | refine rg rfl rfl (ql tok rfl) ?_ | (refine runL_op0 (sst tok rfl rfl rfl rfl rfl) ?_; rintro _ _ _ ⟨rfl, rfl, rfl⟩) | ((first | refine ro (st_box rfl) ?_ | refine ro (st_alloc tok rfl) ?_ | refine ro (st_buildSlice tok rfl rfl rfl rfl rfl rfl rfl) ?_); rintro _ _ _ ⟨_, rfl, rfl, rfl⟩))
    refine run_cond rfl (fun h => ?_) (fun h => ?_)
    · have hi4 : i < 4 := by
        have := of_decide_eq_true h
        omega
      have hi5 : i = 0 ∨ i = 1 ∨ i = 2 ∨ i = 3 := by omega
      rcases hi5 with rfl | rfl | rfl | rfl
      · repeat (first | with_reducible (first | refine cS ?_ | refine cR ?_ | refine cN ?_ | refine cK ?_ | refine cB ?_ | refine cI ?_) | refine cE rfl ?_ | refine rq (qt_pev tok rfl) ?_ | refine rg rfl rfl (qt_pev tok rfl) ?_ | refine rq (ql tok rfl) ?_ | refine rg rfl rfl (ql tok rfl) ?_ | (refine runL_op0 (sst tok rfl rfl rfl rfl rfl) ?_; rintro _ _ _ ⟨rfl, rfl, rfl⟩) | ((first | refine ro (st_box rfl) ?_ | refine ro (st_alloc tok rfl) ?_ | refine ro (st_buildSlice tok rfl rfl rfl rfl rfl rfl rfl) ?_); rintro _ _ _ ⟨_, rfl, rfl, rfl⟩) | refine runL_q (qt_indexN tok rfl rfl rfl rfl (fun _ => by omega)) rfl rfl rfl ?_ | refine runL_g rfl rfl (qt_indexN tok rfl rfl rfl rfl (fun _ => by omega)) rfl rfl rfl rfl rfl ?_ | refine runL_q (qt_ldM tok rfl hq rfl) rfl rfl rfl ?_ | refine runL_g rfl rfl (qt_ldM tok rfl hq rfl) rfl rfl rfl rfl rfl ?_ | refine runL_q (qt_ldM0 tok rfl hq rfl) rfl rfl rfl ?_ | refine runL_g rfl rfl (qt_ldM0 tok rfl hq rfl) rfl rfl rfl rfl rfl ?_)
        refine runL_op (st_invoke rfl rfl mw_num (fun _ => swnum_ok M2 _ bw _ b _ m.a _ (by omega) (by have := hin 0 (by omega); omega) (holdsM (k := 1) tok hc2 rfl rfl))) rfl rfl rfl ?_
        rintro _ _ _ ⟨rfl, rfl, rfl⟩
        repeat (first | with_reducible (first | refine cS ?_ | refine cR ?_ | refine cN ?_ | refine cK ?_ | refine cB ?_ | refine cI ?_) | refine cE rfl ?_ | refine rq (qt_pev tok rfl) ?_ | refine rg rfl rfl (qt_pev tok rfl) ?_ | refine rq (ql tok rfl) ?_ | refine rg rfl rfl (ql tok rfl) ?_ | (refine runL_op0 (sst tok rfl rfl rfl rfl rfl) ?_; rintro _ _ _ ⟨rfl, rfl, rfl⟩) | ((first | refine ro (st_box rfl) ?_ | refine ro (st_alloc tok rfl) ?_ | refine ro (st_buildSlice tok rfl rfl rfl rfl rfl rfl rfl) ?_); rintro _ _ _ ⟨_, rfl, rfl, rfl⟩))
        refine run_sub' (hnx _ _ _ ⟨by omega, rfl, ?_, rfl⟩) ⟨lk_succ rfl (by omega), rfl, rfl, rfl, rfl, rfl, rfl, trivial⟩
        rw [app_assoc]
        simp only [List.take_succ_cons, List.take_zero, nsB, app_bz', bz_app']
      · repeat (first | with_reducible (first | refine cS ?_ | refine cR ?_ | refine cN ?_ | refine cK ?_ | refine cB ?_ | refine cI ?_) | refine cE rfl ?_ | refine rq (qt_pev tok rfl) ?_ | refine rg rfl rfl (qt_pev tok rfl) ?_ | refine rq (ql tok rfl) ?_ | refine rg rfl rfl (ql tok rfl) ?_ | (refine runL_op0 (sst tok rfl rfl rfl rfl rfl) ?_; rintro _ _ _ ⟨rfl, rfl, rfl⟩) | ((first | refine ro (st_box rfl) ?_ | refine ro (st_alloc tok rfl) ?_ | refine ro (st_buildSlice tok rfl rfl rfl rfl rfl rfl rfl) ?_); rintro _ _ _ ⟨_, rfl, rfl, rfl⟩) | refine runL_q (qt_indexN tok rfl rfl rfl rfl (fun _ => by omega)) rfl rfl rfl ?_ | refine runL_g rfl rfl (qt_indexN tok rfl rfl rfl rfl (fun _ => by omega)) rfl rfl rfl rfl rfl ?_ | refine runL_q (qt_ldM tok rfl hq rfl) rfl rfl rfl ?_ | refine runL_g rfl rfl (qt_ldM tok rfl hq rfl) rfl rfl rfl rfl rfl ?_ | refine runL_q (qt_ldM0 tok rfl hq rfl) rfl rfl rfl ?_ | refine runL_g rfl rfl (qt_ldM0 tok rfl hq rfl) rfl rfl rfl rfl rfl ?_)
        refine runL_op (st_invoke rfl rfl mw_num (fun _ => swnum_ok M2 _ bw _ b _ m.b _ (by omega) (by have := hin 1 (by omega); omega) (holdsM (k := 2) tok hc2 rfl rfl))) rfl rfl rfl ?_
        rintro _ _ _ ⟨rfl, rfl, rfl⟩
        repeat (first | with_reducible (first | refine cS ?_ | refine cR ?_ | refine cN ?_ | refine cK ?_ | refine cB ?_ | refine cI ?_) | refine cE rfl ?_ | refine rq (qt_pev tok rfl) ?_ | refine rg rfl rfl (qt_pev tok rfl) ?_ | refine rq (ql tok rfl) ?_ | refine rg rfl rfl (ql tok rfl) ?_ | (refine runL_op0 (sst tok rfl rfl rfl rfl rfl) ?_; rintro _ _ _ ⟨rfl, rfl, rfl⟩) | ((first | refine ro (st_box rfl) ?_ | refine ro (st_alloc tok rfl) ?_ | refine ro (st_buildSlice tok rfl rfl rfl rfl rfl rfl rfl) ?_); rintro _ _ _ ⟨_, rfl, rfl, rfl⟩))
        refine run_sub' (hnx _ _ _ ⟨by omega, rfl, ?_, rfl⟩) ⟨lk_succ rfl (by omega), rfl, rfl, rfl, rfl, rfl, rfl, trivial⟩
        rw [app_assoc]
        simp only [List.take_succ_cons, List.take_zero, nsB, app_bz']
      · repeat (first | with_reducible (first | refine cS ?_ | refine cR ?_ | refine cN ?_ | refine cK ?_ | refine cB ?_ | refine cI ?_) | refine cE rfl ?_ | refine rq (qt_pev tok rfl) ?_ | refine rg rfl rfl (qt_pev tok rfl) ?_ | refine rq (ql tok rfl) ?_ | refine rg rfl rfl (ql tok rfl) ?_ | (refine runL_op0 (sst tok rfl rfl rfl rfl rfl) ?_; rintro _ _ _ ⟨rfl, rfl, rfl⟩) | ((first | refine ro (st_box rfl) ?_ | refine ro (st_alloc tok rfl) ?_ | refine ro (st_buildSlice tok rfl rfl rfl rfl rfl rfl rfl) ?_); rintro _ _ _ ⟨_, rfl, rfl, rfl⟩) | refine runL_q (qt_indexN tok rfl rfl rfl rfl (fun _ => by omega)) rfl rfl rfl ?_ | refine runL_g rfl rfl (qt_indexN tok rfl rfl rfl rfl (fun _ => by omega)) rfl rfl rfl rfl rfl ?_ | refine runL_q (qt_ldM tok rfl hq rfl) rfl rfl rfl ?_ | refine runL_g rfl rfl (qt_ldM tok rfl hq rfl) rfl rfl rfl rfl rfl ?_ | refine runL_q (qt_ldM0 tok rfl hq rfl) rfl rfl rfl ?_ | refine runL_g rfl rfl (qt_ldM0 tok rfl hq rfl) rfl rfl rfl rfl rfl ?_)
        refine runL_op (st_invoke rfl rfl mw_num (fun _ => swnum_ok M2 _ bw _ b _ m.c _ (by omega) (by have := hin 2 (by omega); omega) (holdsM (k := 3) tok hc2 rfl rfl))) rfl rfl rfl ?_
        rintro _ _ _ ⟨rfl, rfl, rfl⟩
        repeat (first | with_reducible (first | refine cS ?_ | refine cR ?_ | refine cN ?_ | refine cK ?_ | refine cB ?_ | refine cI ?_) | refine cE rfl ?_ | refine rq (qt_pev tok rfl) ?_ | refine rg rfl rfl (qt_pev tok rfl) ?_ | refine rq (ql tok rfl) ?_ | refine rg rfl rfl (ql tok rfl) ?_ | (refine runL_op0 (sst tok rfl rfl rfl rfl rfl) ?_; rintro _ _ _ ⟨rfl, rfl, rfl⟩) | ((first | refine ro (st_box rfl) ?_ | refine ro (st_alloc tok rfl) ?_ | refine ro (st_buildSlice tok rfl rfl rfl rfl rfl rfl rfl) ?_); rintro _ _ _ ⟨_, rfl, rfl, rfl⟩))
        refine run_sub' (hnx _ _ _ ⟨by omega, rfl, ?_, rfl⟩) ⟨lk_succ rfl (by omega), rfl, rfl, rfl, rfl, rfl, rfl, trivial⟩
        rw [app_assoc]
        simp only [List.take_succ_cons, List.take_zero, nsB, app_assoc, app_bz']
      · repeat (first | with_reducible (first | refine cS ?_ | refine cR ?_ | refine cN ?_ | refine cK ?_ | refine cB ?_ | refine cI ?_) | refine cE rfl ?_ | refine rq (qt_pev tok rfl) ?_ | refine rg rfl rfl (qt_pev tok rfl) ?_ | refine rq (ql tok rfl) ?_ | refine rg rfl rfl (ql tok rfl) ?_ | (refine runL_op0 (sst tok rfl rfl rfl rfl rfl) ?_; rintro _ _ _ ⟨rfl, rfl, rfl⟩) | ((first | refine ro (st_box rfl) ?_ | refine ro (st_alloc tok rfl) ?_ | refine ro (st_buildSlice tok rfl rfl rfl rfl rfl rfl rfl) ?_); rintro _ _ _ ⟨_, rfl, rfl, rfl⟩) | refine runL_q (qt_indexN tok rfl rfl rfl rfl (fun _ => by omega)) rfl rfl rfl ?_ | refine runL_g rfl rfl (qt_indexN tok rfl rfl rfl rfl (fun _ => by omega)) rfl rfl rfl rfl rfl ?_ | refine runL_q (qt_ldM tok rfl hq rfl) rfl rfl rfl ?_ | refine runL_g rfl rfl (qt_ldM tok rfl hq rfl) rfl rfl rfl rfl rfl ?_ | refine runL_q (qt_ldM0 tok rfl hq rfl) rfl rfl rfl ?_ | refine runL_g rfl rfl (qt_ldM0 tok rfl hq rfl) rfl rfl rfl rfl rfl ?_)
        refine runL_op (st_invoke rfl rfl mw_num (fun _ => swnum_ok M2 _ bw _ b _ m.n _ (by omega) (by have := hin 3 (by omega); omega) (holdsM (k := 4) tok hc2 rfl rfl))) rfl rfl rfl ?_
        rintro _ _ _ ⟨rfl, rfl, rfl⟩
        repeat (first | with_reducible (first | refine cS ?_ | refine cR ?_ | refine cN ?_ | refine cK ?_ | refine cB ?_ | refine cI ?_) | refine cE rfl ?_ | refine rq (qt_pev tok rfl) ?_ | refine rg rfl rfl (qt_pev tok rfl) ?_ | refine rq (ql tok rfl) ?_ | refine rg rfl rfl (ql tok rfl) ?_ | (refine runL_op0 (sst tok rfl rfl rfl rfl rfl) ?_; rintro _ _ _ ⟨rfl, rfl, rfl⟩) | ((first | refine ro (st_box rfl) ?_ | refine ro (st_alloc tok rfl) ?_ | refine ro (st_buildSlice tok rfl rfl rfl rfl rfl rfl rfl) ?_); rintro _ _ _ ⟨_, rfl, rfl, rfl⟩))
        refine run_sub' (hnx _ _ _ ⟨by omega, rfl, ?_, rfl⟩) ⟨lk_succ rfl (by omega), rfl, rfl, rfl, rfl, rfl, rfl, trivial⟩
        rw [app_assoc]
        simp only [List.take_succ_cons, List.take_zero, nsB, app_assoc, app_bz']
    have hi4 : i = 4 := by
      have := of_decide_eq_false h
      omega
    subst hi4
    clear hnx
    refine run_exit rfl ?_
    have hS2 := hin 4 (by omega)
    generalize hS2e : S1 ++ nsB ([m.a, m.b, m.c, m.n].take 4) = S2 at hS2 ⊢
    repeat (first | with_reducible (first | refine cS ?_ | refine cR ?_ | refine cN ?_ | refine cK ?_ | refine cB ?_ | refine cI ?_) | refine cE rfl ?_ | refine rq (qt_pev tok rfl) ?_ | refine rg rfl rfl (qt_pev tok rfl) ?_ | refine rq (ql tok rfl) ?_ | refine rg rfl rfl (ql tok rfl) ?_ | (refine runL_op0 (sst tok rfl rfl rfl rfl rfl) ?_; rintro _ _ _ ⟨rfl, rfl, rfl⟩) | ((first | refine ro (st_box rfl) ?_ | refine ro (st_alloc tok rfl) ?_ | refine ro (st_buildSlice tok rfl rfl rfl rfl rfl rfl rfl) ?_); rintro _ _ _ ⟨_, rfl, rfl, rfl⟩) | refine prn_start mixed ?_ | refine prn_end (by decide +kernel) ?_ | refine pq rfl (qt_pev tok rfl) ?_ | refine pg rfl rfl rfl (qt_pev tok rfl) ?_ | refine pq rfl (ql tok rfl) ?_ | refine pg rfl rfl rfl (ql tok rfl) ?_ | (refine prn_e0 rfl (sst tok rfl rfl rfl rfl rfl) (by decide +kernel) ?_; rintro _ _ _ ⟨rfl, rfl, rfl⟩) | ((first | refine pe rfl (st_box rfl) ?_ | refine pe rfl (st_alloc tok rfl) ?_ | refine pe rfl (st_buildSlice tok rfl rfl rfl rfl rfl rfl rfl) ?_); rintro _ _ _ ⟨_, rfl, rfl, rfl⟩) | (refine prn_o0 rfl (sst tok rfl rfl rfl rfl rfl) (by decide +kernel) ?_; rintro _ _ _ ⟨rfl, rfl, rfl⟩; refine ⟨by (repeat (first | exact trivial | refine And.intro (pend_q rfl rfl rfl (qt_pev tok rfl)) ?_ | refine And.intro (pend_q rfl rfl rfl (ql tok rfl)) ?_)), ?_⟩) | ((first | refine po rfl (st_box rfl) ?_ | refine po rfl (st_alloc tok rfl) ?_ | refine po rfl (st_buildSlice tok rfl rfl rfl rfl rfl rfl rfl) ?_); rintro _ _ _ ⟨_, rfl, rfl, rfl⟩; refine ⟨by (repeat (first | exact trivial | refine And.intro (pend_q rfl rfl rfl (qt_pev tok rfl)) ?_ | refine And.intro (pend_q rfl rfl rfl (ql tok rfl)) ?_)), ?_⟩) | (refine pe rfl (qt_pev tok rfl) ?_; rintro _ _ _ ⟨rfl, rfl, rfl⟩) | refine prn_q rfl (qt_nilIface rfl) (by decide +kernel) rfl rfl rfl ?_)
    refine prn_e1 rfl (st_invoke rfl rfl mw_text (fun _ => swtext_ok M2 _ bw _ b _ m.text _ (by omega) (by omega) (holdsM (k := 5) tok hc2 rfl rfl))) (by decide +kernel) rfl rfl rfl ?_
    rintro _ _ _ ⟨rfl, rfl, rfl⟩
    generalize hS3e : S2 ++ textB m.text = S3
    have hS3 : S3.size < 3100000 := by rw [← hS3e, app_size]; omega
    repeat (first | with_reducible (first | refine cS ?_ | refine cR ?_ | refine cN ?_ | refine cK ?_ | refine cB ?_ | refine cI ?_) | refine cE rfl ?_ | refine rq (qt_pev tok rfl) ?_ | refine rg rfl rfl (qt_pev tok rfl) ?_ | refine rq (ql tok rfl) ?_ | refine rg rfl rfl (ql tok rfl) ?_ | (refine runL_op0 (sst tok rfl rfl rfl rfl rfl) ?_; rintro _ _ _ ⟨rfl, rfl, rfl⟩) | ((first | refine ro (st_box rfl) ?_ | refine ro (st_alloc tok rfl) ?_ | refine ro (st_buildSlice tok rfl rfl rfl rfl rfl rfl rfl) ?_); rintro _ _ _ ⟨_, rfl, rfl, rfl⟩) | refine prn_start mixed ?_ | refine prn_end (by decide +kernel) ?_ | refine pq rfl (qt_pev tok rfl) ?_ | refine pg rfl rfl rfl (qt_pev tok rfl) ?_ | refine pq rfl (ql tok rfl) ?_ | refine pg rfl rfl rfl (ql tok rfl) ?_ | (refine prn_e0 rfl (sst tok rfl rfl rfl rfl rfl) (by decide +kernel) ?_; rintro _ _ _ ⟨rfl, rfl, rfl⟩) | ((first | refine pe rfl (st_box rfl) ?_ | refine pe rfl (st_alloc tok rfl) ?_ | refine pe rfl (st_buildSlice tok rfl rfl rfl rfl rfl rfl rfl) ?_); rintro _ _ _ ⟨_, rfl, rfl, rfl⟩) | (refine prn_o0 rfl (sst tok rfl rfl rfl rfl rfl) (by decide +kernel) ?_; rintro _ _ _ ⟨rfl, rfl, rfl⟩; refine ⟨by (repeat (first | exact trivial | refine And.intro (pend_q rfl rfl rfl (qt_pev tok rfl)) ?_ | refine And.intro (pend_q rfl rfl rfl (ql tok rfl)) ?_)), ?_⟩) | ((first | refine po rfl (st_box rfl) ?_ | refine po rfl (st_alloc tok rfl) ?_ | refine po rfl (st_buildSlice tok rfl rfl rfl rfl rfl rfl rfl) ?_); rintro _ _ _ ⟨_, rfl, rfl, rfl⟩; refine ⟨by (repeat (first | exact trivial | refine And.intro (pend_q rfl rfl rfl (qt_pev tok rfl)) ?_ | refine And.intro (pend_q rfl rfl rfl (ql tok rfl)) ?_)), ?_⟩) | (refine pe rfl (qt_pev tok rfl) ?_; rintro _ _ _ ⟨rfl, rfl, rfl⟩) | refine prn_q rfl (qt_indexN tok rfl rfl rfl rfl (fun _ => by omega)) (by decide +kernel) rfl rfl rfl ?_ | refine prn_g rfl rfl rfl (qt_indexN tok rfl rfl rfl rfl (fun _ => by omega)) (by decide +kernel) rfl rfl rfl rfl rfl ?_ | refine prn_q rfl (qt_ldM tok rfl hc2 rfl) (by decide +kernel) rfl rfl rfl ?_ | refine prn_g rfl rfl rfl (qt_ldM tok rfl hc2 rfl) (by decide +kernel) rfl rfl rfl rfl rfl ?_ | refine prn_q rfl (qt_ldM0 tok rfl hc2 rfl) (by decide +kernel) rfl rfl rfl ?_ | refine prn_g rfl rfl rfl (qt_ldM0 tok rfl hc2 rfl) (by decide +kernel) rfl rfl rfl rfl rfl ?_)
    refine pr_q 8 (by decide +kernel) rfl (qt_pev tok rfl) rfl rfl rfl ?_
    refine pr_one 7 (by decide +kernel) (eff1 7 rfl (st_callF rfl (fun _ => wrows_ok M2 _ ba bw S3 m.list.len _ _ (by omega) (by omega))) (by decide +kernel) (qs := _) rfl rfl rfl rfl ?_)
    rintro _ _ _ ⟨rfl, rfl, rfl⟩
    refine ⟨by (repeat (first | exact trivial | refine And.intro (pend_q rfl rfl rfl (qt_pev tok rfl)) ?_ | refine And.intro (pend_q rfl rfl rfl (ql tok rfl)) ?_ | refine And.intro (pend_q rfl rfl rfl (qt_ldM (k := 6) tok rfl hc2 rfl)) ?_)), ?_⟩
    refine pr_end (by decide +kernel) (by decide +kernel) ?_
    generalize hS4e : S3 ++ nB (m.list.len : Int) = S4
    have hS4 : S4.size < 3200000 := by rw [← hS4e, app_size]; omega
    have hlm : InOk M2 m.list := hmo.list.le (Mem.le_trans hM1 hM2)
    refine run_block ?_
    refine run_loopN (fun i σ1 M3 L1 => i ≤ m.list.len ∧ M2 = M3 ∧ L1 = wcB bw (S4 ++ nsB (m.list.xs.take i)) :: (b4, .cells ⟨[.int .i64 m.do_]⟩ 3 (0, 0)) :: (b3, .cells ⟨[.pointer (some ⟨b, off + j * 7, none⟩)]⟩ 110 (0, 0)) :: (bf, .cells ⟨fmC ba wT bw⟩ 78 (0, 0)) :: axB ba a :: L ∧ σ1 = [(79, .int .i64 (i : Int)), (78, .int .i64 (m.list.len : Int)), (3, .pointer (some ⟨b3, 0, none⟩)), (17, .int .i64 (j : Int)), (16, .int .i64 (a.steps.len : Int)), (1, .pointer (some ⟨bf, 0, none⟩))]) m.list.len [(79, .int .i64 ((0 : Nat) : Int)), (78, .int .i64 (m.list.len : Int)), (3, .pointer (some ⟨b3, 0, none⟩)), (17, .int .i64 (j : Int)), (16, .int .i64 (a.steps.len : Int)), (1, .pointer (some ⟨bf, 0, none⟩))] ?_ ⟨Nat.zero_le _, rfl, by rw [List.take_zero, nsB, app_bz'], rfl⟩ (fun j _ _ _ h => h.1) ?_
    · exact ⟨rfl, rfl, rfl, rfl, rfl, rfl, trivial⟩
    rintro i _ _ _ ⟨hi, rfl, rfl, rfl⟩ hnx
    have q1 := nsB_sz (l := m.list.xs.take i) fun v hv => hsp.list v (List.mem_of_mem_take hv)
    have q2 : (m.list.xs.take i).length ≤ 32 := by rw [List.length_take]; omega
    have q3 : (S4 ++ nsB (m.list.xs.take i)).size < 2305843009213693952 := by rw [app_size]; omega
    repeat (first | with_reducible (first | refine cS ?_ | refine cR ?_ | refine cN ?_ | refine cK ?_ | refine cB ?_ | refine cI ?_) | refine cE rfl ?_ | refine rq (qt_pev tok rfl) ?_ | refine rg rfl rfl (qt_pev tok rfl) ?_ | refine rq (ql tok rfl) ?_ | refine rg rfl rfl (ql tok rfl) ?_ | (refine runL_op0 (sst tok rfl rfl rfl rfl rfl) ?_; rintro _ _ _ ⟨rfl, rfl, rfl⟩) | ((first | refine ro (st_box rfl) ?_ | refine ro (st_alloc tok rfl) ?_ | refine ro (st_buildSlice tok rfl rfl rfl rfl rfl rfl rfl) ?_); rintro _ _ _ ⟨_, rfl, rfl, rfl⟩))
    refine run_cond rfl (fun h => ?_) (fun h => ?_)
    · have hil : i < m.list.len := by
        have := of_decide_eq_true h
        omega
      obtain ⟨lb, lo, x, hla, hx, hcx⟩ := SIn.at_ hlm.1 hil
      have hlv : m.list.v = .slice (some ⟨lb, lo, none⟩) m.list.len m.list.cap := by rw [← hla]; rfl
      have hxn := nm_r (hsp.list x (List.mem_of_getElem? hx))
      repeat (first | with_reducible (first | refine cS ?_ | refine cR ?_ | refine cN ?_ | refine cK ?_ | refine cB ?_ | refine cI ?_) | refine cE rfl ?_ | refine rq (qt_pev tok rfl) ?_ | refine rg rfl rfl (qt_pev tok rfl) ?_ | refine rq (ql tok rfl) ?_ | refine rg rfl rfl (ql tok rfl) ?_ | (refine runL_op0 (sst tok rfl rfl rfl rfl rfl) ?_; rintro _ _ _ ⟨rfl, rfl, rfl⟩) | ((first | refine ro (st_box rfl) ?_ | refine ro (st_alloc tok rfl) ?_ | refine ro (st_buildSlice tok rfl rfl rfl rfl rfl rfl rfl) ?_); rintro _ _ _ ⟨_, rfl, rfl, rfl⟩))
      repeat (first | with_reducible (first | refine cS ?_ | refine cR ?_ | refine cN ?_ | refine cK ?_ | refine cB ?_ | refine cI ?_) | refine cE rfl ?_ | refine rq (qt_pev tok rfl) ?_ | refine rg rfl rfl (qt_pev tok rfl) ?_ | refine rq (ql tok rfl) ?_ | refine rg rfl rfl (ql tok rfl) ?_ | (refine runL_op0 (sst tok rfl rfl rfl rfl rfl) ?_; rintro _ _ _ ⟨rfl, rfl, rfl⟩) | ((first | refine ro (st_box rfl) ?_ | refine ro (st_alloc tok rfl) ?_ | refine ro (st_buildSlice tok rfl rfl rfl rfl rfl rfl rfl) ?_); rintro _ _ _ ⟨_, rfl, rfl, rfl⟩) | refine prn_start mixed ?_ | refine prn_end (by decide +kernel) ?_ | refine pq rfl (qt_pev tok rfl) ?_ | refine pg rfl rfl rfl (qt_pev tok rfl) ?_ | refine pq rfl (ql tok rfl) ?_ | refine pg rfl rfl rfl (ql tok rfl) ?_ | (refine prn_e0 rfl (sst tok rfl rfl rfl rfl rfl) (by decide +kernel) ?_; rintro _ _ _ ⟨rfl, rfl, rfl⟩) | ((first | refine pe rfl (st_box rfl) ?_ | refine pe rfl (st_alloc tok rfl) ?_ | refine pe rfl (st_buildSlice tok rfl rfl rfl rfl rfl rfl rfl) ?_); rintro _ _ _ ⟨_, rfl, rfl, rfl⟩) | (refine prn_o0 rfl (sst tok rfl rfl rfl rfl rfl) (by decide +kernel) ?_; rintro _ _ _ ⟨rfl, rfl, rfl⟩; refine ⟨by (repeat (first | exact trivial | refine And.intro (pend_q rfl rfl rfl (qt_pev tok rfl)) ?_ | refine And.intro (pend_q rfl rfl rfl (ql tok rfl)) ?_)), ?_⟩) | ((first | refine po rfl (st_box rfl) ?_ | refine po rfl (st_alloc tok rfl) ?_ | refine po rfl (st_buildSlice tok rfl rfl rfl rfl rfl rfl rfl) ?_); rintro _ _ _ ⟨_, rfl, rfl, rfl⟩; refine ⟨by (repeat (first | exact trivial | refine And.intro (pend_q rfl rfl rfl (qt_pev tok rfl)) ?_ | refine And.intro (pend_q rfl rfl rfl (ql tok rfl)) ?_)), ?_⟩) | (refine pe rfl (qt_pev tok rfl) ?_; rintro _ _ _ ⟨rfl, rfl, rfl⟩) | refine prn_q rfl (qt_indexN tok rfl rfl rfl rfl (fun _ => by omega)) (by decide +kernel) rfl rfl rfl ?_ | refine prn_g rfl rfl rfl (qt_indexN tok rfl rfl rfl rfl (fun _ => by omega)) (by decide +kernel) rfl rfl rfl rfl rfl ?_ | refine prn_q rfl (qt_ldM tok rfl hc2 rfl) (by decide +kernel) rfl rfl rfl ?_ | refine prn_g rfl rfl rfl (qt_ldM tok rfl hc2 rfl) (by decide +kernel) rfl rfl rfl rfl rfl ?_ | refine prn_q rfl (qt_ldM0 tok rfl hc2 rfl) (by decide +kernel) rfl rfl rfl ?_ | refine prn_g rfl rfl rfl (qt_ldM0 tok rfl hc2 rfl) (by decide +kernel) rfl rfl rfl rfl rfl ?_)
      refine pr_as 87 (.slice (some ⟨lb, lo, none⟩) m.list.len m.list.cap) rfl hlv ?_
      repeat (first | with_reducible (first | refine cS ?_ | refine cR ?_ | refine cN ?_ | refine cK ?_ | refine cB ?_ | refine cI ?_) | refine cE rfl ?_ | refine rq (qt_pev tok rfl) ?_ | refine rg rfl rfl (qt_pev tok rfl) ?_ | refine rq (ql tok rfl) ?_ | refine rg rfl rfl (ql tok rfl) ?_ | (refine runL_op0 (sst tok rfl rfl rfl rfl rfl) ?_; rintro _ _ _ ⟨rfl, rfl, rfl⟩) | ((first | refine ro (st_box rfl) ?_ | refine ro (st_alloc tok rfl) ?_ | refine ro (st_buildSlice tok rfl rfl rfl rfl rfl rfl rfl) ?_); rintro _ _ _ ⟨_, rfl, rfl, rfl⟩) | refine prn_start mixed ?_ | refine prn_end (by decide +kernel) ?_ | refine pq rfl (qt_pev tok rfl) ?_ | refine pg rfl rfl rfl (qt_pev tok rfl) ?_ | refine pq rfl (ql tok rfl) ?_ | refine pg rfl rfl rfl (ql tok rfl) ?_ | (refine prn_e0 rfl (sst tok rfl rfl rfl rfl rfl) (by decide +kernel) ?_; rintro _ _ _ ⟨rfl, rfl, rfl⟩) | ((first | refine pe rfl (st_box rfl) ?_ | refine pe rfl (st_alloc tok rfl) ?_ | refine pe rfl (st_buildSlice tok rfl rfl rfl rfl rfl rfl rfl) ?_); rintro _ _ _ ⟨_, rfl, rfl, rfl⟩) | (refine prn_o0 rfl (sst tok rfl rfl rfl rfl rfl) (by decide +kernel) ?_; rintro _ _ _ ⟨rfl, rfl, rfl⟩; refine ⟨by (repeat (first | exact trivial | refine And.intro (pend_q rfl rfl rfl (qt_pev tok rfl)) ?_ | refine And.intro (pend_q rfl rfl rfl (ql tok rfl)) ?_)), ?_⟩) | ((first | refine po rfl (st_box rfl) ?_ | refine po rfl (st_alloc tok rfl) ?_ | refine po rfl (st_buildSlice tok rfl rfl rfl rfl rfl rfl rfl) ?_); rintro _ _ _ ⟨_, rfl, rfl, rfl⟩; refine ⟨by (repeat (first | exact trivial | refine And.intro (pend_q rfl rfl rfl (qt_pev tok rfl)) ?_ | refine And.intro (pend_q rfl rfl rfl (ql tok rfl)) ?_)), ?_⟩) | (refine pe rfl (qt_pev tok rfl) ?_; rintro _ _ _ ⟨rfl, rfl, rfl⟩) | refine prn_q rfl (qt_indexN tok rfl rfl rfl rfl (fun _ => by omega)) (by decide +kernel) rfl rfl rfl ?_ | refine prn_g rfl rfl rfl (qt_indexN tok rfl rfl rfl rfl (fun _ => by omega)) (by decide +kernel) rfl rfl rfl rfl rfl ?_ | refine prn_q rfl (qt_ldM tok rfl hcx rfl) (by decide +kernel) rfl rfl rfl ?_ | refine prn_g rfl rfl rfl (qt_ldM tok rfl hcx rfl) (by decide +kernel) rfl rfl rfl rfl rfl ?_ | refine prn_q rfl (qt_ldM0 tok rfl hcx rfl) (by decide +kernel) rfl rfl rfl ?_ | refine prn_g rfl rfl rfl (qt_ldM0 tok rfl hcx rfl) (by decide +kernel) rfl rfl rfl rfl rfl ?_ | refine prn_q rfl (qt_nilIface rfl) (by decide +kernel) rfl rfl rfl ?_)
      refine prn_e1 rfl (st_invoke rfl rfl mw_num (fun _ => swnum_ok M2 _ bw _ lb _ x _ (by omega) q3 (holdsM (k := 0) tok hcx rfl rfl))) (by decide +kernel) rfl rfl rfl ?_
      rintro _ _ _ ⟨rfl, rfl, rfl⟩
      repeat (first | with_reducible (first | refine cS ?_ | refine cR ?_ | refine cN ?_ | refine cK ?_ | refine cB ?_ | refine cI ?_) | refine cE rfl ?_ | refine rq (qt_pev tok rfl) ?_ | refine rg rfl rfl (qt_pev tok rfl) ?_ | refine rq (ql tok rfl) ?_ | refine rg rfl rfl (ql tok rfl) ?_ | (refine runL_op0 (sst tok rfl rfl rfl rfl rfl) ?_; rintro _ _ _ ⟨rfl, rfl, rfl⟩) | ((first | refine ro (st_box rfl) ?_ | refine ro (st_alloc tok rfl) ?_ | refine ro (st_buildSlice tok rfl rfl rfl rfl rfl rfl rfl) ?_); rintro _ _ _ ⟨_, rfl, rfl, rfl⟩) | refine prn_start mixed ?_ | refine prn_end (by decide +kernel) ?_ | refine pq rfl (qt_pev tok rfl) ?_ | refine pg rfl rfl rfl (qt_pev tok rfl) ?_ | refine pq rfl (ql tok rfl) ?_ | refine pg rfl rfl rfl (ql tok rfl) ?_ | (refine prn_e0 rfl (sst tok rfl rfl rfl rfl rfl) (by decide +kernel) ?_; rintro _ _ _ ⟨rfl, rfl, rfl⟩) | ((first | refine pe rfl (st_box rfl) ?_ | refine pe rfl (st_alloc tok rfl) ?_ | refine pe rfl (st_buildSlice tok rfl rfl rfl rfl rfl rfl rfl) ?_); rintro _ _ _ ⟨_, rfl, rfl, rfl⟩) | (refine prn_o0 rfl (sst tok rfl rfl rfl rfl rfl) (by decide +kernel) ?_; rintro _ _ _ ⟨rfl, rfl, rfl⟩; refine ⟨by (repeat (first | exact trivial | refine And.intro (pend_q rfl rfl rfl (qt_pev tok rfl)) ?_ | refine And.intro (pend_q rfl rfl rfl (ql tok rfl)) ?_)), ?_⟩) | ((first | refine po rfl (st_box rfl) ?_ | refine po rfl (st_alloc tok rfl) ?_ | refine po rfl (st_buildSlice tok rfl rfl rfl rfl rfl rfl rfl) ?_); rintro _ _ _ ⟨_, rfl, rfl, rfl⟩; refine ⟨by (repeat (first | exact trivial | refine And.intro (pend_q rfl rfl rfl (qt_pev tok rfl)) ?_ | refine And.intro (pend_q rfl rfl rfl (ql tok rfl)) ?_)), ?_⟩) | (refine pe rfl (qt_pev tok rfl) ?_; rintro _ _ _ ⟨rfl, rfl, rfl⟩))
      refine run_sub' (hnx _ _ _ ⟨hil, rfl, ?_, rfl⟩) ⟨lk_succ rfl (by omega), rfl, rfl, rfl, rfl, rfl, trivial⟩
      rw [take_snoc hx, nsB_snoc, app_assoc]
    have hil : i = m.list.len := by
      have := of_decide_eq_false h
      omega
    subst hil
    clear hnx
    repeat (first | with_reducible (first | refine cS ?_ | refine cR ?_ | refine cN ?_ | refine cK ?_ | refine cB ?_ | refine cI ?_) | refine cE rfl ?_ | refine rq (qt_pev tok rfl) ?_ | refine rg rfl rfl (qt_pev tok rfl) ?_ | refine rq (ql tok rfl) ?_ | refine rg rfl rfl (ql tok rfl) ?_ | (refine runL_op0 (sst tok rfl rfl rfl rfl rfl) ?_; rintro _ _ _ ⟨rfl, rfl, rfl⟩) | ((first | refine ro (st_box rfl) ?_ | refine ro (st_alloc tok rfl) ?_ | refine ro (st_buildSlice tok rfl rfl rfl rfl rfl rfl rfl) ?_); rintro _ _ _ ⟨_, rfl, rfl, rfl⟩))
    refine run_mem (fun _ h => h.drop2.drop2) (run_sub' (hnext _ _ _ ⟨hlt, Mem.le_trans hM1 hM2, ?_, rfl⟩) ⟨lk_succ rfl (by omega), rfl, rfl, trivial⟩)
    rw [List.take_of_length_le (by omega), take_snoc hm, List.map_append, List.map_cons, List.map_nil, spsB_snoc, ← hS4e, ← hS3e, ← hS2e, ← hS1, ← hSj]
    show wcB bw _ :: _ = _
    congr 2
    simp only [List.take_succ_cons, List.take_zero, nsB, spB, Sr.sp, app_assoc, app_bz', rll]
  · have hge : j = a.steps.len := by simp at h; omega
    repeat (first | with_reducible (first | refine cS ?_ | refine cR ?_ | refine cN ?_ | refine cK ?_ | refine cB ?_ | refine cI ?_) | refine cE rfl ?_ | refine rq (qt_pev tok rfl) ?_ | refine rg rfl rfl (qt_pev tok rfl) ?_ | refine rq (ql tok rfl) ?_ | refine rg rfl rfl (ql tok rfl) ?_ | (refine runL_op0 (sst tok rfl rfl rfl rfl rfl) ?_; rintro _ _ _ ⟨rfl, rfl, rfl⟩) | ((first | refine ro (st_box rfl) ?_ | refine ro (st_alloc tok rfl) ?_ | refine ro (st_buildSlice tok rfl rfl rfl rfl rfl rfl rfl) ?_); rintro _ _ _ ⟨_, rfl, rfl, rfl⟩))
    refine run_end hC (rs := []) rfl resN (fun _ h => h.drop2) ⟨rfl, hM1, ?_⟩
    rw [hge, List.take_of_length_le (by omega), stepsB, List.length_map, hx1, ← hS0]
    simp only [app_assoc]
end Go.Proofs.Ytbpgiodfccijmaa
namespace Go.Proofs.Ytbpgiodfccijmaa
open Go.Chi

/-! ### an act's bytes; script.Encode -/
structure AxW (M : Mem) (x : Ax) : Prop where
  gives : MbOk M x.gives
  steps : SsZ M x.steps
  pay : ∀ m ∈ x.gives.xs, m.digest.size < 1099511627776
theorem AxW.ok {M : Mem} {x : Ax} (h : AxW M x) : AxOk M x := ⟨h.gives, h.steps.ok, h.pay⟩
theorem AxW.le {M M' : Mem} {x : Ax} (hm : M.le M') (h : AxW M x) : AxW M' x := ⟨h.gives.le hm, h.steps.le hm, h.pay⟩
theorem AxW.iff {M : Mem} {x : Ax} (h : AxW M x) : chkA x = 0 ↔ AcP x.aa := chkA_iff h.gives.len h.steps.ok.len (fun y hy => (h.steps.each y hy).list.len)
theorem AxOk.iff {M : Mem} {x : Ax} (h : AxOk M x) : chkA x = 0 ↔ AcP x.aa := chkA_iff h.gives.len h.steps.len (fun y hy => (h.steps.each y hy).list.len)
theorem AxW.short {M : Mem} {x : Ax} (h : AxW M x) (hp : AcP x.aa) : ShortA x.aa := shortA hp (fun m hm => by have := h.pay m hm; omega)
theorem gives_lim {a : Aa} (h : AcP a) (hs : ShortA a) : (∀ m ∈ a.gives, (0 ≤ m.org ∧ m.org ≤ 7) ∧ m.digest.size ≤ 16384) ∧ a.gives.length ≤ 6 := by
  have key : (∀ m ∈ a.gives, GvP m) ∧ a.gives.length ≤ 6 := by
    cases h <;> first | exact ⟨by assumption, by assumption⟩ | exact ⟨(fun m hm => by cases hm), Nat.zero_le _⟩
  exact ⟨fun m hm => ⟨org_r (key.1 m hm).1, hs m hm⟩, key.2⟩
theorem steps_lim {a : Aa} (h : AcP a) : (∀ m ∈ a.steps, SpP m) ∧ a.steps.length ≤ 64 := by
  cases h <;> first | exact ⟨by assumption, by assumption⟩ | exact ⟨(fun m hm => by cases hm), Nat.zero_le _⟩
theorem org_lim {a : Aa} (h : AcP a) : orgW a.org = true ∧ orgW a.auditor = true ∧ nmW a.n = true := by
  have o0 : orgW 0 = true := by decide
  have n0 : nmW 0 = true := by decide
  cases h <;> exact ⟨by assumption, by assumption, by assumption⟩
theorem mbB_lim' : ∀ {l : List Mb}, (∀ m ∈ l, (0 ≤ m.org ∧ m.org ≤ 7) ∧ m.digest.size ≤ 16384) → (mbB l).size ≤ l.length * 17000
  | [], _ => Nat.le_refl _
  | x :: l, h => by
    have h1 := mbB_lim' fun m hm => h m (List.mem_cons_of_mem _ hm)
    obtain ⟨h2, h3⟩ := h x List.mem_cons_self
    have h4 := textB_sz (t := x.digest) (by omega)
    have h5 := nB_size (n := x.org) (by omega)
    show (nB x.org ++ (textB x.digest ++ mbB l)).size ≤ _
    rw [app_size, app_size, List.length_cons]
    omega
theorem txB_lim {t : Tx} (h : mayTx t = true) : (txB t).size ≤ 27 := by
  obtain ⟨h1, h2, h3⟩ := mayTx_r h
  have z1 := nB_size (n := t.coord) (by omega)
  have z2 := nB_size (n := t.epoch) (by omega)
  have z3 := nB_size (n := t.seq) (by omega)
  rw [txB, app_size, app_size]
  omega
theorem yB_lim (y : Bool) : (yB y).size ≤ 9 := by
  cases y
  · rw [yB, if_neg (by decide)]; exact nB_size (by decide)
  · rw [yB, if_pos rfl]; exact nB_size (by decide)
/-- what a method puts -/
def wfm (a : Aa) (f : Nat) : ByteArray :=
  if f = 46 then nB a.org else
  if f = 47 then nB a.auditor else
  if f = 48 then msB a.gives else
  if f = 49 then txB a.txn else
  if f = 50 then yB a.yes else
  if f = 51 then nB a.n else stepsB a.steps
def wfmL (a : Aa) : List Nat → ByteArray
  | [] => bz
  | f :: l => wfm a f ++ wfmL a l
theorem wfmL_snoc (a : Aa) (l : List Nat) (f : Nat) : wfmL a (l ++ [f]) = wfmL a l ++ wfm a f := by
  induction l with
  | nil => show wfm a f ++ bz = bz ++ _; rw [app_bz', bz_app']
  | cons x l ih => show wfm a x ++ wfmL a (l ++ [f]) = (wfm a x ++ wfmL a l) ++ _; rw [ih, app_assoc]
theorem wfm_org (a : Aa) : wfm a 46 = nB a.org := by rw [wfm, if_pos rfl]
theorem wfm_auditor (a : Aa) : wfm a 47 = nB a.auditor := by rw [wfm, if_neg (by decide), if_pos rfl]
theorem wfm_gives (a : Aa) : wfm a 48 = msB a.gives := by rw [wfm, if_neg (by decide), if_neg (by decide), if_pos rfl]
theorem wfm_txn (a : Aa) : wfm a 49 = txB a.txn := by rw [wfm, if_neg (by decide), if_neg (by decide), if_neg (by decide), if_pos rfl]
theorem wfm_yes (a : Aa) : wfm a 50 = yB a.yes := by rw [wfm, if_neg (by decide), if_neg (by decide), if_neg (by decide), if_neg (by decide), if_pos rfl]
theorem wfm_n (a : Aa) : wfm a 51 = nB a.n := by rw [wfm, if_neg (by decide), if_neg (by decide), if_neg (by decide), if_neg (by decide), if_neg (by decide), if_pos rfl]
theorem wfm_steps (a : Aa) : wfm a 52 = stepsB a.steps := by rw [wfm, if_neg (by decide), if_neg (by decide), if_neg (by decide), if_neg (by decide), if_neg (by decide), if_neg (by decide)]
theorem wfm_all {a : Aa} (h : AcP a) : wfmL a (partF a.do_) = actBody a := by
  have e1 : partF 1 = [46, 47, 48] := rfl
  have e2 : partF 2 = [46, 49, 50] := rfl
  have e3 : partF 3 = [46] := rfl
  have e4 : partF 4 = [51] := rfl
  have e5 : partF 5 = [46, 52] := rfl
  have e6 : partF 6 = [46, 51] := rfl
  have e7 : partF 7 = [46, 51] := rfl
  have e8 : partF 8 = [46] := rfl
  have e9 : partF 9 = [46, 49] := rfl
  have e10 : partF 10 = [46, 52] := rfl
  cases h <;> simp only [e1, e2, e3, e4, e5, e6, e7, e8, e9, e10, wfmL, wfm_org, wfm_auditor, wfm_gives, wfm_txn, wfm_yes, wfm_n, wfm_steps, app_bz'] <;> rfl
theorem actB_lim {a : Aa} (h : AcP a) (hs : ShortA a) : (actB a).size < 400000 := by
  obtain ⟨g1, g2⟩ := gives_lim h hs
  obtain ⟨s1, s2⟩ := steps_lim h
  obtain ⟨o1, o2, o3⟩ := org_lim h
  have r1 := org_r o1
  have r2 := org_r o2
  have r3 := nm_r o3
  have z1 := nB_size (n := a.org) (by omega)
  have z2 := nB_size (n := a.auditor) (by omega)
  have z3 := nB_size (n := a.n) (by omega)
  have z4 := mbB_lim' g1
  have z5 := spsB_sz s1
  have z6 := nB_size (n := (a.gives.length : Int)) (by omega)
  have z7 := nB_size (n := (a.steps.length : Int)) (by omega)
  have z8 := yB_lim a.yes
  have hz : (msB a.gives).size ≤ 9 + a.gives.length * 17000 := by rw [msB, app_size]; omega
  have hz2 : (stepsB a.steps).size ≤ 9 + 2000 * a.steps.length := by rw [stepsB, app_size]; omega
  have z9 : (txB a.txn).size ≤ 27 := by
    cases h <;> first | exact txB_lim (by assumption) | (exact Nat.le_of_ble_eq_true (by kernel_rfl))
  have k1 : ∀ f, (wfm a f).size ≤ 128009 := by
    intro f
    rw [wfm]
    repeat' split
    all_goals omega
  have k2 : ∀ l : List Nat, (wfmL a l).size ≤ l.length * 128009 := by
    intro l
    induction l with
    | nil => exact Nat.zero_le _
    | cons f l ih => have := k1 f; rw [wfmL, app_size, List.length_cons]; omega
  have k3 : (partF a.do_).length ≤ 3 := by
    cases h <;> exact Nat.le_of_ble_eq_true rfl
  have k4 := k2 (partF a.do_)
  rw [actB_size, ← wfm_all h]
  have : (partF a.do_).length * 128009 ≤ 3 * 128009 := Nat.mul_le_mul_right _ k3
  omega
end Go.Proofs.Ytbpgiodfccijmaa
