import Derived.Test.YtbpgiodfccijmaaBTB
import Derived.Laws.MakeOwn
import Derived.Laws.OwnMore
namespace Go.Proofs.Ytbpgiodfccijmaa
open Go.Chi

/-! ### the document's numbers -/
theorem u8_nat {n : Nat} (h : n < 256) : IntKind.u8.wrap (n : Int) = n := by
  simp only [IntKind.wrap, IntKind.signed, IntKind.bits]
  simp
  omega
theorem bytesI_one (x : Int) : (bytesI [x]).size = 1 := rfl
theorem app_size (a b : ByteArray) : (a ++ b).size = a.size + b.size := ByteArray.size_append
def digN (v : Nat) : ByteArray := if v = 0 then ⟨#[]⟩ else digN (v / 256) ++ bytesI [((v % 256 : Nat) : Int)]
termination_by v
decreasing_by omega
theorem digN_zero : digN 0 = ⟨#[]⟩ := by rw [digN, if_pos rfl]
theorem digN_size : ∀ (k v : Nat), v < 256 ^ k → (digN v).size ≤ k
  | 0, v, h => by
    have : v = 0 := by simp at h; omega
    subst this
    rw [digN_zero]; exact Nat.le_refl _
  | k + 1, v, h => by
    by_cases h0 : v = 0
    · subst h0; rw [digN_zero]; exact Nat.zero_le _
    · rw [digN, if_neg h0, app_size, bytesI_one]
      have := digN_size k (v / 256) (by rw [Nat.pow_succ] at h; omega)
      omega
theorem digN_len {v : Nat} (h : v < 18446744073709551616) : (digN v).size ≤ 8 := digN_size 8 v (by simpa using h)
theorem digN_first : ∀ v : Nat, v ≠ 0 → ∃ b : UInt8, (digN v)[0]? = some b ∧ b ≠ 0 := by
  intro v
  induction v using Nat.strongRecOn with
  | _ v ih =>
    intro h0
    rw [digN, if_neg h0]
    by_cases h1 : v / 256 = 0
    · rw [h1, digN_zero]
      have hv : v % 256 = v := by omega
      rw [hv]
      refine ⟨UInt8.ofNat v, by simp [bytesI]; rfl, fun e => ?_⟩
      have := congrArg UInt8.toNat e
      simp at this
      omega
    · obtain ⟨b, hb, hb0⟩ := ih (v / 256) (by omega) h1
      refine ⟨b, ?_, hb0⟩
      have hlt : 0 < (digN (v / 256)).size := by
        apply Classical.byContradiction
        intro hn
        rw [getElem?_neg (digN (v / 256)) 0 hn] at hb
        cases hb
      rw [getElem?_pos (digN (v / 256)) 0 hlt] at hb
      rw [getElem?_pos (digN (v / 256) ++ bytesI [((v % 256 : Nat) : Int)]) 0 (by rw [app_size]; omega), ByteArray.getElem_append_left hlt]
      exact hb
set_option maxRecDepth 10000 in
set_option maxHeartbeats 4000000 in
theorem digits_ok (M : Mem) : ∀ v : Nat, v < 18446744073709551616 → ∀ L : HL, TrQ Try.prog 67 [.int .u64 (v : Int)] M L (.string (digN v)) := by
  intro v
  induction v using Nat.strongRecOn with
  | _ v ih =>
    intro hv L
    refine Tr.intro 14 Try.func67 rfl rfl Try.call67 rfl ?_
    intro C hC hro
    repeat (first | with_reducible (first | refine cS ?_ | refine cR ?_ | refine cN ?_ | refine cK ?_ | refine cB ?_ | refine cI ?_) | refine cE rfl ?_ | refine rq (qt_pev tok rfl) ?_ | refine rg rfl rfl (qt_pev tok rfl) ?_ | refine rq (ql tok rfl) ?_ | refine rg rfl rfl (ql tok rfl) ?_ | (refine runL_op0 (sst tok rfl rfl rfl rfl rfl) ?_; rintro _ _ _ ⟨rfl, rfl, rfl⟩) | ((first | refine ro (st_box rfl) ?_ | refine ro (st_alloc tok rfl) ?_ | refine ro (st_buildSlice tok rfl rfl rfl rfl rfl rfl rfl) ?_); rintro _ _ _ ⟨_, rfl, rfl, rfl⟩))
    refine run_cond rfl (fun h => ?_) (fun h => ?_)
    · have h0 : v = 0 := by simp at h; omega
      subst h0
      repeat (first | with_reducible (first | refine cS ?_ | refine cR ?_ | refine cN ?_ | refine cK ?_ | refine cB ?_ | refine cI ?_) | refine cE rfl ?_ | refine rq (qt_pev tok rfl) ?_ | refine rg rfl rfl (qt_pev tok rfl) ?_ | refine rq (ql tok rfl) ?_ | refine rg rfl rfl (ql tok rfl) ?_ | (refine runL_op0 (sst tok rfl rfl rfl rfl rfl) ?_; rintro _ _ _ ⟨rfl, rfl, rfl⟩) | ((first | refine ro (st_box rfl) ?_ | refine ro (st_alloc tok rfl) ?_ | refine ro (st_buildSlice tok rfl rfl rfl rfl rfl rfl rfl) ?_); rintro _ _ _ ⟨_, rfl, rfl, rfl⟩))
      exact run_ret hC (rs := [.tmp 2]) rfl (resT rfl resN) (fun _ h => h) ⟨by rw [digN_zero]; rfl, rfl, rfl⟩
    have h0 : v ≠ 0 := by simp at h; omega
    have hlen := digN_len (v := v / 256) (by omega)
    refine run_skip ?_
    refine run_seq ?_
    refine prn_start mixed ?_
    iterate 1 (first | refine prn_q rfl (qt_pev tok rfl) (by decide +kernel) rfl rfl rfl ?_ | refine prn_gK rfl rfl rfl (qt_pev tok rfl) (by decide +kernel) rfl rfl rfl ?_ | refine prn_gF rfl rfl rfl (by decide +kernel) rfl rfl rfl ?_ | refine prn_g rfl rfl rfl (qt_pev tok rfl) (by decide +kernel) rfl rfl rfl rfl rfl ?_ | refine prn_q rfl (ql tok rfl) (by decide +kernel) rfl rfl rfl ?_ | refine prn_gK rfl rfl rfl (ql tok rfl) (by decide +kernel) rfl rfl rfl ?_ | refine prn_gF rfl rfl rfl (by decide +kernel) rfl rfl rfl ?_ | refine prn_g rfl rfl rfl (ql tok rfl) (by decide +kernel) rfl rfl rfl rfl rfl ?_ | (refine prn_e0 rfl (sst tok rfl rfl rfl rfl rfl) (by decide +kernel) ?_; rintro _ _ _ ⟨rfl, rfl, rfl⟩) | ((first | refine pe rfl (st_box rfl) ?_ | refine pe rfl (st_alloc tok rfl) ?_ | refine pe rfl (st_buildSlice tok rfl rfl rfl rfl rfl rfl rfl) ?_); rintro _ _ _ ⟨_, rfl, rfl, rfl⟩) | (refine prn_o0 rfl (sst tok rfl rfl rfl rfl rfl) (by decide +kernel) ?_; rintro _ _ _ ⟨rfl, rfl, rfl⟩; refine ⟨by (repeat (first | exact trivial | refine And.intro (pend_q rfl rfl rfl (qt_pev tok rfl)) ?_ | refine And.intro (pend_q rfl rfl rfl (ql tok rfl)) ?_)), ?_⟩) | ((first | refine po rfl (st_box rfl) ?_ | refine po rfl (st_alloc tok rfl) ?_ | refine po rfl (st_buildSlice tok rfl rfl rfl rfl rfl rfl rfl) ?_); rintro _ _ _ ⟨_, rfl, rfl, rfl⟩; refine ⟨by (repeat (first | exact trivial | refine And.intro (pend_q rfl rfl rfl (qt_pev tok rfl)) ?_ | refine And.intro (pend_q rfl rfl rfl (ql tok rfl)) ?_)), ?_⟩) | (refine pe rfl (qt_pev tok rfl) ?_; rintro _ _ _ ⟨rfl, rfl, rfl⟩))
    have e6 : Value.int .u64 (IntKind.u64.wrap ((v : Int).tdiv 256)) = .int .u64 ((v / 256 : Nat) : Int) := by rw [Int.tdiv_eq_ediv_of_nonneg (by omega), show (v : Int) / 256 = ((v / 256 : Nat) : Int) by omega, u64_nat (by omega)]
    have hd : digN v = digN (v / 256) ++ bytesI [((v % 256 : Nat) : Int)] := by rw [digN, if_neg h0]
    refine prn_q rfl ((qt_quo rfl rfl (fun _ => by decide)).as e6) (by decide +kernel) rfl rfl rfl ?_
    refine prn_q rfl (qt_callF rfl (fun _ => ih (v / 256) (by omega) (by omega) _)) (by decide +kernel) rfl rfl rfl ?_
    iterate 1 (first | refine prn_q rfl (qt_pev tok rfl) (by decide +kernel) rfl rfl rfl ?_ | refine prn_gK rfl rfl rfl (qt_pev tok rfl) (by decide +kernel) rfl rfl rfl ?_ | refine prn_gF rfl rfl rfl (by decide +kernel) rfl rfl rfl ?_ | refine prn_g rfl rfl rfl (qt_pev tok rfl) (by decide +kernel) rfl rfl rfl rfl rfl ?_ | refine prn_q rfl (ql tok rfl) (by decide +kernel) rfl rfl rfl ?_ | refine prn_gK rfl rfl rfl (ql tok rfl) (by decide +kernel) rfl rfl rfl ?_ | refine prn_gF rfl rfl rfl (by decide +kernel) rfl rfl rfl ?_ | refine prn_g rfl rfl rfl (ql tok rfl) (by decide +kernel) rfl rfl rfl rfl rfl ?_ | (refine prn_e0 rfl (sst tok rfl rfl rfl rfl rfl) (by decide +kernel) ?_; rintro _ _ _ ⟨rfl, rfl, rfl⟩) | ((first | refine pe rfl (st_box rfl) ?_ | refine pe rfl (st_alloc tok rfl) ?_ | refine pe rfl (st_buildSlice tok rfl rfl rfl rfl rfl rfl rfl) ?_); rintro _ _ _ ⟨_, rfl, rfl, rfl⟩) | (refine prn_o0 rfl (sst tok rfl rfl rfl rfl rfl) (by decide +kernel) ?_; rintro _ _ _ ⟨rfl, rfl, rfl⟩; refine ⟨by (repeat (first | exact trivial | refine And.intro (pend_q rfl rfl rfl (qt_pev tok rfl)) ?_ | refine And.intro (pend_q rfl rfl rfl (ql tok rfl)) ?_)), ?_⟩) | ((first | refine po rfl (st_box rfl) ?_ | refine po rfl (st_alloc tok rfl) ?_ | refine po rfl (st_buildSlice tok rfl rfl rfl rfl rfl rfl rfl) ?_); rintro _ _ _ ⟨_, rfl, rfl, rfl⟩; refine ⟨by (repeat (first | exact trivial | refine And.intro (pend_q rfl rfl rfl (qt_pev tok rfl)) ?_ | refine And.intro (pend_q rfl rfl rfl (ql tok rfl)) ?_)), ?_⟩) | (refine pe rfl (qt_pev tok rfl) ?_; rintro _ _ _ ⟨rfl, rfl, rfl⟩))
    refine prn_q rfl (qt_rem rfl rfl (fun _ => by decide)) (by decide +kernel) rfl rfl rfl ?_
    refine pr_as 9 (.int .u64 ((v % 256 : Nat) : Int)) rfl (by rw [Int.tmod_eq_emod_of_nonneg (by omega)]; first | rfl | (congr 1; omega)) ?_
    iterate 1 (first | refine prn_q rfl (qt_pev tok rfl) (by decide +kernel) rfl rfl rfl ?_ | refine prn_gK rfl rfl rfl (qt_pev tok rfl) (by decide +kernel) rfl rfl rfl ?_ | refine prn_gF rfl rfl rfl (by decide +kernel) rfl rfl rfl ?_ | refine prn_g rfl rfl rfl (qt_pev tok rfl) (by decide +kernel) rfl rfl rfl rfl rfl ?_ | refine prn_q rfl (ql tok rfl) (by decide +kernel) rfl rfl rfl ?_ | refine prn_gK rfl rfl rfl (ql tok rfl) (by decide +kernel) rfl rfl rfl ?_ | refine prn_gF rfl rfl rfl (by decide +kernel) rfl rfl rfl ?_ | refine prn_g rfl rfl rfl (ql tok rfl) (by decide +kernel) rfl rfl rfl rfl rfl ?_ | (refine prn_e0 rfl (sst tok rfl rfl rfl rfl rfl) (by decide +kernel) ?_; rintro _ _ _ ⟨rfl, rfl, rfl⟩) | ((first | refine pe rfl (st_box rfl) ?_ | refine pe rfl (st_alloc tok rfl) ?_ | refine pe rfl (st_buildSlice tok rfl rfl rfl rfl rfl rfl rfl) ?_); rintro _ _ _ ⟨_, rfl, rfl, rfl⟩) | (refine prn_o0 rfl (sst tok rfl rfl rfl rfl rfl) (by decide +kernel) ?_; rintro _ _ _ ⟨rfl, rfl, rfl⟩; refine ⟨by (repeat (first | exact trivial | refine And.intro (pend_q rfl rfl rfl (qt_pev tok rfl)) ?_ | refine And.intro (pend_q rfl rfl rfl (ql tok rfl)) ?_)), ?_⟩) | ((first | refine po rfl (st_box rfl) ?_ | refine po rfl (st_alloc tok rfl) ?_ | refine po rfl (st_buildSlice tok rfl rfl rfl rfl rfl rfl rfl) ?_); rintro _ _ _ ⟨_, rfl, rfl, rfl⟩; refine ⟨by (repeat (first | exact trivial | refine And.intro (pend_q rfl rfl rfl (qt_pev tok rfl)) ?_ | refine And.intro (pend_q rfl rfl rfl (ql tok rfl)) ?_)), ?_⟩) | (refine pe rfl (qt_pev tok rfl) ?_; rintro _ _ _ ⟨rfl, rfl, rfl⟩))
    refine pr_as 10 (.int .u8 ((v % 256 : Nat) : Int)) rfl (by rw [u8_nat (by omega)]) ?_
    refine prn_o1 rfl (st_buildSlice tok rfl rfl rfl rfl rfl rfl rfl) (by decide +kernel) rfl rfl rfl ?_
    rintro _ _ _ ⟨bs, rfl, rfl, rfl⟩
    refine ⟨by (repeat (first | exact trivial | refine And.intro (pend_q rfl rfl rfl (qt_pev tok rfl)) ?_ | refine And.intro (pend_q rfl rfl rfl (ql tok rfl)) ?_ | refine And.intro (pend_q rfl rfl rfl ((qt_quo rfl rfl (fun _ => by decide)).as e6)) ?_ | refine And.intro (pend_q rfl rfl rfl (qt_callF rfl (fun _ => ih (v / 256) (by omega) (by omega) _))) ?_)), ?_⟩
    refine prn_q rfl (qt_bytesStr tok [((v % 256 : Nat) : Int)] rfl rfl rfl rfl (cellsAll List.mem_cons_self) rfl) (by decide +kernel) rfl rfl rfl ?_
    refine prn_q rfl (qt_concat rfl rfl (by rw [bytesI_one]; omega)) (by decide +kernel) rfl rfl rfl ?_
    repeat (first | with_reducible (first | refine cS ?_ | refine cR ?_ | refine cN ?_ | refine cK ?_ | refine cB ?_ | refine cI ?_) | refine cE rfl ?_ | refine rq (qt_pev tok rfl) ?_ | refine rg rfl rfl (qt_pev tok rfl) ?_ | refine rq (ql tok rfl) ?_ | refine rg rfl rfl (ql tok rfl) ?_ | (refine runL_op0 (sst tok rfl rfl rfl rfl rfl) ?_; rintro _ _ _ ⟨rfl, rfl, rfl⟩) | ((first | refine ro (st_box rfl) ?_ | refine ro (st_alloc tok rfl) ?_ | refine ro (st_buildSlice tok rfl rfl rfl rfl rfl rfl rfl) ?_); rintro _ _ _ ⟨_, rfl, rfl, rfl⟩) | refine prn_start mixed ?_ | refine prn_end (by decide +kernel) ?_ | refine pq rfl (qt_pev tok rfl) ?_ | refine pg rfl rfl rfl (qt_pev tok rfl) ?_ | refine pq rfl (ql tok rfl) ?_ | refine pg rfl rfl rfl (ql tok rfl) ?_ | (refine prn_e0 rfl (sst tok rfl rfl rfl rfl rfl) (by decide +kernel) ?_; rintro _ _ _ ⟨rfl, rfl, rfl⟩) | ((first | refine pe rfl (st_box rfl) ?_ | refine pe rfl (st_alloc tok rfl) ?_ | refine pe rfl (st_buildSlice tok rfl rfl rfl rfl rfl rfl rfl) ?_); rintro _ _ _ ⟨_, rfl, rfl, rfl⟩) | (refine prn_o0 rfl (sst tok rfl rfl rfl rfl rfl) (by decide +kernel) ?_; rintro _ _ _ ⟨rfl, rfl, rfl⟩; refine ⟨by (repeat (first | exact trivial | refine And.intro (pend_q rfl rfl rfl (qt_pev tok rfl)) ?_ | refine And.intro (pend_q rfl rfl rfl (ql tok rfl)) ?_)), ?_⟩) | ((first | refine po rfl (st_box rfl) ?_ | refine po rfl (st_alloc tok rfl) ?_ | refine po rfl (st_buildSlice tok rfl rfl rfl rfl rfl rfl rfl) ?_); rintro _ _ _ ⟨_, rfl, rfl, rfl⟩; refine ⟨by (repeat (first | exact trivial | refine And.intro (pend_q rfl rfl rfl (qt_pev tok rfl)) ?_ | refine And.intro (pend_q rfl rfl rfl (ql tok rfl)) ?_)), ?_⟩) | (refine pe rfl (qt_pev tok rfl) ?_; rintro _ _ _ ⟨rfl, rfl, rfl⟩))
    exact run_ret hC (rs := [.tmp 2]) rfl (resT rfl resN) (fun _ h => h.drop) ⟨by rw [hd]; rfl, rfl, rfl⟩
def numB (v : Nat) : ByteArray := if v < 248 then bytesI [IntKind.u8.wrap (v : Int)] else bytesI [IntKind.u8.wrap (IntKind.i64.wrap (247 + ((digN v).size : Int)))] ++ digN v
set_option maxRecDepth 10000 in
set_option maxHeartbeats 4000000 in
theorem num_ok (M : Mem) (L : HL) (v : Nat) (hv : v < 18446744073709551616) : TrQ Try.prog 53 [.int .u64 (v : Int)] M L (.string (numB v)) := by
  have hlen := digN_len hv
  refine Tr.intro 20 Try.func53 rfl rfl Try.call53 rfl ?_
  intro C hC hro
  repeat (first | with_reducible (first | refine cS ?_ | refine cR ?_ | refine cN ?_ | refine cK ?_ | refine cB ?_ | refine cI ?_) | refine cE rfl ?_ | refine rq (qt_pev tok rfl) ?_ | refine rg rfl rfl (qt_pev tok rfl) ?_ | refine rq (ql tok rfl) ?_ | refine rg rfl rfl (ql tok rfl) ?_ | (refine runL_op0 (sst tok rfl rfl rfl rfl rfl) ?_; rintro _ _ _ ⟨rfl, rfl, rfl⟩) | ((first | refine ro (st_box rfl) ?_ | refine ro (st_alloc tok rfl) ?_ | refine ro (st_buildSlice tok rfl rfl rfl rfl rfl rfl rfl) ?_); rintro _ _ _ ⟨_, rfl, rfl, rfl⟩))
  refine run_cond rfl (fun h => ?_) (fun h => ?_)
  · have h0 : v < 248 := by simp at h; omega
    repeat (first | with_reducible (first | refine cS ?_ | refine cR ?_ | refine cN ?_ | refine cK ?_ | refine cB ?_ | refine cI ?_) | refine cE rfl ?_ | refine rq (qt_pev tok rfl) ?_ | refine rg rfl rfl (qt_pev tok rfl) ?_ | refine rq (ql tok rfl) ?_ | refine rg rfl rfl (ql tok rfl) ?_ | (refine runL_op0 (sst tok rfl rfl rfl rfl rfl) ?_; rintro _ _ _ ⟨rfl, rfl, rfl⟩) | ((first | refine ro (st_box rfl) ?_ | refine ro (st_alloc tok rfl) ?_ | refine ro (st_buildSlice tok rfl rfl rfl rfl rfl rfl rfl) ?_); rintro _ _ _ ⟨_, rfl, rfl, rfl⟩) | refine runL_q (qt_bytesStr tok [IntKind.u8.wrap (v : Int)] rfl rfl rfl rfl (cellsAll List.mem_cons_self) rfl) rfl rfl rfl ?_)
    exact run_ret hC (rs := [.tmp 2]) rfl (resT rfl resN) (fun _ h => h.drop) ⟨by rw [numB, if_pos h0]; rfl, rfl, rfl⟩
  · have h0 : ¬ v < 248 := by simp at h; omega
    repeat (first | with_reducible (first | refine cS ?_ | refine cR ?_ | refine cN ?_ | refine cK ?_ | refine cB ?_ | refine cI ?_) | refine cE rfl ?_ | refine rq (qt_pev tok rfl) ?_ | refine rg rfl rfl (qt_pev tok rfl) ?_ | refine rq (ql tok rfl) ?_ | refine rg rfl rfl (ql tok rfl) ?_ | (refine runL_op0 (sst tok rfl rfl rfl rfl rfl) ?_; rintro _ _ _ ⟨rfl, rfl, rfl⟩) | ((first | refine ro (st_box rfl) ?_ | refine ro (st_alloc tok rfl) ?_ | refine ro (st_buildSlice tok rfl rfl rfl rfl rfl rfl rfl) ?_); rintro _ _ _ ⟨_, rfl, rfl, rfl⟩) | refine runL_q (qt_callF rfl (fun _ => digits_ok _ v hv _)) rfl rfl rfl ?_ | refine runL_q (qt_bytesStr tok [IntKind.u8.wrap (IntKind.i64.wrap (247 + ((digN v).size : Int)))] rfl rfl rfl rfl (cellsAll List.mem_cons_self) rfl) rfl rfl rfl ?_ | refine runL_q (qt_concat rfl rfl (by rw [bytesI_one]; omega)) rfl rfl rfl ?_)
    exact run_ret hC (rs := [.tmp 2]) rfl (resT rfl resN) (fun _ h => h.drop) ⟨by rw [numB, if_neg h0]; rfl, rfl, rfl⟩
/-- what is put as more than a byte has no zero ahead -/
theorem numB_of {v n : Nat} {s : ByteArray} (h : numB v = s.extract 0 n) (hn : 2 ≤ n) (hs : n ≤ s.size) : 247 < v ∧ byte s 1 ≠ 0 := by
  have hsz := congrArg ByteArray.size h
  have hz : (s.extract 0 n).size = n := by simp; omega
  rw [hz] at hsz
  by_cases h0 : v < 248
  · rw [numB, if_pos h0, bytesI_one] at hsz
    omega
  · refine ⟨by omega, ?_⟩
    obtain ⟨b, hb, hb0⟩ := digN_first v (by omega)
    have hd : 0 < (digN v).size := by
      apply Classical.byContradiction
      intro hn
      rw [getElem?_neg (digN v) 0 hn] at hb
      cases hb
    rw [getElem?_pos (digN v) 0 hd, Option.some.injEq] at hb
    have h1 : (s.extract 0 n)[1]? = some b := by
      rw [← h, numB, if_neg h0, getElem?_pos (_ ++ digN v) 1 (by rw [app_size, bytesI_one]; omega), ByteArray.getElem_append_right (by rw [bytesI_one]; exact Nat.le_refl _)]
      simp only [bytesI_one, Nat.sub_self]
      rw [hb]
    have h2 : s[1]? = some b := by
      rw [getElem?_pos (s.extract 0 n) 1 (by omega)] at h1
      rw [getElem?_pos s 1 (by omega)]
      rw [← h1, ByteArray.getElem_extract]
    rw [byte, h2]
    intro e
    apply hb0
    have : b.toNat = 0 := by simpa using e
    exact UInt8.toNat_inj.1 this
end Go.Proofs.Ytbpgiodfccijmaa
namespace Go.Proofs.Ytbpgiodfccijmaa
open Go.Chi

/-! ### the document's reading of numbers and texts -/
def refV (s : ByteArray) : Nat → Int
  | 0 => 0
  | i + 1 => IntKind.u64.wrap (IntKind.u64.wrap (refV s i * 256) + IntKind.u64.wrap (byte s (i + 1)))
theorem u64_wrap (x : Int) : IntKind.u64.wrap x = x % 18446744073709551616 := by
  simp only [IntKind.wrap, IntKind.signed, IntKind.bits]
  simp
theorem or_add (x b : Int) (hb0 : 0 ≤ b) (hb : b < 256) : ior .u64 (ishl .u64 x 8) b = IntKind.u64.wrap (IntKind.u64.wrap (x * 256) + b) := by
  have e1 : ishl .u64 x 8 = IntKind.u64.wrap (x * 256) := by simp [ishl, IntKind.bits]
  rw [e1, u64_wrap (x * 256)]
  obtain ⟨q, hq⟩ : ∃ q : Nat, (x * 256) % 18446744073709551616 = ((2 ^ 8 * q : Nat) : Int) := ⟨(x % 72057594037927936).toNat, by omega⟩
  have hlt : (2 ^ 8 * q : Nat) < 18446744073709551616 := by omega
  obtain ⟨c, rfl⟩ : ∃ c : Nat, b = c := ⟨b.toNat, by omega⟩
  rw [hq, ior]
  congr 1
  have ho := Nat.two_pow_add_eq_or_of_lt (i := 8) (b := c) (by omega) q
  have h1 : (BitVec.ofInt 64 ((2 ^ 8 * q : Nat) : Int)).toNat = 2 ^ 8 * q := by
    rw [BitVec.toNat_ofInt]; omega
  have h2 : (BitVec.ofInt 64 (c : Int)).toNat = c := by
    rw [BitVec.toNat_ofInt]; omega
  show (((BitVec.ofInt 64 ((2 ^ 8 * q : Nat) : Int) ||| BitVec.ofInt 64 (c : Int)).toNat : Nat) : Int) = _
  rw [BitVec.toNat_or, h1, h2, ← ho]
  omega
theorem byte_rest (s : ByteArray) (i : Nat) : byte (rest1 s) i = byte s (i + 1) := by
  unfold byte rest1
  by_cases h : i + 1 < s.size
  · rw [getElem?_pos s _ h, getElem?_pos _ _ (by simp; omega), ByteArray.getElem_extract]
    simp [Nat.add_comm]
  · rw [getElem?_neg s _ h, getElem?_neg _ _ (by simp; omega)]
theorem refV_eq (s : ByteArray) : ∀ i, refV s i = numV (rest1 s) i
  | 0 => rfl
  | i + 1 => by
    have hb := byte_pos s (i + 1)
    have hw : IntKind.u64.wrap (byte s (i + 1)) = byte s (i + 1) := by rw [u64_wrap]; omega
    rw [refV, numV, byte_rest, hw, or_add _ _ hb.1 hb.2, refV_eq s i]
theorem refV_pos (s : ByteArray) (i : Nat) : 0 ≤ refV s i ∧ refV s i < 18446744073709551616 := by
  cases i with
  | zero => exact ⟨Int.le_refl _, show (0 : Int) < 18446744073709551616 by decide⟩
  | succ i => exact u64_pos .u64 rfl _
def refK (s : ByteArray) : Nat := (byte s 0 - 247).toNat
def refNum (s : ByteArray) : Int × Int × Int :=
  if s.size = 0 then (0, 0, 6) else
  if byte s 0 < 248 then (byte s 0, 1, 0) else
  if s.size < refK s + 1 then (0, 0, 6) else
  if numB (refV s (refK s)).toNat ≠ s.extract 0 (refK s + 1) then (0, 0, 7) else (refV s (refK s), ((refK s + 1 : Nat) : Int), 0)
theorem refNum_imp {s : ByteArray} (h : (refNum s).2.2 = 0) : numR s = refNum s := by
  have hb := byte_pos s 0
  unfold refNum at h ⊢
  split at h
  · cases h
  rename_i h0
  rw [if_neg h0]
  split at h
  · rename_i h1
    rw [numR, if_neg h0, if_pos (by omega), if_pos h1]
  rename_i h1
  rw [if_neg h1]
  split at h
  · cases h
  rename_i h2
  rw [if_neg h2]
  split at h
  · cases h
  rename_i h3
  rw [if_neg h3]
  have h3' : numB (refV s (refK s)).toNat = s.extract 0 (refK s + 1) := by simpa using h3
  have hk : (refK s : Int) = byte s 0 - 247 := by unfold refK; omega
  obtain ⟨h4, h5⟩ := numB_of h3' (by omega) (by omega)
  have hr := rest1_size (s := s)
  rw [numR, if_neg h0, if_neg (by omega), if_neg (by omega)]
  have hv := refV_eq s (refK s)
  have hz : (byte s 0 - 247).toNat = refK s := rfl
  rw [hz, ← hv, if_neg (by
    rintro (h6 | h6)
    · rw [byte_rest] at h6; exact h5 h6
    · omega)]
  congr 2
  omega
set_option maxRecDepth 10000 in
set_option maxHeartbeats 8000000 in
theorem refNum_ok (M : Mem) (L : HL) (s : ByteArray) : TrQ Try.prog 61 [.string s] M L (.tuple ⟨[.int .u64 (refNum s).1, .int .i64 (refNum s).2.1, .int .i64 (refNum s).2.2]⟩) := by
  refine Tr.intro 45 Try.func61 rfl rfl Try.call61 rfl ?_
  intro C hC hro
  repeat (first | with_reducible (first | refine cS ?_ | refine cR ?_ | refine cN ?_ | refine cK ?_ | refine cB ?_ | refine cI ?_) | refine cE rfl ?_ | refine rq (qt_pev tok rfl) ?_ | refine rg rfl rfl (qt_pev tok rfl) ?_ | refine rq (ql tok rfl) ?_ | refine rg rfl rfl (ql tok rfl) ?_ | (refine runL_op0 (sst tok rfl rfl rfl rfl rfl) ?_; rintro _ _ _ ⟨rfl, rfl, rfl⟩) | ((first | refine ro (st_box rfl) ?_ | refine ro (st_alloc tok rfl) ?_ | refine ro (st_buildSlice tok rfl rfl rfl rfl rfl rfl rfl) ?_); rintro _ _ _ ⟨_, rfl, rfl, rfl⟩))
  refine run_cond rfl (fun h => ?_) (fun h => ?_)
  · repeat (first | with_reducible (first | refine cS ?_ | refine cR ?_ | refine cN ?_ | refine cK ?_ | refine cB ?_ | refine cI ?_) | refine cE rfl ?_ | refine rq (qt_pev tok rfl) ?_ | refine rg rfl rfl (qt_pev tok rfl) ?_ | refine rq (ql tok rfl) ?_ | refine rg rfl rfl (ql tok rfl) ?_ | (refine runL_op0 (sst tok rfl rfl rfl rfl rfl) ?_; rintro _ _ _ ⟨rfl, rfl, rfl⟩) | ((first | refine ro (st_box rfl) ?_ | refine ro (st_alloc tok rfl) ?_ | refine ro (st_buildSlice tok rfl rfl rfl rfl rfl rfl rfl) ?_); rintro _ _ _ ⟨_, rfl, rfl, rfl⟩))
    exact run_ret hC (rs := [.tmp 2, .tmp 3, .tmp 4]) rfl (resT rfl (resT rfl (resT rfl resN))) (fun _ h => h) ⟨by rw [empty_beq, decide_eq_true_eq] at h; rw [refNum, if_pos h]; rfl, rfl, rfl⟩
  rw [empty_beq, decide_eq_false_iff_not] at h
  have hs : 0 < s.size := by omega
  obtain ⟨b0, hb0, hb0'⟩ := byte_at hs
  repeat (first | with_reducible (first | refine cS ?_ | refine cR ?_ | refine cN ?_ | refine cK ?_ | refine cB ?_ | refine cI ?_) | refine cE rfl ?_ | refine rq (qt_pev tok rfl) ?_ | refine rg rfl rfl (qt_pev tok rfl) ?_ | refine rq (ql tok rfl) ?_ | refine rg rfl rfl (ql tok rfl) ?_ | (refine runL_op0 (sst tok rfl rfl rfl rfl rfl) ?_; rintro _ _ _ ⟨rfl, rfl, rfl⟩) | ((first | refine ro (st_box rfl) ?_ | refine ro (st_alloc tok rfl) ?_ | refine ro (st_buildSlice tok rfl rfl rfl rfl rfl rfl rfl) ?_); rintro _ _ _ ⟨_, rfl, rfl, rfl⟩) | refine runL_q (qt_strIndex (n := 0) tok rfl rfl rfl (fun _ => hb0)) rfl rfl rfl ?_)
  refine run_cond rfl (fun h1 => ?_) (fun h1 => ?_)
  · have h2 : byte s 0 < 248 := by rw [hb0']; simpa using h1
    repeat (first | with_reducible (first | refine cS ?_ | refine cR ?_ | refine cN ?_ | refine cK ?_ | refine cB ?_ | refine cI ?_) | refine cE rfl ?_ | refine rq (qt_pev tok rfl) ?_ | refine rg rfl rfl (qt_pev tok rfl) ?_ | refine rq (ql tok rfl) ?_ | refine rg rfl rfl (ql tok rfl) ?_ | (refine runL_op0 (sst tok rfl rfl rfl rfl rfl) ?_; rintro _ _ _ ⟨rfl, rfl, rfl⟩) | ((first | refine ro (st_box rfl) ?_ | refine ro (st_alloc tok rfl) ?_ | refine ro (st_buildSlice tok rfl rfl rfl rfl rfl rfl rfl) ?_); rintro _ _ _ ⟨_, rfl, rfl, rfl⟩) | refine runL_q (qt_strIndex (n := 0) tok rfl rfl rfl (fun _ => hb0)) rfl rfl rfl ?_)
    refine run_ret hC (rs := [.tmp 2, .tmp 3, .tmp 4]) rfl (resT rfl (resT rfl (resT rfl resN))) (fun _ h => h) ⟨?_, rfl, rfl⟩
    rw [refNum, if_neg h, if_pos h2, hb0', u64_byte]
    rfl
  have h2 : ¬ byte s 0 < 248 := by rw [hb0']; simpa using h1
  have hlt := b0.toNat_lt
  obtain ⟨k, hk⟩ : ∃ k : Nat, k = b0.toNat - 247 := ⟨_, rfl⟩
  have hk1 : refK s = k := by unfold refK; rw [hb0']; omega
  have hkv : IntKind.i64.wrap (IntKind.i64.wrap (1 + IntKind.i64.wrap (b0.toNat : Int)) - 247) = ((k + 1 : Nat) : Int) := by
    rw [wrap64_nat (by omega), show (1 : Int) + (b0.toNat : Int) = ((1 + b0.toNat : Nat) : Int) by omega, wrap64_nat (by omega), show ((1 + b0.toNat : Nat) : Int) - 247 = ((k + 1 : Nat) : Int) by omega, wrap64_nat (by omega)]
  repeat (first | with_reducible (first | refine cS ?_ | refine cR ?_ | refine cN ?_ | refine cK ?_ | refine cB ?_ | refine cI ?_) | refine cE rfl ?_ | refine rq (qt_pev tok rfl) ?_ | refine rg rfl rfl (qt_pev tok rfl) ?_ | refine rq (ql tok rfl) ?_ | refine rg rfl rfl (ql tok rfl) ?_ | (refine runL_op0 (sst tok rfl rfl rfl rfl rfl) ?_; rintro _ _ _ ⟨rfl, rfl, rfl⟩) | ((first | refine ro (st_box rfl) ?_ | refine ro (st_alloc tok rfl) ?_ | refine ro (st_buildSlice tok rfl rfl rfl rfl rfl rfl rfl) ?_); rintro _ _ _ ⟨_, rfl, rfl, rfl⟩) | refine runL_q (qt_strIndex (n := 0) tok rfl rfl rfl (fun _ => hb0)) rfl rfl rfl ?_)
  refine run_cond rfl (fun h3 => ?_) (fun h3 => ?_)
  · rw [hkv] at h3
    have h4 : s.size < refK s + 1 := by rw [hk1]; simp at h3; omega
    repeat (first | with_reducible (first | refine cS ?_ | refine cR ?_ | refine cN ?_ | refine cK ?_ | refine cB ?_ | refine cI ?_) | refine cE rfl ?_ | refine rq (qt_pev tok rfl) ?_ | refine rg rfl rfl (qt_pev tok rfl) ?_ | refine rq (ql tok rfl) ?_ | refine rg rfl rfl (ql tok rfl) ?_ | (refine runL_op0 (sst tok rfl rfl rfl rfl rfl) ?_; rintro _ _ _ ⟨rfl, rfl, rfl⟩) | ((first | refine ro (st_box rfl) ?_ | refine ro (st_alloc tok rfl) ?_ | refine ro (st_buildSlice tok rfl rfl rfl rfl rfl rfl rfl) ?_); rintro _ _ _ ⟨_, rfl, rfl, rfl⟩))
    refine run_ret hC (rs := [.tmp 2, .tmp 3, .tmp 4]) rfl (resT rfl (resT rfl (resT rfl resN))) (fun _ h => h) ⟨?_, rfl, rfl⟩
    rw [refNum, if_neg h, if_neg h2, if_pos h4]
    rfl
  rw [hkv] at h3
  have h4 : ¬ s.size < refK s + 1 := by rw [hk1]; simp at h3; omega
  rw [hk1] at h4
  refine run_as 5 (.int .i64 ((k + 1 : Nat) : Int)) rfl (by rw [hkv]) ?_
  repeat (first | with_reducible (first | refine cS ?_ | refine cR ?_ | refine cN ?_ | refine cK ?_ | refine cB ?_ | refine cI ?_) | refine cE rfl ?_ | refine rq (qt_pev tok rfl) ?_ | refine rg rfl rfl (qt_pev tok rfl) ?_ | refine rq (ql tok rfl) ?_ | refine rg rfl rfl (ql tok rfl) ?_ | (refine runL_op0 (sst tok rfl rfl rfl rfl rfl) ?_; rintro _ _ _ ⟨rfl, rfl, rfl⟩) | ((first | refine ro (st_box rfl) ?_ | refine ro (st_alloc tok rfl) ?_ | refine ro (st_buildSlice tok rfl rfl rfl rfl rfl rfl rfl) ?_); rintro _ _ _ ⟨_, rfl, rfl, rfl⟩))
  refine run_loopN (fun i σ1 M1 L1 => i ≤ k ∧ σ1 = [(7, .int .i64 ((i + 1 : Nat) : Int)), (6, .int .u64 (refV s i)), (5, .int .i64 ((k + 1 : Nat) : Int)), (0, .string s)] ∧ M = M1 ∧ L = L1) k [(7, .int .i64 ((0 + 1 : Nat) : Int)), (6, .int .u64 0), (5, .int .i64 ((k + 1 : Nat) : Int)), (0, .string s)] ?_ ⟨Nat.zero_le _, rfl, rfl, rfl⟩ (fun j _ _ _ h => h.1) ?_
  · exact ⟨rfl, rfl, rfl, rfl, trivial⟩
  rintro i _ _ _ ⟨hi, rfl, rfl, rfl⟩ hnext
  repeat (first | with_reducible (first | refine cS ?_ | refine cR ?_ | refine cN ?_ | refine cK ?_ | refine cB ?_ | refine cI ?_) | refine cE rfl ?_ | refine rq (qt_pev tok rfl) ?_ | refine rg rfl rfl (qt_pev tok rfl) ?_ | refine rq (ql tok rfl) ?_ | refine rg rfl rfl (ql tok rfl) ?_ | (refine runL_op0 (sst tok rfl rfl rfl rfl rfl) ?_; rintro _ _ _ ⟨rfl, rfl, rfl⟩) | ((first | refine ro (st_box rfl) ?_ | refine ro (st_alloc tok rfl) ?_ | refine ro (st_buildSlice tok rfl rfl rfl rfl rfl rfl rfl) ?_); rintro _ _ _ ⟨_, rfl, rfl, rfl⟩))
  refine run_cond rfl (fun h5 => ?_) (fun h5 => ?_)
  · have hik : i < k := by simp at h5; omega
    obtain ⟨b, hb, hb'⟩ := byte_at (s := s) (i := i + 1) (by omega)
    repeat (first | with_reducible (first | refine cS ?_ | refine cR ?_ | refine cN ?_ | refine cK ?_ | refine cB ?_ | refine cI ?_) | refine cE rfl ?_ | refine rq (qt_pev tok rfl) ?_ | refine rg rfl rfl (qt_pev tok rfl) ?_ | refine rq (ql tok rfl) ?_ | refine rg rfl rfl (ql tok rfl) ?_ | (refine runL_op0 (sst tok rfl rfl rfl rfl rfl) ?_; rintro _ _ _ ⟨rfl, rfl, rfl⟩) | ((first | refine ro (st_box rfl) ?_ | refine ro (st_alloc tok rfl) ?_ | refine ro (st_buildSlice tok rfl rfl rfl rfl rfl rfl rfl) ?_); rintro _ _ _ ⟨_, rfl, rfl, rfl⟩) | refine runL_q (qt_strIndex (n := i + 1) tok rfl rfl rfl (fun _ => hb)) rfl rfl rfl ?_)
    exact run_sub' (hnext _ _ _ ⟨hik, rfl, rfl, rfl⟩) ⟨lk_succ rfl (by omega), by rw [refV, hb']; rfl, rfl, rfl, trivial⟩
  · have hik : i = k := by simp at h5; omega
    subst hik
    have hvp := refV_pos s i
    obtain ⟨v, hv⟩ : ∃ v : Nat, refV s i = v := ⟨(refV s i).toNat, by omega⟩
    refine run_as 6 (.int .u64 (v : Int)) rfl (by rw [hv]) ?_
    repeat (first | with_reducible (first | refine cS ?_ | refine cR ?_ | refine cN ?_ | refine cK ?_ | refine cB ?_ | refine cI ?_) | refine cE rfl ?_ | refine rq (qt_pev tok rfl) ?_ | refine rg rfl rfl (qt_pev tok rfl) ?_ | refine rq (ql tok rfl) ?_ | refine rg rfl rfl (ql tok rfl) ?_ | (refine runL_op0 (sst tok rfl rfl rfl rfl rfl) ?_; rintro _ _ _ ⟨rfl, rfl, rfl⟩) | ((first | refine ro (st_box rfl) ?_ | refine ro (st_alloc tok rfl) ?_ | refine ro (st_buildSlice tok rfl rfl rfl rfl rfl rfl rfl) ?_); rintro _ _ _ ⟨_, rfl, rfl, rfl⟩) | refine prn_start mixed ?_ | refine prn_end (by decide +kernel) ?_ | refine pq rfl (qt_pev tok rfl) ?_ | refine pg rfl rfl rfl (qt_pev tok rfl) ?_ | refine pq rfl (ql tok rfl) ?_ | refine pg rfl rfl rfl (ql tok rfl) ?_ | (refine prn_e0 rfl (sst tok rfl rfl rfl rfl rfl) (by decide +kernel) ?_; rintro _ _ _ ⟨rfl, rfl, rfl⟩) | ((first | refine pe rfl (st_box rfl) ?_ | refine pe rfl (st_alloc tok rfl) ?_ | refine pe rfl (st_buildSlice tok rfl rfl rfl rfl rfl rfl rfl) ?_); rintro _ _ _ ⟨_, rfl, rfl, rfl⟩) | (refine prn_o0 rfl (sst tok rfl rfl rfl rfl rfl) (by decide +kernel) ?_; rintro _ _ _ ⟨rfl, rfl, rfl⟩; refine ⟨by (repeat (first | exact trivial | refine And.intro (pend_q rfl rfl rfl (qt_pev tok rfl)) ?_ | refine And.intro (pend_q rfl rfl rfl (ql tok rfl)) ?_)), ?_⟩) | ((first | refine po rfl (st_box rfl) ?_ | refine po rfl (st_alloc tok rfl) ?_ | refine po rfl (st_buildSlice tok rfl rfl rfl rfl rfl rfl rfl) ?_); rintro _ _ _ ⟨_, rfl, rfl, rfl⟩; refine ⟨by (repeat (first | exact trivial | refine And.intro (pend_q rfl rfl rfl (qt_pev tok rfl)) ?_ | refine And.intro (pend_q rfl rfl rfl (ql tok rfl)) ?_)), ?_⟩) | (refine pe rfl (qt_pev tok rfl) ?_; rintro _ _ _ ⟨rfl, rfl, rfl⟩) | refine prn_q rfl (qt_callF rfl (fun _ => num_ok _ _ v (by omega))) (by decide +kernel) rfl rfl rfl ?_ | refine prn_q rfl (qt_strHi (n := i + 1) tok rfl rfl rfl (fun _ => by omega)) (by decide +kernel) rfl rfl rfl ?_)
    refine run_cond rfl (fun h6 => ?_) (fun h6 => ?_)
    · repeat (first | with_reducible (first | refine cS ?_ | refine cR ?_ | refine cN ?_ | refine cK ?_ | refine cB ?_ | refine cI ?_) | refine cE rfl ?_ | refine rq (qt_pev tok rfl) ?_ | refine rg rfl rfl (qt_pev tok rfl) ?_ | refine rq (ql tok rfl) ?_ | refine rg rfl rfl (ql tok rfl) ?_ | (refine runL_op0 (sst tok rfl rfl rfl rfl rfl) ?_; rintro _ _ _ ⟨rfl, rfl, rfl⟩) | ((first | refine ro (st_box rfl) ?_ | refine ro (st_alloc tok rfl) ?_ | refine ro (st_buildSlice tok rfl rfl rfl rfl rfl rfl rfl) ?_); rintro _ _ _ ⟨_, rfl, rfl, rfl⟩))
      refine run_ret hC (rs := [.tmp 2, .tmp 3, .tmp 4]) rfl (resT rfl (resT rfl (resT rfl resN))) (fun _ h => h) ⟨?_, rfl, rfl⟩
      have h7 : numB (refV s (refK s)).toNat ≠ s.extract 0 (refK s + 1) := by rw [hk1, hv, Int.toNat_natCast]; rw [bytes_beq] at h6; simpa using h6
      rw [refNum, if_neg h, if_neg h2, if_neg (by rw [hk1]; exact h4), if_pos h7]
      rfl
    · repeat (first | with_reducible (first | refine cS ?_ | refine cR ?_ | refine cN ?_ | refine cK ?_ | refine cB ?_ | refine cI ?_) | refine cE rfl ?_ | refine rq (qt_pev tok rfl) ?_ | refine rg rfl rfl (qt_pev tok rfl) ?_ | refine rq (ql tok rfl) ?_ | refine rg rfl rfl (ql tok rfl) ?_ | (refine runL_op0 (sst tok rfl rfl rfl rfl rfl) ?_; rintro _ _ _ ⟨rfl, rfl, rfl⟩) | ((first | refine ro (st_box rfl) ?_ | refine ro (st_alloc tok rfl) ?_ | refine ro (st_buildSlice tok rfl rfl rfl rfl rfl rfl rfl) ?_); rintro _ _ _ ⟨_, rfl, rfl, rfl⟩))
      refine run_ret hC (rs := [.tmp 2, .tmp 3, .tmp 4]) rfl (resT rfl (resT rfl (resT rfl resN))) (fun _ h => h) ⟨?_, rfl, rfl⟩
      have h7 : ¬ numB (refV s (refK s)).toNat ≠ s.extract 0 (refK s + 1) := by rw [hk1, hv, Int.toNat_natCast]; rw [bytes_beq] at h6; simpa using h6
      rw [refNum, if_neg h, if_neg h2, if_neg (by rw [hk1]; exact h4), if_neg h7, hk1, hv]
      rfl
def refText (s : ByteArray) (most : Nat) : ByteArray × Int × Int :=
  if (refNum s).2.2 ≠ 0 then (⟨#[]⟩, 0, (refNum s).2.2) else
  if (most : Int) < (refNum s).1 then (⟨#[]⟩, 0, 5) else
  if (s.size : Int) - (refNum s).2.1 < (refNum s).1 then (⟨#[]⟩, 0, 6) else
  (s.extract (refNum s).2.1.toNat ((refNum s).2.1 + (refNum s).1).toNat, (refNum s).2.1 + (refNum s).1, 0)
theorem refText_imp {s : ByteArray} {most : Nat} (h : (refText s most).2.2 = 0) : textR s most = refText s most := by
  have h0 : (refNum s).2.2 = 0 := by
    apply Classical.byContradiction
    intro h0
    rw [refText, if_pos h0] at h
    exact h0 h
  rw [textR, refNum_imp h0, refText]
set_option maxRecDepth 10000 in
set_option maxHeartbeats 8000000 in
theorem refText_ok (M : Mem) (L : HL) (s : ByteArray) (most : Nat) (hs : s.size < 4611686018427387904) (hm : most < 4611686018427387904) : TrQ Try.prog 62 [.string s, .int .i64 (most : Int)] M L (.tuple ⟨[.string (refText s most).1, .int .i64 (refText s most).2.1, .int .i64 (refText s most).2.2]⟩) := by
  refine Tr.intro 53 Try.func62 rfl rfl Try.call62 rfl ?_
  intro C hC hro
  repeat (first | with_reducible (first | refine cS ?_ | refine cR ?_ | refine cN ?_ | refine cK ?_ | refine cB ?_ | refine cI ?_) | refine cE rfl ?_ | refine rq (qt_pev tok rfl) ?_ | refine rg rfl rfl (qt_pev tok rfl) ?_ | refine rq (ql tok rfl) ?_ | refine rg rfl rfl (ql tok rfl) ?_ | (refine runL_op0 (sst tok rfl rfl rfl rfl rfl) ?_; rintro _ _ _ ⟨rfl, rfl, rfl⟩) | ((first | refine ro (st_box rfl) ?_ | refine ro (st_alloc tok rfl) ?_ | refine ro (st_buildSlice tok rfl rfl rfl rfl rfl rfl rfl) ?_); rintro _ _ _ ⟨_, rfl, rfl, rfl⟩) | refine runL_q (qt_callF rfl (fun _ => refNum_ok _ _ s)) rfl rfl rfl ?_)
  refine run_cond rfl (fun h => ?_) (fun h => ?_)
  · have h0 : (refNum s).2.2 ≠ 0 := by simpa using h
    repeat (first | with_reducible (first | refine cS ?_ | refine cR ?_ | refine cN ?_ | refine cK ?_ | refine cB ?_ | refine cI ?_) | refine cE rfl ?_ | refine rq (qt_pev tok rfl) ?_ | refine rg rfl rfl (qt_pev tok rfl) ?_ | refine rq (ql tok rfl) ?_ | refine rg rfl rfl (ql tok rfl) ?_ | (refine runL_op0 (sst tok rfl rfl rfl rfl rfl) ?_; rintro _ _ _ ⟨rfl, rfl, rfl⟩) | ((first | refine ro (st_box rfl) ?_ | refine ro (st_alloc tok rfl) ?_ | refine ro (st_buildSlice tok rfl rfl rfl rfl rfl rfl rfl) ?_); rintro _ _ _ ⟨_, rfl, rfl, rfl⟩))
    exact run_ret hC (rs := [.tmp 4, .tmp 5, .tmp 6]) rfl (resT rfl (resT rfl (resT rfl resN))) (fun _ h => h) ⟨by rw [refText, if_pos h0]; rfl, rfl, rfl⟩
  have h0 : (refNum s).2.2 = 0 := by simpa using h
  have himp := refNum_imp h0
  obtain ⟨n, hn, hn1, hn2⟩ := numR_len s (by rw [himp]; exact h0)
  have hv0 := numR_pos s
  rw [himp] at hn hv0
  have e1 : IntKind.u64.wrap (most : Int) = (most : Int) := u64_nat (by omega)
  repeat (first | with_reducible (first | refine cS ?_ | refine cR ?_ | refine cN ?_ | refine cK ?_ | refine cB ?_ | refine cI ?_) | refine cE rfl ?_ | refine rq (qt_pev tok rfl) ?_ | refine rg rfl rfl (qt_pev tok rfl) ?_ | refine rq (ql tok rfl) ?_ | refine rg rfl rfl (ql tok rfl) ?_ | (refine runL_op0 (sst tok rfl rfl rfl rfl rfl) ?_; rintro _ _ _ ⟨rfl, rfl, rfl⟩) | ((first | refine ro (st_box rfl) ?_ | refine ro (st_alloc tok rfl) ?_ | refine ro (st_buildSlice tok rfl rfl rfl rfl rfl rfl rfl) ?_); rintro _ _ _ ⟨_, rfl, rfl, rfl⟩))
  refine run_cond rfl (fun h1 => ?_) (fun h1 => ?_)
  · rw [e1] at h1
    have h2 : (most : Int) < (refNum s).1 := by
      simp at h1
      omega
    repeat (first | with_reducible (first | refine cS ?_ | refine cR ?_ | refine cN ?_ | refine cK ?_ | refine cB ?_ | refine cI ?_) | refine cE rfl ?_ | refine rq (qt_pev tok rfl) ?_ | refine rg rfl rfl (qt_pev tok rfl) ?_ | refine rq (ql tok rfl) ?_ | refine rg rfl rfl (ql tok rfl) ?_ | (refine runL_op0 (sst tok rfl rfl rfl rfl rfl) ?_; rintro _ _ _ ⟨rfl, rfl, rfl⟩) | ((first | refine ro (st_box rfl) ?_ | refine ro (st_alloc tok rfl) ?_ | refine ro (st_buildSlice tok rfl rfl rfl rfl rfl rfl rfl) ?_); rintro _ _ _ ⟨_, rfl, rfl, rfl⟩))
    exact run_ret hC (rs := [.tmp 4, .tmp 5, .tmp 6]) rfl (resT rfl (resT rfl (resT rfl resN))) (fun _ h => h) ⟨by rw [refText, if_neg (by simp [h0]), if_pos h2]; rfl, rfl, rfl⟩
  rw [e1] at h1
  have h2 : ¬ (most : Int) < (refNum s).1 := by
    simp at h1
    omega
  have e2 : IntKind.u64.wrap (IntKind.i64.wrap ((s.size : Int) - (refNum s).2.1)) = (s.size : Int) - (refNum s).2.1 := by
    rw [hn, show (s.size : Int) - (n : Int) = ((s.size - n : Nat) : Int) by omega, wrap64_nat (by omega), u64_nat (by omega)]
  obtain ⟨v, hv⟩ : ∃ v : Nat, (refNum s).1 = v := ⟨(refNum s).1.toNat, by omega⟩
  repeat (first | with_reducible (first | refine cS ?_ | refine cR ?_ | refine cN ?_ | refine cK ?_ | refine cB ?_ | refine cI ?_) | refine cE rfl ?_ | refine rq (qt_pev tok rfl) ?_ | refine rg rfl rfl (qt_pev tok rfl) ?_ | refine rq (ql tok rfl) ?_ | refine rg rfl rfl (ql tok rfl) ?_ | (refine runL_op0 (sst tok rfl rfl rfl rfl rfl) ?_; rintro _ _ _ ⟨rfl, rfl, rfl⟩) | ((first | refine ro (st_box rfl) ?_ | refine ro (st_alloc tok rfl) ?_ | refine ro (st_buildSlice tok rfl rfl rfl rfl rfl rfl rfl) ?_); rintro _ _ _ ⟨_, rfl, rfl, rfl⟩))
  refine run_cond rfl (fun h3 => ?_) (fun h3 => ?_)
  · have h4 : (s.size : Int) - (refNum s).2.1 < (refNum s).1 := by
      have := of_decide_eq_true h3
      rwa [e2] at this
    repeat (first | with_reducible (first | refine cS ?_ | refine cR ?_ | refine cN ?_ | refine cK ?_ | refine cB ?_ | refine cI ?_) | refine cE rfl ?_ | refine rq (qt_pev tok rfl) ?_ | refine rg rfl rfl (qt_pev tok rfl) ?_ | refine rq (ql tok rfl) ?_ | refine rg rfl rfl (ql tok rfl) ?_ | (refine runL_op0 (sst tok rfl rfl rfl rfl rfl) ?_; rintro _ _ _ ⟨rfl, rfl, rfl⟩) | ((first | refine ro (st_box rfl) ?_ | refine ro (st_alloc tok rfl) ?_ | refine ro (st_buildSlice tok rfl rfl rfl rfl rfl rfl rfl) ?_); rintro _ _ _ ⟨_, rfl, rfl, rfl⟩))
    exact run_ret hC (rs := [.tmp 4, .tmp 5, .tmp 6]) rfl (resT rfl (resT rfl (resT rfl resN))) (fun _ h => h) ⟨by rw [refText, if_neg (by simp [h0]), if_neg h2, if_pos h4]; rfl, rfl, rfl⟩
  have h4 : ¬ (s.size : Int) - (refNum s).2.1 < (refNum s).1 := by
    have := of_decide_eq_false h3
    rwa [e2] at this
  refine run_as 8 (.int .i64 (n : Int)) rfl (by rw [hn]) ?_
  refine run_as 7 (.int .u64 (v : Int)) rfl (by rw [hv]) ?_
  have e3 : IntKind.i64.wrap ((n : Int) + IntKind.i64.wrap (v : Int)) = ((n + v : Nat) : Int) := by
    rw [wrap64_nat (by omega), show (n : Int) + (v : Int) = ((n + v : Nat) : Int) by omega, wrap64_nat (by omega)]
  repeat (first | with_reducible (first | refine cS ?_ | refine cR ?_ | refine cN ?_ | refine cK ?_ | refine cB ?_ | refine cI ?_) | refine cE rfl ?_ | refine rq (qt_pev tok rfl) ?_ | refine rg rfl rfl (qt_pev tok rfl) ?_ | refine rq (ql tok rfl) ?_ | refine rg rfl rfl (ql tok rfl) ?_ | (refine runL_op0 (sst tok rfl rfl rfl rfl rfl) ?_; rintro _ _ _ ⟨rfl, rfl, rfl⟩) | ((first | refine ro (st_box rfl) ?_ | refine ro (st_alloc tok rfl) ?_ | refine ro (st_buildSlice tok rfl rfl rfl rfl rfl rfl rfl) ?_); rintro _ _ _ ⟨_, rfl, rfl, rfl⟩))
  refine runL_as 47 (.int .i64 ((n + v : Nat) : Int)) rfl (by rw [e3]) ?_
  repeat (first | with_reducible (first | refine cS ?_ | refine cR ?_ | refine cN ?_ | refine cK ?_ | refine cB ?_ | refine cI ?_) | refine cE rfl ?_ | refine rq (qt_pev tok rfl) ?_ | refine rg rfl rfl (qt_pev tok rfl) ?_ | refine rq (ql tok rfl) ?_ | refine rg rfl rfl (ql tok rfl) ?_ | (refine runL_op0 (sst tok rfl rfl rfl rfl rfl) ?_; rintro _ _ _ ⟨rfl, rfl, rfl⟩) | ((first | refine ro (st_box rfl) ?_ | refine ro (st_alloc tok rfl) ?_ | refine ro (st_buildSlice tok rfl rfl rfl rfl rfl rfl rfl) ?_); rintro _ _ _ ⟨_, rfl, rfl, rfl⟩) | refine runL_q (qt_strMid tok rfl rfl rfl rfl (fun _ => ⟨by omega, by omega⟩)) rfl rfl rfl ?_)
  refine run_ret hC (rs := [.tmp 4, .tmp 5, .tmp 6]) rfl (resT rfl (resT rfl (resT rfl resN))) (fun _ h => h) ⟨?_, rfl, rfl⟩
  rw [refText, if_neg (by simp [h0]), if_neg h2, if_neg h4, e3, hn, hv, show ((n : Int) + (v : Int)).toNat = n + v by omega, Int.toNat_natCast, show (n : Int) + (v : Int) = ((n + v : Nat) : Int) by omega]
  rfl
end Go.Proofs.Ytbpgiodfccijmaa
namespace Go.Proofs.Ytbpgiodfccijmaa
open Go.Chi

/-! ### the document's names -/
def nameB (c : Int) : Bool := (((decide (c ≥ 97) && decide (c ≤ 122)) || (decide (c ≥ 48) && decide (c ≤ 57))) || c == 47 || c == 46) || c == 45
def nameR (s : ByteArray) : Bool := ((List.range s.size).all fun i => nameB (byte s i)) && decide (s.size ≠ 0)
set_option maxRecDepth 10000 in
set_option maxHeartbeats 4000000 in
theorem name_ok (M : Mem) (L : HL) (s : ByteArray) (hs : s.size < 4611686018427387904) : TrQ Try.prog 75 [.string s] M L (.bool (nameR s)) := by
  refine Tr.intro 43 Try.func75 rfl rfl Try.call75 rfl ?_
  intro C hC hro
  repeat (first | with_reducible (first | refine cS ?_ | refine cR ?_ | refine cN ?_ | refine cK ?_ | refine cB ?_ | refine cI ?_) | refine cE rfl ?_ | refine rq (qt_pev tok rfl) ?_ | refine rg rfl rfl (qt_pev tok rfl) ?_ | refine rq (ql tok rfl) ?_ | refine rg rfl rfl (ql tok rfl) ?_ | (refine runL_op0 (sst tok rfl rfl rfl rfl rfl) ?_; rintro _ _ _ ⟨rfl, rfl, rfl⟩) | ((first | refine ro (st_box rfl) ?_ | refine ro (st_alloc tok rfl) ?_ | refine ro (st_buildSlice tok rfl rfl rfl rfl rfl rfl rfl) ?_); rintro _ _ _ ⟨_, rfl, rfl, rfl⟩))
  refine run_loopN (fun i σ1 M1 L1 => i ≤ s.size ∧ ((List.range i).all fun i => nameB (byte s i)) = true ∧ σ1 = [(3, .int .i64 (i : Int)), (0, .string s)] ∧ M = M1 ∧ L = L1) s.size [(3, .int .i64 ((0 : Nat) : Int)), (0, .string s)] ?_ ⟨Nat.zero_le _, rfl, rfl, rfl, rfl⟩ (fun j _ _ _ h => h.1) ?_
  · exact ⟨rfl, rfl, trivial⟩
  rintro i _ _ _ ⟨hi, hall, rfl, rfl, rfl⟩ hnext
  repeat (first | with_reducible (first | refine cS ?_ | refine cR ?_ | refine cN ?_ | refine cK ?_ | refine cB ?_ | refine cI ?_) | refine cE rfl ?_ | refine rq (qt_pev tok rfl) ?_ | refine rg rfl rfl (qt_pev tok rfl) ?_ | refine rq (ql tok rfl) ?_ | refine rg rfl rfl (ql tok rfl) ?_ | (refine runL_op0 (sst tok rfl rfl rfl rfl rfl) ?_; rintro _ _ _ ⟨rfl, rfl, rfl⟩) | ((first | refine ro (st_box rfl) ?_ | refine ro (st_alloc tok rfl) ?_ | refine ro (st_buildSlice tok rfl rfl rfl rfl rfl rfl rfl) ?_); rintro _ _ _ ⟨_, rfl, rfl, rfl⟩))
  refine run_cond rfl (fun h => ?_) (fun h => ?_)
  · have hlt : i < s.size := by simpa using h
    obtain ⟨b, hb, hb'⟩ := byte_at hlt
    repeat (first | with_reducible (first | refine cS ?_ | refine cR ?_ | refine cN ?_ | refine cK ?_ | refine cB ?_ | refine cI ?_) | refine cE rfl ?_ | refine rq (qt_pev tok rfl) ?_ | refine rg rfl rfl (qt_pev tok rfl) ?_ | refine rq (ql tok rfl) ?_ | refine rg rfl rfl (ql tok rfl) ?_ | (refine runL_op0 (sst tok rfl rfl rfl rfl rfl) ?_; rintro _ _ _ ⟨rfl, rfl, rfl⟩) | ((first | refine ro (st_box rfl) ?_ | refine ro (st_alloc tok rfl) ?_ | refine ro (st_buildSlice tok rfl rfl rfl rfl rfl rfl rfl) ?_); rintro _ _ _ ⟨_, rfl, rfl, rfl⟩) | refine runL_q (qt_strIndex tok rfl rfl rfl (fun _ => hb)) rfl rfl rfl ?_)
    refine run_cond rfl (fun h2 => ?_) (fun h2 => ?_)
    · have h3 : nameB (byte s i) = false := by
        rw [hb']
        have h2' : (!nameB (b.toNat : Int)) = true := h2
        simpa using h2'
      repeat (first | with_reducible (first | refine cS ?_ | refine cR ?_ | refine cN ?_ | refine cK ?_ | refine cB ?_ | refine cI ?_) | refine cE rfl ?_ | refine rq (qt_pev tok rfl) ?_ | refine rg rfl rfl (qt_pev tok rfl) ?_ | refine rq (ql tok rfl) ?_ | refine rg rfl rfl (ql tok rfl) ?_ | (refine runL_op0 (sst tok rfl rfl rfl rfl rfl) ?_; rintro _ _ _ ⟨rfl, rfl, rfl⟩) | ((first | refine ro (st_box rfl) ?_ | refine ro (st_alloc tok rfl) ?_ | refine ro (st_buildSlice tok rfl rfl rfl rfl rfl rfl rfl) ?_); rintro _ _ _ ⟨_, rfl, rfl, rfl⟩))
      refine run_ret hC (rs := [.tmp 2]) rfl (resT rfl resN) (fun _ h => h) ⟨?_, rfl, rfl⟩
      have : ((List.range s.size).all fun i => nameB (byte s i)) = false := by
        rw [List.all_eq_false]
        exact ⟨i, List.mem_range.2 hlt, by simp [h3]⟩
      rw [nameR, this]; rfl
    · have h3 : nameB (byte s i) = true := by
        rw [hb']
        have h2' : (!nameB (b.toNat : Int)) = false := h2
        simpa using h2'
      repeat (first | with_reducible (first | refine cS ?_ | refine cR ?_ | refine cN ?_ | refine cK ?_ | refine cB ?_ | refine cI ?_) | refine cE rfl ?_ | refine rq (qt_pev tok rfl) ?_ | refine rg rfl rfl (qt_pev tok rfl) ?_ | refine rq (ql tok rfl) ?_ | refine rg rfl rfl (ql tok rfl) ?_ | (refine runL_op0 (sst tok rfl rfl rfl rfl rfl) ?_; rintro _ _ _ ⟨rfl, rfl, rfl⟩) | ((first | refine ro (st_box rfl) ?_ | refine ro (st_alloc tok rfl) ?_ | refine ro (st_buildSlice tok rfl rfl rfl rfl rfl rfl rfl) ?_); rintro _ _ _ ⟨_, rfl, rfl, rfl⟩))
      exact run_sub' (hnext _ _ _ ⟨hlt, by rw [List.range_succ, List.all_append, hall]; simp [h3], rfl, rfl, rfl⟩) ⟨lk_succ rfl (by omega), rfl, trivial⟩
  · have hge : i = s.size := by simp at h; omega
    subst hge
    repeat (first | with_reducible (first | refine cS ?_ | refine cR ?_ | refine cN ?_ | refine cK ?_ | refine cB ?_ | refine cI ?_) | refine cE rfl ?_ | refine rq (qt_pev tok rfl) ?_ | refine rg rfl rfl (qt_pev tok rfl) ?_ | refine rq (ql tok rfl) ?_ | refine rg rfl rfl (ql tok rfl) ?_ | (refine runL_op0 (sst tok rfl rfl rfl rfl rfl) ?_; rintro _ _ _ ⟨rfl, rfl, rfl⟩) | ((first | refine ro (st_box rfl) ?_ | refine ro (st_alloc tok rfl) ?_ | refine ro (st_buildSlice tok rfl rfl rfl rfl rfl rfl rfl) ?_); rintro _ _ _ ⟨_, rfl, rfl, rfl⟩))
    refine run_ret hC (rs := [.tmp 2]) rfl (resT rfl resN) (fun _ h => h) ⟨?_, rfl, rfl⟩
    rw [nameR, hall, empty_beq]
    by_cases h0 : s.size = 0
    · simp [h0]; rfl
    · simp [h0]; rfl
theorem abc_all : ∀ n : Fin 256, nameB ((n.val : Nat) : Int) = true → n.val < 128 ∧ inAbc ((n.val : Nat) : Int) = true := by decide +kernel
theorem nameB_imp {b : UInt8} (h : nameB (b.toNat : Int) = true) : b.toNat < 128 ∧ inAbc (b.toNat : Int) = true := abc_all ⟨b.toNat, b.toNat_lt⟩ h
theorem nameAt {s : ByteArray} (h : ((List.range s.size).all fun i => nameB (byte s i)) = true) : ∀ f p, namedAt s f p = true
  | 0, _ => rfl
  | f + 1, p => by
    rw [namedAt]
    split
    · rename_i hp
      have hb := List.all_eq_true.1 h p (List.mem_range.2 hp)
      have hx : byte s p = ((s[p]'hp).toNat : Int) := by rw [byte, getElem?_pos s p hp]; rfl
      rw [hx] at hb
      obtain ⟨h1, h2⟩ := nameB_imp hb
      rw [decode_ascii s p hp h1, h2]
      exact nameAt h f _
    · rfl
theorem nameR_imp {s : ByteArray} (h : nameR s = true) : namedR s = true := by
  rw [nameR, Bool.and_eq_true] at h
  rw [namedR, nameAt h.1, h.2]; rfl

/-! ### the document's terms -/
def headR (s : ByteArray) : Int × Int × Int :=
  if s.size = 0 then (0, 0, 6) else
  if byte s 0 = 100 then (IntKind.i64.wrap (1 + (refText (rest1 s) 1024).2.1), 0, (refText (rest1 s) 1024).2.2) else
  if byte s 0 = 97 then (if (refText (rest1 s) 32).2.2 = 0 ∧ nameR (refText (rest1 s) 32).1 = false then (0, 0, 7) else (IntKind.i64.wrap (1 + (refText (rest1 s) 32).2.1), 0, (refText (rest1 s) 32).2.2)) else
  if byte s 0 = 114 then (if (refNum (rest1 s)).2.2 = 0 ∧ 32 < (refNum (rest1 s)).1 then (0, 0, 5) else (IntKind.i64.wrap (1 + (refNum (rest1 s)).2.1), IntKind.i64.wrap (refNum (rest1 s)).1, (refNum (rest1 s)).2.2)) else
  if byte s 0 = 104 then (1, 1, 0) else
  if byte s 0 = 109 then (1, 2, 0) else
  if byte s 0 = 115 then (1, 3, 0) else (0, 0, 7)
theorem headR_imp {s : ByteArray} (hs : s.size < 4611686018427387904) (h : (headR s).2.2 = 0) : ∃ n p : Nat, headR s = ((n : Int), (p : Int), 0) ∧ frontR s = .ok (n, p) := by
  have hr := rest1_size (s := s)
  unfold headR at h ⊢
  unfold frontR
  split at h
  · cases h
  rename_i h0
  rw [if_neg h0, if_neg h0]
  split at h
  · rename_i h1
    rw [if_pos h1, if_pos h1]
    have hi := refText_imp h
    obtain ⟨m, hm, _, _⟩ := textR_len (rest1 s) 1024 (by rw [hi]; exact h)
    rw [hi] at hm ⊢
    rw [h, hm, one_wrap (by omega)]
    exact ⟨1 + m, 0, rfl, by simp; omega⟩
  rename_i h1
  rw [if_neg h1, if_neg h1]
  split at h
  · rename_i h2
    rw [if_pos h2, if_pos h2]
    split at h
    · cases h
    rename_i h3
    have hi := refText_imp h
    obtain ⟨m, hm, _, _⟩ := textR_len (rest1 s) 32 (by rw [hi]; exact h)
    have h4 : nameR (refText (rest1 s) 32).1 = true := by
      cases e : nameR (refText (rest1 s) 32).1 with
      | true => rfl
      | false => exact absurd ⟨h, e⟩ h3
    have h5 := nameR_imp h4
    rw [if_neg h3]
    rw [hi] at hm ⊢
    rw [h5, h, hm, one_wrap (by omega)]
    exact ⟨1 + m, 0, rfl, by simp; omega⟩
  rename_i h2
  rw [if_neg h2, if_neg h2]
  split at h
  · rename_i h3
    rw [if_pos h3, if_pos h3]
    split at h
    · cases h
    rename_i h4
    have hi := refNum_imp h
    obtain ⟨m, hm, _, _⟩ := numR_len (rest1 s) (by rw [hi]; exact h)
    have hv0 := numR_pos (rest1 s)
    rw [if_neg h4]
    rw [hi] at hm hv0 ⊢
    have h5 : ¬ 32 < (refNum (rest1 s)).1 := fun h5 => h4 ⟨h, h5⟩
    obtain ⟨v, hv⟩ : ∃ v : Nat, (refNum (rest1 s)).1 = v := ⟨(refNum (rest1 s)).1.toNat, by omega⟩
    rw [h, hm, hv, one_wrap (by omega), wrap64_nat (by omega)]
    rw [hv] at h5
    exact ⟨1 + m, v, rfl, by simp [h5]; omega⟩
  rename_i h3
  rw [if_neg h3, if_neg h3]
  split at h
  · rename_i h4; rw [if_pos h4, if_pos h4]; exact ⟨1, 1, rfl, rfl⟩
  rename_i h4
  rw [if_neg h4, if_neg h4]
  split at h
  · rename_i h5; rw [if_pos h5, if_pos h5]; exact ⟨1, 2, rfl, rfl⟩
  rename_i h5
  rw [if_neg h5, if_neg h5]
  split at h
  · rename_i h6; rw [if_pos h6, if_pos h6]; exact ⟨1, 3, rfl, rfl⟩
  · cases h
theorem refText_size (s : ByteArray) (most : Nat) : (refText s most).1.size ≤ s.size := by
  unfold refText
  repeat' split
  all_goals first | exact Nat.zero_le _ | (simp; omega)
set_option maxRecDepth 10000 in
set_option maxHeartbeats 8000000 in
theorem head_ok (M : Mem) (L : HL) (s : ByteArray) (hs : s.size < 4611686018427387904) : TrQ Try.prog 73 [.string s] M L (.tuple ⟨[.int .i64 (headR s).1, .int .i64 (headR s).2.1, .int .i64 (headR s).2.2]⟩) := by
  refine Tr.intro 76 Try.func73 rfl rfl Try.call73 rfl ?_
  intro C hC hro
  repeat (first | with_reducible (first | refine cS ?_ | refine cR ?_ | refine cN ?_ | refine cK ?_ | refine cB ?_ | refine cI ?_) | refine cE rfl ?_ | refine rq (qt_pev tok rfl) ?_ | refine rg rfl rfl (qt_pev tok rfl) ?_ | refine rq (ql tok rfl) ?_ | refine rg rfl rfl (ql tok rfl) ?_ | (refine runL_op0 (sst tok rfl rfl rfl rfl rfl) ?_; rintro _ _ _ ⟨rfl, rfl, rfl⟩) | ((first | refine ro (st_box rfl) ?_ | refine ro (st_alloc tok rfl) ?_ | refine ro (st_buildSlice tok rfl rfl rfl rfl rfl rfl rfl) ?_); rintro _ _ _ ⟨_, rfl, rfl, rfl⟩))
  refine run_cond rfl (fun h => ?_) (fun h => ?_)
  · repeat (first | with_reducible (first | refine cS ?_ | refine cR ?_ | refine cN ?_ | refine cK ?_ | refine cB ?_ | refine cI ?_) | refine cE rfl ?_ | refine rq (qt_pev tok rfl) ?_ | refine rg rfl rfl (qt_pev tok rfl) ?_ | refine rq (ql tok rfl) ?_ | refine rg rfl rfl (ql tok rfl) ?_ | (refine runL_op0 (sst tok rfl rfl rfl rfl rfl) ?_; rintro _ _ _ ⟨rfl, rfl, rfl⟩) | ((first | refine ro (st_box rfl) ?_ | refine ro (st_alloc tok rfl) ?_ | refine ro (st_buildSlice tok rfl rfl rfl rfl rfl rfl rfl) ?_); rintro _ _ _ ⟨_, rfl, rfl, rfl⟩))
    have h0 : s.size = 0 := by have := eq_of_beq h; omega
    exact run_ret hC (rs := [.tmp 2, .tmp 3, .tmp 4]) rfl (resT rfl (resT rfl (resT rfl resN))) (fun _ h => h) ⟨by rw [headR, if_pos h0]; rfl, rfl, rfl⟩
  have h : ¬ s.size = 0 := by intro e; rw [e] at h; cases h
  have hp : 0 < s.size := by omega
  obtain ⟨b0, hb0, hb0'⟩ := byte_at hp
  have hr : (rest1 s).size < 4611686018427387904 := by rw [rest1_size]; omega
  repeat (first | with_reducible (first | refine cS ?_ | refine cR ?_ | refine cN ?_ | refine cK ?_ | refine cB ?_ | refine cI ?_) | refine cE rfl ?_ | refine rq (qt_pev tok rfl) ?_ | refine rg rfl rfl (qt_pev tok rfl) ?_ | refine rq (ql tok rfl) ?_ | refine rg rfl rfl (ql tok rfl) ?_ | (refine runL_op0 (sst tok rfl rfl rfl rfl rfl) ?_; rintro _ _ _ ⟨rfl, rfl, rfl⟩) | ((first | refine ro (st_box rfl) ?_ | refine ro (st_alloc tok rfl) ?_ | refine ro (st_buildSlice tok rfl rfl rfl rfl rfl rfl rfl) ?_); rintro _ _ _ ⟨_, rfl, rfl, rfl⟩) | refine runL_q (qt_strIndex (n := 0) tok rfl rfl rfl (fun _ => hb0)) rfl rfl rfl ?_)
  refine run_cond rfl (fun h1 => ?_) (fun h1 => ?_)
  · have hb1 : byte s 0 = 100 := byte_eq hb0' h1
    repeat (first | with_reducible (first | refine cS ?_ | refine cR ?_ | refine cN ?_ | refine cK ?_ | refine cB ?_ | refine cI ?_) | refine cE rfl ?_ | refine rq (qt_pev tok rfl) ?_ | refine rg rfl rfl (qt_pev tok rfl) ?_ | refine rq (ql tok rfl) ?_ | refine rg rfl rfl (ql tok rfl) ?_ | (refine runL_op0 (sst tok rfl rfl rfl rfl rfl) ?_; rintro _ _ _ ⟨rfl, rfl, rfl⟩) | ((first | refine ro (st_box rfl) ?_ | refine ro (st_alloc tok rfl) ?_ | refine ro (st_buildSlice tok rfl rfl rfl rfl rfl rfl rfl) ?_); rintro _ _ _ ⟨_, rfl, rfl, rfl⟩) | refine runL_q (qt_strLo (n := 1) tok rfl rfl rfl (fun _ => hp)) rfl rfl rfl ?_ | refine runL_q (qt_callF rfl (fun _ => refText_ok _ _ (rest1 s) 1024 hr (by decide))) rfl rfl rfl ?_)
    exact run_ret hC (rs := [.tmp 2, .tmp 3, .tmp 4]) rfl (resT rfl (resT rfl (resT rfl resN))) (fun _ h => h) ⟨by rw [headR, if_neg h, if_pos hb1]; rfl, rfl, rfl⟩
  have hb1 : byte s 0 ≠ 100 := byte_eq hb0' h1
  repeat (first | with_reducible (first | refine cS ?_ | refine cR ?_ | refine cN ?_ | refine cK ?_ | refine cB ?_ | refine cI ?_) | refine cE rfl ?_ | refine rq (qt_pev tok rfl) ?_ | refine rg rfl rfl (qt_pev tok rfl) ?_ | refine rq (ql tok rfl) ?_ | refine rg rfl rfl (ql tok rfl) ?_ | (refine runL_op0 (sst tok rfl rfl rfl rfl rfl) ?_; rintro _ _ _ ⟨rfl, rfl, rfl⟩) | ((first | refine ro (st_box rfl) ?_ | refine ro (st_alloc tok rfl) ?_ | refine ro (st_buildSlice tok rfl rfl rfl rfl rfl rfl rfl) ?_); rintro _ _ _ ⟨_, rfl, rfl, rfl⟩))
  refine run_cond rfl (fun h1 => ?_) (fun h1 => ?_)
  · have hb2 : byte s 0 = 97 := byte_eq hb0' h1
    have hts := refText_size (rest1 s) 32
    repeat (first | with_reducible (first | refine cS ?_ | refine cR ?_ | refine cN ?_ | refine cK ?_ | refine cB ?_ | refine cI ?_) | refine cE rfl ?_ | refine rq (qt_pev tok rfl) ?_ | refine rg rfl rfl (qt_pev tok rfl) ?_ | refine rq (ql tok rfl) ?_ | refine rg rfl rfl (ql tok rfl) ?_ | (refine runL_op0 (sst tok rfl rfl rfl rfl rfl) ?_; rintro _ _ _ ⟨rfl, rfl, rfl⟩) | ((first | refine ro (st_box rfl) ?_ | refine ro (st_alloc tok rfl) ?_ | refine ro (st_buildSlice tok rfl rfl rfl rfl rfl rfl rfl) ?_); rintro _ _ _ ⟨_, rfl, rfl, rfl⟩) | refine runL_q (qt_strLo (n := 1) tok rfl rfl rfl (fun _ => hp)) rfl rfl rfl ?_ | refine runL_q (qt_callF rfl (fun _ => refText_ok _ _ (rest1 s) 32 hr (by decide))) rfl rfl rfl ?_ | refine runL_g rfl rfl (qt_callF rfl (fun _ => name_ok _ _ _ (by omega))) rfl rfl rfl rfl rfl ?_)
    refine run_cond rfl (fun h3 => ?_) (fun h3 => ?_)
    · have h4 : (refText (rest1 s) 32).2.2 = 0 ∧ nameR (refText (rest1 s) 32).1 = false := by simpa using h3
      repeat (first | with_reducible (first | refine cS ?_ | refine cR ?_ | refine cN ?_ | refine cK ?_ | refine cB ?_ | refine cI ?_) | refine cE rfl ?_ | refine rq (qt_pev tok rfl) ?_ | refine rg rfl rfl (qt_pev tok rfl) ?_ | refine rq (ql tok rfl) ?_ | refine rg rfl rfl (ql tok rfl) ?_ | (refine runL_op0 (sst tok rfl rfl rfl rfl rfl) ?_; rintro _ _ _ ⟨rfl, rfl, rfl⟩) | ((first | refine ro (st_box rfl) ?_ | refine ro (st_alloc tok rfl) ?_ | refine ro (st_buildSlice tok rfl rfl rfl rfl rfl rfl rfl) ?_); rintro _ _ _ ⟨_, rfl, rfl, rfl⟩))
      exact run_ret hC (rs := [.tmp 2, .tmp 3, .tmp 4]) rfl (resT rfl (resT rfl (resT rfl resN))) (fun _ h => h) ⟨by rw [headR, if_neg h, if_neg hb1, if_pos hb2, if_pos h4]; rfl, rfl, rfl⟩
    · have h4 : ¬ ((refText (rest1 s) 32).2.2 = 0 ∧ nameR (refText (rest1 s) 32).1 = false) := by simpa using h3
      repeat (first | with_reducible (first | refine cS ?_ | refine cR ?_ | refine cN ?_ | refine cK ?_ | refine cB ?_ | refine cI ?_) | refine cE rfl ?_ | refine rq (qt_pev tok rfl) ?_ | refine rg rfl rfl (qt_pev tok rfl) ?_ | refine rq (ql tok rfl) ?_ | refine rg rfl rfl (ql tok rfl) ?_ | (refine runL_op0 (sst tok rfl rfl rfl rfl rfl) ?_; rintro _ _ _ ⟨rfl, rfl, rfl⟩) | ((first | refine ro (st_box rfl) ?_ | refine ro (st_alloc tok rfl) ?_ | refine ro (st_buildSlice tok rfl rfl rfl rfl rfl rfl rfl) ?_); rintro _ _ _ ⟨_, rfl, rfl, rfl⟩))
      exact run_ret hC (rs := [.tmp 2, .tmp 3, .tmp 4]) rfl (resT rfl (resT rfl (resT rfl resN))) (fun _ h => h) ⟨by rw [headR, if_neg h, if_neg hb1, if_pos hb2, if_neg h4]; rfl, rfl, rfl⟩
  have hb2 : byte s 0 ≠ 97 := byte_eq hb0' h1
  repeat (first | with_reducible (first | refine cS ?_ | refine cR ?_ | refine cN ?_ | refine cK ?_ | refine cB ?_ | refine cI ?_) | refine cE rfl ?_ | refine rq (qt_pev tok rfl) ?_ | refine rg rfl rfl (qt_pev tok rfl) ?_ | refine rq (ql tok rfl) ?_ | refine rg rfl rfl (ql tok rfl) ?_ | (refine runL_op0 (sst tok rfl rfl rfl rfl rfl) ?_; rintro _ _ _ ⟨rfl, rfl, rfl⟩) | ((first | refine ro (st_box rfl) ?_ | refine ro (st_alloc tok rfl) ?_ | refine ro (st_buildSlice tok rfl rfl rfl rfl rfl rfl rfl) ?_); rintro _ _ _ ⟨_, rfl, rfl, rfl⟩))
  refine run_cond rfl (fun h1 => ?_) (fun h1 => ?_)
  · have hb3 : byte s 0 = 114 := byte_eq hb0' h1
    repeat (first | with_reducible (first | refine cS ?_ | refine cR ?_ | refine cN ?_ | refine cK ?_ | refine cB ?_ | refine cI ?_) | refine cE rfl ?_ | refine rq (qt_pev tok rfl) ?_ | refine rg rfl rfl (qt_pev tok rfl) ?_ | refine rq (ql tok rfl) ?_ | refine rg rfl rfl (ql tok rfl) ?_ | (refine runL_op0 (sst tok rfl rfl rfl rfl rfl) ?_; rintro _ _ _ ⟨rfl, rfl, rfl⟩) | ((first | refine ro (st_box rfl) ?_ | refine ro (st_alloc tok rfl) ?_ | refine ro (st_buildSlice tok rfl rfl rfl rfl rfl rfl rfl) ?_); rintro _ _ _ ⟨_, rfl, rfl, rfl⟩) | refine runL_q (qt_strLo (n := 1) tok rfl rfl rfl (fun _ => hp)) rfl rfl rfl ?_ | refine runL_q (qt_callF rfl (fun _ => refNum_ok _ _ (rest1 s))) rfl rfl rfl ?_)
    refine run_cond rfl (fun h3 => ?_) (fun h3 => ?_)
    · have h4 : (refNum (rest1 s)).2.2 = 0 ∧ 32 < (refNum (rest1 s)).1 := by simpa using h3
      repeat (first | with_reducible (first | refine cS ?_ | refine cR ?_ | refine cN ?_ | refine cK ?_ | refine cB ?_ | refine cI ?_) | refine cE rfl ?_ | refine rq (qt_pev tok rfl) ?_ | refine rg rfl rfl (qt_pev tok rfl) ?_ | refine rq (ql tok rfl) ?_ | refine rg rfl rfl (ql tok rfl) ?_ | (refine runL_op0 (sst tok rfl rfl rfl rfl rfl) ?_; rintro _ _ _ ⟨rfl, rfl, rfl⟩) | ((first | refine ro (st_box rfl) ?_ | refine ro (st_alloc tok rfl) ?_ | refine ro (st_buildSlice tok rfl rfl rfl rfl rfl rfl rfl) ?_); rintro _ _ _ ⟨_, rfl, rfl, rfl⟩))
      exact run_ret hC (rs := [.tmp 2, .tmp 3, .tmp 4]) rfl (resT rfl (resT rfl (resT rfl resN))) (fun _ h => h) ⟨by rw [headR, if_neg h, if_neg hb1, if_neg hb2, if_pos hb3, if_pos h4]; rfl, rfl, rfl⟩
    · have h4 : ¬ ((refNum (rest1 s)).2.2 = 0 ∧ 32 < (refNum (rest1 s)).1) := by simpa using h3
      repeat (first | with_reducible (first | refine cS ?_ | refine cR ?_ | refine cN ?_ | refine cK ?_ | refine cB ?_ | refine cI ?_) | refine cE rfl ?_ | refine rq (qt_pev tok rfl) ?_ | refine rg rfl rfl (qt_pev tok rfl) ?_ | refine rq (ql tok rfl) ?_ | refine rg rfl rfl (ql tok rfl) ?_ | (refine runL_op0 (sst tok rfl rfl rfl rfl rfl) ?_; rintro _ _ _ ⟨rfl, rfl, rfl⟩) | ((first | refine ro (st_box rfl) ?_ | refine ro (st_alloc tok rfl) ?_ | refine ro (st_buildSlice tok rfl rfl rfl rfl rfl rfl rfl) ?_); rintro _ _ _ ⟨_, rfl, rfl, rfl⟩))
      exact run_ret hC (rs := [.tmp 2, .tmp 3, .tmp 4]) rfl (resT rfl (resT rfl (resT rfl resN))) (fun _ h => h) ⟨by rw [headR, if_neg h, if_neg hb1, if_neg hb2, if_pos hb3, if_neg h4]; rfl, rfl, rfl⟩
  have hb3 : byte s 0 ≠ 114 := byte_eq hb0' h1
  repeat (first | with_reducible (first | refine cS ?_ | refine cR ?_ | refine cN ?_ | refine cK ?_ | refine cB ?_ | refine cI ?_) | refine cE rfl ?_ | refine rq (qt_pev tok rfl) ?_ | refine rg rfl rfl (qt_pev tok rfl) ?_ | refine rq (ql tok rfl) ?_ | refine rg rfl rfl (ql tok rfl) ?_ | (refine runL_op0 (sst tok rfl rfl rfl rfl rfl) ?_; rintro _ _ _ ⟨rfl, rfl, rfl⟩) | ((first | refine ro (st_box rfl) ?_ | refine ro (st_alloc tok rfl) ?_ | refine ro (st_buildSlice tok rfl rfl rfl rfl rfl rfl rfl) ?_); rintro _ _ _ ⟨_, rfl, rfl, rfl⟩))
  refine run_cond rfl (fun h1 => ?_) (fun h1 => ?_)
  · have hb4 : byte s 0 = 104 := byte_eq hb0' h1
    repeat (first | with_reducible (first | refine cS ?_ | refine cR ?_ | refine cN ?_ | refine cK ?_ | refine cB ?_ | refine cI ?_) | refine cE rfl ?_ | refine rq (qt_pev tok rfl) ?_ | refine rg rfl rfl (qt_pev tok rfl) ?_ | refine rq (ql tok rfl) ?_ | refine rg rfl rfl (ql tok rfl) ?_ | (refine runL_op0 (sst tok rfl rfl rfl rfl rfl) ?_; rintro _ _ _ ⟨rfl, rfl, rfl⟩) | ((first | refine ro (st_box rfl) ?_ | refine ro (st_alloc tok rfl) ?_ | refine ro (st_buildSlice tok rfl rfl rfl rfl rfl rfl rfl) ?_); rintro _ _ _ ⟨_, rfl, rfl, rfl⟩))
    exact run_ret hC (rs := [.tmp 2, .tmp 3, .tmp 4]) rfl (resT rfl (resT rfl (resT rfl resN))) (fun _ h => h) ⟨by rw [headR, if_neg h, if_neg hb1, if_neg hb2, if_neg hb3, if_pos hb4]; rfl, rfl, rfl⟩
  have hb4 : byte s 0 ≠ 104 := byte_eq hb0' h1
  repeat (first | with_reducible (first | refine cS ?_ | refine cR ?_ | refine cN ?_ | refine cK ?_ | refine cB ?_ | refine cI ?_) | refine cE rfl ?_ | refine rq (qt_pev tok rfl) ?_ | refine rg rfl rfl (qt_pev tok rfl) ?_ | refine rq (ql tok rfl) ?_ | refine rg rfl rfl (ql tok rfl) ?_ | (refine runL_op0 (sst tok rfl rfl rfl rfl rfl) ?_; rintro _ _ _ ⟨rfl, rfl, rfl⟩) | ((first | refine ro (st_box rfl) ?_ | refine ro (st_alloc tok rfl) ?_ | refine ro (st_buildSlice tok rfl rfl rfl rfl rfl rfl rfl) ?_); rintro _ _ _ ⟨_, rfl, rfl, rfl⟩))
  refine run_cond rfl (fun h1 => ?_) (fun h1 => ?_)
  · have hb5 : byte s 0 = 109 := byte_eq hb0' h1
    repeat (first | with_reducible (first | refine cS ?_ | refine cR ?_ | refine cN ?_ | refine cK ?_ | refine cB ?_ | refine cI ?_) | refine cE rfl ?_ | refine rq (qt_pev tok rfl) ?_ | refine rg rfl rfl (qt_pev tok rfl) ?_ | refine rq (ql tok rfl) ?_ | refine rg rfl rfl (ql tok rfl) ?_ | (refine runL_op0 (sst tok rfl rfl rfl rfl rfl) ?_; rintro _ _ _ ⟨rfl, rfl, rfl⟩) | ((first | refine ro (st_box rfl) ?_ | refine ro (st_alloc tok rfl) ?_ | refine ro (st_buildSlice tok rfl rfl rfl rfl rfl rfl rfl) ?_); rintro _ _ _ ⟨_, rfl, rfl, rfl⟩))
    exact run_ret hC (rs := [.tmp 2, .tmp 3, .tmp 4]) rfl (resT rfl (resT rfl (resT rfl resN))) (fun _ h => h) ⟨by rw [headR, if_neg h, if_neg hb1, if_neg hb2, if_neg hb3, if_neg hb4, if_pos hb5]; rfl, rfl, rfl⟩
  have hb5 : byte s 0 ≠ 109 := byte_eq hb0' h1
  repeat (first | with_reducible (first | refine cS ?_ | refine cR ?_ | refine cN ?_ | refine cK ?_ | refine cB ?_ | refine cI ?_) | refine cE rfl ?_ | refine rq (qt_pev tok rfl) ?_ | refine rg rfl rfl (qt_pev tok rfl) ?_ | refine rq (ql tok rfl) ?_ | refine rg rfl rfl (ql tok rfl) ?_ | (refine runL_op0 (sst tok rfl rfl rfl rfl rfl) ?_; rintro _ _ _ ⟨rfl, rfl, rfl⟩) | ((first | refine ro (st_box rfl) ?_ | refine ro (st_alloc tok rfl) ?_ | refine ro (st_buildSlice tok rfl rfl rfl rfl rfl rfl rfl) ?_); rintro _ _ _ ⟨_, rfl, rfl, rfl⟩))
  refine run_cond rfl (fun h1 => ?_) (fun h1 => ?_)
  · have hb6 : byte s 0 = 115 := byte_eq hb0' h1
    repeat (first | with_reducible (first | refine cS ?_ | refine cR ?_ | refine cN ?_ | refine cK ?_ | refine cB ?_ | refine cI ?_) | refine cE rfl ?_ | refine rq (qt_pev tok rfl) ?_ | refine rg rfl rfl (qt_pev tok rfl) ?_ | refine rq (ql tok rfl) ?_ | refine rg rfl rfl (ql tok rfl) ?_ | (refine runL_op0 (sst tok rfl rfl rfl rfl rfl) ?_; rintro _ _ _ ⟨rfl, rfl, rfl⟩) | ((first | refine ro (st_box rfl) ?_ | refine ro (st_alloc tok rfl) ?_ | refine ro (st_buildSlice tok rfl rfl rfl rfl rfl rfl rfl) ?_); rintro _ _ _ ⟨_, rfl, rfl, rfl⟩))
    exact run_ret hC (rs := [.tmp 2, .tmp 3, .tmp 4]) rfl (resT rfl (resT rfl (resT rfl resN))) (fun _ h => h) ⟨by rw [headR, if_neg h, if_neg hb1, if_neg hb2, if_neg hb3, if_neg hb4, if_neg hb5, if_pos hb6]; rfl, rfl, rfl⟩
  have hb6 : byte s 0 ≠ 115 := byte_eq hb0' h1
  repeat (first | with_reducible (first | refine cS ?_ | refine cR ?_ | refine cN ?_ | refine cK ?_ | refine cB ?_ | refine cI ?_) | refine cE rfl ?_ | refine rq (qt_pev tok rfl) ?_ | refine rg rfl rfl (qt_pev tok rfl) ?_ | refine rq (ql tok rfl) ?_ | refine rg rfl rfl (ql tok rfl) ?_ | (refine runL_op0 (sst tok rfl rfl rfl rfl rfl) ?_; rintro _ _ _ ⟨rfl, rfl, rfl⟩) | ((first | refine ro (st_box rfl) ?_ | refine ro (st_alloc tok rfl) ?_ | refine ro (st_buildSlice tok rfl rfl rfl rfl rfl rfl rfl) ?_); rintro _ _ _ ⟨_, rfl, rfl, rfl⟩))
  exact run_ret hC (rs := [.tmp 2, .tmp 3, .tmp 4]) rfl (resT rfl (resT rfl (resT rfl resN))) (fun _ h => h) ⟨by rw [headR, if_neg h, if_neg hb1, if_neg hb2, if_neg hb3, if_neg hb4, if_neg hb5, if_neg hb6]; rfl, rfl, rfl⟩
end Go.Proofs.Ytbpgiodfccijmaa
namespace Go.Proofs.Ytbpgiodfccijmaa
open Go.Chi

def rloop (f : ByteArray → Int × Int) (s : ByteArray) : Nat → Int → Int → Int × Int
  | 0, n, e => (n, e)
  | i + 1, n, e => if e ≠ 0 then (n, e) else rloop f s i (IntKind.i64.wrap (n + (f (s.extract n.toNat s.size)).1)) (f (s.extract n.toNat s.size)).2
def finR (r : Int × Int) : Int × Int := if r.2 ≠ 0 then (0, r.2) else (r.1, 0)
def refRead : Nat → ByteArray → Int × Int
  | 0, _ => (0, 60)
  | k + 1, s => finR (rloop (refRead k) s (headR s).2.1.toNat (headR s).1 (headR s).2.2)
theorem rloop_err (f : ByteArray → Int × Int) (s : ByteArray) {e : Int} (he : e ≠ 0) : ∀ i n, rloop f s i n e = (n, e)
  | 0, _ => rfl
  | i + 1, n => by rw [rloop, if_pos he]
theorem ext_ext (w : ByteArray) {a n : Nat} (_ha : a ≤ w.size) (_hn : a + n ≤ w.size) : (w.extract a w.size).extract n (w.extract a w.size).size = w.extract (a + n) w.size := by
  have hz : (w.extract a w.size).size = w.size - a := by simp
  rw [hz]
  apply ByteArray.ext
  apply Array.ext'
  simp only [ByteArray.data_extract, Array.toList_extract, List.extract_eq_take_drop]
  have hl : w.data.toList.length = w.size := by simp
  generalize w.data.toList = l at *
  rw [← hl] at _ha _hn ⊢
  rw [List.take_of_length_le (l := l.drop a) (by simp), List.drop_drop, Nat.sub_sub]
theorem refNum_err {s : ByteArray} (h : (refNum s).2.2 ≠ 0) : (refNum s).1 = 0 := by
  unfold refNum at h ⊢
  repeat' split
  all_goals first | rfl | (rename_i h1 h2 h3 h4; simp [h1, h2, h3, h4] at h) | (rename_i h1 h2; simp [h1, h2] at h)
theorem headR_p32 (s : ByteArray) : (headR s).2.1 ≤ 32 := by
  unfold headR
  repeat' split
  all_goals try (simp; done)
  rename_i h1
  simp only
  by_cases he : (refNum (rest1 s)).2.2 = 0
  · have hv0 := numR_pos (rest1 s)
    rw [refNum_imp he] at hv0
    have h5 : ¬ 32 < (refNum (rest1 s)).1 := fun h5 => h1 ⟨he, h5⟩
    obtain ⟨v, hv⟩ : ∃ v : Nat, (refNum (rest1 s)).1 = v := ⟨(refNum (rest1 s)).1.toNat, by omega⟩
    rw [hv, wrap64_nat (by omega)]
    omega
  · rw [refNum_err he]; decide
theorem refRead_imp : ∀ (k : Nat) (s : ByteArray), s.size < 4611686018427387904 → (refRead k s).2 = 0 → ∃ n : Nat, (refRead k s).1 = n ∧ n ≤ s.size ∧ ∀ (w : ByteArray) (a : Nat), a ≤ w.size → w.extract a w.size = s → walkR w k a = .ok (a + n)
  | 0, s, _, h => by cases h
  | k + 1, s, hs, h => by
    rw [refRead] at h ⊢
    have h1 : (headR s).2.2 = 0 := by
      apply Classical.byContradiction
      intro h1
      rw [rloop_err _ _ h1, finR, if_pos h1] at h
      exact h1 h
    obtain ⟨n0, p0, hh, hf⟩ := headR_imp hs h1
    have hfl := frontR_len hf
    rw [hh] at h ⊢
    simp only [Int.toNat_natCast] at h ⊢
    have key : ∀ (i n : Nat), n ≤ s.size → (rloop (refRead k) s i (n : Int) 0).2 = 0 → ∃ m : Nat, (rloop (refRead k) s i (n : Int) 0).1 = m ∧ m ≤ s.size ∧ ∀ (w : ByteArray) (a : Nat), a ≤ w.size → w.extract a w.size = s → iter (walkR w k) i (a + n) = .ok (a + m) := by
      intro i
      induction i with
      | zero => intro n hn _; exact ⟨n, rfl, hn, fun w a _ _ => rfl⟩
      | succ i ih =>
        intro n hn hr
        rw [rloop, if_neg (by simp), Int.toNat_natCast] at hr ⊢
        have he : (refRead k (s.extract n s.size)).2 = 0 := by
          apply Classical.byContradiction
          intro he
          rw [rloop_err _ _ he] at hr
          exact he hr
        have hz : (s.extract n s.size).size = s.size - n := by simp
        obtain ⟨m, hm, hml, hmw⟩ := refRead_imp k (s.extract n s.size) (by omega) he
        rw [he, hm, show (n : Int) + (m : Int) = ((n + m : Nat) : Int) by omega, wrap64_nat (by omega)] at hr ⊢
        obtain ⟨m2, hm2, hm2l, hm2w⟩ := ih (n + m) (by omega) hr
        refine ⟨m2, hm2, hm2l, fun w a ha hw => ?_⟩
        have hws : w.size - a = s.size := by rw [← hw]; simp
        have h5 := hmw w (a + n) (by omega) (by rw [← hw, ext_ext w ha (by omega)])
        rw [iter, h5]
        have h6 := hm2w w a ha hw
        rw [← h6]
        simp only [Nat.add_assoc]
    have h2 : (rloop (refRead k) s p0 (n0 : Int) 0).2 = 0 := by
      apply Classical.byContradiction
      intro h2
      rw [finR, if_pos h2] at h
      exact h2 h
    obtain ⟨m, hm, hml, hmw⟩ := key p0 n0 hfl.2.1 h2
    refine ⟨m, by rw [finR, if_neg (by simp [h2])]; exact hm, hml, fun w a ha hw => ?_⟩
    rw [walkR, hw, hf]
    exact hmw w a ha hw
set_option maxRecDepth 10000 in
set_option maxHeartbeats 8000000 in
theorem refread_ok (M : Mem) (k : Nat) : k ≤ 16 → ∀ (L : HL) (s : ByteArray), s.size < 4611686018427387904 → TrQ Try.prog 69 [.string s, .int .i64 ((17 - k : Nat) : Int)] M L (.tuple ⟨[.int .i64 (refRead k s).1, .int .i64 (refRead k s).2]⟩) := by
  induction k with
  | zero =>
    intro _ L s hs
    refine Tr.intro 44 Try.func69 rfl rfl Try.call69 rfl ?_
    intro C hC hro
    repeat (first | with_reducible (first | refine cS ?_ | refine cR ?_ | refine cN ?_ | refine cK ?_ | refine cB ?_ | refine cI ?_) | refine cE rfl ?_ | refine rq (qt_pev tok rfl) ?_ | refine rg rfl rfl (qt_pev tok rfl) ?_ | refine rq (ql tok rfl) ?_ | refine rg rfl rfl (ql tok rfl) ?_ | (refine runL_op0 (sst tok rfl rfl rfl rfl rfl) ?_; rintro _ _ _ ⟨rfl, rfl, rfl⟩) | ((first | refine ro (st_box rfl) ?_ | refine ro (st_alloc tok rfl) ?_ | refine ro (st_buildSlice tok rfl rfl rfl rfl rfl rfl rfl) ?_); rintro _ _ _ ⟨_, rfl, rfl, rfl⟩))
    refine run_cond rfl (fun h => ?_) (fun h => by cases h)
    repeat (first | with_reducible (first | refine cS ?_ | refine cR ?_ | refine cN ?_ | refine cK ?_ | refine cB ?_ | refine cI ?_) | refine cE rfl ?_ | refine rq (qt_pev tok rfl) ?_ | refine rg rfl rfl (qt_pev tok rfl) ?_ | refine rq (ql tok rfl) ?_ | refine rg rfl rfl (ql tok rfl) ?_ | (refine runL_op0 (sst tok rfl rfl rfl rfl rfl) ?_; rintro _ _ _ ⟨rfl, rfl, rfl⟩) | ((first | refine ro (st_box rfl) ?_ | refine ro (st_alloc tok rfl) ?_ | refine ro (st_buildSlice tok rfl rfl rfl rfl rfl rfl rfl) ?_); rintro _ _ _ ⟨_, rfl, rfl, rfl⟩))
    exact run_ret hC (rs := [.tmp 4, .tmp 5]) rfl (resT rfl (resT rfl resN)) (fun _ h => h) ⟨rfl, rfl, rfl⟩
  | succ k ih =>
    intro hk L s hs
    refine Tr.intro 44 Try.func69 rfl rfl Try.call69 rfl ?_
    intro C hC hro
    repeat (first | with_reducible (first | refine cS ?_ | refine cR ?_ | refine cN ?_ | refine cK ?_ | refine cB ?_ | refine cI ?_) | refine cE rfl ?_ | refine rq (qt_pev tok rfl) ?_ | refine rg rfl rfl (qt_pev tok rfl) ?_ | refine rq (ql tok rfl) ?_ | refine rg rfl rfl (ql tok rfl) ?_ | (refine runL_op0 (sst tok rfl rfl rfl rfl rfl) ?_; rintro _ _ _ ⟨rfl, rfl, rfl⟩) | ((first | refine ro (st_box rfl) ?_ | refine ro (st_alloc tok rfl) ?_ | refine ro (st_buildSlice tok rfl rfl rfl rfl rfl rfl rfl) ?_); rintro _ _ _ ⟨_, rfl, rfl, rfl⟩))
    refine run_cond rfl (fun h => ?_) (fun h => ?_)
    · exfalso
      have : (16 : Int) < ((17 - (k + 1) : Nat) : Int) := by simpa using h
      omega
    repeat (first | with_reducible (first | refine cS ?_ | refine cR ?_ | refine cN ?_ | refine cK ?_ | refine cB ?_ | refine cI ?_) | refine cE rfl ?_ | refine rq (qt_pev tok rfl) ?_ | refine rg rfl rfl (qt_pev tok rfl) ?_ | refine rq (ql tok rfl) ?_ | refine rg rfl rfl (ql tok rfl) ?_ | (refine runL_op0 (sst tok rfl rfl rfl rfl rfl) ?_; rintro _ _ _ ⟨rfl, rfl, rfl⟩) | ((first | refine ro (st_box rfl) ?_ | refine ro (st_alloc tok rfl) ?_ | refine ro (st_buildSlice tok rfl rfl rfl rfl rfl rfl rfl) ?_); rintro _ _ _ ⟨_, rfl, rfl, rfl⟩) | refine runL_q (qt_callF rfl (fun _ => head_ok _ _ s hs)) rfl rfl rfl ?_)
    have hdef : refRead (k + 1) s = finR (rloop (refRead k) s (headR s).2.1.toNat (headR s).1 (headR s).2.2) := rfl
    have hini : (headR s).2.2 = 0 → ∃ m : Nat, (headR s).1 = m ∧ m ≤ s.size := fun h1 => by
      obtain ⟨n0, p0, hh, hf⟩ := headR_imp hs h1
      exact ⟨n0, by rw [hh], (frontR_len hf).2.1⟩
    obtain ⟨pt, hpt⟩ : ∃ p : Nat, (headR s).2.1.toNat = p := ⟨_, rfl⟩
    have hpt' : (headR s).2.1 ≤ (pt : Int) := by omega
    have h32 := headR_p32 s
    rw [hpt] at hdef
    generalize (headR s).2.1 = Z at *
    generalize (headR s).2.2 = e0 at *
    generalize (headR s).1 = n0 at *
    refine run_loopN (fun i σ1 M1 L1 => i ≤ pt ∧ ∃ n e : Int, (e = 0 → ∃ m : Nat, n = m ∧ m ≤ s.size) ∧ rloop (refRead k) s (pt - i) n e = rloop (refRead k) s pt n0 e0 ∧ σ1 = [(0, .string s), (1, .int .i64 ((17 - (k + 1) : Nat) : Int)), (6, .int .i64 n), (7, .int .i64 Z), (8, .int .i64 e), (9, .int .i64 (i : Int))] ∧ M = M1 ∧ L = L1) pt [(0, .string s), (1, .int .i64 ((17 - (k + 1) : Nat) : Int)), (6, .int .i64 n0), (7, .int .i64 Z), (8, .int .i64 e0), (9, .int .i64 ((0 : Nat) : Int))] ?_ ⟨Nat.zero_le _, n0, e0, hini, rfl, rfl, rfl, rfl⟩ (fun j _ _ _ h => h.1) ?_
    · exact ⟨rfl, rfl, rfl, rfl, rfl, rfl, trivial⟩
    rintro i _ _ _ ⟨hi, n, e, hne, hit, rfl, rfl, rfl⟩ hnext
    have hfin : ∀ σ' : Env, (i = pt ∨ e ≠ 0) → lks σ' 6 = some (.int .i64 n) → lks σ' 8 = some (.int .i64 e) → rloop (refRead k) s pt n0 e0 = (n, e) := by
      intro σ' h1 _ _
      rw [← hit]
      rcases h1 with h1 | h1
      · rw [h1, Nat.sub_self]; rfl
      · exact rloop_err _ _ h1 _ _
    repeat (first | with_reducible (first | refine cS ?_ | refine cR ?_ | refine cN ?_ | refine cK ?_ | refine cB ?_ | refine cI ?_) | refine cE rfl ?_ | refine rq (qt_pev tok rfl) ?_ | refine rg rfl rfl (qt_pev tok rfl) ?_ | refine rq (ql tok rfl) ?_ | refine rg rfl rfl (ql tok rfl) ?_ | (refine runL_op0 (sst tok rfl rfl rfl rfl rfl) ?_; rintro _ _ _ ⟨rfl, rfl, rfl⟩) | ((first | refine ro (st_box rfl) ?_ | refine ro (st_alloc tok rfl) ?_ | refine ro (st_buildSlice tok rfl rfl rfl rfl rfl rfl rfl) ?_); rintro _ _ _ ⟨_, rfl, rfl, rfl⟩))
    refine run_cond rfl (fun h5 => ?_) (fun h5 => ?_)
    · have h6 : (i : Int) < Z ∧ e = 0 := by simpa using h5
      obtain ⟨hiz, rfl⟩ := h6
      have hik : i < pt := by omega
      obtain ⟨m, rfl, hm⟩ := hne rfl
      have hz : (s.extract m s.size).size = s.size - m := by simp
      repeat (first | with_reducible (first | refine cS ?_ | refine cR ?_ | refine cN ?_ | refine cK ?_ | refine cB ?_ | refine cI ?_) | refine cE rfl ?_ | refine rq (qt_pev tok rfl) ?_ | refine rg rfl rfl (qt_pev tok rfl) ?_ | refine rq (ql tok rfl) ?_ | refine rg rfl rfl (ql tok rfl) ?_ | (refine runL_op0 (sst tok rfl rfl rfl rfl rfl) ?_; rintro _ _ _ ⟨rfl, rfl, rfl⟩) | ((first | refine ro (st_box rfl) ?_ | refine ro (st_alloc tok rfl) ?_ | refine ro (st_buildSlice tok rfl rfl rfl rfl rfl rfl rfl) ?_); rintro _ _ _ ⟨_, rfl, rfl, rfl⟩) | refine runL_q (qt_strLo (n := m) tok rfl rfl rfl (fun _ => hm)) rfl rfl rfl ?_)
      refine runL_as 33 (.int .i64 ((17 - k : Nat) : Int)) rfl (by rw [wrap64_succ (by omega), show 17 - (k + 1) + 1 = 17 - k by omega]) ?_
      repeat (first | with_reducible (first | refine cS ?_ | refine cR ?_ | refine cN ?_ | refine cK ?_ | refine cB ?_ | refine cI ?_) | refine cE rfl ?_ | refine rq (qt_pev tok rfl) ?_ | refine rg rfl rfl (qt_pev tok rfl) ?_ | refine rq (ql tok rfl) ?_ | refine rg rfl rfl (ql tok rfl) ?_ | (refine runL_op0 (sst tok rfl rfl rfl rfl rfl) ?_; rintro _ _ _ ⟨rfl, rfl, rfl⟩) | ((first | refine ro (st_box rfl) ?_ | refine ro (st_alloc tok rfl) ?_ | refine ro (st_buildSlice tok rfl rfl rfl rfl rfl rfl rfl) ?_); rintro _ _ _ ⟨_, rfl, rfl, rfl⟩) | refine runL_q (qt_callF rfl (fun _ => ih (by omega) _ (s.extract m s.size) (by omega))) rfl rfl rfl ?_)
      refine run_sub' (hnext _ _ _ ⟨hik, IntKind.i64.wrap ((m : Int) + (refRead k (s.extract m s.size)).1), (refRead k (s.extract m s.size)).2, fun he => ?_, ?_, rfl, rfl, rfl⟩) ⟨rfl, rfl, rfl, rfl, rfl, lk_succ rfl (by omega), trivial⟩
      · obtain ⟨m2, hm2, hm2l, _⟩ := refRead_imp k (s.extract m s.size) (by omega) he
        exact ⟨m + m2, by rw [hm2, show (m : Int) + (m2 : Int) = ((m + m2 : Nat) : Int) by omega, wrap64_nat (by omega)], by omega⟩
      · rw [← hit, show pt - i = (pt - (i + 1)) + 1 by omega, rloop, if_neg (by simp), Int.toNat_natCast]
    · have h6 : i = pt ∨ e ≠ 0 := by
        by_cases he : e = 0
        · left
          subst he
          have : Z ≤ (i : Int) := by simpa using h5
          omega
        · exact .inr he
      have hr := hfin [(6, .int .i64 n), (8, .int .i64 e)] h6 rfl rfl
      repeat (first | with_reducible (first | refine cS ?_ | refine cR ?_ | refine cN ?_ | refine cK ?_ | refine cB ?_ | refine cI ?_) | refine cE rfl ?_ | refine rq (qt_pev tok rfl) ?_ | refine rg rfl rfl (qt_pev tok rfl) ?_ | refine rq (ql tok rfl) ?_ | refine rg rfl rfl (ql tok rfl) ?_ | (refine runL_op0 (sst tok rfl rfl rfl rfl rfl) ?_; rintro _ _ _ ⟨rfl, rfl, rfl⟩) | ((first | refine ro (st_box rfl) ?_ | refine ro (st_alloc tok rfl) ?_ | refine ro (st_buildSlice tok rfl rfl rfl rfl rfl rfl rfl) ?_); rintro _ _ _ ⟨_, rfl, rfl, rfl⟩))
      refine run_cond rfl (fun h7 => ?_) (fun h7 => ?_)
      · have h8 : e ≠ 0 := by simpa using h7
        repeat (first | with_reducible (first | refine cS ?_ | refine cR ?_ | refine cN ?_ | refine cK ?_ | refine cB ?_ | refine cI ?_) | refine cE rfl ?_ | refine rq (qt_pev tok rfl) ?_ | refine rg rfl rfl (qt_pev tok rfl) ?_ | refine rq (ql tok rfl) ?_ | refine rg rfl rfl (ql tok rfl) ?_ | (refine runL_op0 (sst tok rfl rfl rfl rfl rfl) ?_; rintro _ _ _ ⟨rfl, rfl, rfl⟩) | ((first | refine ro (st_box rfl) ?_ | refine ro (st_alloc tok rfl) ?_ | refine ro (st_buildSlice tok rfl rfl rfl rfl rfl rfl rfl) ?_); rintro _ _ _ ⟨_, rfl, rfl, rfl⟩))
        exact run_ret hC (rs := [.tmp 4, .tmp 5]) rfl (resT rfl (resT rfl resN)) (fun _ h => h) ⟨by rw [hdef, hr, finR, if_pos h8]; rfl, rfl, rfl⟩
      · have h8 : e = 0 := by simpa using h7
        subst h8
        repeat (first | with_reducible (first | refine cS ?_ | refine cR ?_ | refine cN ?_ | refine cK ?_ | refine cB ?_ | refine cI ?_) | refine cE rfl ?_ | refine rq (qt_pev tok rfl) ?_ | refine rg rfl rfl (qt_pev tok rfl) ?_ | refine rq (ql tok rfl) ?_ | refine rg rfl rfl (ql tok rfl) ?_ | (refine runL_op0 (sst tok rfl rfl rfl rfl rfl) ?_; rintro _ _ _ ⟨rfl, rfl, rfl⟩) | ((first | refine ro (st_box rfl) ?_ | refine ro (st_alloc tok rfl) ?_ | refine ro (st_buildSlice tok rfl rfl rfl rfl rfl rfl rfl) ?_); rintro _ _ _ ⟨_, rfl, rfl, rfl⟩))
        exact run_ret hC (rs := [.tmp 4, .tmp 5]) rfl (resT rfl (resT rfl resN)) (fun _ h => h) ⟨by rw [hdef, hr, finR, if_neg (by simp)]; rfl, rfl, rfl⟩
def topR (s : ByteArray) : Int × Int := if (refRead 16 s).2 ≠ 0 then (0, (refRead 16 s).2) else if 16384 < (refRead 16 s).1 then (0, 5) else ((refRead 16 s).1, 0)
theorem refRd_ok (M : Mem) (L : HL) (s : ByteArray) (hs : s.size < 4611686018427387904) : TrQ Try.prog 60 [.string s] M L (.tuple ⟨[.int .i64 (topR s).1, .int .i64 (topR s).2]⟩) := by
  refine Tr.intro 17 Try.func60 rfl rfl Try.call60 rfl ?_
  intro C hC hro
  repeat (first | with_reducible (first | refine cS ?_ | refine cR ?_ | refine cN ?_ | refine cK ?_ | refine cB ?_ | refine cI ?_) | refine cE rfl ?_ | refine rq (qt_pev tok rfl) ?_ | refine rg rfl rfl (qt_pev tok rfl) ?_ | refine rq (ql tok rfl) ?_ | refine rg rfl rfl (ql tok rfl) ?_ | (refine runL_op0 (sst tok rfl rfl rfl rfl rfl) ?_; rintro _ _ _ ⟨rfl, rfl, rfl⟩) | ((first | refine ro (st_box rfl) ?_ | refine ro (st_alloc tok rfl) ?_ | refine ro (st_buildSlice tok rfl rfl rfl rfl rfl rfl rfl) ?_); rintro _ _ _ ⟨_, rfl, rfl, rfl⟩) | refine runL_q (qt_callF rfl (fun _ => refread_ok _ 16 (by omega) _ s hs)) rfl rfl rfl ?_)
  refine run_cond rfl (fun h => ?_) (fun h => ?_)
  · have h1 : (refRead 16 s).2 ≠ 0 := by simpa using h
    repeat (first | with_reducible (first | refine cS ?_ | refine cR ?_ | refine cN ?_ | refine cK ?_ | refine cB ?_ | refine cI ?_) | refine cE rfl ?_ | refine rq (qt_pev tok rfl) ?_ | refine rg rfl rfl (qt_pev tok rfl) ?_ | refine rq (ql tok rfl) ?_ | refine rg rfl rfl (ql tok rfl) ?_ | (refine runL_op0 (sst tok rfl rfl rfl rfl rfl) ?_; rintro _ _ _ ⟨rfl, rfl, rfl⟩) | ((first | refine ro (st_box rfl) ?_ | refine ro (st_alloc tok rfl) ?_ | refine ro (st_buildSlice tok rfl rfl rfl rfl rfl rfl rfl) ?_); rintro _ _ _ ⟨_, rfl, rfl, rfl⟩))
    exact run_ret hC (rs := [.tmp 2, .tmp 3]) rfl (resT rfl (resT rfl resN)) (fun _ h => h) ⟨by rw [topR, if_pos h1]; rfl, rfl, rfl⟩
  have h1 : ¬ (refRead 16 s).2 ≠ 0 := by simpa using h
  repeat (first | with_reducible (first | refine cS ?_ | refine cR ?_ | refine cN ?_ | refine cK ?_ | refine cB ?_ | refine cI ?_) | refine cE rfl ?_ | refine rq (qt_pev tok rfl) ?_ | refine rg rfl rfl (qt_pev tok rfl) ?_ | refine rq (ql tok rfl) ?_ | refine rg rfl rfl (ql tok rfl) ?_ | (refine runL_op0 (sst tok rfl rfl rfl rfl rfl) ?_; rintro _ _ _ ⟨rfl, rfl, rfl⟩) | ((first | refine ro (st_box rfl) ?_ | refine ro (st_alloc tok rfl) ?_ | refine ro (st_buildSlice tok rfl rfl rfl rfl rfl rfl rfl) ?_); rintro _ _ _ ⟨_, rfl, rfl, rfl⟩))
  refine run_cond rfl (fun h => ?_) (fun h => ?_)
  · have h2 : 16384 < (refRead 16 s).1 := by simpa using h
    repeat (first | with_reducible (first | refine cS ?_ | refine cR ?_ | refine cN ?_ | refine cK ?_ | refine cB ?_ | refine cI ?_) | refine cE rfl ?_ | refine rq (qt_pev tok rfl) ?_ | refine rg rfl rfl (qt_pev tok rfl) ?_ | refine rq (ql tok rfl) ?_ | refine rg rfl rfl (ql tok rfl) ?_ | (refine runL_op0 (sst tok rfl rfl rfl rfl rfl) ?_; rintro _ _ _ ⟨rfl, rfl, rfl⟩) | ((first | refine ro (st_box rfl) ?_ | refine ro (st_alloc tok rfl) ?_ | refine ro (st_buildSlice tok rfl rfl rfl rfl rfl rfl rfl) ?_); rintro _ _ _ ⟨_, rfl, rfl, rfl⟩))
    exact run_ret hC (rs := [.tmp 2, .tmp 3]) rfl (resT rfl (resT rfl resN)) (fun _ h => h) ⟨by rw [topR, if_neg h1, if_pos h2]; rfl, rfl, rfl⟩
  · have h2 : ¬ 16384 < (refRead 16 s).1 := by simpa using h
    repeat (first | with_reducible (first | refine cS ?_ | refine cR ?_ | refine cN ?_ | refine cK ?_ | refine cB ?_ | refine cI ?_) | refine cE rfl ?_ | refine rq (qt_pev tok rfl) ?_ | refine rg rfl rfl (qt_pev tok rfl) ?_ | refine rq (ql tok rfl) ?_ | refine rg rfl rfl (ql tok rfl) ?_ | (refine runL_op0 (sst tok rfl rfl rfl rfl rfl) ?_; rintro _ _ _ ⟨rfl, rfl, rfl⟩) | ((first | refine ro (st_box rfl) ?_ | refine ro (st_alloc tok rfl) ?_ | refine ro (st_buildSlice tok rfl rfl rfl rfl rfl rfl rfl) ?_); rintro _ _ _ ⟨_, rfl, rfl, rfl⟩))
    exact run_ret hC (rs := [.tmp 2, .tmp 3]) rfl (resT rfl (resT rfl resN)) (fun _ h => h) ⟨by rw [topR, if_neg h1, if_neg h2]; rfl, rfl, rfl⟩
def refCheck (s : ByteArray) : Int := if (topR s).2 ≠ 0 then (topR s).2 else if (topR s).1 ≠ (s.size : Int) then 7 else 0
theorem refCheck_ok (M : Mem) (L : HL) (s : ByteArray) (hs : s.size < 4611686018427387904) : TrQ Try.prog 41 [.string s] M L (.int .i64 (refCheck s)) := by
  refine Tr.intro 17 Try.func41 rfl rfl Try.call41 rfl ?_
  intro C hC hro
  repeat (first | with_reducible (first | refine cS ?_ | refine cR ?_ | refine cN ?_ | refine cK ?_ | refine cB ?_ | refine cI ?_) | refine cE rfl ?_ | refine rq (qt_pev tok rfl) ?_ | refine rg rfl rfl (qt_pev tok rfl) ?_ | refine rq (ql tok rfl) ?_ | refine rg rfl rfl (ql tok rfl) ?_ | (refine runL_op0 (sst tok rfl rfl rfl rfl rfl) ?_; rintro _ _ _ ⟨rfl, rfl, rfl⟩) | ((first | refine ro (st_box rfl) ?_ | refine ro (st_alloc tok rfl) ?_ | refine ro (st_buildSlice tok rfl rfl rfl rfl rfl rfl rfl) ?_); rintro _ _ _ ⟨_, rfl, rfl, rfl⟩) | refine runL_q (qt_callF rfl (fun _ => refRd_ok _ _ s hs)) rfl rfl rfl ?_)
  refine run_cond rfl (fun h => ?_) (fun h => ?_)
  · have h1 : (topR s).2 ≠ 0 := by simpa using h
    repeat (first | with_reducible (first | refine cS ?_ | refine cR ?_ | refine cN ?_ | refine cK ?_ | refine cB ?_ | refine cI ?_) | refine cE rfl ?_ | refine rq (qt_pev tok rfl) ?_ | refine rg rfl rfl (qt_pev tok rfl) ?_ | refine rq (ql tok rfl) ?_ | refine rg rfl rfl (ql tok rfl) ?_ | (refine runL_op0 (sst tok rfl rfl rfl rfl rfl) ?_; rintro _ _ _ ⟨rfl, rfl, rfl⟩) | ((first | refine ro (st_box rfl) ?_ | refine ro (st_alloc tok rfl) ?_ | refine ro (st_buildSlice tok rfl rfl rfl rfl rfl rfl rfl) ?_); rintro _ _ _ ⟨_, rfl, rfl, rfl⟩))
    exact run_ret hC (rs := [.tmp 2]) rfl (resT rfl resN) (fun _ h => h) ⟨by rw [refCheck, if_pos h1]; rfl, rfl, rfl⟩
  have h1 : ¬ (topR s).2 ≠ 0 := by simpa using h
  repeat (first | with_reducible (first | refine cS ?_ | refine cR ?_ | refine cN ?_ | refine cK ?_ | refine cB ?_ | refine cI ?_) | refine cE rfl ?_ | refine rq (qt_pev tok rfl) ?_ | refine rg rfl rfl (qt_pev tok rfl) ?_ | refine rq (ql tok rfl) ?_ | refine rg rfl rfl (ql tok rfl) ?_ | (refine runL_op0 (sst tok rfl rfl rfl rfl rfl) ?_; rintro _ _ _ ⟨rfl, rfl, rfl⟩) | ((first | refine ro (st_box rfl) ?_ | refine ro (st_alloc tok rfl) ?_ | refine ro (st_buildSlice tok rfl rfl rfl rfl rfl rfl rfl) ?_); rintro _ _ _ ⟨_, rfl, rfl, rfl⟩))
  refine run_cond rfl (fun h => ?_) (fun h => ?_)
  · have h2 : (topR s).1 ≠ (s.size : Int) := by simpa using h
    repeat (first | with_reducible (first | refine cS ?_ | refine cR ?_ | refine cN ?_ | refine cK ?_ | refine cB ?_ | refine cI ?_) | refine cE rfl ?_ | refine rq (qt_pev tok rfl) ?_ | refine rg rfl rfl (qt_pev tok rfl) ?_ | refine rq (ql tok rfl) ?_ | refine rg rfl rfl (ql tok rfl) ?_ | (refine runL_op0 (sst tok rfl rfl rfl rfl rfl) ?_; rintro _ _ _ ⟨rfl, rfl, rfl⟩) | ((first | refine ro (st_box rfl) ?_ | refine ro (st_alloc tok rfl) ?_ | refine ro (st_buildSlice tok rfl rfl rfl rfl rfl rfl rfl) ?_); rintro _ _ _ ⟨_, rfl, rfl, rfl⟩))
    exact run_ret hC (rs := [.tmp 2]) rfl (resT rfl resN) (fun _ h => h) ⟨by rw [refCheck, if_neg h1, if_pos h2]; rfl, rfl, rfl⟩
  · have h2 : ¬ (topR s).1 ≠ (s.size : Int) := by simpa using h
    repeat (first | with_reducible (first | refine cS ?_ | refine cR ?_ | refine cN ?_ | refine cK ?_ | refine cB ?_ | refine cI ?_) | refine cE rfl ?_ | refine rq (qt_pev tok rfl) ?_ | refine rg rfl rfl (qt_pev tok rfl) ?_ | refine rq (ql tok rfl) ?_ | refine rg rfl rfl (ql tok rfl) ?_ | (refine runL_op0 (sst tok rfl rfl rfl rfl rfl) ?_; rintro _ _ _ ⟨rfl, rfl, rfl⟩) | ((first | refine ro (st_box rfl) ?_ | refine ro (st_alloc tok rfl) ?_ | refine ro (st_buildSlice tok rfl rfl rfl rfl rfl rfl rfl) ?_); rintro _ _ _ ⟨_, rfl, rfl, rfl⟩))
    exact run_ret hC (rs := [.tmp 2]) rfl (resT rfl resN) (fun _ h => h) ⟨by rw [refCheck, if_neg h1, if_neg h2]; rfl, rfl, rfl⟩
theorem ext_all (s : ByteArray) : s.extract 0 s.size = s := by
  apply ByteArray.ext
  simp
theorem refCheck_imp {s : ByteArray} (hs : s.size < 4611686018427387904) (h : refCheck s = 0) : checkR s = 0 := by
  have h1 : ¬ (topR s).2 ≠ 0 := fun h1 => by rw [refCheck, if_pos h1] at h; exact h1 h
  have h2 : ¬ (topR s).1 ≠ (s.size : Int) := fun h2 => by rw [refCheck, if_neg h1, if_pos h2] at h; cases h
  have h3 : (refRead 16 s).2 = 0 := by
    apply Classical.byContradiction
    intro h3
    rw [topR, if_pos h3] at h1
    exact h1 h3
  have h4 : ¬ 16384 < (refRead 16 s).1 := fun h4 => by rw [topR, if_neg (by simp [h3]), if_pos h4] at h1; exact h1 (by decide)
  obtain ⟨n, hn, _, hw⟩ := refRead_imp 16 s hs h3
  have h5 := hw s 0 (Nat.zero_le _) (ext_all s)
  rw [topR, if_neg (by simp [h3]), if_neg h4] at h2
  have h6 : n = s.size := by
    have : (refRead 16 s).1 = (s.size : Int) := by simpa using h2
    omega
  have hrr : readR (walkR s 16 0) = ((n : Int), 0) := by
    rw [h5, readR]
    simp only [Nat.zero_add]
    rw [if_neg (by omega)]
  rw [checkR, hrr, if_neg (by simp [h6])]
end Go.Proofs.Ytbpgiodfccijmaa
namespace Go.Proofs.Ytbpgiodfccijmaa
open Go.Chi

/-! ### the document's readers answer as the program's -/
def rawV (s : ByteArray) : Nat → Nat
  | 0 => 0
  | i + 1 => rawV s i * 256 + (byte s (i + 1)).toNat
theorem rawV_lt (s : ByteArray) : ∀ i, rawV s i < 256 ^ i
  | 0 => show (0 : Nat) < 1 by decide
  | i + 1 => by
    have := rawV_lt s i
    have hb := byte_pos s (i + 1)
    rw [rawV, Nat.pow_succ]
    omega
theorem refV_raw (s : ByteArray) : ∀ i, i ≤ 8 → refV s i = (rawV s i : Int)
  | 0, _ => rfl
  | i + 1, h => by
    have ih := refV_raw s i (by omega)
    have hb := byte_pos s (i + 1)
    have hlt := rawV_lt s i
    have h7 : 256 ^ i ≤ 256 ^ 7 := Nat.pow_le_pow_right (by decide) (by omega)
    have h7' : rawV s i < 72057594037927936 := by
      have : (256 : Nat) ^ 7 = 72057594037927936 := by decide
      omega
    rw [refV, ih, rawV, u64_wrap, u64_wrap, u64_wrap]
    omega
theorem raw_one (s : ByteArray) : rawV s 1 = (byte s 1).toNat := by simp [rawV]
theorem raw_pos {s : ByteArray} (h : byte s 1 ≠ 0) : ∀ i, rawV s (i + 1) ≠ 0
  | 0 => by
    have hb := byte_pos s 1
    show rawV s 1 ≠ 0
    rw [raw_one]
    omega
  | i + 1 => by
    have := raw_pos h i
    rw [rawV]
    omega
theorem ext_snoc (s : ByteArray) {i : Nat} (h : i + 1 < s.size) : s.extract 1 (i + 2) = s.extract 1 (i + 1) ++ bytesI [byte s (i + 1)] := by
  have hb : bytesI [byte s (i + 1)] = ⟨#[s[i + 1]'h]⟩ := by
    have hx : byte s (i + 1) = ((s[i + 1]'h).toNat : Int) := by rw [byte, getElem?_pos s (i + 1) h]; rfl
    rw [hx]
    simp [bytesI]
    rfl
  rw [hb]
  apply ByteArray.ext
  apply Array.ext'
  simp only [ByteArray.data_append, ByteArray.data_extract, Array.toList_append, Array.toList_extract, List.extract_eq_take_drop]
  have hl : s.data.toList.length = s.size := by simp
  have hg : (s[i + 1]'h) = s.data.toList[i + 1]'(by omega) := rfl
  rw [hg]
  have h1 : i + 2 - 1 = i + 1 := by omega
  have h2 : i + 1 - 1 = i := by omega
  rw [h1, h2, List.take_add_one, List.getElem?_drop, show 1 + i = i + 1 by omega, List.getElem?_eq_getElem (by omega)]
  rfl
theorem dig_raw {s : ByteArray} (h : byte s 1 ≠ 0) : ∀ i, i + 1 < s.size → digN (rawV s (i + 1)) = s.extract 1 (i + 2)
  | 0, hs => by
    have hb := byte_pos s 1
    have h0 : rawV s 1 ≠ 0 := raw_pos h 0
    have hd : digN (rawV s 1) = digN (rawV s 1 / 256) ++ bytesI [((rawV s 1 % 256 : Nat) : Int)] := by rw [digN, if_neg h0]
    rw [hd, ext_snoc s hs]
    have e1 : rawV s 1 / 256 = 0 := by rw [raw_one]; omega
    have e2 : ((rawV s 1 % 256 : Nat) : Int) = byte s 1 := by rw [raw_one]; omega
    rw [e1, e2, digN_zero]
    congr 1
    apply ByteArray.ext
    simp
  | i + 1, hs => by
    have ih := dig_raw h i (by omega)
    have hb := byte_pos s (i + 2)
    have h0 : rawV s (i + 2) ≠ 0 := raw_pos h (i + 1)
    have hd : digN (rawV s (i + 2)) = digN (rawV s (i + 2) / 256) ++ bytesI [((rawV s (i + 2) % 256 : Nat) : Int)] := by rw [digN, if_neg h0]
    have e0 : rawV s (i + 2) = rawV s (i + 1) * 256 + (byte s (i + 2)).toNat := rfl
    have e1 : rawV s (i + 2) / 256 = rawV s (i + 1) := by omega
    have e2 : ((rawV s (i + 2) % 256 : Nat) : Int) = byte s (i + 2) := by omega
    rw [show i + 1 + 1 = i + 2 by omega, hd, e1, e2, ih, ext_snoc s hs]
theorem ext_head (s : ByteArray) {n : Nat} (h : 0 < s.size) (hn : 1 ≤ n) : s.extract 0 n = bytesI [byte s 0] ++ s.extract 1 n := by
  have hb : bytesI [byte s 0] = ⟨#[s[0]'h]⟩ := by
    have hx : byte s 0 = ((s[0]'h).toNat : Int) := by rw [byte, getElem?_pos s 0 h]; rfl
    rw [hx]
    simp [bytesI]
    rfl
  rw [hb]
  apply ByteArray.ext
  apply Array.ext'
  simp only [ByteArray.data_append, ByteArray.data_extract, Array.toList_append, Array.toList_extract, List.extract_eq_take_drop]
  have hl : s.data.toList.length = s.size := by simp
  have hg : s.data.toList[0]? = some (s[0]'h) := by rw [List.getElem?_eq_getElem (by omega)]; rfl
  generalize (s[0]'h) = y at hg ⊢
  cases hd : s.data.toList with
  | nil => rw [hd] at hl; simp at hl; omega
  | cons x l =>
    rw [hd] at hg
    simp at hg
    obtain ⟨m, rfl⟩ : ∃ m, n = m + 1 := ⟨n - 1, by omega⟩
    simp [hg]
theorem refNum_eq (s : ByteArray) : refNum s = numR s := by
  by_cases he : (refNum s).2.2 = 0
  · exact (refNum_imp he).symm
  have hb := byte_pos s 0
  have hr := rest1_size (s := s)
  unfold refNum at he ⊢
  unfold numR
  by_cases h0 : s.size = 0
  · rw [if_pos h0, if_pos h0]
  rw [if_neg h0] at he ⊢
  rw [if_neg h0]
  by_cases h1 : byte s 0 < 248
  · rw [if_pos h1] at he; exact absurd rfl he
  rw [if_neg h1] at he ⊢
  rw [if_neg (show ¬ byte s 0 ≤ 247 by omega)]
  have hk : (refK s : Int) = byte s 0 - 247 := by unfold refK; omega
  by_cases h2 : s.size < refK s + 1
  · rw [if_pos h2, if_pos (show ((rest1 s).size : Int) < byte s 0 - 247 by omega)]
  rw [if_neg h2] at he ⊢
  rw [if_neg (show ¬ ((rest1 s).size : Int) < byte s 0 - 247 by omega)]
  by_cases h3 : numB (refV s (refK s)).toNat ≠ s.extract 0 (refK s + 1)
  · rw [if_pos h3]
    have hz : (byte s 0 - 247).toNat = refK s := rfl
    rw [hz, ← refV_eq s (refK s), byte_rest]
    by_cases h4 : byte s (0 + 1) = 0 ∨ refV s (refK s) ≤ 247
    · rw [if_pos h4]
    · exfalso
      apply h3
      have h5 : byte s 1 ≠ 0 := fun e => h4 (.inl e)
      have h6 : ¬ refV s (refK s) ≤ 247 := fun e => h4 (.inr e)
      have hk8 : refK s ≤ 8 := by omega
      have hraw := refV_raw s (refK s) hk8
      obtain ⟨m, hm⟩ : ∃ m, refK s = m + 1 := ⟨refK s - 1, by omega⟩
      have hd := dig_raw h5 m (by omega)
      rw [hraw, Int.toNat_natCast, numB, if_neg (by omega), hm, hd, show m + 1 + 1 = m + 2 by omega, ext_head s (n := m + 2) (by omega) (by omega)]
      congr 2
      have hsz : (s.extract 1 (m + 2)).size = m + 1 := by simp; omega
      rw [hsz]
      have e1 : IntKind.i64.wrap (247 + ((m + 1 : Nat) : Int)) = ((248 + m : Nat) : Int) := by
        rw [show (247 : Int) + ((m + 1 : Nat) : Int) = ((248 + m : Nat) : Int) by omega, wrap64_nat (by omega)]
      rw [e1, u8_nat (by omega)]
      congr 1
      omega
  · rw [if_neg h3] at he
    exact absurd rfl he
theorem refText_eq (s : ByteArray) (most : Nat) : refText s most = textR s most := by
  rw [refText, textR, refNum_eq]
theorem abc_all' : ∀ n : Fin 128, inAbc ((n.val : Nat) : Int) = true → nameB ((n.val : Nat) : Int) = true := by decide +kernel
theorem named_imp {s : ByteArray} : ∀ f p, s.size < p + f → namedAt s f p = true → ∀ i, p ≤ i → i < s.size → nameB (byte s i) = true
  | 0, p, hf, _, i, hi, hs => by omega
  | f + 1, p, hf, h, i, hi, hs => by
    have hp : p < s.size := by omega
    rw [namedAt, if_pos hp, Bool.and_eq_true] at h
    have hlow : (s[p]'hp).toNat < 128 := by
      apply Classical.byContradiction
      intro hn
      have := (decode_high s p hp (by omega)).1
      have h1 := h.1
      rw [inAbc, decide_eq_true_eq, runeIx, if_neg (by omega)] at h1
      omega
    rw [decode_ascii s p hp hlow] at h
    by_cases e : i = p
    · subst e
      have hx : byte s i = ((s[i]'hp).toNat : Int) := by rw [byte, getElem?_pos s i hp]; rfl
      rw [hx]
      exact abc_all' ⟨_, hlow⟩ h.1
    · exact named_imp f (p + 1) (by omega) h.2 i (by omega) hs
theorem name_eq (s : ByteArray) : nameR s = namedR s := by
  rw [Bool.eq_iff_iff]
  constructor
  · exact nameR_imp
  · intro h
    rw [namedR, Bool.and_eq_true] at h
    rw [nameR, h.2, Bool.and_true, List.all_eq_true]
    intro i hi
    exact named_imp _ 0 (by omega) h.1 i (Nat.zero_le _) (List.mem_range.1 hi)
end Go.Proofs.Ytbpgiodfccijmaa
namespace Go.Proofs.Ytbpgiodfccijmaa
open Go.Chi

/-! ### numbers and texts as bytes: the plain law -/
theorem ba_ext {a b : ByteArray} (h : a.data.toList = b.data.toList) : a = b := ByteArray.ext (Array.ext' h)
theorem ba_app (a b : ByteArray) : (a ++ b).data.toList = a.data.toList ++ b.data.toList := by
  simp [ByteArray.data_append]
theorem ba_extract (a : ByteArray) (i j : Nat) : (a.extract i j).data.toList = (a.data.toList.take j).drop i := by
  simp [ByteArray.data_extract, List.extract_eq_take_drop, List.drop_take]
theorem ba_len (a : ByteArray) : a.data.toList.length = a.size := by simp
theorem ext_left (a b : ByteArray) : (a ++ b).extract 0 a.size = a := by
  apply ba_ext
  rw [ba_extract, ba_app, ← ba_len, List.take_left' rfl, List.drop_zero]
theorem ext_right (a b : ByteArray) : (a ++ b).extract a.size (a ++ b).size = b := by
  apply ba_ext
  rw [ba_extract, ← ba_len, ← ba_len, ba_app, List.take_of_length_le (Nat.le_refl _), List.drop_left' rfl]
theorem ext_split (s : ByteArray) {n : Nat} (_h : n ≤ s.size) : s = s.extract 0 n ++ s.extract n s.size := by
  apply ba_ext
  rw [ba_app, ba_extract, ba_extract, List.drop_zero, ← ba_len, List.take_of_length_le (l := s.data.toList) (Nat.le_refl _), List.take_append_drop]
theorem app_assoc (a b c : ByteArray) : a ++ b ++ c = a ++ (b ++ c) := by
  apply ba_ext
  simp only [ba_app, List.append_assoc]
theorem app_nil (a : ByteArray) : a ++ ⟨#[]⟩ = a := by
  apply ba_ext
  rw [ba_app]
  simp
theorem nil_app (a : ByteArray) : (⟨#[]⟩ : ByteArray) ++ a = a := by
  apply ba_ext
  rw [ba_app]
  simp
theorem app_left_inj {a b c : ByteArray} (h : a ++ b = a ++ c) : b = c := by
  apply ba_ext
  have := congrArg (fun x : ByteArray => x.data.toList) h
  simp only [ba_app] at this
  exact List.append_cancel_left this
theorem byte_left {a b : ByteArray} {i : Nat} (h : i < a.size) : byte (a ++ b) i = byte a i := by
  unfold byte
  rw [getElem?_pos (a ++ b) i (by rw [app_size]; omega), getElem?_pos a i h, ByteArray.getElem_append_left h]
theorem byte_right (a b : ByteArray) (i : Nat) : byte (a ++ b) (a.size + i) = byte b i := by
  unfold byte
  by_cases h : i < b.size
  · rw [getElem?_pos (a ++ b) _ (by rw [app_size]; omega), getElem?_pos b i h, ByteArray.getElem_append_right (by omega)]
    simp
  · rw [getElem?_neg (a ++ b) _ (by rw [app_size]; omega), getElem?_neg b i h]
theorem byte_one (x : Int) (h0 : 0 ≤ x) (h : x < 256) : byte (bytesI [x]) 0 = x := by
  have e : (bytesI [x])[0]? = some (UInt8.ofNat x.toNat) := rfl
  unfold byte
  rw [e]
  simp
  omega
theorem ext_one {s : ByteArray} (h : 0 < s.size) : s.extract 0 1 = bytesI [byte s 0] := by
  have e : byte s 0 = ((s[0]'h).toNat : Int) := by unfold byte; rw [getElem?_pos s 0 h]; rfl
  apply ba_ext
  rw [ba_extract, List.drop_zero, e]
  have hl : 0 < s.data.toList.length := by rw [ba_len]; exact h
  have hg : (s[0]'h) = s.data.toList[0]'hl := rfl
  rw [hg]
  obtain ⟨b, l, hbl⟩ : ∃ b l, s.data.toList = b :: l := by
    cases hs : s.data.toList with
    | nil => rw [hs] at hl; simp at hl
    | cons b l => exact ⟨b, l, rfl⟩
  have hb : s.data.toList[0]'hl = b := by simp only [hbl, List.getElem_cons_zero]
  rw [hb, hbl]
  show [b] = [UInt8.ofNat ((b.toNat : Int)).toNat]
  simp
theorem raw_ext {s t : ByteArray} : ∀ {n : Nat}, (∀ i, i < n → byte s (i + 1) = byte t (i + 1)) → rawV s n = rawV t n
  | 0, _ => rfl
  | n + 1, h => by rw [rawV, rawV, raw_ext (fun i hi => h i (by omega)), h n (by omega)]
/-- a number's digits, read -/
theorem raw_dig : ∀ (v : Nat) (x : Int) (rest : ByteArray), rawV (bytesI [x] ++ (digN v ++ rest)) (digN v).size = v := by
  intro v
  induction v using Nat.strongRecOn with
  | _ v ih =>
    intro x rest
    by_cases h0 : v = 0
    · subst h0
      rw [digN_zero]
      rfl
    · have hd : digN v = digN (v / 256) ++ bytesI [((v % 256 : Nat) : Int)] := by rw [digN, if_neg h0]
      have hs : (digN v).size = (digN (v / 256)).size + 1 := by rw [hd, app_size, bytesI_one]
      rw [hs, hd, rawV, app_assoc, ih (v / 256) (by omega) x (bytesI [((v % 256 : Nat) : Int)] ++ rest)]
      have e1 : (digN (v / 256)).size + 1 = (bytesI [x]).size + ((digN (v / 256)).size + 0) := by rw [bytesI_one]; omega
      rw [e1, byte_right, byte_right, byte_left (by rw [bytesI_one]; omega), byte_one _ (by omega) (by omega)]
      omega
theorem numB_size {v : Nat} (h : v < 18446744073709551616) : 1 ≤ (numB v).size ∧ (numB v).size ≤ 9 := by
  have := digN_len h
  unfold numB
  split
  · rw [bytesI_one]; omega
  · rw [app_size, bytesI_one]; omega
theorem numB_big {v : Nat} (h : ¬ v < 248) (hv : v < 18446744073709551616) : numB v = bytesI [((247 + (digN v).size : Nat) : Int)] ++ digN v ∧ 1 ≤ (digN v).size ∧ (digN v).size ≤ 8 := by
  have h8 := digN_len hv
  have h1 : 1 ≤ (digN v).size := by
    rw [digN, if_neg (by omega), app_size, bytesI_one]
    omega
  refine ⟨?_, h1, h8⟩
  rw [numB, if_neg h]
  congr 3
  rw [show (247 : Int) + ((digN v).size : Int) = ((247 + (digN v).size : Nat) : Int) by omega, wrap64_nat (by omega), u8_nat (by omega)]
/-- what was put as a number is read as it -/
theorem num_read {v : Nat} (hv : v < 18446744073709551616) (rest : ByteArray) : numR (numB v ++ rest) = ((v : Int), ((numB v).size : Int), 0) := by
  rw [← refNum_eq]
  by_cases h : v < 248
  · have hB : numB v = bytesI [(v : Int)] := by rw [numB, if_pos h, u8_nat (by omega)]
    have h0 : byte (numB v ++ rest) 0 = v := by rw [hB, byte_left (by rw [bytesI_one]; omega), byte_one _ (by omega) (by omega)]
    unfold refNum
    rw [if_neg (by rw [app_size, hB, bytesI_one]; omega), if_pos (by rw [h0]; omega), h0, hB, bytesI_one]
    rfl
  · obtain ⟨hB, h1, h8⟩ := numB_big h hv
    have h0 : byte (numB v ++ rest) 0 = ((247 + (digN v).size : Nat) : Int) := by
      rw [hB, app_assoc, byte_left (by rw [bytesI_one]; omega), byte_one _ (by omega) (by omega)]
    have hk : refK (numB v ++ rest) = (digN v).size := by
      unfold refK
      rw [h0]
      omega
    have hsz : (numB v).size = (digN v).size + 1 := by rw [hB, app_size, bytesI_one]; omega
    have hr : refV (numB v ++ rest) (digN v).size = (v : Int) := by
      rw [refV_raw _ _ h8, hB, app_assoc, raw_dig]
    unfold refNum
    rw [if_neg (by rw [app_size]; omega), if_neg (by rw [h0]; omega), hk, if_neg (by rw [app_size]; omega), hr, Int.toNat_natCast, ← hsz, ext_left, if_neg (by simp)]
/-- what is read as a number is the number's bytes -/
theorem num_back {s : ByteArray} (h : (numR s).2.2 = 0) : ∃ v : Nat, v < 18446744073709551616 ∧ numR s = ((v : Int), ((numB v).size : Int), 0) ∧ s = numB v ++ s.extract (numB v).size s.size := by
  rw [← refNum_eq] at h ⊢
  have hb := byte_pos s 0
  unfold refNum at h ⊢
  split at h
  · cases h
  rename_i h0
  rw [if_neg h0]
  split at h
  · rename_i h1
    rw [if_pos h1]
    have hB : numB (byte s 0).toNat = bytesI [byte s 0] := by
      rw [numB, if_pos (by omega), u8_nat (by omega), Int.toNat_of_nonneg hb.1]
    refine ⟨(byte s 0).toNat, by omega, ?_, ?_⟩
    · rw [hB, bytesI_one, Int.toNat_of_nonneg hb.1]; rfl
    · rw [hB, bytesI_one, ← ext_one (by omega)]
      exact ext_split s (by omega)
  rename_i h1
  rw [if_neg h1]
  split at h
  · cases h
  rename_i h2
  rw [if_neg h2]
  split at h
  · cases h
  rename_i h3
  rw [if_neg h3]
  have hv := refV_pos s (refK s)
  have h3' : numB (refV s (refK s)).toNat = s.extract 0 (refK s + 1) := by simpa using h3
  have hsz : (numB (refV s (refK s)).toNat).size = refK s + 1 := by rw [h3']; simp; omega
  refine ⟨(refV s (refK s)).toNat, by omega, ?_, ?_⟩
  · rw [hsz, Int.toNat_of_nonneg hv.1]
  · rw [hsz, h3']
    exact ext_split s (by omega)
/-! ### texts -/
def textB (t : ByteArray) : ByteArray := numB t.size ++ t
theorem ext_mid (a b c : ByteArray) : (a ++ (b ++ c)).extract a.size (a.size + b.size) = b := by
  apply ba_ext
  rw [ba_extract, ba_app, ba_app, ← ba_len, ← ba_len, ← List.append_assoc, List.take_left' (by rw [List.length_append]), List.drop_left' rfl]
theorem text_read {t : ByteArray} {most : Nat} (h : t.size ≤ most) (hm : most < 4611686018427387904) (rest : ByteArray) : textR (textB t ++ rest) most = (t, ((textB t).size : Int), 0) := by
  have hn := num_read (v := t.size) (by omega) (t ++ rest)
  have hT : textB t ++ rest = numB t.size ++ (t ++ rest) := by rw [textB, app_assoc]
  have hz : (textB t).size = (numB t.size).size + t.size := app_size _ _
  unfold textR
  rw [hT, hn]
  simp only [ne_eq, not_true_eq_false, if_false]
  rw [if_neg (by omega), if_neg (by rw [app_size, app_size]; omega)]
  rw [Int.toNat_natCast, show (((numB t.size).size : Int) + (t.size : Int)).toNat = (numB t.size).size + t.size by omega, ext_mid, hz]
  congr 2
theorem text_back {s : ByteArray} {most : Nat} (h : (textR s most).2.2 = 0) : ∃ t : ByteArray, t.size ≤ most ∧ textR s most = (t, ((textB t).size : Int), 0) ∧ s = textB t ++ s.extract (textB t).size s.size := by
  unfold textR at h ⊢
  split at h
  · rename_i h1; exact absurd h h1
  rename_i h1
  have h1 : (numR s).2.2 = 0 := by simpa using h1
  obtain ⟨v, hv, hn, hs⟩ := num_back h1
  rw [hn] at h ⊢
  simp only [ne_eq, not_true_eq_false, if_false] at h ⊢
  split at h
  · cases h
  rename_i h2
  rw [if_neg h2]
  split at h
  · cases h
  rename_i h3
  rw [if_neg h3]
  have hsz := congrArg ByteArray.size hs
  rw [app_size] at hsz
  obtain ⟨r, hr⟩ : ∃ r, r = s.extract (numB v).size s.size := ⟨_, rfl⟩
  rw [← hr] at hs hsz
  have hrv : v ≤ r.size := by omega
  have hr2 := ext_split r hrv
  obtain ⟨t, ht⟩ : ∃ t, t = r.extract 0 v := ⟨_, rfl⟩
  have htz : t.size = v := by rw [ht]; simp; omega
  have hT : textB t = numB v ++ t := by rw [textB, htz]
  have hTz : (textB t).size = (numB v).size + v := by rw [hT, app_size, htz]
  have hall : s = textB t ++ r.extract v r.size := by
    rw [hT, app_assoc, ht, ← hr2]; exact hs
  refine ⟨t, by omega, ?_, ?_⟩
  · rw [Int.toNat_natCast, show (((numB v).size : Int) + (v : Int)).toNat = (numB v).size + v by omega, hTz]
    have : s.extract (numB v).size ((numB v).size + v) = t := by
      have e := ext_mid (numB v) t (r.extract v r.size)
      rw [htz] at e
      rw [← e, ← app_assoc, ← hT, ← hall]
    rw [this]
    congr 2
  · have e := ext_right (textB t) (r.extract v r.size)
    rw [← hall] at e
    rw [e]
    exact hall
end Go.Proofs.Ytbpgiodfccijmaa
namespace Go.Proofs.Ytbpgiodfccijmaa
open Go.Chi

/-! ### records as bytes: the plain law -/
/-- what a record says, wherever its lists lie -/
structure Re where
  kind : Int
  epoch : Int
  txn : Tx
  yes : Bool
  auditor : Int
  mem : List Mb
  tags : List ByteArray
  body : ByteArray
def bz : ByteArray := ⟨#[]⟩
inductive RecP : Re → Prop
  | epoch (e : Int) : 1 ≤ e → e ≤ 255 → RecP ⟨1, e, ⟨0, 0, 0⟩, false, 0, [], [], bz⟩
  | vote (t : Tx) (y : Bool) (a : Int) (m : List Mb) (b : ByteArray) : mayTx t = true → orgW a = true → mayMb t m = true → checkR b = 0 → RecP ⟨2, 0, t, y, a, m, [], b⟩
  | commit (t : Tx) (a : Int) (m : List Mb) (g : List ByteArray) : mayTx t = true → orgW a = true → mayMb t m = true → g.length = m.length → (∀ x ∈ g, checkR x = 0) → RecP ⟨3, 0, t, true, a, m, g, bz⟩
  | abort (t : Tx) : mayTx t = true → RecP ⟨3, 0, t, false, 0, [], [], bz⟩
  | learn (t : Tx) (y : Bool) : mayTx t = true → RecP ⟨4, 0, t, y, 0, [], [], bz⟩
def nB (n : Int) : ByteArray := numB n.toNat
def txB (t : Tx) : ByteArray := nB t.coord ++ (nB t.epoch ++ nB t.seq)
def yB (y : Bool) : ByteArray := if y = true then nB 1 else nB 0
def mbB : List Mb → ByteArray
  | [] => bz
  | m :: l => nB m.org ++ (textB m.digest ++ mbB l)
def msB (l : List Mb) : ByteArray := nB (l.length : Int) ++ mbB l
def tsB : List ByteArray → ByteArray
  | [] => bz
  | t :: l => textB t ++ tsB l
def bodyB (r : Re) : ByteArray :=
  if r.kind = 1 then nB r.epoch else
  if r.kind = 2 then txB r.txn ++ (yB r.yes ++ (nB r.auditor ++ (msB r.mem ++ textB r.body))) else
  if r.kind = 3 then txB r.txn ++ (yB r.yes ++ (if r.yes = true then nB r.auditor ++ (msB r.mem ++ tsB r.tags) else bz)) else
  if r.kind = 4 then txB r.txn ++ yB r.yes else bz
def recB (r : Re) : ByteArray := bytesI [r.kind] ++ bodyB r

/-! ### what reads it -/
def pN (most : Nat) (s : ByteArray) : Option (Int × ByteArray) := if (numR s).2.2 = 0 ∧ (numR s).1 ≤ (most : Int) then some ((numR s).1, s.extract (numR s).2.1.toNat s.size) else none
def pT (s : ByteArray) : Option (ByteArray × ByteArray) := if (textR s 8192).2.2 = 0 then some ((textR s 8192).1, s.extract (textR s 8192).2.1.toNat s.size) else none
def pMb : Nat → ByteArray → Option (List Mb × ByteArray)
  | 0, s => some ([], s)
  | n + 1, s => (pN 7 s).bind fun x => (pT x.2).bind fun y => (pMb n y.2).bind fun z => some (⟨x.1, y.1⟩ :: z.1, z.2)
def pTs : Nat → ByteArray → Option (List ByteArray × ByteArray)
  | 0, s => some ([], s)
  | n + 1, s => (pT s).bind fun y => (pTs n y.2).bind fun z => some (y.1 :: z.1, z.2)
def pMs (s : ByteArray) : Option (List Mb × ByteArray) := (pN 6 s).bind fun x => pMb x.1.toNat x.2
def pTx (s : ByteArray) : Option (Tx × ByteArray) := (pN 7 s).bind fun x => (pN 255 x.2).bind fun y => (pN 65535 y.2).bind fun z => some (⟨x.1, y.1, z.1⟩, z.2)
def pY (s : ByteArray) : Option (Bool × ByteArray) := (pN 1 s).bind fun x => some (x.1 == 1, x.2)
def pAM (s : ByteArray) : Option ((Int × List Mb) × ByteArray) := (pN 7 s).bind fun x => (pMs x.2).bind fun y => some ((x.1, y.1), y.2)
def pRec (k : Int) (s : ByteArray) : Option (Re × ByteArray) :=
  if k = 1 then (pN 255 s).bind fun x => some (⟨1, x.1, ⟨0, 0, 0⟩, false, 0, [], [], bz⟩, x.2) else
  if k = 2 then (pTx s).bind fun x => (pY x.2).bind fun y => (pAM y.2).bind fun z => (pT z.2).bind fun u => some (⟨2, 0, x.1, y.1, z.1.1, z.1.2, [], u.1⟩, u.2) else
  if k = 3 then (pTx s).bind fun x => (pY x.2).bind fun y => if y.1 = true then (pAM y.2).bind fun z => (pTs z.1.2.length z.2).bind fun u => some (⟨3, 0, x.1, true, z.1.1, z.1.2, u.1, bz⟩, u.2) else some (⟨3, 0, x.1, false, 0, [], [], bz⟩, y.2) else
  if k = 4 then (pTx s).bind fun x => (pY x.2).bind fun y => some (⟨4, 0, x.1, y.1, 0, [], [], bz⟩, y.2) else
  some (⟨k, 0, ⟨0, 0, 0⟩, false, 0, [], [], bz⟩, s)

theorem pN_ok {most : Nat} {v : Int} (h0 : 0 ≤ v) (h : v ≤ most) (hv : v < 4611686018427387904) (x : ByteArray) : pN most (nB v ++ x) = some (v, x) := by
  have hn := num_read (v := v.toNat) (by omega) x
  unfold pN nB
  rw [hn, if_pos (show (0 : Int) = 0 ∧ ((v.toNat : Nat) : Int) ≤ (most : Int) from ⟨rfl, by omega⟩)]
  show some (((v.toNat : Nat) : Int), (numB v.toNat ++ x).extract (((numB v.toNat).size : Int)).toNat (numB v.toNat ++ x).size) = _
  rw [Int.toNat_natCast, ext_right, Int.toNat_of_nonneg h0]
theorem pN_back {most : Nat} {s x : ByteArray} {v : Int} (h : pN most s = some (v, x)) : 0 ≤ v ∧ v ≤ most ∧ s = nB v ++ x := by
  unfold pN at h
  split at h
  · rename_i h1
    obtain ⟨n, hn, hr, hs⟩ := num_back h1.1
    rw [hr] at h h1
    simp only [Int.toNat_natCast, Option.some.injEq, Prod.mk.injEq] at h h1
    obtain ⟨rfl, rfl⟩ := h
    exact ⟨by omega, h1.2, by unfold nB; rw [Int.toNat_natCast]; exact hs⟩
  · cases h
theorem pT_ok {t : ByteArray} (h : t.size ≤ 8192) (x : ByteArray) : pT (textB t ++ x) = some (t, x) := by
  have hn := text_read h (by omega) x
  unfold pT
  rw [hn, if_pos rfl]
  show some (t, (textB t ++ x).extract (((textB t).size : Int)).toNat (textB t ++ x).size) = _
  rw [Int.toNat_natCast, ext_right]
theorem pT_back {s x t : ByteArray} (h : pT s = some (t, x)) : t.size ≤ 8192 ∧ s = textB t ++ x := by
  unfold pT at h
  split at h
  · rename_i h1
    obtain ⟨n, hn, hr, hs⟩ := text_back h1
    rw [hr] at h
    simp only [Int.toNat_natCast, Option.some.injEq, Prod.mk.injEq] at h
    obtain ⟨rfl, rfl⟩ := h
    exact ⟨hn, hs⟩
  · cases h
theorem pMb_ok : ∀ (l : List Mb), (∀ m ∈ l, 0 ≤ m.org ∧ m.org ≤ 7 ∧ m.digest.size ≤ 8192) → ∀ x, pMb l.length (mbB l ++ x) = some (l, x)
  | [], _, x => by rw [mbB, List.length_nil, pMb]; exact congrArg (fun y => some ([], y)) (nil_app x)
  | m :: l, h, x => by
    obtain ⟨h1, h2, h3⟩ := h m List.mem_cons_self
    rw [mbB, List.length_cons, pMb, app_assoc, app_assoc, pN_ok h1 h2 (by omega), Option.bind_some, pT_ok h3, Option.bind_some, pMb_ok l (fun m hm => h m (List.mem_cons_of_mem _ hm)) x]
    rfl
theorem pMb_back : ∀ (n : Nat) {s x : ByteArray} {l : List Mb}, pMb n s = some (l, x) → l.length = n ∧ s = mbB l ++ x ∧ ∀ m ∈ l, 0 ≤ m.org ∧ m.org ≤ 7 ∧ m.digest.size ≤ 8192
  | 0, s, x, l, h => by
    rw [pMb] at h
    cases h
    exact ⟨rfl, (nil_app _).symm, fun m hm => by cases hm⟩
  | n + 1, s, x, l, h => by
    rw [pMb] at h
    obtain ⟨⟨a, s1⟩, h1, h⟩ := Option.bind_eq_some_iff.1 h
    obtain ⟨⟨d, s2⟩, h2, h⟩ := Option.bind_eq_some_iff.1 h
    obtain ⟨⟨l', s3⟩, h3, h⟩ := Option.bind_eq_some_iff.1 h
    cases h
    obtain ⟨a0, a1, ha⟩ := pN_back h1
    obtain ⟨d1, hd⟩ := pT_back h2
    obtain ⟨r1, r2, r3⟩ := pMb_back n h3
    refine ⟨by rw [List.length_cons, r1], ?_, fun m hm => ?_⟩
    · rw [mbB, app_assoc, app_assoc, ← r2, ← hd]; exact ha
    · rcases List.mem_cons.1 hm with rfl | hm
      · exact ⟨a0, a1, d1⟩
      · exact r3 m hm
theorem pTs_ok : ∀ (l : List ByteArray), (∀ t ∈ l, t.size ≤ 8192) → ∀ x, pTs l.length (tsB l ++ x) = some (l, x)
  | [], _, x => by rw [tsB, List.length_nil, pTs]; exact congrArg (fun y => some ([], y)) (nil_app x)
  | t :: l, h, x => by
    rw [tsB, List.length_cons, pTs, app_assoc, pT_ok (h t List.mem_cons_self), Option.bind_some, pTs_ok l (fun m hm => h m (List.mem_cons_of_mem _ hm)) x]
    rfl
theorem pTs_back : ∀ (n : Nat) {s x : ByteArray} {l : List ByteArray}, pTs n s = some (l, x) → l.length = n ∧ s = tsB l ++ x
  | 0, s, x, l, h => by
    rw [pTs] at h
    cases h
    exact ⟨rfl, (nil_app _).symm⟩
  | n + 1, s, x, l, h => by
    rw [pTs] at h
    obtain ⟨⟨d, s2⟩, h2, h⟩ := Option.bind_eq_some_iff.1 h
    obtain ⟨⟨l', s3⟩, h3, h⟩ := Option.bind_eq_some_iff.1 h
    cases h
    obtain ⟨d1, hd⟩ := pT_back h2
    obtain ⟨r1, r2⟩ := pTs_back n h3
    exact ⟨by rw [List.length_cons, r1], by rw [tsB, app_assoc, ← r2]; exact hd⟩
theorem pMs_ok {l : List Mb} (hl : l.length ≤ 6) (h : ∀ m ∈ l, 0 ≤ m.org ∧ m.org ≤ 7 ∧ m.digest.size ≤ 8192) (x : ByteArray) : pMs (msB l ++ x) = some (l, x) := by
  rw [msB, pMs, app_assoc, pN_ok (by omega) (by omega) (by omega), Option.bind_some]
  simp only [Int.toNat_natCast]
  exact pMb_ok l h x
theorem pMs_back {s x : ByteArray} {l : List Mb} (h : pMs s = some (l, x)) : s = msB l ++ x := by
  rw [pMs] at h
  obtain ⟨⟨a, s1⟩, h1, h⟩ := Option.bind_eq_some_iff.1 h
  obtain ⟨a0, a1, ha⟩ := pN_back h1
  obtain ⟨r1, r2, _⟩ := pMb_back _ h
  rw [msB, app_assoc, ← r2, r1, Int.toNat_of_nonneg a0]
  exact ha
theorem mayTx_r {t : Tx} (h : mayTx t = true) : (0 ≤ t.coord ∧ t.coord ≤ 7) ∧ (0 ≤ t.epoch ∧ t.epoch ≤ 255) ∧ (0 ≤ t.seq ∧ t.seq ≤ 65535) := by
  simp [mayTx, orgW] at h
  omega
theorem pTx_ok {t : Tx} (h : mayTx t = true) (x : ByteArray) : pTx (txB t ++ x) = some (t, x) := by
  obtain ⟨h1, h2, h3⟩ := mayTx_r h
  rw [txB, pTx, app_assoc, app_assoc, pN_ok h1.1 h1.2 (by omega), Option.bind_some, pN_ok h2.1 h2.2 (by omega), Option.bind_some, pN_ok h3.1 h3.2 (by omega)]
  rfl
theorem pTx_back {s x : ByteArray} {t : Tx} (h : pTx s = some (t, x)) : s = txB t ++ x := by
  rw [pTx] at h
  obtain ⟨⟨a, s1⟩, h1, h⟩ := Option.bind_eq_some_iff.1 h
  obtain ⟨⟨b, s2⟩, h2, h⟩ := Option.bind_eq_some_iff.1 h
  obtain ⟨⟨c, s3⟩, h3, h⟩ := Option.bind_eq_some_iff.1 h
  cases h
  rw [txB, app_assoc, app_assoc, ← (pN_back h3).2.2, ← (pN_back h2).2.2]
  exact (pN_back h1).2.2
theorem pY_ok (y : Bool) (x : ByteArray) : pY (yB y ++ x) = some (y, x) := by
  cases y
  · rw [yB, if_neg (by simp), pY, pN_ok (by omega) (by decide) (by omega)]; rfl
  · rw [yB, if_pos rfl, pY, pN_ok (by omega) (by decide) (by omega)]; rfl
theorem pY_back {s x : ByteArray} {y : Bool} (h : pY s = some (y, x)) : s = yB y ++ x := by
  rw [pY] at h
  obtain ⟨⟨a, s1⟩, h1, h⟩ := Option.bind_eq_some_iff.1 h
  cases h
  obtain ⟨a0, a1, ha⟩ := pN_back h1
  have : a = 0 ∨ a = 1 := by omega
  rcases this with rfl | rfl
  · exact ha
  · exact ha
theorem pAM_ok {a : Int} {l : List Mb} (ha : orgW a = true) (hl : l.length ≤ 6) (h : ∀ m ∈ l, 0 ≤ m.org ∧ m.org ≤ 7 ∧ m.digest.size ≤ 8192) (x : ByteArray) : pAM (nB a ++ (msB l ++ x)) = some ((a, l), x) := by
  have : 0 ≤ a ∧ a ≤ 7 := by simp [orgW] at ha; omega
  rw [pAM, pN_ok this.1 this.2 (by omega), Option.bind_some, pMs_ok hl h]
  rfl
theorem pAM_back {s x : ByteArray} {z : Int × List Mb} (h : pAM s = some (z, x)) : s = nB z.1 ++ (msB z.2 ++ x) := by
  rw [pAM] at h
  obtain ⟨⟨a, s1⟩, h1, h⟩ := Option.bind_eq_some_iff.1 h
  obtain ⟨⟨l, s2⟩, h2, h⟩ := Option.bind_eq_some_iff.1 h
  cases h
  rw [← pMs_back h2]
  exact (pN_back h1).2.2
theorem memGo_org (t : Tx) : ∀ (l : List Mb) (last : Int), memGo t last l = true → ∀ m ∈ l, 0 ≤ m.org ∧ m.org ≤ 7
  | [], _, _, m, hm => by cases hm
  | x :: l, last, h, m, hm => by
    rw [memGo] at h
    split at h
    · cases h
    rename_i hb
    rcases List.mem_cons.1 hm with rfl | hm
    · simp [badM, orgW] at hb
      omega
    · exact memGo_org t l x.org h m hm
/-- every text of a record is short -/
def Short (r : Re) : Prop := (∀ m ∈ r.mem, m.digest.size ≤ 8192) ∧ (∀ t ∈ r.tags, t.size ≤ 8192) ∧ r.body.size ≤ 8192
theorem mayMb_r {t : Tx} {l : List Mb} (h : mayMb t l = true) : l.length ≤ 6 ∧ ∀ m ∈ l, 0 ≤ m.org ∧ m.org ≤ 7 := by
  simp only [mayMb, Bool.and_eq_true, decide_eq_true_eq] at h
  exact ⟨by omega, memGo_org t l _ h.1⟩
/-- a record's bytes, whatever stands behind, are read as it -/
theorem pRec_ok {r : Re} (h : RecP r) (hs : Short r) (x : ByteArray) : pRec r.kind (bodyB r ++ x) = some (r, x) := by
  cases h with
  | epoch e h1 h2 =>
    show (pN 255 (nB e ++ x)).bind _ = _
    rw [pN_ok (by omega) (by omega) (by omega)]; rfl
  | vote t y a m b h1 h2 h3 h4 =>
    obtain ⟨m1, m2⟩ := mayMb_r h3
    show (pTx ((txB t ++ (yB y ++ (nB a ++ (msB m ++ textB b)))) ++ x)).bind _ = _
    rw [app_assoc, app_assoc, app_assoc, app_assoc, pTx_ok h1, Option.bind_some, pY_ok, Option.bind_some, pAM_ok h2 m1 (fun u hu => ⟨(m2 u hu).1, (m2 u hu).2, hs.1 u hu⟩), Option.bind_some, pT_ok hs.2.2]
    rfl
  | commit t a m g h1 h2 h3 h4 h5 =>
    obtain ⟨m1, m2⟩ := mayMb_r h3
    show (pTx ((txB t ++ (yB true ++ (nB a ++ (msB m ++ tsB g)))) ++ x)).bind _ = _
    rw [app_assoc, app_assoc, app_assoc, app_assoc, pTx_ok h1, Option.bind_some, pY_ok, Option.bind_some]
    simp only [if_true]
    rw [pAM_ok h2 m1 (fun u hu => ⟨(m2 u hu).1, (m2 u hu).2, hs.1 u hu⟩), Option.bind_some]
    simp only
    rw [← h4, pTs_ok g hs.2.1]
    rfl
  | abort t h1 =>
    show (pTx ((txB t ++ (yB false ++ bz)) ++ x)).bind _ = _
    rw [app_assoc, app_assoc, pTx_ok h1, Option.bind_some, pY_ok, Option.bind_some]
    exact congrArg (fun y => some (_, y)) (nil_app x)
  | learn t y h1 =>
    show (pTx ((txB t ++ yB y) ++ x)).bind _ = _
    rw [app_assoc, pTx_ok h1, Option.bind_some, pY_ok]
    rfl
/-- what is read is the bytes of what was read -/
theorem pRec_back {k : Int} {s x : ByteArray} {r : Re} (h : pRec k s = some (r, x)) : r.kind = k ∧ s = bodyB r ++ x := by
  unfold pRec at h
  split at h
  · rename_i hk
    obtain ⟨⟨a, s1⟩, h1, h⟩ := Option.bind_eq_some_iff.1 h
    cases h
    exact ⟨hk.symm, (pN_back h1).2.2⟩
  split at h
  · rename_i hk
    obtain ⟨⟨t, s1⟩, h1, h⟩ := Option.bind_eq_some_iff.1 h
    obtain ⟨⟨y, s2⟩, h2, h⟩ := Option.bind_eq_some_iff.1 h
    obtain ⟨⟨z, s3⟩, h3, h⟩ := Option.bind_eq_some_iff.1 h
    obtain ⟨⟨u, s4⟩, h4, h⟩ := Option.bind_eq_some_iff.1 h
    cases h
    refine ⟨hk.symm, ?_⟩
    show s = (txB t ++ (yB y ++ (nB z.1 ++ (msB z.2 ++ textB u)))) ++ _
    rw [app_assoc, app_assoc, app_assoc, app_assoc, ← (pT_back h4).2, ← pAM_back h3, ← pY_back h2]
    exact pTx_back h1
  split at h
  · rename_i hk
    obtain ⟨⟨t, s1⟩, h1, h⟩ := Option.bind_eq_some_iff.1 h
    obtain ⟨⟨y, s2⟩, h2, h⟩ := Option.bind_eq_some_iff.1 h
    simp only at h
    split at h
    · rename_i hy
      subst hy
      obtain ⟨⟨z, s3⟩, h3, h⟩ := Option.bind_eq_some_iff.1 h
      obtain ⟨⟨u, s4⟩, h4, h⟩ := Option.bind_eq_some_iff.1 h
      cases h
      refine ⟨hk.symm, ?_⟩
      show s = (txB t ++ (yB true ++ (nB z.1 ++ (msB z.2 ++ tsB u)))) ++ _
      rw [app_assoc, app_assoc, app_assoc, app_assoc, ← (pTs_back _ h4).2, ← pAM_back h3, ← pY_back h2]
      exact pTx_back h1
    · rename_i hy
      have hy : y = false := by simpa using hy
      subst hy
      cases h
      refine ⟨hk.symm, ?_⟩
      show s = (txB t ++ (yB false ++ bz)) ++ _
      rw [app_assoc, app_assoc, show ∀ y : ByteArray, bz ++ y = y from nil_app, ← pY_back h2]
      exact pTx_back h1
  split at h
  · rename_i hk
    obtain ⟨⟨t, s1⟩, h1, h⟩ := Option.bind_eq_some_iff.1 h
    obtain ⟨⟨y, s2⟩, h2, h⟩ := Option.bind_eq_some_iff.1 h
    cases h
    refine ⟨hk.symm, ?_⟩
    show s = (txB t ++ yB y) ++ _
    rw [app_assoc, ← pY_back h2]
    exact pTx_back h1
  · rename_i h1 h2 h3 h4
    cases h
    refine ⟨rfl, ?_⟩
    have : bodyB ⟨k, 0, ⟨0, 0, 0⟩, false, 0, [], [], bz⟩ = bz := by
      unfold bodyB
      rw [if_neg h1, if_neg h2, if_neg h3, if_neg h4]
    rw [this]
    exact (nil_app _).symm
end Go.Proofs.Ytbpgiodfccijmaa
namespace Go.Proofs.Ytbpgiodfccijmaa
open Go.Chi

/-! ### acts as bytes: the plain law -/
/-- a step of what is made -/
structure Sp where
  do_ : Int
  a : Int
  b : Int
  c : Int
  n : Int
  text : ByteArray
  list : List Int
/-- what an act says, wherever its rows lie (a gift is an organisation and a payload) -/
structure Aa where
  do_ : Int
  org : Int
  auditor : Int
  n : Int
  gives : List Mb
  txn : Tx
  yes : Bool
  steps : List Sp
def tz : Tx := ⟨0, 0, 0⟩
def nmW (n : Int) : Bool := decide (0 ≤ n) && decide (n ≤ 2147483647)
structure SpP (x : Sp) : Prop where
  do_ : 1 ≤ x.do_ ∧ x.do_ ≤ 9
  a : nmW x.a = true
  b : nmW x.b = true
  c : nmW x.c = true
  n : nmW x.n = true
  text : x.text.size ≤ 1024
  len : x.list.length ≤ 32
  list : ∀ v ∈ x.list, nmW v = true
def GvP (g : Mb) : Prop := orgW g.org = true ∧ checkR g.digest = 0
inductive AcP : Aa → Prop
  | begin_ (o au : Int) (g : List Mb) : orgW o = true → orgW au = true → g.length ≤ 6 → (∀ x ∈ g, GvP x) → AcP ⟨1, o, au, 0, g, tz, false, []⟩
  | submit (o : Int) (t : Tx) (y : Bool) : orgW o = true → mayTx t = true → AcP ⟨2, o, 0, 0, [], t, y, []⟩
  | tick (o : Int) : orgW o = true → AcP ⟨3, o, 0, 0, [], tz, false, []⟩
  | deliver (n : Int) : nmW n = true → AcP ⟨4, 0, 0, n, [], tz, false, []⟩
  | inject (o : Int) (l : List Sp) : orgW o = true → l.length ≤ 64 → (∀ x ∈ l, SpP x) → AcP ⟨5, o, 0, 0, [], tz, false, l⟩
  | arm (o n : Int) : orgW o = true → nmW n = true → AcP ⟨6, o, 0, n, [], tz, false, []⟩
  | crash (o n : Int) : orgW o = true → nmW n = true → AcP ⟨7, o, 0, n, [], tz, false, []⟩
  | restart (o : Int) : orgW o = true → AcP ⟨8, o, 0, 0, [], tz, false, []⟩
  | exprt (o : Int) (t : Tx) : orgW o = true → mayTx t = true → AcP ⟨9, o, 0, 0, [], t, false, []⟩
  | present (o : Int) (l : List Sp) : orgW o = true → l.length ≤ 64 → (∀ x ∈ l, SpP x) → AcP ⟨10, o, 0, 0, [], tz, false, l⟩
def nsB : List Int → ByteArray
  | [] => bz
  | v :: l => nB v ++ nsB l
def spB (x : Sp) : ByteArray := nB x.do_ ++ (nB x.a ++ (nB x.b ++ (nB x.c ++ (nB x.n ++ (textB x.text ++ (nB (x.list.length : Int) ++ nsB x.list))))))
def spsB : List Sp → ByteArray
  | [] => bz
  | x :: l => spB x ++ spsB l
def stepsB (l : List Sp) : ByteArray := nB (l.length : Int) ++ spsB l
def actBody (a : Aa) : ByteArray :=
  if a.do_ = 1 then nB a.org ++ (nB a.auditor ++ msB a.gives) else
  if a.do_ = 2 then nB a.org ++ (txB a.txn ++ yB a.yes) else
  if a.do_ = 3 ∨ a.do_ = 8 then nB a.org else
  if a.do_ = 4 then nB a.n else
  if a.do_ = 5 ∨ a.do_ = 10 then nB a.org ++ stepsB a.steps else
  if a.do_ = 6 ∨ a.do_ = 7 then nB a.org ++ nB a.n else
  if a.do_ = 9 then nB a.org ++ txB a.txn else bz
def actB (a : Aa) : ByteArray := bytesI [a.do_] ++ actBody a

/-! ### what reads it -/
def pTm (most : Nat) (s : ByteArray) : Option (ByteArray × ByteArray) := if (textR s most).2.2 = 0 then some ((textR s most).1, s.extract (textR s most).2.1.toNat s.size) else none
def pGs : Nat → ByteArray → Option (List Mb × ByteArray)
  | 0, s => some ([], s)
  | n + 1, s => (pN 7 s).bind fun x => (pTm 16384 x.2).bind fun y => (pGs n y.2).bind fun z => some (⟨x.1, y.1⟩ :: z.1, z.2)
def pNs : Nat → ByteArray → Option (List Int × ByteArray)
  | 0, s => some ([], s)
  | n + 1, s => (pN 2147483647 s).bind fun x => (pNs n x.2).bind fun z => some (x.1 :: z.1, z.2)
def pSp (s : ByteArray) : Option (Sp × ByteArray) := (pN 9 s).bind fun d => (pN 2147483647 d.2).bind fun a => (pN 2147483647 a.2).bind fun b => (pN 2147483647 b.2).bind fun c => (pN 2147483647 c.2).bind fun n => (pTm 1024 n.2).bind fun t => (pN 32 t.2).bind fun k => (pNs k.1.toNat k.2).bind fun l => some (⟨d.1, a.1, b.1, c.1, n.1, t.1, l.1⟩, l.2)
def pSps : Nat → ByteArray → Option (List Sp × ByteArray)
  | 0, s => some ([], s)
  | n + 1, s => (pSp s).bind fun x => (pSps n x.2).bind fun z => some (x.1 :: z.1, z.2)
def pGives (s : ByteArray) : Option (List Mb × ByteArray) := (pN 6 s).bind fun x => pGs x.1.toNat x.2
def pSteps (s : ByteArray) : Option (List Sp × ByteArray) := (pN 64 s).bind fun x => pSps x.1.toNat x.2
def pAct (k : Int) (s : ByteArray) : Option (Aa × ByteArray) :=
  if k = 1 then (pN 7 s).bind fun o => (pN 7 o.2).bind fun au => (pGives au.2).bind fun g => some (⟨1, o.1, au.1, 0, g.1, tz, false, []⟩, g.2) else
  if k = 2 then (pN 7 s).bind fun o => (pTx o.2).bind fun t => (pY t.2).bind fun y => some (⟨2, o.1, 0, 0, [], t.1, y.1, []⟩, y.2) else
  if k = 3 ∨ k = 8 then (pN 7 s).bind fun o => some (⟨k, o.1, 0, 0, [], tz, false, []⟩, o.2) else
  if k = 4 then (pN 2147483647 s).bind fun n => some (⟨4, 0, 0, n.1, [], tz, false, []⟩, n.2) else
  if k = 5 ∨ k = 10 then (pN 7 s).bind fun o => (pSteps o.2).bind fun l => some (⟨k, o.1, 0, 0, [], tz, false, l.1⟩, l.2) else
  if k = 6 ∨ k = 7 then (pN 7 s).bind fun o => (pN 2147483647 o.2).bind fun n => some (⟨k, o.1, 0, n.1, [], tz, false, []⟩, n.2) else
  if k = 9 then (pN 7 s).bind fun o => (pTx o.2).bind fun t => some (⟨9, o.1, 0, 0, [], t.1, false, []⟩, t.2) else
  some (⟨k, 0, 0, 0, [], tz, false, []⟩, s)
theorem pTm_ok {most : Nat} {t : ByteArray} (h : t.size ≤ most) (hm : most < 4611686018427387904) (x : ByteArray) : pTm most (textB t ++ x) = some (t, x) := by
  have hn := text_read h hm x
  unfold pTm
  rw [hn, if_pos rfl]
  show some (t, (textB t ++ x).extract (((textB t).size : Int)).toNat (textB t ++ x).size) = _
  rw [Int.toNat_natCast, ext_right]
theorem pTm_back {most : Nat} {s x t : ByteArray} (h : pTm most s = some (t, x)) : t.size ≤ most ∧ s = textB t ++ x := by
  unfold pTm at h
  split at h
  · rename_i h1
    obtain ⟨n, hn, hr, hs⟩ := text_back h1
    rw [hr] at h
    simp only [Int.toNat_natCast, Option.some.injEq, Prod.mk.injEq] at h
    obtain ⟨rfl, rfl⟩ := h
    exact ⟨hn, hs⟩
  · cases h
theorem org_r {n : Int} (h : orgW n = true) : 0 ≤ n ∧ n ≤ 7 := by simp [orgW] at h; omega
theorem nm_r {n : Int} (h : nmW n = true) : 0 ≤ n ∧ n ≤ 2147483647 := by simp [nmW] at h; omega
theorem pOrg_ok {n : Int} (h : orgW n = true) (x : ByteArray) : pN 7 (nB n ++ x) = some (n, x) := pN_ok (org_r h).1 (org_r h).2 (by have := (org_r h).2; omega) x
theorem pNm_ok {n : Int} (h : nmW n = true) (x : ByteArray) : pN 2147483647 (nB n ++ x) = some (n, x) := pN_ok (nm_r h).1 (nm_r h).2 (by have := (nm_r h).2; omega) x
theorem pGs_ok : ∀ (l : List Mb), (∀ m ∈ l, orgW m.org = true ∧ m.digest.size ≤ 16384) → ∀ x, pGs l.length (mbB l ++ x) = some (l, x)
  | [], _, x => by rw [mbB, List.length_nil, pGs]; exact congrArg (fun y => some ([], y)) (nil_app x)
  | m :: l, h, x => by
    obtain ⟨h1, h3⟩ := h m List.mem_cons_self
    rw [mbB, List.length_cons, pGs, app_assoc, app_assoc, pOrg_ok h1, Option.bind_some, pTm_ok h3 (by omega), Option.bind_some, pGs_ok l (fun m hm => h m (List.mem_cons_of_mem _ hm)) x]
    rfl
theorem pGs_back : ∀ (n : Nat) {s x : ByteArray} {l : List Mb}, pGs n s = some (l, x) → l.length = n ∧ s = mbB l ++ x
  | 0, s, x, l, h => by
    rw [pGs] at h
    cases h
    exact ⟨rfl, (nil_app _).symm⟩
  | n + 1, s, x, l, h => by
    rw [pGs] at h
    obtain ⟨⟨a, s1⟩, h1, h⟩ := Option.bind_eq_some_iff.1 h
    obtain ⟨⟨d, s2⟩, h2, h⟩ := Option.bind_eq_some_iff.1 h
    obtain ⟨⟨l', s3⟩, h3, h⟩ := Option.bind_eq_some_iff.1 h
    cases h
    obtain ⟨r1, r2⟩ := pGs_back n h3
    refine ⟨by rw [List.length_cons, r1], ?_⟩
    rw [mbB, app_assoc, app_assoc, ← r2, ← (pTm_back h2).2]; exact (pN_back h1).2.2
theorem pNs_ok : ∀ (l : List Int), (∀ v ∈ l, nmW v = true) → ∀ x, pNs l.length (nsB l ++ x) = some (l, x)
  | [], _, x => by rw [nsB, List.length_nil, pNs]; exact congrArg (fun y => some ([], y)) (nil_app x)
  | v :: l, h, x => by
    rw [nsB, List.length_cons, pNs, app_assoc, pNm_ok (h v List.mem_cons_self), Option.bind_some, pNs_ok l (fun m hm => h m (List.mem_cons_of_mem _ hm)) x]
    rfl
theorem pNs_back : ∀ (n : Nat) {s x : ByteArray} {l : List Int}, pNs n s = some (l, x) → l.length = n ∧ s = nsB l ++ x
  | 0, s, x, l, h => by
    rw [pNs] at h
    cases h
    exact ⟨rfl, (nil_app _).symm⟩
  | n + 1, s, x, l, h => by
    rw [pNs] at h
    obtain ⟨⟨a, s1⟩, h1, h⟩ := Option.bind_eq_some_iff.1 h
    obtain ⟨⟨l', s3⟩, h3, h⟩ := Option.bind_eq_some_iff.1 h
    cases h
    obtain ⟨r1, r2⟩ := pNs_back n h3
    exact ⟨by rw [List.length_cons, r1], by rw [nsB, app_assoc, ← r2]; exact (pN_back h1).2.2⟩
theorem pSp_ok {x : Sp} (h : SpP x) (z : ByteArray) : pSp (spB x ++ z) = some (x, z) := by
  rw [spB, pSp]
  simp only [app_assoc]
  rw [pN_ok (by have := h.do_; omega) (by have := h.do_; omega) (by have := h.do_; omega), Option.bind_some, pNm_ok h.a, Option.bind_some, pNm_ok h.b, Option.bind_some, pNm_ok h.c, Option.bind_some, pNm_ok h.n, Option.bind_some,
    pTm_ok h.text (by omega), Option.bind_some, pN_ok (by omega) (by have := h.len; omega) (by have := h.len; omega), Option.bind_some]
  simp only [Int.toNat_natCast]
  rw [pNs_ok _ h.list]
  rfl
theorem pSp_back {s z : ByteArray} {x : Sp} (h : pSp s = some (x, z)) : s = spB x ++ z := by
  rw [pSp] at h
  obtain ⟨⟨d, s1⟩, h1, h⟩ := Option.bind_eq_some_iff.1 h
  obtain ⟨⟨a, s2⟩, h2, h⟩ := Option.bind_eq_some_iff.1 h
  obtain ⟨⟨b, s3⟩, h3, h⟩ := Option.bind_eq_some_iff.1 h
  obtain ⟨⟨c, s4⟩, h4, h⟩ := Option.bind_eq_some_iff.1 h
  obtain ⟨⟨n, s5⟩, h5, h⟩ := Option.bind_eq_some_iff.1 h
  obtain ⟨⟨t, s6⟩, h6, h⟩ := Option.bind_eq_some_iff.1 h
  obtain ⟨⟨k, s7⟩, h7, h⟩ := Option.bind_eq_some_iff.1 h
  obtain ⟨⟨l, s8⟩, h8, h⟩ := Option.bind_eq_some_iff.1 h
  cases h
  obtain ⟨k0, k1, hk⟩ := pN_back h7
  obtain ⟨r1, r2⟩ := pNs_back _ h8
  rw [spB]
  simp only [app_assoc]
  rw [← r2, r1, Int.toNat_of_nonneg k0, ← hk, ← (pTm_back h6).2, ← (pN_back h5).2.2, ← (pN_back h4).2.2, ← (pN_back h3).2.2, ← (pN_back h2).2.2]
  exact (pN_back h1).2.2
theorem pSps_ok : ∀ (l : List Sp), (∀ v ∈ l, SpP v) → ∀ x, pSps l.length (spsB l ++ x) = some (l, x)
  | [], _, x => by rw [spsB, List.length_nil, pSps]; exact congrArg (fun y => some ([], y)) (nil_app x)
  | v :: l, h, x => by
    rw [spsB, List.length_cons, pSps, app_assoc, pSp_ok (h v List.mem_cons_self), Option.bind_some, pSps_ok l (fun m hm => h m (List.mem_cons_of_mem _ hm)) x]
    rfl
theorem pSps_back : ∀ (n : Nat) {s x : ByteArray} {l : List Sp}, pSps n s = some (l, x) → l.length = n ∧ s = spsB l ++ x
  | 0, s, x, l, h => by
    rw [pSps] at h
    cases h
    exact ⟨rfl, (nil_app _).symm⟩
  | n + 1, s, x, l, h => by
    rw [pSps] at h
    obtain ⟨⟨a, s1⟩, h1, h⟩ := Option.bind_eq_some_iff.1 h
    obtain ⟨⟨l', s3⟩, h3, h⟩ := Option.bind_eq_some_iff.1 h
    cases h
    obtain ⟨r1, r2⟩ := pSps_back n h3
    exact ⟨by rw [List.length_cons, r1], by rw [spsB, app_assoc, ← r2]; exact pSp_back h1⟩
theorem pGives_ok {l : List Mb} (hl : l.length ≤ 6) (h : ∀ m ∈ l, orgW m.org = true ∧ m.digest.size ≤ 16384) (x : ByteArray) : pGives (msB l ++ x) = some (l, x) := by
  rw [msB, pGives, app_assoc, pN_ok (by omega) (by omega) (by omega), Option.bind_some]
  simp only [Int.toNat_natCast]
  exact pGs_ok l h x
theorem pGives_back {s x : ByteArray} {l : List Mb} (h : pGives s = some (l, x)) : s = msB l ++ x := by
  rw [pGives] at h
  obtain ⟨⟨a, s1⟩, h1, h⟩ := Option.bind_eq_some_iff.1 h
  obtain ⟨a0, a1, ha⟩ := pN_back h1
  obtain ⟨r1, r2⟩ := pGs_back _ h
  rw [msB, app_assoc, ← r2, r1, Int.toNat_of_nonneg a0]
  exact ha
theorem pSteps_ok {l : List Sp} (hl : l.length ≤ 64) (h : ∀ m ∈ l, SpP m) (x : ByteArray) : pSteps (stepsB l ++ x) = some (l, x) := by
  rw [stepsB, pSteps, app_assoc, pN_ok (by omega) (by omega) (by omega), Option.bind_some]
  simp only [Int.toNat_natCast]
  exact pSps_ok l h x
theorem pSteps_back {s x : ByteArray} {l : List Sp} (h : pSteps s = some (l, x)) : s = stepsB l ++ x := by
  rw [pSteps] at h
  obtain ⟨⟨a, s1⟩, h1, h⟩ := Option.bind_eq_some_iff.1 h
  obtain ⟨a0, a1, ha⟩ := pN_back h1
  obtain ⟨r1, r2⟩ := pSps_back _ h
  rw [stepsB, app_assoc, ← r2, r1, Int.toNat_of_nonneg a0]
  exact ha
/-- a term is at most as long as a payload may be -/
def ShortA (a : Aa) : Prop := ∀ m ∈ a.gives, m.digest.size ≤ 16384
theorem pAct_ok {a : Aa} (h : AcP a) (hs : ShortA a) (x : ByteArray) : pAct a.do_ (actBody a ++ x) = some (a, x) := by
  cases h with
  | begin_ o au g h1 h2 h3 h4 =>
    show (pN 7 ((nB o ++ (nB au ++ msB g)) ++ x)).bind _ = _
    rw [app_assoc, app_assoc, pOrg_ok h1, Option.bind_some, pOrg_ok h2, Option.bind_some, pGives_ok h3 (fun m hm => ⟨(h4 m hm).1, hs m hm⟩)]
    rfl
  | submit o t y h1 h2 =>
    show (pN 7 ((nB o ++ (txB t ++ yB y)) ++ x)).bind _ = _
    rw [app_assoc, app_assoc, pOrg_ok h1, Option.bind_some, pTx_ok h2, Option.bind_some, pY_ok]
    rfl
  | tick o h1 =>
    show (pN 7 (nB o ++ x)).bind _ = _
    rw [pOrg_ok h1]; rfl
  | deliver n h1 =>
    show (pN 2147483647 (nB n ++ x)).bind _ = _
    rw [pNm_ok h1]; rfl
  | inject o l h1 h2 h3 =>
    show (pN 7 ((nB o ++ stepsB l) ++ x)).bind _ = _
    rw [app_assoc, pOrg_ok h1, Option.bind_some, pSteps_ok h2 h3]; rfl
  | arm o n h1 h2 =>
    show (pN 7 ((nB o ++ nB n) ++ x)).bind _ = _
    rw [app_assoc, pOrg_ok h1, Option.bind_some, pNm_ok h2]; rfl
  | crash o n h1 h2 =>
    show (pN 7 ((nB o ++ nB n) ++ x)).bind _ = _
    rw [app_assoc, pOrg_ok h1, Option.bind_some, pNm_ok h2]; rfl
  | restart o h1 =>
    show (pN 7 (nB o ++ x)).bind _ = _
    rw [pOrg_ok h1]; rfl
  | exprt o t h1 h2 =>
    show (pN 7 ((nB o ++ txB t) ++ x)).bind _ = _
    rw [app_assoc, pOrg_ok h1, Option.bind_some, pTx_ok h2]; rfl
  | present o l h1 h2 h3 =>
    show (pN 7 ((nB o ++ stepsB l) ++ x)).bind _ = _
    rw [app_assoc, pOrg_ok h1, Option.bind_some, pSteps_ok h2 h3]; rfl
theorem pAct_back {k : Int} {s x : ByteArray} {a : Aa} (h : pAct k s = some (a, x)) : a.do_ = k ∧ s = actBody a ++ x := by
  unfold pAct at h
  split at h
  · rename_i hk
    obtain ⟨⟨o, s1⟩, h1, h⟩ := Option.bind_eq_some_iff.1 h
    obtain ⟨⟨au, s2⟩, h2, h⟩ := Option.bind_eq_some_iff.1 h
    obtain ⟨⟨g, s3⟩, h3, h⟩ := Option.bind_eq_some_iff.1 h
    cases h
    refine ⟨hk.symm, ?_⟩
    show s = (nB o ++ (nB au ++ msB g)) ++ _
    rw [app_assoc, app_assoc, ← pGives_back h3, ← (pN_back h2).2.2]
    exact (pN_back h1).2.2
  split at h
  · rename_i hk
    obtain ⟨⟨o, s1⟩, h1, h⟩ := Option.bind_eq_some_iff.1 h
    obtain ⟨⟨t, s2⟩, h2, h⟩ := Option.bind_eq_some_iff.1 h
    obtain ⟨⟨y, s3⟩, h3, h⟩ := Option.bind_eq_some_iff.1 h
    cases h
    refine ⟨hk.symm, ?_⟩
    show s = (nB o ++ (txB t ++ yB y)) ++ _
    rw [app_assoc, app_assoc, ← pY_back h3, ← pTx_back h2]
    exact (pN_back h1).2.2
  split at h
  · rename_i hk
    obtain ⟨⟨o, s1⟩, h1, h⟩ := Option.bind_eq_some_iff.1 h
    cases h
    refine ⟨rfl, ?_⟩
    rcases hk with rfl | rfl
    · exact (pN_back h1).2.2
    · exact (pN_back h1).2.2
  split at h
  · rename_i hk
    obtain ⟨⟨n, s1⟩, h1, h⟩ := Option.bind_eq_some_iff.1 h
    cases h
    exact ⟨hk.symm, (pN_back h1).2.2⟩
  split at h
  · rename_i hk
    obtain ⟨⟨o, s1⟩, h1, h⟩ := Option.bind_eq_some_iff.1 h
    obtain ⟨⟨l, s2⟩, h2, h⟩ := Option.bind_eq_some_iff.1 h
    cases h
    refine ⟨rfl, ?_⟩
    have e : s = (nB o ++ stepsB l) ++ s2 := by rw [app_assoc, ← pSteps_back h2]; exact (pN_back h1).2.2
    rcases hk with rfl | rfl
    · exact e
    · exact e
  split at h
  · rename_i hk
    obtain ⟨⟨o, s1⟩, h1, h⟩ := Option.bind_eq_some_iff.1 h
    obtain ⟨⟨n, s2⟩, h2, h⟩ := Option.bind_eq_some_iff.1 h
    cases h
    refine ⟨rfl, ?_⟩
    have e : s = (nB o ++ nB n) ++ s2 := by rw [app_assoc, ← (pN_back h2).2.2]; exact (pN_back h1).2.2
    rcases hk with rfl | rfl
    · exact e
    · exact e
  split at h
  · rename_i hk
    obtain ⟨⟨o, s1⟩, h1, h⟩ := Option.bind_eq_some_iff.1 h
    obtain ⟨⟨t, s2⟩, h2, h⟩ := Option.bind_eq_some_iff.1 h
    cases h
    refine ⟨hk.symm, ?_⟩
    show s = (nB o ++ txB t) ++ _
    rw [app_assoc, ← pTx_back h2]
    exact (pN_back h1).2.2
  · rename_i h1 h2 h3 h4 h5 h6 h7
    cases h
    refine ⟨rfl, ?_⟩
    have : actBody ⟨k, 0, 0, 0, [], tz, false, []⟩ = bz := by
      unfold actBody
      rw [if_neg h1, if_neg h2, if_neg h3, if_neg h4, if_neg h5, if_neg h6, if_neg h7]
    rw [this]
    exact (nil_app _).symm
end Go.Proofs.Ytbpgiodfccijmaa
namespace Go.Proofs.Ytbpgiodfccijmaa
open Go.Chi

theorem numR_err {s : ByteArray} (h : (numR s).2.2 ≠ 0) : (numR s).1 = 0 ∧ (numR s).2.1 = 0 := by
  unfold numR at h ⊢
  repeat' split
  all_goals first | exact ⟨rfl, rfl⟩ | (rename_i h1 h2 h3 h4; simp [h1, h2, h3, h4] at h) | (rename_i h1 h2; simp [h1, h2] at h)
/-- what stands ahead of a term's parts: the document's answer, error by error -/
theorem head_eq (s : ByteArray) (hs : s.size < 4611686018427387904) : match frontR s with | .ok x => headR s = ((x.1 : Int), (x.2 : Int), 0) | .error e => (headR s).2.2 = e ∧ e ≠ 0 := by
  by_cases he : (headR s).2.2 = 0
  · obtain ⟨n, p, h1, h2⟩ := headR_imp hs he
    rw [h2]; exact h1
  · have hr := rest1_size (s := s)
    unfold headR at he ⊢
    unfold frontR
    by_cases h0 : s.size = 0
    · rw [if_pos h0, if_pos h0]; exact ⟨rfl, by decide⟩
    rw [if_neg h0] at he ⊢
    rw [if_neg h0]
    by_cases h1 : byte s 0 = 100
    · rw [if_pos h1] at he ⊢
      rw [if_pos h1, refText_eq] at *
      have he' : (textR (rest1 s) 1024).2.2 ≠ 0 := he
      rw [if_pos he']
      exact ⟨rfl, he'⟩
    rw [if_neg h1] at he ⊢
    rw [if_neg h1]
    by_cases h2 : byte s 0 = 97
    · rw [if_pos h2] at he ⊢
      rw [if_pos h2]
      rw [refText_eq, name_eq] at he ⊢
      by_cases h3 : (textR (rest1 s) 32).2.2 ≠ 0
      · rw [if_pos h3, if_neg (fun h => h3 h.1)]
        exact ⟨rfl, h3⟩
      · rw [if_neg h3]
        have h3' : (textR (rest1 s) 32).2.2 = 0 := by simpa using h3
        by_cases h4 : namedR (textR (rest1 s) 32).1 = false
        · rw [if_pos h4, if_pos ⟨h3', h4⟩]; exact ⟨rfl, by decide⟩
        · rw [if_neg (fun h => h4 h.2)] at he
          exact absurd h3' he
    rw [if_neg h2] at he ⊢
    rw [if_neg h2]
    by_cases h3 : byte s 0 = 114
    · rw [if_pos h3] at he ⊢
      rw [if_pos h3]
      rw [refNum_eq] at he ⊢
      by_cases h4 : (numR (rest1 s)).2.2 ≠ 0
      · rw [if_pos h4, if_neg (fun h => h4 h.1)]
        exact ⟨rfl, h4⟩
      · rw [if_neg h4]
        have h4' : (numR (rest1 s)).2.2 = 0 := by simpa using h4
        by_cases h5 : 32 < (numR (rest1 s)).1
        · rw [if_pos h5, if_pos ⟨h4', h5⟩]; exact ⟨rfl, by decide⟩
        · rw [if_neg (fun h => h5 h.2)] at he
          exact absurd h4' he
    rw [if_neg h3] at he ⊢
    rw [if_neg h3]
    by_cases h4 : byte s 0 = 104
    · rw [if_pos h4] at he; exact absurd rfl he
    rw [if_neg h4] at he ⊢
    rw [if_neg h4]
    by_cases h5 : byte s 0 = 109
    · rw [if_pos h5] at he; exact absurd rfl he
    rw [if_neg h5] at he ⊢
    rw [if_neg h5]
    by_cases h6 : byte s 0 = 115
    · rw [if_pos h6] at he; exact absurd rfl he
    rw [if_neg h6, if_neg h6]
    exact ⟨rfl, by decide⟩
/-- a reading of the document's at a place -/
theorem refRead_eq : ∀ (k : Nat) (w : ByteArray) (a : Nat), w.size < 4611686018427387904 → a ≤ w.size → match walkR w k a with | .ok y => refRead k (w.extract a w.size) = (((y - a : Nat) : Int), 0) ∧ a ≤ y | .error e => refRead k (w.extract a w.size) = (0, e) ∧ e ≠ 0
  | 0, w, a, _, _ => ⟨rfl, by decide⟩
  | k + 1, w, a, hw, ha => by
    have hz : (w.extract a w.size).size = w.size - a := by simp
    have hh := head_eq (w.extract a w.size) (by omega)
    rw [walkR, refRead]
    cases hf : frontR (w.extract a w.size) with
    | error e =>
      rw [hf] at hh
      simp only at hh ⊢
      rw [rloop_err _ _ (by rw [hh.1]; exact hh.2), finR, if_pos (by rw [hh.1]; exact hh.2), hh.1]
      exact ⟨rfl, hh.2⟩
    | ok x =>
      rw [hf] at hh
      simp only at hh ⊢
      have hfl := frontR_len (n := x.1) (p := x.2) hf
      rw [hh]
      simp only [Int.toNat_natCast]
      have key : ∀ (i n : Nat), a + n ≤ w.size → match iter (walkR w k) i (a + n) with | .ok y => rloop (refRead k) (w.extract a w.size) i (n : Int) 0 = (((y - a : Nat) : Int), 0) ∧ a ≤ y | .error e => (rloop (refRead k) (w.extract a w.size) i (n : Int) 0).2 = e ∧ e ≠ 0 := by
        intro i
        induction i with
        | zero => intro n hn; exact ⟨by rw [rloop, show a + n - a = n by omega], by omega⟩
        | succ i ih =>
          intro n hn
          rw [iter, rloop, if_neg (by simp), Int.toNat_natCast]
          have hx := ext_ext w ha hn
          rw [hx]
          have hr := refRead_eq k w (a + n) hw hn
          cases hwk : walkR w k (a + n) with
          | error e =>
            rw [hwk] at hr
            simp only at hr ⊢
            rw [hr.1, rloop_err _ _ hr.2]
            exact ⟨rfl, hr.2⟩
          | ok y =>
            rw [hwk] at hr
            simp only at hr ⊢
            have hyl := walkR_len w k (a + n) y hn hwk
            rw [hr.1]
            have e1 : IntKind.i64.wrap ((n : Int) + ((y - (a + n) : Nat) : Int)) = ((y - a : Nat) : Int) := by
              rw [show (n : Int) + ((y - (a + n) : Nat) : Int) = ((y - a : Nat) : Int) by omega, wrap64_nat (by omega)]
            simp only [e1]
            have := ih (y - a) (by omega)
            rw [show a + (y - a) = y by omega] at this
            exact this
      have hk := key x.2 x.1 (by omega)
      cases hit : iter (walkR w k) x.2 (a + x.1) with
      | error e =>
        rw [hit] at hk
        simp only at hk ⊢
        rw [finR, if_pos (by rw [hk.1]; exact hk.2), hk.1]
        exact ⟨rfl, hk.2⟩
      | ok y =>
        rw [hit] at hk
        simp only at hk ⊢
        rw [finR, hk.1, if_neg (by simp)]
        exact ⟨rfl, hk.2⟩
/-- whether a text is a term: the document's answer -/
theorem refCheck_eq (s : ByteArray) (hs : s.size < 4611686018427387904) : refCheck s = checkR s := by
  have h := refRead_eq 16 s 0 hs (Nat.zero_le _)
  rw [ext_all] at h
  unfold refCheck checkR topR
  cases hw : walkR s 16 0 with
  | error e =>
    rw [hw] at h
    simp only at h
    rw [h.1]
    simp [readR, h.2]
  | ok y =>
    rw [hw] at h
    simp only [Nat.sub_zero] at h
    rw [h.1]
    by_cases hy : 16384 < y
    · have hy' : (16384 : Int) < (y : Int) := by omega
      simp [readR, hy, hy']
    · have hy' : ¬ (16384 : Int) < (y : Int) := by omega
      simp only [readR, hy, hy', if_false]
      by_cases e : (y : Int) = (s.size : Int) <;> simp [e]
end Go.Proofs.Ytbpgiodfccijmaa
namespace Go.Proofs.Ytbpgiodfccijmaa
open Go.Chi

theorem check_size {t : ByteArray} (hs : t.size < 4611686018427387904) (h : checkR t = 0) : t.size ≤ 16384 := by
  rw [← refCheck_eq _ hs] at h
  unfold refCheck at h
  split at h
  · rename_i h1; exact absurd h h1
  rename_i h1
  split at h
  · cases h
  rename_i h2
  have h2 : (topR t).1 = (t.size : Int) := by simpa using h2
  have h1 : (topR t).2 = 0 := by simpa using h1
  unfold topR at h1 h2
  split at h1
  · rename_i h3; exact absurd h1 h3
  rename_i h3
  rw [if_neg h3] at h2
  split at h1
  · cases h1
  rename_i h4
  rw [if_neg h4] at h2
  simp only at h2
  omega
theorem AcP.do_ {a : Aa} (h : AcP a) : 1 ≤ a.do_ ∧ a.do_ ≤ 10 := by cases h <;> simp
theorem actB_size (a : Aa) : (actB a).size = 1 + (actBody a).size := by rw [actB, app_size, bytesI_one]
theorem actB_byte {a : Aa} (h : AcP a) (x : ByteArray) : byte (actB a ++ x) 0 = a.do_ := by
  have := h.do_
  rw [actB, app_assoc, byte_left (by rw [bytesI_one]; omega), byte_one _ (by omega) (by omega)]
theorem actB_rest (a : Aa) (x : ByteArray) : rest1 (actB a ++ x) = actBody a ++ x := by
  rw [actB, app_assoc]
  have := ext_right (bytesI [a.do_]) (actBody a ++ x)
  rw [bytesI_one] at this
  exact this
/-- acts whose payloads are no longer than memory is -/
def SizeA (a : Aa) : Prop := ∀ m ∈ a.gives, m.digest.size < 4611686018427387904
theorem shortA {a : Aa} (h : AcP a) (hs : SizeA a) : ShortA a := by
  intro m hm
  cases h with
  | begin_ o au g h1 h2 h3 h4 => exact check_size (hs m hm) (h4 m hm).2
  | submit o t y h1 h2 => cases hm
  | tick o h1 => cases hm
  | deliver n h1 => cases hm
  | inject o l h1 h2 h3 => cases hm
  | arm o n h1 h2 => cases hm
  | crash o n h1 h2 => cases hm
  | restart o h1 => cases hm
  | exprt o t h1 h2 => cases hm
  | present o l h1 h2 h3 => cases hm
/-- an act stands at the front of bytes -/
def One (s : ByteArray) (a : Aa) (x : ByteArray) : Prop := AcP a ∧ ShortA a ∧ s = actB a ++ x
theorem one_iff {s : ByteArray} {a : Aa} {x : ByteArray} : One s a x ↔ s.size ≠ 0 ∧ AcP a ∧ ShortA a ∧ pAct (byte s 0) (rest1 s) = some (a, x) := by
  constructor
  · rintro ⟨h1, h2, rfl⟩
    refine ⟨by rw [app_size, actB_size]; omega, h1, h2, ?_⟩
    rw [actB_byte h1, actB_rest]
    exact pAct_ok h1 h2 x
  · rintro ⟨h1, h2, h3, h4⟩
    obtain ⟨hk, hb⟩ := pAct_back h4
    refine ⟨h2, h3, ?_⟩
    rw [actB, app_assoc, ← hb, hk]
    have := ext_split s (n := 1) (by omega)
    rwa [ext_one (by omega)] at this
theorem One.uniq {s : ByteArray} {a a' : Aa} {x x' : ByteArray} (h : One s a x) (h' : One s a' x') : a = a' ∧ x = x' := by
  have h1 := (one_iff.1 h).2.2.2
  rw [(one_iff.1 h').2.2.2] at h1
  cases h1
  exact ⟨rfl, rfl⟩
/-- the acts at the front of bytes, and what is left -/
inductive Fr : ByteArray → List Aa → ByteArray → Prop
  | nil (s : ByteArray) : (∀ a x, ¬ One s a x) → Fr s [] s
  | cons (s : ByteArray) (a : Aa) (x : ByteArray) (l : List Aa) (y : ByteArray) : One s a x → Fr x l y → Fr s (a :: l) y
theorem Fr.uniq {s : ByteArray} {l l' : List Aa} {y y' : ByteArray} (h : Fr s l y) (h' : Fr s l' y') : l = l' ∧ y = y' := by
  induction h generalizing l' y' with
  | nil s hn =>
    cases h' with
    | nil => exact ⟨rfl, rfl⟩
    | cons _ a x l y ho hf => exact absurd ho (hn a x)
  | cons s a x l y ho hf ih =>
    cases h' with
    | nil _ hn => exact absurd ho (hn a x)
    | cons _ a' x' l' y' ho' hf' =>
      obtain ⟨rfl, rfl⟩ := ho.uniq ho'
      obtain ⟨rfl, rfl⟩ := ih hf'
      exact ⟨rfl, rfl⟩
def encB : List Aa → ByteArray
  | [] => bz
  | a :: l => actB a ++ encB l
theorem encB_app : ∀ (l m : List Aa), encB (l ++ m) = encB l ++ encB m
  | [], m => (nil_app _).symm
  | a :: l, m => by rw [List.cons_append, encB, encB, encB_app l m, app_assoc]
theorem Fr.bytes {s : ByteArray} {l : List Aa} {y : ByteArray} (h : Fr s l y) : s = encB l ++ y ∧ (∀ a ∈ l, AcP a ∧ ShortA a) ∧ ∀ a x, ¬ One y a x := by
  induction h with
  | nil s hn => exact ⟨(nil_app _).symm, (fun a ha => by cases ha), hn⟩
  | cons s a x l y ho hf ih =>
    obtain ⟨h1, h2, h3⟩ := ih
    refine ⟨by rw [encB, app_assoc, ← h1]; exact ho.2.2, fun b hb => ?_, h3⟩
    rcases List.mem_cons.1 hb with rfl | hb
    · exact ⟨ho.1, ho.2.1⟩
    · exact h2 b hb
theorem fr_of : ∀ {l : List Aa} (_ : ∀ a ∈ l, AcP a ∧ ShortA a) {y : ByteArray} (_ : ∀ a x, ¬ One y a x), Fr (encB l ++ y) l y
  | [], _, y, hn => by rw [show encB [] ++ y = y from nil_app y]; exact Fr.nil y hn
  | a :: l, h, y, hn => by
    rw [encB, app_assoc]
    exact Fr.cons _ a _ l y ⟨(h a List.mem_cons_self).1, (h a List.mem_cons_self).2, rfl⟩ (fr_of (fun b hb => h b (List.mem_cons_of_mem _ hb)) hn)
theorem one_bz (a : Aa) (x : ByteArray) : ¬ One bz a x := fun h => by
  have := (one_iff.1 h).1
  exact this rfl
/-- what is cut within an act's bytes begins with no act -/
theorem one_cut {b : Aa} (hb : AcP b) (hs : ShortA b) {r z : ByteArray} (h : actB b = r ++ z) (hz : z.size ≠ 0) : ∀ a x, ¬ One r a x := by
  intro a x ho
  obtain ⟨h1, h2, h3⟩ := ho
  have e : actB b ++ bz = actB a ++ (x ++ z) := by
    rw [show actB b ++ bz = actB b from app_nil _, ← app_assoc, ← h3, h]
  have o1 : One (actB b ++ bz) b bz := ⟨hb, hs, rfl⟩
  have o2 : One (actB b ++ bz) a (x ++ z) := ⟨h1, h2, e⟩
  obtain ⟨rfl, hx⟩ := o1.uniq o2
  have := congrArg ByteArray.size hx
  rw [app_size] at this
  have e0 : bz.size = 0 := rfl
  omega
end Go.Proofs.Ytbpgiodfccijmaa
namespace Go.Proofs.Ytbpgiodfccijmaa
open Go.Chi

/-! ### the document's taker: what it finds -/
abbrev gN : ByteArray → Option (Int × ByteArray) := pN 2147483647
def gTx (s : ByteArray) : Option (Tx × ByteArray) := (gN s).bind fun x => (gN x.2).bind fun y => (gN y.2).bind fun z => some (⟨x.1, y.1, z.1⟩, z.2)
def gY (s : ByteArray) : Option (Bool × ByteArray) := (gN s).bind fun x => if x.1 < 2 then some (x.1 == 1, x.2) else none
def gGs : Nat → ByteArray → Option (List Mb × ByteArray)
  | 0, s => some ([], s)
  | n + 1, s => (gN s).bind fun x => (pTm 16384 x.2).bind fun y => (gGs n y.2).bind fun z => some (⟨x.1, y.1⟩ :: z.1, z.2)
def gSp (s : ByteArray) : Option (Sp × ByteArray) := (gN s).bind fun d => if 255 < d.1 then none else (gN d.2).bind fun a => (gN a.2).bind fun b => (gN b.2).bind fun c => (gN c.2).bind fun n => (pTm 1024 n.2).bind fun t => (gN t.2).bind fun k => (pNs k.1.toNat k.2).bind fun l => some (⟨d.1, a.1, b.1, c.1, n.1, t.1, l.1⟩, l.2)
def gSps : Nat → ByteArray → Option (List Sp × ByteArray)
  | 0, s => some ([], s)
  | n + 1, s => (gSp s).bind fun x => (gSps n x.2).bind fun z => some (x.1 :: z.1, z.2)
def gGives (s : ByteArray) : Option (List Mb × ByteArray) := (gN s).bind fun x => gGs x.1.toNat x.2
def gSteps (s : ByteArray) : Option (List Sp × ByteArray) := (gN s).bind fun x => gSps x.1.toNat x.2
def gAct (k : Int) (s : ByteArray) : Option (Aa × ByteArray) :=
  if k = 1 then (gN s).bind fun o => (gN o.2).bind fun au => (gGives au.2).bind fun g => some (⟨1, o.1, au.1, 0, g.1, tz, false, []⟩, g.2) else
  if k = 2 then (gN s).bind fun o => (gTx o.2).bind fun t => (gY t.2).bind fun y => some (⟨2, o.1, 0, 0, [], t.1, y.1, []⟩, y.2) else
  if k = 3 ∨ k = 8 then (gN s).bind fun o => some (⟨k, o.1, 0, 0, [], tz, false, []⟩, o.2) else
  if k = 4 then (gN s).bind fun n => some (⟨4, 0, 0, n.1, [], tz, false, []⟩, n.2) else
  if k = 5 ∨ k = 10 then (gN s).bind fun o => (gSteps o.2).bind fun l => some (⟨k, o.1, 0, 0, [], tz, false, l.1⟩, l.2) else
  if k = 6 ∨ k = 7 then (gN s).bind fun o => (gN o.2).bind fun n => some (⟨k, o.1, 0, n.1, [], tz, false, []⟩, n.2) else
  if k = 9 then (gN s).bind fun o => (gTx o.2).bind fun t => some (⟨9, o.1, 0, 0, [], t.1, false, []⟩, t.2) else
  some (⟨k, 0, 0, 0, [], tz, false, []⟩, s)
theorem gOrg_ok {n : Int} (h : orgW n = true) (x : ByteArray) : gN (nB n ++ x) = some (n, x) := pN_ok (org_r h).1 (by have := (org_r h).2; omega) (by have := (org_r h).2; omega) x
theorem gTx_ok {t : Tx} (h : mayTx t = true) (x : ByteArray) : gTx (txB t ++ x) = some (t, x) := by
  obtain ⟨h1, h2, h3⟩ := mayTx_r h
  rw [txB, gTx, app_assoc, app_assoc, gN, pN_ok h1.1 (by omega) (by omega), Option.bind_some, pN_ok h2.1 (by omega) (by omega), Option.bind_some, pN_ok h3.1 (by omega) (by omega)]
  rfl
theorem gTx_back {s x : ByteArray} {t : Tx} (h : gTx s = some (t, x)) : s = txB t ++ x := by
  rw [gTx] at h
  obtain ⟨⟨a, s1⟩, h1, h⟩ := Option.bind_eq_some_iff.1 h
  obtain ⟨⟨b, s2⟩, h2, h⟩ := Option.bind_eq_some_iff.1 h
  obtain ⟨⟨c, s3⟩, h3, h⟩ := Option.bind_eq_some_iff.1 h
  cases h
  rw [txB, app_assoc, app_assoc, ← (pN_back h3).2.2, ← (pN_back h2).2.2]
  exact (pN_back h1).2.2
theorem gY_ok (y : Bool) (x : ByteArray) : gY (yB y ++ x) = some (y, x) := by
  cases y
  · rw [yB, if_neg (by simp), gY, gN, pN_ok (by omega) (by decide) (by omega)]; rfl
  · rw [yB, if_pos rfl, gY, gN, pN_ok (by omega) (by decide) (by omega)]; rfl
theorem gY_back {s x : ByteArray} {y : Bool} (h : gY s = some (y, x)) : s = yB y ++ x := by
  rw [gY] at h
  obtain ⟨⟨a, s1⟩, h1, h⟩ := Option.bind_eq_some_iff.1 h
  obtain ⟨a0, a1, ha⟩ := pN_back h1
  simp only at h
  split at h
  · rename_i h2
    cases h
    have : a = 0 ∨ a = 1 := by omega
    rcases this with rfl | rfl
    · exact ha
    · exact ha
  · cases h
theorem gGs_ok : ∀ (l : List Mb), (∀ m ∈ l, orgW m.org = true ∧ m.digest.size ≤ 16384) → ∀ x, gGs l.length (mbB l ++ x) = some (l, x)
  | [], _, x => by rw [mbB, List.length_nil, gGs]; exact congrArg (fun y => some ([], y)) (nil_app x)
  | m :: l, h, x => by
    obtain ⟨h1, h3⟩ := h m List.mem_cons_self
    rw [mbB, List.length_cons, gGs, app_assoc, app_assoc, gOrg_ok h1, Option.bind_some, pTm_ok h3 (by omega), Option.bind_some, gGs_ok l (fun m hm => h m (List.mem_cons_of_mem _ hm)) x]
    rfl
theorem gGs_back : ∀ (n : Nat) {s x : ByteArray} {l : List Mb}, gGs n s = some (l, x) → l.length = n ∧ s = mbB l ++ x
  | 0, s, x, l, h => by
    rw [gGs] at h
    cases h
    exact ⟨rfl, (nil_app _).symm⟩
  | n + 1, s, x, l, h => by
    rw [gGs] at h
    obtain ⟨⟨a, s1⟩, h1, h⟩ := Option.bind_eq_some_iff.1 h
    obtain ⟨⟨d, s2⟩, h2, h⟩ := Option.bind_eq_some_iff.1 h
    obtain ⟨⟨l', s3⟩, h3, h⟩ := Option.bind_eq_some_iff.1 h
    cases h
    obtain ⟨r1, r2⟩ := gGs_back n h3
    refine ⟨by rw [List.length_cons, r1], ?_⟩
    rw [mbB, app_assoc, app_assoc, ← r2, ← (pTm_back h2).2]; exact (pN_back h1).2.2
theorem gSp_ok {x : Sp} (h : SpP x) (z : ByteArray) : gSp (spB x ++ z) = some (x, z) := by
  have hd := h.do_
  rw [spB, gSp]
  simp only [app_assoc]
  rw [gN, pN_ok (by omega) (by omega) (by omega), Option.bind_some, if_neg (by simp only; omega), pNm_ok h.a, Option.bind_some, pNm_ok h.b, Option.bind_some, pNm_ok h.c, Option.bind_some, pNm_ok h.n, Option.bind_some,
    pTm_ok h.text (by omega), Option.bind_some, pN_ok (by omega) (by have := h.len; omega) (by have := h.len; omega), Option.bind_some]
  simp only [Int.toNat_natCast]
  rw [pNs_ok _ h.list]
  rfl
theorem gSp_back {s z : ByteArray} {x : Sp} (h : gSp s = some (x, z)) : s = spB x ++ z := by
  rw [gSp] at h
  obtain ⟨⟨d, s1⟩, h1, h⟩ := Option.bind_eq_some_iff.1 h
  simp only at h
  split at h
  · cases h
  obtain ⟨⟨a, s2⟩, h2, h⟩ := Option.bind_eq_some_iff.1 h
  obtain ⟨⟨b, s3⟩, h3, h⟩ := Option.bind_eq_some_iff.1 h
  obtain ⟨⟨c, s4⟩, h4, h⟩ := Option.bind_eq_some_iff.1 h
  obtain ⟨⟨n, s5⟩, h5, h⟩ := Option.bind_eq_some_iff.1 h
  obtain ⟨⟨t, s6⟩, h6, h⟩ := Option.bind_eq_some_iff.1 h
  obtain ⟨⟨k, s7⟩, h7, h⟩ := Option.bind_eq_some_iff.1 h
  obtain ⟨⟨l, s8⟩, h8, h⟩ := Option.bind_eq_some_iff.1 h
  cases h
  obtain ⟨k0, k1, hk⟩ := pN_back h7
  obtain ⟨r1, r2⟩ := pNs_back _ h8
  rw [spB]
  simp only [app_assoc]
  rw [← r2, r1, Int.toNat_of_nonneg k0, ← hk, ← (pTm_back h6).2, ← (pN_back h5).2.2, ← (pN_back h4).2.2, ← (pN_back h3).2.2, ← (pN_back h2).2.2]
  exact (pN_back h1).2.2
theorem gSps_ok : ∀ (l : List Sp), (∀ v ∈ l, SpP v) → ∀ x, gSps l.length (spsB l ++ x) = some (l, x)
  | [], _, x => by rw [spsB, List.length_nil, gSps]; exact congrArg (fun y => some ([], y)) (nil_app x)
  | v :: l, h, x => by
    rw [spsB, List.length_cons, gSps, app_assoc, gSp_ok (h v List.mem_cons_self), Option.bind_some, gSps_ok l (fun m hm => h m (List.mem_cons_of_mem _ hm)) x]
    rfl
theorem gSps_back : ∀ (n : Nat) {s x : ByteArray} {l : List Sp}, gSps n s = some (l, x) → l.length = n ∧ s = spsB l ++ x
  | 0, s, x, l, h => by
    rw [gSps] at h
    cases h
    exact ⟨rfl, (nil_app _).symm⟩
  | n + 1, s, x, l, h => by
    rw [gSps] at h
    obtain ⟨⟨a, s1⟩, h1, h⟩ := Option.bind_eq_some_iff.1 h
    obtain ⟨⟨l', s3⟩, h3, h⟩ := Option.bind_eq_some_iff.1 h
    cases h
    obtain ⟨r1, r2⟩ := gSps_back n h3
    exact ⟨by rw [List.length_cons, r1], by rw [spsB, app_assoc, ← r2]; exact gSp_back h1⟩
theorem gGives_ok {l : List Mb} (hl : l.length ≤ 6) (h : ∀ m ∈ l, orgW m.org = true ∧ m.digest.size ≤ 16384) (x : ByteArray) : gGives (msB l ++ x) = some (l, x) := by
  rw [msB, gGives, app_assoc, gN, pN_ok (by omega) (by omega) (by omega), Option.bind_some]
  simp only [Int.toNat_natCast]
  exact gGs_ok l h x
theorem gGives_back {s x : ByteArray} {l : List Mb} (h : gGives s = some (l, x)) : s = msB l ++ x := by
  rw [gGives] at h
  obtain ⟨⟨a, s1⟩, h1, h⟩ := Option.bind_eq_some_iff.1 h
  obtain ⟨a0, a1, ha⟩ := pN_back h1
  obtain ⟨r1, r2⟩ := gGs_back _ h
  rw [msB, app_assoc, ← r2, r1, Int.toNat_of_nonneg a0]
  exact ha
theorem gSteps_ok {l : List Sp} (hl : l.length ≤ 64) (h : ∀ m ∈ l, SpP m) (x : ByteArray) : gSteps (stepsB l ++ x) = some (l, x) := by
  rw [stepsB, gSteps, app_assoc, gN, pN_ok (by omega) (by omega) (by omega), Option.bind_some]
  simp only [Int.toNat_natCast]
  exact gSps_ok l h x
theorem gSteps_back {s x : ByteArray} {l : List Sp} (h : gSteps s = some (l, x)) : s = stepsB l ++ x := by
  rw [gSteps] at h
  obtain ⟨⟨a, s1⟩, h1, h⟩ := Option.bind_eq_some_iff.1 h
  obtain ⟨a0, a1, ha⟩ := pN_back h1
  obtain ⟨r1, r2⟩ := gSps_back _ h
  rw [stepsB, app_assoc, ← r2, r1, Int.toNat_of_nonneg a0]
  exact ha
theorem gAct_ok {a : Aa} (h : AcP a) (hs : ShortA a) (x : ByteArray) : gAct a.do_ (actBody a ++ x) = some (a, x) := by
  cases h with
  | begin_ o au g h1 h2 h3 h4 =>
    show (gN ((nB o ++ (nB au ++ msB g)) ++ x)).bind _ = _
    rw [app_assoc, app_assoc, gOrg_ok h1, Option.bind_some, gOrg_ok h2, Option.bind_some, gGives_ok h3 (fun m hm => ⟨(h4 m hm).1, hs m hm⟩)]
    rfl
  | submit o t y h1 h2 =>
    show (gN ((nB o ++ (txB t ++ yB y)) ++ x)).bind _ = _
    rw [app_assoc, app_assoc, gOrg_ok h1, Option.bind_some, gTx_ok h2, Option.bind_some, gY_ok]
    rfl
  | tick o h1 =>
    show (gN (nB o ++ x)).bind _ = _
    rw [gOrg_ok h1]; rfl
  | deliver n h1 =>
    show (gN (nB n ++ x)).bind _ = _
    rw [gN, pNm_ok h1]; rfl
  | inject o l h1 h2 h3 =>
    show (gN ((nB o ++ stepsB l) ++ x)).bind _ = _
    rw [app_assoc, gOrg_ok h1, Option.bind_some, gSteps_ok h2 h3]; rfl
  | arm o n h1 h2 =>
    show (gN ((nB o ++ nB n) ++ x)).bind _ = _
    rw [app_assoc, gOrg_ok h1, Option.bind_some, gN, pNm_ok h2]; rfl
  | crash o n h1 h2 =>
    show (gN ((nB o ++ nB n) ++ x)).bind _ = _
    rw [app_assoc, gOrg_ok h1, Option.bind_some, gN, pNm_ok h2]; rfl
  | restart o h1 =>
    show (gN (nB o ++ x)).bind _ = _
    rw [gOrg_ok h1]; rfl
  | exprt o t h1 h2 =>
    show (gN ((nB o ++ txB t) ++ x)).bind _ = _
    rw [app_assoc, gOrg_ok h1, Option.bind_some, gTx_ok h2]; rfl
  | present o l h1 h2 h3 =>
    show (gN ((nB o ++ stepsB l) ++ x)).bind _ = _
    rw [app_assoc, gOrg_ok h1, Option.bind_some, gSteps_ok h2 h3]; rfl
theorem gAct_back {k : Int} {s x : ByteArray} {a : Aa} (h : gAct k s = some (a, x)) : a.do_ = k ∧ s = actBody a ++ x := by
  unfold gAct at h
  split at h
  · rename_i hk
    obtain ⟨⟨o, s1⟩, h1, h⟩ := Option.bind_eq_some_iff.1 h
    obtain ⟨⟨au, s2⟩, h2, h⟩ := Option.bind_eq_some_iff.1 h
    obtain ⟨⟨g, s3⟩, h3, h⟩ := Option.bind_eq_some_iff.1 h
    cases h
    refine ⟨hk.symm, ?_⟩
    show s = (nB o ++ (nB au ++ msB g)) ++ _
    rw [app_assoc, app_assoc, ← gGives_back h3, ← (pN_back h2).2.2]
    exact (pN_back h1).2.2
  split at h
  · rename_i hk
    obtain ⟨⟨o, s1⟩, h1, h⟩ := Option.bind_eq_some_iff.1 h
    obtain ⟨⟨t, s2⟩, h2, h⟩ := Option.bind_eq_some_iff.1 h
    obtain ⟨⟨y, s3⟩, h3, h⟩ := Option.bind_eq_some_iff.1 h
    cases h
    refine ⟨hk.symm, ?_⟩
    show s = (nB o ++ (txB t ++ yB y)) ++ _
    rw [app_assoc, app_assoc, ← gY_back h3, ← gTx_back h2]
    exact (pN_back h1).2.2
  split at h
  · rename_i hk
    obtain ⟨⟨o, s1⟩, h1, h⟩ := Option.bind_eq_some_iff.1 h
    cases h
    refine ⟨rfl, ?_⟩
    rcases hk with rfl | rfl
    · exact (pN_back h1).2.2
    · exact (pN_back h1).2.2
  split at h
  · rename_i hk
    obtain ⟨⟨n, s1⟩, h1, h⟩ := Option.bind_eq_some_iff.1 h
    cases h
    exact ⟨hk.symm, (pN_back h1).2.2⟩
  split at h
  · rename_i hk
    obtain ⟨⟨o, s1⟩, h1, h⟩ := Option.bind_eq_some_iff.1 h
    obtain ⟨⟨l, s2⟩, h2, h⟩ := Option.bind_eq_some_iff.1 h
    cases h
    refine ⟨rfl, ?_⟩
    have e : s = (nB o ++ stepsB l) ++ s2 := by rw [app_assoc, ← gSteps_back h2]; exact (pN_back h1).2.2
    rcases hk with rfl | rfl
    · exact e
    · exact e
  split at h
  · rename_i hk
    obtain ⟨⟨o, s1⟩, h1, h⟩ := Option.bind_eq_some_iff.1 h
    obtain ⟨⟨n, s2⟩, h2, h⟩ := Option.bind_eq_some_iff.1 h
    cases h
    refine ⟨rfl, ?_⟩
    have e : s = (nB o ++ nB n) ++ s2 := by rw [app_assoc, ← (pN_back h2).2.2]; exact (pN_back h1).2.2
    rcases hk with rfl | rfl
    · exact e
    · exact e
  split at h
  · rename_i hk
    obtain ⟨⟨o, s1⟩, h1, h⟩ := Option.bind_eq_some_iff.1 h
    obtain ⟨⟨t, s2⟩, h2, h⟩ := Option.bind_eq_some_iff.1 h
    cases h
    refine ⟨hk.symm, ?_⟩
    show s = (nB o ++ txB t) ++ _
    rw [app_assoc, ← gTx_back h2]
    exact (pN_back h1).2.2
  · rename_i h1 h2 h3 h4 h5 h6 h7
    cases h
    refine ⟨rfl, ?_⟩
    have : actBody ⟨k, 0, 0, 0, [], tz, false, []⟩ = bz := by
      unfold actBody
      rw [if_neg h1, if_neg h2, if_neg h3, if_neg h4, if_neg h5, if_neg h6, if_neg h7]
    rw [this]
    exact (nil_app _).symm
theorem one_iff' {s : ByteArray} {a : Aa} {x : ByteArray} : One s a x ↔ s.size ≠ 0 ∧ AcP a ∧ ShortA a ∧ gAct (byte s 0) (rest1 s) = some (a, x) := by
  constructor
  · rintro ⟨h1, h2, rfl⟩
    refine ⟨by rw [app_size, actB_size]; omega, h1, h2, ?_⟩
    rw [actB_byte h1, actB_rest]
    exact gAct_ok h1 h2 x
  · rintro ⟨h1, h2, h3, h4⟩
    obtain ⟨hk, hb⟩ := gAct_back h4
    refine ⟨h2, h3, ?_⟩
    rw [actB, app_assoc, ← hb, hk]
    have := ext_split s (n := 1) (by omega)
    rwa [ext_one (by omega)] at this
end Go.Proofs.Ytbpgiodfccijmaa
namespace Go.Chi
section
variable {P : Program} {C : Cx} {n : Nat} {k : List Item} {ds : List Deferred} {σ : Env} {δ : Den} {M : Mem} {L : HL} {ops : Array Oper}

/-! ### effects in any order: each is shown once -/
/-- the plan counts as a set -/
theorem pr_set {D D' X X' : List Nat} (hD : ∀ i, i ∈ D ↔ i ∈ D') (hX : ∀ i, i ∈ X' → i ∈ X) (h : PR P C n ops k ds D' X' σ δ M L) : PR P C n ops k ds D X σ δ M L :=
  fun a â w listed fuel t hst => h a â w listed fuel t {
    hsz := hst.hsz
    cnt := hst.cnt
    an := hst.an
    hn := hst.hn
    ad := hst.ad
    hd := hst.hd
    sees := hst.sees
    hp := hst.hp
    down := hst.down
    sub := fun i hi => (hD i).1 (hst.sub i hi)
    ex := fun i hi => hst.ex i (hX i hi)
    pend := fun q hq hn => hst.pend q ((hD q).2 hq) hn
    agree := fun t ht => hst.agree t fun q hq hn => ht q ((hD q).1 hq) hn
    wf := fun i hi hin q hq hqn => hst.wf i ((hD i).2 hi) hin q ((hD q).2 hq) hqn
    uniq := fun i hi hin q hq hqn => hst.uniq i ((hD i).2 hi) hin q ((hD q).2 hq) hqn }
/-- less is known of the slots -/
theorem pr_sub {D X : List Nat} (σ' : Env) (hs : subE σ σ') (h : PR P C n ops k ds D X σ' δ M L) : PR P C n ops k ds D X σ δ M L :=
  fun a â w listed fuel t hst => h a â w listed fuel t { hst with sees := ⟨fun t v e => hst.sees.s t v (subE_sound hs t v e), hst.sees.d⟩ }
theorem pr_mem' {D X : List Nat} {L' : HL} (hp : L.Perm L') (h : PR P C n ops k ds D X σ δ M L') : PR P C n ops k ds D X σ δ M L :=
  fun a â w listed fuel t hst => h a â w listed fuel t {
    hst with
    hp := hst.hp.perm hp
    pend := fun q hq hn => by
      obtain ⟨o, d, h1, h2, h3, h4, h5⟩ := hst.pend q hq hn
      refine ⟨o, d, h1, h2, h3, fun hw => ?_, h5⟩
      obtain ⟨v, hv, hq'⟩ := h4 hw
      exact ⟨v, hv, fun w hw' => (hq' w (hw'.perm hp.symm)).mono fun u w' ⟨h6, h7⟩ => ⟨h6, h7.perm hp⟩⟩ }

/-- e may come, whatever of Q and Es has come -/
def chkI1 (ops : Array Oper) (Q Es : List Nat) (e : Nat) : Bool :=
  Nat.blt e ops.size && plainAt ops e && !memN Q e && (predsAt ops e).all (fun p => memN Q p || memN Es p) &&
  (let bs := befs ops e
   (Es ++ Q).all (fun q => Nat.beq q e || memN bs q || memN (befs ops q) e || (dataOk ops e q && !(match slotOf ops q with | some d => memN (looks ops e) d | none => false) && (match slotOf ops e with | some d => freeOf ops d q | none => true))))
/-- what is neither comes behind all effects -/
def chkI2 (ops : Array Oper) (Q Es : List Nat) (i : Nat) : Bool := memN Q i || memN Es i || (predsAt ops i).any (fun p => !memN Q p && !memN Es p) || Es.all (memN (predsAt ops i))
def chkInv (ops : Array Oper) (Q Es : List Nat) : Bool := (acyc ops && Q.all (fun q => (predsAt ops q).all (memN Q))) && Es.all (chkI1 ops Q Es) && (List.range ops.size).all (chkI2 ops Q Es)
theorem befs_in {S : Nat → Prop} (hdown : ∀ i, S i → ∀ p ∈ predsAt ops i, S p) {e : Nat} (he : S e) : ∀ q ∈ befs ops e, S q := by
  unfold befs
  suffices ∀ (l acc : List Nat), (∀ q ∈ acc, S q) → ∀ q ∈ l.foldl (fun acc i => if acc.any (fun j => memN (predsAt ops j) i) then i :: acc else acc) acc, S q from
    this _ [e] (fun q hq => by rw [List.mem_singleton.1 hq]; exact he)
  intro l
  induction l with
  | nil => exact fun acc h q hq => h q hq
  | cons i l ih =>
    intro acc h
    simp only [List.foldl_cons]
    refine ih _ ?_
    split
    · rename_i hany
      intro q hq
      rcases List.mem_cons.1 hq with rfl | hq
      · obtain ⟨j, hj, hm⟩ := List.any_eq_true.1 hany
        exact hdown j (h j hj) q (memN_iff.1 hm)
      · exact h q hq
    · exact h

/-- an effect, as it may come behind X -/
def EffI (P : Program) (C : Cx) (n : Nat) (ops : Array Oper) (I : List Nat → Env → Mem → HL → Prop) (X : List Nat) (σ : Env) (δ : Den) (M : Mem) (L : HL) (e : Nat) : Prop :=
  ∃ (dst : Option Nat) (op : Op) (ty : TypeId) (pos : String) (aft : Array Edge) (K : Value → Mem → HL → Prop) (σ' : Value → Env), ops[e]? = some ⟨dst, op, ty, pos, aft, none⟩ ∧
    St P C.b.roundOf ⟨dst, op, ty, pos, aft, none⟩ σ δ [] M L K ∧
    (∀ a v, a.tmps.size = n → Sees σ δ a → Sees (σ' v) δ (a.put dst v)) ∧
    (∀ v M' L', K v M' L' → I (e :: X) (σ' v) M' L')

theorem exists_min {l : List Nat} {p : Nat → Prop} (h : ∃ e ∈ l, p e) : ∃ e ∈ l, p e ∧ ∀ e' ∈ l, e' < e → ¬ p e' := by
  obtain ⟨e, he, hp⟩ := h
  induction e using Nat.strongRecOn with
  | _ e ih =>
    by_cases hx : ∃ e', e' ∈ l ∧ e' < e ∧ p e'
    · obtain ⟨e', h1, h2, h3⟩ := hx
      exact ih e' h2 h1 h3
    · exact ⟨e, he, hp, fun e' h1 h2 h3 => hx ⟨e', h1, h2, h3⟩⟩

theorem pr_inv {Q Es : List Nat} (I : List Nat → Env → Mem → HL → Prop) (hchk : chkInv ops Q Es = true)
    (hstep : ∀ X σ M L, I X σ M L → ∀ e ∈ Es, e ∉ X → (∀ p ∈ predsAt ops e, p ∈ X ∨ p ∈ Q) → EffI P C n ops I X σ δ M L e)
    (hkeep : ∀ X σ M L, I X σ M L → ∀ e ∈ Es, e ∉ X → ∀ M' L' σ', I (e :: X) σ' M' L' → ∀ q ∈ Q, ∀ a, Sees σ δ a → Pend P C.b.roundOf ops q a M' L')
    (hend : ∀ X σ M L, I X σ M L → (∀ e ∈ Es, e ∈ X) → (∀ x ∈ X, x ∈ Es) → PR P C n ops k ds (X ++ Q) X σ δ M L) :
    ∀ (m : Nat) (X : List Nat) (σ : Env) (M : Mem) (L : HL), (Es.filter (fun e => !memN X e)).length ≤ m → (∀ x ∈ X, x ∈ Es) → (∀ x ∈ X, ∀ p ∈ predsAt ops x, p ∈ X ∨ p ∈ Q) → I X σ M L → PR P C n ops k ds (X ++ Q) X σ δ M L := by
  simp only [chkInv, Bool.and_eq_true] at hchk
  obtain ⟨⟨⟨hac, hQ⟩, h1⟩, h2⟩ := hchk
  intro m
  induction m with
  | zero =>
    intro X σ M L hm hX hXp hI
    refine hend X σ M L hI (fun e he => ?_) hX
    have := List.length_eq_zero_iff.1 (Nat.le_zero.1 hm)
    cases hx : memN X e with
    | true => exact memN_iff.1 hx
    | false =>
      have : e ∈ Es.filter (fun e => !memN X e) := List.mem_filter.2 ⟨he, by rw [hx]; rfl⟩
      simp_all
  | succ m ih =>
    intro X σ M L hm hX hXp hI
    by_cases hall : ∀ e ∈ Es, e ∈ X
    · exact hend X σ M L hI hall hX
    have hex : ∃ e ∈ Es, e ∉ X := by
      apply Classical.byContradiction
      intro h
      exact hall fun e he => Classical.byContradiction fun hn => h ⟨e, he, hn⟩
    let Rd : List Nat := Es.filter (fun e => !memN X e && (predsAt ops e).all (fun p => memN X p || memN Q p))
    have hRd : ∀ e, e ∈ Rd ↔ e ∈ Es ∧ e ∉ X ∧ ∀ p ∈ predsAt ops e, p ∈ X ∨ p ∈ Q := by
      intro e
      simp only [Rd, List.mem_filter, Bool.and_eq_true, Bool.not_eq_true', List.all_eq_true, Bool.or_eq_true]
      constructor
      · rintro ⟨a1, a2, a3⟩
        exact ⟨a1, memN_false a2, fun p hp => (a3 p hp).imp memN_iff.1 memN_iff.1⟩
      · rintro ⟨a1, a2, a3⟩
        refine ⟨a1, ?_, fun p hp => (a3 p hp).imp memN_iff.2 memN_iff.2⟩
        cases hx : memN X e with
        | false => rfl
        | true => exact absurd (memN_iff.1 hx) a2
    have hne : Rd ≠ [] := by
      obtain ⟨e, he, hn, hmin⟩ := exists_min hex
      have : e ∈ Rd := (hRd e).2 ⟨he, hn, fun p hp => by
        have hc := List.all_eq_true.1 h1 e he
        simp only [chkI1, Bool.and_eq_true] at hc
        have hp2 := List.all_eq_true.1 hc.1.2 p hp
        simp only [Bool.or_eq_true] at hp2
        rcases hp2 with hp2 | hp2
        · exact .inr (memN_iff.1 hp2)
        · have hlt : p < e := by
            have hc2 := Nat.blt_eq.mp hc.1.1.1.1
            have := List.all_eq_true.1 hac e (List.mem_range.2 hc2)
            exact Nat.blt_eq.mp (List.all_eq_true.1 this p hp)
          exact .inl (Classical.byContradiction fun hx => hmin p (memN_iff.1 hp2) hlt hx)⟩
      intro h
      rw [h] at this
      cases this
    refine pr_es Rd hac ?_ hne fun e he => ?_
    · refine List.all_eq_true.2 fun i hi => ?_
      have hc := List.all_eq_true.1 h2 i hi
      simp only [chkI2, Bool.or_eq_true, List.any_eq_true, Bool.and_eq_true, Bool.not_eq_true', List.all_eq_true] at hc
      have hnall : ∀ p, p ∈ predsAt ops i → p ∉ X → p ∉ Q → (predsAt ops i).all (memN (X ++ Q)) = false := fun p hp a1 a2 => by
        rw [List.all_eq_false]
        exact ⟨p, hp, fun h => (List.mem_append.1 (memN_iff.1 h)).elim a1 a2⟩
      simp only [Bool.or_eq_true, Bool.not_eq_true']
      rcases hc with ((hc | hc) | hc) | hc
      · exact .inl (.inl (memN_iff.2 (List.mem_append_right _ (memN_iff.1 hc))))
      · by_cases hx : i ∈ X
        · exact .inl (.inl (memN_iff.2 (List.mem_append_left _ hx)))
        · by_cases hr : i ∈ Rd
          · exact .inl (.inr (memN_iff.2 hr))
          · right
            have : ∃ p, p ∈ predsAt ops i ∧ p ∉ X ∧ p ∉ Q := by
              apply Classical.byContradiction
              intro h
              exact hr ((hRd i).2 ⟨memN_iff.1 hc, hx, fun p hp => Classical.byContradiction fun hq => h ⟨p, hp, fun h => hq (.inl h), fun h => hq (.inr h)⟩⟩)
            obtain ⟨p, a1, a2, a3⟩ := this
            exact hnall p a1 a2 a3
      · obtain ⟨p, a1, a2, a3⟩ := hc
        exact .inr (hnall p a1 (fun h => memN_false a3 (hX p h)) (memN_false a2))
      · obtain ⟨e, he, hn⟩ := hex
        right
        have hq : e ∉ Q := by
          have hc1 := List.all_eq_true.1 h1 e he
          simp only [chkI1, Bool.and_eq_true, Bool.not_eq_true'] at hc1
          exact memN_false hc1.1.1.2
        exact hnall e (memN_iff.1 (hc e he)) hn hq
    · obtain ⟨he1, he2, he3⟩ := (hRd e).1 he
      have hc := List.all_eq_true.1 h1 e he1
      simp only [chkI1, Bool.and_eq_true, Bool.not_eq_true'] at hc
      obtain ⟨⟨⟨⟨hc1, hc2⟩, hc3⟩, hc4⟩, hc5⟩ := hc
      have hnD : e ∉ X ++ Q := fun h => (List.mem_append.1 h).elim he2 (memN_false hc3)
      refine ⟨?_, ?_⟩
      · simp only [chkE1, Bool.and_eq_true, Bool.not_eq_true']
        refine ⟨⟨⟨⟨hc1, hc2⟩, ?_⟩, ?_⟩, ?_⟩
        · cases hx : memN (X ++ Q) e with
          | false => rfl
          | true => exact absurd (memN_iff.1 hx) hnD
        · exact List.all_eq_true.2 fun p hp => memN_iff.2 (List.mem_append.2 (he3 p hp))
        · refine List.all_eq_true.2 fun q hq => ?_
          have hq' : q ∈ Es ++ Q := by
            rcases List.mem_append.1 hq with h | h
            · exact List.mem_append_left _ (hX q h)
            · exact List.mem_append_right _ h
          have := List.all_eq_true.1 hc5 q hq'
          have hqe : Nat.beq q e = false := by
            cases hx : Nat.beq q e with
            | false => rfl
            | true => exact absurd (Nat.eq_of_beq_eq_true hx ▸ hq) hnD
          have hbe : memN (befs ops q) e = false := by
            cases hx : memN (befs ops q) e with
            | false => rfl
            | true =>
              have := befs_in (S := fun i => i ∈ X ∨ i ∈ Q) (ops := ops) (fun i hi p hp => by
                rcases hi with hi | hi
                · exact hXp i hi p hp
                · exact .inr (memN_iff.1 (List.all_eq_true.1 (List.all_eq_true.1 hQ i hi) p hp))) (List.mem_append.1 hq) e (memN_iff.1 hx)
              exact absurd (List.mem_append.2 this) hnD
          simp only [hqe, hbe, Bool.false_or, Bool.or_false] at this
          cases h5 : slotOf ops q <;> cases h6 : slotOf ops e <;> simp only [h5, h6] at this ⊢ <;> exact this
      · obtain ⟨dst, op, ty, pos, aft, K, σ', ho, hst, hsee, hK⟩ := hstep X σ M L hI e he1 he2 he3
        refine ⟨dst, op, ty, pos, aft, K, σ', none, rfl, ho, hst, hsee, fun v M' L' hv q hq a hs _ => ?_, fun v M' L' hv => ?_⟩
        · have hqD := (List.mem_filter.1 hq)
          simp only [Bool.and_eq_true, Bool.not_eq_true'] at hqD
          have hqQ : q ∈ Q := (List.mem_append.1 hqD.1).resolve_left (fun h => memN_false hqD.2.2 h)
          exact hkeep X σ M L hI e he1 he2 M' L' (σ' v) (hK v M' L' hv) q hqQ a hs
        · refine ih (e :: X) (σ' v) M' L' ?_ (fun x hx => ?_) (fun x hx p hp => ?_) (hK v M' L' hv)
          · have hsub : Es.filter (fun y => !memN (e :: X) y) = (Es.filter (fun y => !memN X y)).filter (fun y => decide (y ≠ e)) := by
              rw [List.filter_filter]
              apply List.filter_congr
              intro y _
              simp only [memN]
              cases hb : Nat.beq e y with
              | true => have := Nat.eq_of_beq_eq_true hb; subst this; simp
              | false => have := Nat.ne_of_beq_eq_false hb; simp; exact fun _ h => this h.symm
            have hmem : e ∈ Es.filter (fun y => !memN X y) := List.mem_filter.2 ⟨he1, by
              cases hx : memN X e with
              | false => rfl
              | true => exact absurd (memN_iff.1 hx) he2⟩
            have hlt : (Es.filter (fun y => !memN (e :: X) y)).length < (Es.filter (fun y => !memN X y)).length := by
              rw [hsub]
              refine Nat.lt_of_le_of_ne (List.length_filter_le _ _) (fun h => ?_)
              have := List.length_filter_eq_length_iff.1 h e hmem
              simp at this
            omega
          · rcases List.mem_cons.1 hx with rfl | hx
            · exact he1
            · exact hX x hx
          · rcases List.mem_cons.1 hx with rfl | hx
            · exact (he3 p hp).imp (List.mem_cons_of_mem _) id
            · exact (hXp x hx p hp).imp (List.mem_cons_of_mem _) id
end
end Go.Chi
namespace Go.Chi

/-! ### method values -/
/-- the type's method of the name is the function, and takes the pointer itself -/
def MethOk (P : Program) (t : TypeId) (name : String) (f : FuncId) : Prop := ∃ i m e, P.info? t = some i ∧ i.methods.find? (·.name == name) = some m ∧ m.path.toList = [] ∧ m.func = some (f, true) ∧ P.underlying t = some (.pointer e)
def methB (P : Program) (t : TypeId) (name : String) (f : FuncId) : Bool :=
  match P.info? t with
  | some i => match i.methods.find? (·.name == name) with
    | some m => m.path.toList.isEmpty && (match m.func with | some (g, true) => Nat.beq g f | _ => false) && (match P.underlying t with | some (.pointer _) => true | _ => false)
    | none => false
  | none => false
theorem MethOk.of {P : Program} {t : TypeId} {name : String} {f : FuncId} (h : methB P t name f = true) : MethOk P t name f := by
  unfold methB at h
  split at h
  · rename_i i hi
    split at h
    · rename_i m hm
      simp only [Bool.and_eq_true, List.isEmpty_iff] at h
      obtain ⟨⟨h1, h2⟩, h3⟩ := h
      split at h2
      · rename_i g hg
        split at h3
        · rename_i e he
          exact ⟨i, m, e, hi, hm, h1, by rw [hg, Nat.eq_of_beq_eq_true h2], he⟩
        · cases h3
      · cases h2
    · cases h
  · cases h
theorem run_method {P : Program} {t : TypeId} {name : String} {f : FuncId} (h : MethOk P t name f) (n : Nat) (v : Value) (w : World) : (method (n + 1) t v name).run P w = .ok (f, v) w := by
  obtain ⟨i, m, e, h1, h2, h3, h4, h5⟩ := h
  have h6 : ∀ w, (underlying t).run P w = .ok (.pointer e) w := fun w => run_underlying h5 w
  simp [method, typeInfo, h1, h2, h3, h4, follow, receiverAt, h6, Place.get]
section
variable {P : Program} {T : TT} {ro : Option Nat} {σ : Env} {δ : Den} {cur : Path} {M : Mem} {L : HL} {d : Option Nat} {op : Op} {ty : TypeId} {pos : String} {aft : Array Edge} {g : Option (Nat × Bool)} {v : Value}
theorem st_callM {x : Operand} {t : TypeId} {u : Value} {name : String} {f : FuncId} {args : Array Operand} {tys : Array TypeId} {vs : List Value} {K : Value → Mem → HL → Prop} (hx : ev σ δ cur x = some (.func (.method name) #[.iface t u] #[])) (ha : evs σ δ cur args.toList = some vs) (hm : MethOk P t name f) (h : Hy σ δ cur → Tr P f (u :: vs) M L K) :
    St P ro ⟨d, .call ⟨.value x, args, tys⟩, ty, pos, aft, g⟩ σ δ cur M L K := fun a w hs hcur hp => by
  obtain ⟨h1, h2⟩ := h (Hy_of hs hcur)
  refine opWp_enter (w' := w) ?_ (h2 w hp)
  rw [semAt_of (by intro c e; cases e)]
  have e1 : args.map a.eval = ⟨vs⟩ := by apply Array.ext'; simpa using evs_sound hs hcur ha
  have h3 : ∀ n w, (method (n + 1) t u name).run P w = .ok (f, u) w := fun n w => run_method hm n u w
  simp only [execOp, resolve, e1, ev_sound hs hcur hx, Deferred.ofValue, Sem.run_bind, Sem.run_pure, Result.andThen_ok, invoke]
  have e2 : (#[Value.iface t u] ++ (⟨vs⟩ : Array Value))[0]? = some (.iface t u) := by simp
  have e3 : (#[Value.iface t u] ++ (⟨vs⟩ : Array Value)).extract 1 (#[Value.iface t u] ++ (⟨vs⟩ : Array Value)).size = ⟨vs⟩ := by
    apply Array.ext'
    simp
  have e4 : #[u] ++ (⟨vs⟩ : Array Value) = ⟨u :: vs⟩ := by apply Array.ext'; simp
  simp only [e2, e3, callMethod, Sem.run_bind, run_program, Result.andThen_ok]
  rw [show P.types.size + Made.depth = (P.types.size + (Made.depth - 1)) + 1 from rfl, h3]
  simp only [Result.andThen_ok, e4]
  exact h1 w
end
end Go.Chi
namespace Go.Chi

/-! ### nil checks, interfaces and assertions of other types -/
section
variable {P : Program} {T : TT} {ro : Option Nat} {σ σ' : Env} {δ : Den} {cur : Path} {M : Mem} {L : HL} {d : Option Nat} {op : Op} {ty : TypeId} {pos : String} {aft : Array Edge} {g : Option (Nat × Bool)} {v : Value}
theorem qt_nilIface {x : Operand} {t : TypeId} (hx : ev σ δ cur x = some (.iface t v)) : Qt P ro ⟨d, .nilCheck x, ty, pos, aft, g⟩ σ δ cur M L (.iface t v) :=
  qt_of_run (semAt_of (by intro c e; cases e)) fun a w hs hcur hp => by
    simp [execOp, ev_sound hs hcur hx]
/-- a concrete value as an interface's -/
def concD : TypeDesc → Bool
  | .interface _ => false
  | _ => true
theorem qt_makeIfaceC (hT : TOk P T) {t : TypeId} {x : Operand} {u : TypeDesc} (hu : und T t = some u) (hc : concD u = true) (hx : ev σ δ cur x = some v) :
    Qt P ro ⟨d, .makeInterface t x, ty, pos, aft, g⟩ σ δ cur M L (.iface t v) :=
  qt_of_run (semAt_of (by intro c e; cases e)) fun a w hs hcur hp => by
    cases u <;> first | (cases hc; done) | simp [execOp, Instr.makeInterface, ev_sound hs hcur hx, run_und hT hu]
theorem qt_assertC (hT : TOk P T) {s t : TypeId} {x : Operand} {u : TypeDesc} (hu : und T t = some u) (hc : concD u = true) (hx : ev σ δ cur x = some (.iface t v)) :
    Qt P ro ⟨d, .typeAssert x s t false, ty, pos, aft, g⟩ σ δ cur M L v :=
  qt_of_run (semAt_of (by intro c e; cases e)) fun a w hs hcur hp => by
    cases u <;> first | (cases hc; done) | simp [execOp, Instr.typeAssert, ev_sound hs hcur hx, run_und hT hu]
theorem qt_assertCk (hT : TOk P T) {s t : TypeId} {x : Operand} {u : TypeDesc} (hu : und T t = some u) (hc : concD u = true) (hx : ev σ δ cur x = some (.iface t v)) :
    Qt P ro ⟨d, .typeAssert x s t true, ty, pos, aft, g⟩ σ δ cur M L (.tuple ⟨[v, .bool true]⟩) :=
  qt_of_run (semAt_of (by intro c e; cases e)) fun a w hs hcur hp => by
    cases u <;> first | (cases hc; done) | simp [execOp, Instr.typeAssert, ev_sound hs hcur hx, run_und hT hu]
/-- what is shown of fewer slots -/
theorem Sees.sub {a : Act} (hs : subE σ σ') (h : Sees σ δ a) : Sees σ' δ a := ⟨fun t v e => h.s t v (subE_sound hs t v e), h.d⟩
theorem St.sub {o : Oper} {K : Value → Mem → HL → Prop} (hs : subE σ σ') (h : St P ro o σ' δ cur M L K) : St P ro o σ δ cur M L K :=
  fun a w h1 h2 h3 => h a w (h1.sub hs) h2 h3
end
def unE (d : Nat) : Env → Bool
  | [] => true
  | (t, _) :: σ => match Nat.beq t d with | true => false | false => unE d σ
theorem subE_put {σ : Env} {d : Nat} {v : Value} : ∀ {σ' : Env}, unE d σ' = true → subE σ σ' → subE ((d, v) :: σ) σ'
  | [], _, _ => trivial
  | (t, u) :: σ', h, hs => by
    simp only [unE] at h
    split at h
    · cases h
    · rename_i hb
      have hne := Nat.ne_of_beq_eq_false hb
      refine ⟨?_, subE_put h hs.2⟩
      rw [lks_cons, if_neg (fun e => hne e.symm)]
      exact hs.1
theorem subE_cons {σ : Env} {x : Nat × Value} (hn : lks σ x.1 = none) : ∀ {σ' : Env}, subE σ σ' → subE (x :: σ) σ'
  | [], _ => trivial
  | (t, u) :: σ', h => by
    refine ⟨?_, subE_cons hn h.2⟩
    obtain ⟨d, v⟩ := x
    rw [lks_cons]
    split
    · rename_i e; subst e; rw [h.1] at hn; cases hn
    · exact h.1
def uniqE : Env → Bool
  | [] => true
  | (t, _) :: σ => match lks σ t with | none => uniqE σ | some _ => false
theorem subE_refl : ∀ {σ : Env}, uniqE σ = true → subE σ σ
  | [], _ => trivial
  | (t, v) :: σ, h => by
    simp only [uniqE] at h
    split at h
    · rename_i hn
      exact ⟨by rw [lks_cons, if_pos rfl], subE_cons hn (subE_refl h)⟩
    · cases h
theorem subE_trans {σ σ1 : Env} : ∀ {σ2 : Env}, subE σ σ1 → subE σ1 σ2 → subE σ σ2
  | [], _, _ => trivial
  | (_, _) :: _, h, h2 => ⟨subE_sound h _ _ h2.1, subE_trans h h2.2⟩

/-! ### calls that may panic, of values -/
section
variable {P : Program} {C : Cx} {n : Nat} {k : List Item} {ds : List Deferred} {σ : Env} {δ : Den} {M : Mem} {L : HL} {ops : Array Oper}
theorem runL_enterE {od : Option Nat} {op : Op} {ty : TypeId} {pos : String} {aft : Array Edge} {l : List Oper} {f : FuncId} {vs : List Value} {K : Ending → Mem → HL → Prop}
    (hr : ∀ a w, Sees σ δ a → ((⟨od, op, ty, pos, aft, none⟩ : Oper).semAt C.b.roundOf a.eval).run P w = .ok (.enter f ⟨vs⟩) w)
    (ht : TrE P f vs M L K) {σ' : Value → Env} (hd : ∀ a v, a.tmps.size = n → Sees σ δ a → Sees (σ' v) δ (a.put od v))
    (h : ∀ v M' L', K (.returned v) M' L' → RunL P C n ops l k ds (σ' v) δ M' L') (hp : ∀ ch M' L', K (.panicked ch) M' L' → RunX P C n (.panicking ch) ds σ M' L') :
    RunL P C n ops (⟨od, op, ty, pos, aft, none⟩ :: l) k ds σ δ M L := fun a w idx h1 h2 h3 h4 h5 => by
  cases idx with
  | nil => simp at h5
  | cons i r =>
    simp only [List.map_cons, List.cons.injEq] at h5
    have hg := stepGR_op (P := P) (b := C.b) (k := k) (cs := C.cs) (w := w) (rest := r) (a := a) h5.1 (wanted_none rfl _)
    have hr := hr a w h3
    obtain ⟨e, w'', fr, ⟨M', L', hp', hK⟩, hne, hs, _, hl⟩ := ht.2 w h4 (C.b.atR a (.inRegion ops (i :: r) :: k) :: C.cs)
    have henter : step P (lone (C.b.atR a (.inRegion ops (i :: r) :: k)) C.cs w) =
        .next (lone (Frame.enter P f ⟨vs⟩ .normal) (C.b.atR a (.inRegion ops (i :: r) :: k) :: C.cs) w) :=
      step_lone_go (by rw [hg]; simp [stepG.apply, hr, Frame.atR])
    cases e with
    | outgrown => exact absurd rfl hne
    | returned v =>
      have hstep := step_leave_returned (c := C.b.atR a (.inRegion ops (i :: r) :: k)) (cs := C.cs) hl
      rw [finish_op h5.1] at hstep
      exact J.steps (.head henter (hs.trans (.one hstep))) (h v M' L' hK _ w'' r (by rw [put_size]; exact h1) (by rw [put_defers]; exact h2) (hd a v h1 h3) hp' h5.2)
    | panicked ch =>
      have hstep := step_leave_panicked (c := C.b.atR a (.inRegion ops (i :: r) :: k)) (cs := C.cs) hl
      have hra : (C.b.atR a (.inRegion ops (i :: r) :: k)).raise ch = { C.b.atR a (.inRegion ops (i :: r) :: k) with mode := .panicking ch } := by simp [Frame.raise, Frame.atR]
      rw [hra] at hstep
      exact J.steps (.head henter (hs.trans (.one hstep))) (hp ch M' L' hK a w'' _ h1 h2 h3.nil hp')
theorem runL_callVE {d : Nat} {ty : TypeId} {pos : String} {aft : Array Edge} {l : List Oper} {x : Operand} {f : FuncId} {args : Array Operand} {tys : Array TypeId} {first cap : Array Value} {vs : List Value} {K : Ending → Mem → HL → Prop}
    (hx : ev σ δ [] x = some (.func (.func f) first cap)) (ha : evs σ δ [] args.toList = some vs) (ht : TrE P f (first.toList ++ vs ++ cap.toList) M L K) (hd : Nat.blt d n = true) (hn : lkd δ d = none) (hu : unNamed δ d = true)
    (h : ∀ v M' L', K (.returned v) M' L' → RunL P C n ops l k ds ((d, v) :: σ) δ M' L') (hp : ∀ ch M' L', K (.panicked ch) M' L' → RunX P C n (.panicking ch) ds σ M' L') :
    RunL P C n ops (⟨some d, .call ⟨.value x, args, tys⟩, ty, pos, aft, none⟩ :: l) k ds σ δ M L := by
  refine runL_enterE (fun a w h3 => ?_) ht (σ' := fun v => (d, v) :: σ) (fun a v h1 h3 => h3.put (by rw [h1]; exact Nat.blt_eq.mp hd) hn hu v) h hp
  rw [semAt_of (by intro c e; cases e)]
  have e1 : args.map a.eval = ⟨vs⟩ := by apply Array.ext'; simpa using evs_sound h3 (holds_nil a) ha
  have e2 : first ++ (⟨vs⟩ : Array Value) ++ cap = ⟨first.toList ++ vs ++ cap.toList⟩ := by apply Array.ext'; simp
  simp only [execOp, resolve, e1, ev_sound h3 (holds_nil a) hx, Deferred.ofValue, Sem.run_bind, Sem.run_pure, Result.andThen_ok, invoke, e2]
  exact ht.1 w
theorem runL_callME {d : Nat} {ty : TypeId} {pos : String} {aft : Array Edge} {l : List Oper} {x : Operand} {t : TypeId} {u : Value} {name : String} {f : FuncId} {args : Array Operand} {tys : Array TypeId} {vs : List Value} {K : Ending → Mem → HL → Prop}
    (hx : ev σ δ [] x = some (.func (.method name) #[.iface t u] #[])) (ha : evs σ δ [] args.toList = some vs) (hm : MethOk P t name f) (ht : TrE P f (u :: vs) M L K) (hd : Nat.blt d n = true) (hn : lkd δ d = none) (hu : unNamed δ d = true)
    (h : ∀ v M' L', K (.returned v) M' L' → RunL P C n ops l k ds ((d, v) :: σ) δ M' L') (hp : ∀ ch M' L', K (.panicked ch) M' L' → RunX P C n (.panicking ch) ds σ M' L') :
    RunL P C n ops (⟨some d, .call ⟨.value x, args, tys⟩, ty, pos, aft, none⟩ :: l) k ds σ δ M L := by
  refine runL_enterE (fun a w h3 => ?_) ht (σ' := fun v => (d, v) :: σ) (fun a v h1 h3 => h3.put (by rw [h1]; exact Nat.blt_eq.mp hd) hn hu v) h hp
  rw [semAt_of (by intro c e; cases e)]
  have e1 : args.map a.eval = ⟨vs⟩ := by apply Array.ext'; simpa using evs_sound h3 (holds_nil a) ha
  have h4 : ∀ n w, (method (n + 1) t u name).run P w = .ok (f, u) w := fun n w => run_method hm n u w
  simp only [execOp, resolve, e1, ev_sound h3 (holds_nil a) hx, Deferred.ofValue, Sem.run_bind, Sem.run_pure, Result.andThen_ok, invoke]
  have e2 : (#[Value.iface t u] ++ (⟨vs⟩ : Array Value))[0]? = some (.iface t u) := by simp
  have e3 : (#[Value.iface t u] ++ (⟨vs⟩ : Array Value)).extract 1 (#[Value.iface t u] ++ (⟨vs⟩ : Array Value)).size = ⟨vs⟩ := by
    apply Array.ext'
    simp
  have e4 : #[u] ++ (⟨vs⟩ : Array Value) = ⟨u :: vs⟩ := by apply Array.ext'; simp
  simp only [e2, e3, callMethod, Sem.run_bind, run_program, Result.andThen_ok]
  rw [show P.types.size + Made.depth = (P.types.size + (Made.depth - 1)) + 1 from rfl, h4]
  simp only [Result.andThen_ok, e4]
  exact ht.1 w
end
end Go.Chi
namespace Go.Chi

/-! ### calls that may panic, in a region that draws its order -/
section
variable {P : Program} {C : Cx} {n : Nat} {k : List Item} {ds : List Deferred} {σ : Env} {δ : Den} {M : Mem} {L : HL} {ops : Array Oper} {D X : List Nat}

theorem PRst.looked {a â : Act} {w : World} {listed : Array Bool} {fuel i : Nat} (hs : PRst P C n ops ds D X σ δ M L a â w listed fuel) (hr : i ∈ Region.ready .any ops listed) (hchk : chkE1 ops D i = true) : ∀ t ∈ looks ops i, a.tmps[t]? = â.tmps[t]? := by
  obtain ⟨_, _, hpr⟩ := (ready_iff hs.hsz).1 hr
  unfold chkE1 at hchk
  simp only [Bool.and_eq_true, Bool.not_eq_true'] at hchk
  obtain ⟨⟨⟨⟨_, _⟩, hne⟩, _⟩, hD⟩ := hchk
  have hne' := memN_false hne
  have hbef := befs_lst (listed := listed) (e := i) hs.down hpr
  intro t ht
  refine hs.agree t fun q hq hqn hqs => ?_
  have hb : memN (befs ops i) q = false := by
    cases hx : memN (befs ops i) q with
    | false => rfl
    | true =>
      rcases hbef q (memN_iff.1 hx) with rfl | hl
      · exact absurd hq hne'
      · exact absurd hl hqn
  have := List.all_eq_true.1 hD q hq
  simp only [hb, Bool.false_or, Bool.and_eq_true, Bool.not_eq_true'] at this
  have h2 := this.1.2
  rw [hqs] at h2
  exact memN_false h2 ht

theorem PRst.eff {a â : Act} {w w' : World} {listed : Array Bool} {fuel i : Nat} {dst : Option Nat} {σ' : Env} {v : Value} {M' : Mem} {L' : HL} (hs : PRst P C n ops ds D X σ δ M L a â w listed (fuel + 1)) (hr : i ∈ Region.ready .any ops listed) (hchk : chkE1 ops D i = true)
    (hsl : slotOf ops i = dst) (hsee : ∀ a, a.tmps.size = n → Sees σ δ a → Sees σ' δ (a.put dst v)) (hp' : Hp M' L' w')
    (hopen : ∀ q ∈ open_ ops D X i, ∀ a, Sees σ δ a → Pend P C.b.roundOf ops q a M L → Pend P C.b.roundOf ops q a M' L') : PRst P C n ops ds (i :: D) (i :: X) σ' δ M' L' (a.put dst v) (â.put dst v) w' (listed.setIfInBounds i true) fuel := by
  obtain ⟨hil, hin, hpr⟩ := (ready_iff hs.hsz).1 hr
  unfold chkE1 at hchk
  simp only [Bool.and_eq_true, Bool.not_eq_true'] at hchk
  obtain ⟨⟨⟨⟨hlt, hpl⟩, hne⟩, _⟩, hD⟩ := hchk
  have hne' := memN_false hne
  have hil' : i < listed.size := by rw [hs.hsz]; exact hil
  have hbef := befs_lst (listed := listed) (e := i) hs.down hpr
  have hop : ∀ q ∈ D, ¬ Lst listed q → memN (befs ops i) q = false ∧ (∀ d, dst = some d → d ∉ looks ops q ∧ slotOf ops q ≠ some d) := fun q hq hqn => by
    have hb : memN (befs ops i) q = false := by
      cases hx : memN (befs ops i) q with
      | false => rfl
      | true =>
        rcases hbef q (memN_iff.1 hx) with rfl | hl
        · exact absurd hq hne'
        · exact absurd hl hqn
    have := List.all_eq_true.1 hD q hq
    simp only [hb, Bool.false_or, Bool.and_eq_true, Bool.not_eq_true'] at this
    refine ⟨hb, fun d hd => ?_⟩
    have h3 := this.2
    rw [hsl, hd] at h3
    exact freeOf_spec h3
  have hq' : ∀ q, ¬ Lst (listed.setIfInBounds i true) q → q ≠ i ∧ ¬ Lst listed q := fun q hq => ⟨fun e => hq ((lst_set hil').2 (.inl e)), fun e => hq ((lst_set hil').2 (.inr e))⟩
  have hD' : ∀ q, q ∈ i :: D → ¬ Lst (listed.setIfInBounds i true) q → q ∈ D ∧ ¬ Lst listed q := fun q hq hqn => by
    obtain ⟨h1, h2⟩ := hq' q hqn
    exact ⟨(List.mem_cons.1 hq).resolve_left h1, h2⟩
  have hput : ∀ (x : Act) t, x.tmps.size = n → (∀ d, dst = some d → t ≠ d) → (x.put dst v).tmps[t]? = x.tmps[t]? := fun x t hx ht => by
    cases dst with
    | none => rfl
    | some d =>
      show (x.tmps.setIfInBounds d v)[t]? = _
      rw [Array.getElem?_setIfInBounds_ne (fun e => ht d rfl e.symm)]
  exact {
    hsz := by simpa using hs.hsz
    cnt := cnt_set hs.hsz hil hin hs.cnt
    an := by rw [put_size]; exact hs.an
    hn := by rw [put_size]; exact hs.hn
    ad := by rw [put_defers]; exact hs.ad
    hd := by rw [put_defers]; exact hs.hd
    sees := hsee â hs.hn hs.sees
    hp := hp'
    down := fun j hj p hp => by
      rw [lst_set hil'] at hj ⊢
      rcases hj with rfl | hj
      · exact .inr (hpr p hp)
      · exact .inr (hs.down j hj p hp)
    sub := fun j hj => by
      rw [lst_set hil'] at hj
      rcases hj with rfl | hj
      · exact List.mem_cons_self
      · exact List.mem_cons_of_mem _ (hs.sub j hj)
    ex := fun j hj => by
      rw [lst_set hil']
      rcases List.mem_cons.1 hj with rfl | hj
      · exact .inl rfl
      · exact .inr (hs.ex j hj)
    pend := fun q hq hqn => by
      obtain ⟨h1, h2⟩ := hD' q hq hqn
      have hp := hopen q (List.mem_filter.2 ⟨h1, by
        have hx : memN X q = false := by
          cases hx : memN X q with
          | false => rfl
          | true => exact absurd (hs.ex q (memN_iff.1 hx)) h2
        rw [(hop q h1 h2).1, hx]; rfl⟩) â hs.sees (hs.pend q h1 h2)
      obtain ⟨o, d, ho', hdst, _⟩ := hs.pend q h1 h2
      have hse : slotOf ops q = some d := by rw [slot_of ho']; exact hdst
      refine Pend.congr (d := d) hse (fun t ht => ?_) ?_ hp
      · exact (hput â t hs.hn fun d' hd' x => ((hop q h1 h2).2 d' hd').1 (x ▸ ht)).symm
      · exact (hput â d hs.hn fun d' hd' x => ((hop q h1 h2).2 d' hd').2 (x ▸ hse)).symm
    agree := fun t ht => by
      cases hd : dst with
      | none =>
        exact hs.agree t fun q hq hqn => ht q (List.mem_cons_of_mem _ hq) (fun x => by rw [lst_set hil'] at x; exact x.elim (fun e => by subst e; exact hne' hq) hqn)
      | some d =>
        by_cases e : t = d
        · subst e
          show (a.tmps.setIfInBounds t v)[t]? = (â.tmps.setIfInBounds t v)[t]?
          have e1 := hs.an
          have e2 := hs.hn
          by_cases hb : t < n
          · rw [Array.getElem?_setIfInBounds_self_of_lt (by omega), Array.getElem?_setIfInBounds_self_of_lt (by omega)]
          · rw [Array.getElem?_eq_none (by simp; omega), Array.getElem?_eq_none (by simp; omega)]
        · have h1 := hput a t hs.an (fun d' hd' x => e (by rw [hd] at hd'; injection hd' with hd'; rw [x, hd']))
          have h2 := hput â t hs.hn (fun d' hd' x => e (by rw [hd] at hd'; injection hd' with hd'; rw [x, hd']))
          rw [hd] at h1 h2
          rw [h1, h2]
          exact hs.agree t fun q hq hqn => ht q (List.mem_cons_of_mem _ hq) (fun x => by rw [lst_set hil'] at x; exact x.elim (fun e => by subst e; exact hne' hq) hqn)
    wf := fun j hj hjn q hq hqn => hs.wf j (hD' j hj hjn).1 (hD' j hj hjn).2 q (hD' q hq hqn).1 (hD' q hq hqn).2
    uniq := fun j hj hjn q hq hqn => hs.uniq j (hD' j hj hjn).1 (hD' j hj hjn).2 q (hD' q hq hqn).1 (hD' q hq hqn).2 }

/-- the one effect that may come next: a function's call, which may panic -/
theorem pr_callE (e : Nat) {d : Nat} {ty : TypeId} {pos : String} {aft : Array Edge} {f : FuncId} {args : Array Operand} {tys : Array TypeId} {vs : List Value} {K : Ending → Mem → HL → Prop}
    (hchk : (acyc ops && chkC ops D [e] && chkE1 ops D e) = true) (ho : ops[e]? = some ⟨some d, .call ⟨.value (.func f), args, tys⟩, ty, pos, aft, none⟩)
    (ha : evs σ δ [] args.toList = some vs) (ht : TrE P f vs M L K) (hd : Nat.blt d n = true) (hn : lkd δ d = none) (hu : unNamed δ d = true)
    (h : ∀ v M' L', K (.returned v) M' L' → PendAll P C.b.roundOf ops σ δ M' L' (open_ ops D X e) ∧ PR P C n ops k ds (e :: D) (e :: X) ((d, v) :: σ) δ M' L')
    (hp : ∀ ch M' L', K (.panicked ch) M' L' → RunX P C n (.panicking ch) ds [] M' L') : PR P C n ops k ds D X σ δ M L := by
  simp only [Bool.and_eq_true] at hchk
  obtain ⟨⟨hac, hC⟩, hE⟩ := hchk
  have hE' := hE
  unfold chkE1 at hE'
  simp only [Bool.and_eq_true, Bool.not_eq_true'] at hE'
  have hlt0 := Nat.blt_eq.mp hE'.1.1.1.1
  have hpl : plainAt ops e = true := hE'.1.1.1.2
  have hne0 := memN_false hE'.1.1.2
  refine pump hac ?_ (fun a w h1 h2 h3 h4 hall => absurd (hall e hlt0) hne0)
  intro a â w listed fuel t i hs hr hi
  obtain ⟨hil, hin, hpr⟩ := (ready_iff hs.hsz).1 hr
  obtain rfl : i = e := by
    have := List.all_eq_true.1 hC i (List.mem_range.2 hil)
    simp only [Bool.or_eq_true, Bool.not_eq_true'] at this
    rcases this with (h1 | h1) | h1
    · exact absurd (memN_iff.1 h1) hi
    · exact List.mem_singleton.1 (memN_iff.1 h1)
    · have : (predsAt ops i).all (memN D) = true := List.all_eq_true.2 fun p hp => memN_iff.2 (hs.sub p (hpr p hp))
      rw [this] at h1; cases h1
  have hsl : slotOf ops i = some d := by rw [slot_of ho]
  have hag : ∀ t ∈ Oper.looksAt ops ⟨some d, .call ⟨.value (.func f), args, tys⟩, ty, pos, aft, none⟩, a.tmps[t]? = â.tmps[t]? := fun t ht => by
    refine hs.looked hr hE t ?_
    unfold looks; rw [ho]; exact ht
  have hg := stepGR_op (P := P) (b := C.b) (k := k) (cs := C.cs) (w := w) (rest := Region.linearise.go .any ops fuel t (listed.setIfInBounds i true) []) (a := a) ho (wanted_none rfl _)
  have hrun : ((⟨some d, .call ⟨.value (.func f), args, tys⟩, ty, pos, aft, none⟩ : Oper).semAt C.b.roundOf a.eval).run P w = .ok (.enter f ⟨vs⟩) w := by
    rw [sem_agree (ops := ops) (a' := â) rfl hag]
    rw [semAt_of (by intro c e; cases e)]
    have e1 : args.map â.eval = ⟨vs⟩ := by apply Array.ext'; simpa using evs_sound hs.sees (holds_nil â) ha
    simp only [execOp, resolve, e1, Act.eval, Deferred.ofValue, Sem.run_bind, Sem.run_pure, Result.andThen_ok, invoke]
    simpa using ht.1 w
  obtain ⟨en, w'', fr, ⟨M', L', hp', hK⟩, hne, hsteps, _, hl⟩ := ht.2 w hs.hp (C.b.atR a (.inRegion ops (i :: Region.linearise.go .any ops fuel t (listed.setIfInBounds i true) []) :: k) :: C.cs)
  have henter : step P (lone (C.b.atR a (.inRegion ops (i :: Region.linearise.go .any ops fuel t (listed.setIfInBounds i true) []) :: k)) C.cs w) =
      .next (lone (Frame.enter P f ⟨vs⟩ .normal) (C.b.atR a (.inRegion ops (i :: Region.linearise.go .any ops fuel t (listed.setIfInBounds i true) []) :: k) :: C.cs) w) :=
    step_lone_go (by rw [hg]; simp [stepG.apply, hrun, Frame.atR])
  cases en with
  | outgrown => exact absurd rfl hne
  | returned v =>
    have hstep := step_leave_returned (c := C.b.atR a (.inRegion ops (i :: Region.linearise.go .any ops fuel t (listed.setIfInBounds i true) []) :: k)) (cs := C.cs) hl
    rw [finish_op ho] at hstep
    obtain ⟨h5, h6⟩ := h v M' L' hK
    exact J.steps (.head henter (hsteps.trans (.one hstep))) (h6 _ (â.put (some d) v) w'' _ fuel t (hs.eff hr hE hsl (fun a hn' hse => hse.put (by rw [hn']; exact Nat.blt_eq.mp hd) hn hu v) hp' (fun q hq a hse _ => h5.mem q hq a hse)))
  | panicked ch =>
    have hstep := step_leave_panicked (c := C.b.atR a (.inRegion ops (i :: Region.linearise.go .any ops fuel t (listed.setIfInBounds i true) []) :: k)) (cs := C.cs) hl
    have hra : (C.b.atR a (.inRegion ops (i :: Region.linearise.go .any ops fuel t (listed.setIfInBounds i true) []) :: k)).raise ch = { C.b.atR a (.inRegion ops (i :: Region.linearise.go .any ops fuel t (listed.setIfInBounds i true) []) :: k) with mode := .panicking ch } := by simp [Frame.raise, Frame.atR]
    rw [hra] at hstep
    exact J.steps (.head henter (hsteps.trans (.one hstep))) (hp ch M' L' hK a w'' _ hs.an hs.ad ⟨fun t v e => by simp [lks] at e, fun t p v e => by simp [lkd] at e⟩ hp')
/-- in the order of the text -/
theorem prn_callE {i d : Nat} {ty : TypeId} {pos : String} {aft : Array Edge} {f : FuncId} {args : Array Operand} {tys : Array TypeId} {vs : List Value} {K : Ending → Mem → HL → Prop}
    (ho : ops[i]? = some ⟨some d, .call ⟨.value (.func f), args, tys⟩, ty, pos, aft, none⟩) (hchk : (acyc ops && chkC ops (dn i) [i] && chkE1 ops (dn i) i) = true)
    (ha : evs σ δ [] args.toList = some vs) (ht : TrE P f vs M L K) (hd : Nat.blt d n = true) (hn : lkd δ d = none) (hu : unNamed δ d = true)
    (hp : ∀ ch M' L', K (.panicked ch) M' L' → RunX P C n (.panicking ch) ds [] M' L')
    (h : ∀ v M' L', K (.returned v) M' L' → PendAll P C.b.roundOf ops σ δ M' L' (open_ ops (dn i) X i) ∧ PR P C n ops k ds (dn (i + 1)) (i :: X) ((d, v) :: σ) δ M' L') : PR P C n ops k ds (dn i) X σ δ M L := pr_callE i hchk ho ha ht hd hn hu h hp
end
end Go.Chi
namespace Go.Chi

section
variable {P : Program} {T : TT} {ro : Option Nat} {σ : Env} {δ : Den} {cur : Path} {M : Mem} {L : HL} {d : Option Nat} {op : Op} {ty : TypeId} {pos : String} {aft : Array Edge} {g : Option (Nat × Bool)} {v : Value}

/-- a new slice of one-celled elements -/
theorem st_makeSlice (hT : TOk P T) {t e by_ : Nat} {z : Value} {x y : Operand} {k k' : IntKind} (n : Nat) (ht : und T t = some (.slice e)) (hi : sizeT T e = some 1) (hz : zeroT T e = some z) (hzc : cellsL z = [z]) (hb : bytesT T e = some by_)
    (hx : ev σ δ cur x = some (.int k (n : Int))) (hy : ev σ δ cur y = some (.int k' (n : Int))) (hroom : by_ * n ≤ 281474976710656) (hn : n < 4611686018427387904) :
    St P ro ⟨d, .makeSlice t x y, ty, pos, aft, g⟩ σ δ cur M L (fun v' M' L' => ∃ b, v' = .slice (some ⟨b, 0, none⟩) n n ∧ M = M' ∧ L' = (b, .cells ⟨List.replicate n z⟩ e (0, 0)) :: L) := fun a w hs hcur hp => by
  obtain ⟨i, hi1, his⟩ := sizeT_ok hi
  obtain ⟨i2, hi2, hz2⟩ := zeroT_ok hz
  obtain ⟨i3, hi3, rfl⟩ := bytesT_ok hb
  rw [hi1] at hi2 hi3
  cases hi2
  cases hi3
  have hrun := run_make (P := P) w t e i z (und_ok hT ht) (hT.info _ _ hi1) hz2 k k' n n (by omega) (Int.le_refl _) (by
    have h : ((i.bytes * n : Nat) : Int) ≤ 281474976710656 := by omega
    rwa [Int.natCast_mul] at h) (by omega)
  have hcells : madeCells z.cells (n * i.size) = ⟨List.replicate n z⟩ := by
    have : z.cells = #[z] := by apply Array.ext'; rw [cellsL_eq]; exact hzc
    rw [his, Nat.mul_one, this]
    exact Array.ext' (toList_madeCells_one z n)
  simp only [Int.toNat_natCast, hcells] at hrun
  refine opWp_value (v := .slice (some ⟨w.heap.size, 0, none⟩) n n) (w' := w.alloc (.cells ⟨List.replicate n z⟩ e)) ?_ ⟨M, _, hp.push _, _, rfl, rfl, rfl⟩
  rw [semAt_of (by intro c e; cases e)]
  simp only [execOp, ev_sound hs hcur hx, ev_sound hs hcur hy, Sem.run_bind, hrun, Result.andThen_ok, Sem.run_pure]
/-- one-celled elements are copied into a block of ours -/
theorem st_copy (hT : TOk P T) {x y : Operand} {t e b o dl dc b' o' sl sc : Nat} {cs news : List Value} {et : TypeId} {L' : HL} (hx : ev σ δ cur x = some (.slice (some ⟨b, o, none⟩) dl dc)) (hy : ev σ δ cur y = some (.slice (some ⟨b', o', none⟩) sl sc))
    (ht : und T t = some (.slice e)) (hi : sizeT T e = some 1) (hsrc : Cells M L b' o' news) (hlen : news.length = Nat.min sl dl) (hfit : o + news.length ≤ cs.length) (h1 : oneL news = true)
    (hu : Upd L b (.cells ⟨cs⟩ et (0, 0)) (.cells ⟨setSeg cs o news⟩ et (0, 0)) L') :
    St P ro ⟨d, .call ⟨.builtin .copy, #[x, y], #[t, t]⟩, ty, pos, aft, g⟩ σ δ cur M L (fun v' M' L'' => v' = .int .i64 (news.length : Int) ∧ M = M' ∧ L'' = L') := fun a w hse hcur hp => by
  obtain ⟨i, hi1, his⟩ := sizeT_ok hi
  have hes := ev_sound hse hcur hx
  have hey := ev_sound hse hcur hy
  have hrun := run_copy_row (P := P) w t t ty e b o dl dc ⟨b', o', none⟩ sl sc ⟨cs⟩ et news (und_ok hT ht) (by rw [hT.info _ _ hi1]; simp [his]) (hp.own _ hu.mem) hlen
    (fun j v hv => by
      have := hsrc.cell hp hv
      simpa [add_none] using this) (by simpa using hfit) (oneL_ok h1)
  refine opWp_value (v := .int .i64 (news.length : Int)) (w' := w.setRow b ⟨setSeg cs o news⟩) ?_ ⟨M, L', hp.setRow hu, rfl, rfl, rfl⟩
  rw [semAt_of (by intro c e; cases e)]
  simp only [execOp, resolve, Sem.run_bind, Sem.run_pure, Result.andThen_ok, invoke, builtin, List.map_toArray, List.map_cons, List.map_nil, hes, hey, hrun]
  rfl
end

section
variable {P : Program} {ro : Option Nat} {o : Oper} {σ : Env} {δ : Den} {cur : Path} {M : Mem} {L : HL}
/-- an operation whose guard is never met -/
theorem qt_dead {s : Nat} {b b' : Bool} {v : Value} (hl : lka σ δ cur s = some (.bool b')) (hs : (s, b) ∈ cur) (hne : b' ≠ b) : Qt P ro o σ δ cur M L v := fun a w h1 h2 h3 => by
  have e1 := lka_sound h1 h2 hl
  have e2 := h2 _ hs
  rw [e1] at e2
  injection e2 with e2
  injection e2 with e2
  exact absurd e2 hne
theorem St.frz {K K' : Value → Mem → HL → Prop} (h : St P ro o σ δ cur M L K) (hk : ∀ v M' L' w, Hp M' L' w → K v M' L' → ∃ M'' L'', Hp M'' L'' w ∧ K' v M'' L'') : St P ro o σ δ cur M L K' :=
  fun a w h1 h2 h3 => (h a w h1 h2 h3).mono fun _ _ ⟨_, _, h4, h5⟩ => hk _ _ _ _ h4 h5
/-- a block that was made just now is given up for good -/
theorem St.frz1 {V : Nat → Value} {ob : Obj} (h : St P ro o σ δ cur M L (fun v' M' L' => ∃ b, v' = V b ∧ M = M' ∧ L' = (b, ob) :: L)) : St P ro o σ δ cur M L (fun v' M' L' => M.le M' ∧ L = L' ∧ ∃ b, v' = V b ∧ M'.blk b = some ob) :=
  h.frz fun v M' L' w hw ⟨b, h1, h2, h3⟩ => by
    subst h2 h3
    obtain ⟨M2, h4, h5, h6⟩ := hw.freeze1
    exact ⟨M2, L, h6, h4, rfl, b, h1, h5⟩
end
/-- what a call makes of blocks that are given up before it -/
theorem Tr.give {P : Program} {f : FuncId} {args : List Value} {M : Mem} {N L : HL} {K : Value → Mem → HL → Prop} (hc : ∀ w, (callFunc f ⟨args⟩).run P w = .ok (.enter f ⟨args⟩) w)
    (h : ∀ M', M.le M' → (∀ b o, (b, o) ∈ N → M'.blk b = some o) → Tr P f args M' L K) : Tr P f args M (N ++ L) K := by
  refine ⟨hc, fun w hw => ?_⟩
  have key : ∀ (N : HL) (M : Mem), Hp M (N ++ L) w → ∃ M', M.le M' ∧ (∀ b o, (b, o) ∈ N → M'.blk b = some o) ∧ Hp M' L w := by
    intro N
    induction N with
    | nil => exact fun M h => ⟨M, Mem.le_refl _, (fun b o h => by cases h), h⟩
    | cons x N ih =>
      intro M h
      obtain ⟨M1, h1, h2, h3⟩ := Hp.freeze1 (b := x.1) (o := x.2) h
      obtain ⟨M2, h4, h5, h6⟩ := ih M1 h3
      exact ⟨M2, Mem.le_trans h1 h4, fun b o hm => by
        rcases List.mem_cons.1 hm with e | hm
        · cases e; exact h4.blk _ _ h2
        · exact h5 b o hm, h6⟩
  obtain ⟨M1, h1, h2, h3⟩ := key N M hw
  exact (h M1 h1 h2).2 w h3
theorem rep_flat (z : Value) : ∀ n : Nat, List.replicate n z = (List.replicate n [z]).flatten
  | 0 => rfl
  | n + 1 => by rw [List.replicate_succ, List.replicate_succ, List.flatten_cons, ← rep_flat z n]; rfl
/-- the block's cells as a slice -/
theorem SlM.rep {M : Mem} {b e n : Nat} {z : Value} (h : M.blk b = some (.cells ⟨List.replicate n z⟩ e (0, 0))) : SlM M 1 (some ⟨b, 0, none⟩) n (List.replicate n [z]) := by
  have := SlM.ofBlk (M := M) (b := b) (e := e) (size := 1) (ls := List.replicate n [z]) h (rep_flat z n) (fun l hl => by rw [(List.mem_replicate.1 hl).2]; rfl)
  simpa using this
section
variable {P : Program} {C : Cx} {n : Nat} {k : List Item} {ds : List Deferred} {σ : Env} {δ : Den} {M : Mem} {L : HL} {ops : Array Oper} {X : List Nat}
theorem pr_three {D : List Nat} (e f g : Nat) (hac : (acyc ops && chkC ops D [e, f, g]) = true) (h : chkE1 ops D e = true ∧ EffOk P C n ops k ds D X σ δ M L e) (h' : chkE1 ops D f = true ∧ EffOk P C n ops k ds D X σ δ M L f) (h'' : chkE1 ops D g = true ∧ EffOk P C n ops k ds D X σ δ M L g) : PR P C n ops k ds D X σ δ M L := by
  rw [Bool.and_eq_true] at hac
  refine pr_es [e, f, g] hac.1 hac.2 (by simp) fun x hx => ?_
  simp only [List.mem_cons, List.not_mem_nil, or_false] at hx
  rcases hx with rfl | rfl | rfl
  · exact h
  · exact h'
  · exact h''
theorem pr_four {D : List Nat} (e f g i : Nat) (hac : (acyc ops && chkC ops D [e, f, g, i]) = true) (h : chkE1 ops D e = true ∧ EffOk P C n ops k ds D X σ δ M L e) (h' : chkE1 ops D f = true ∧ EffOk P C n ops k ds D X σ δ M L f) (h'' : chkE1 ops D g = true ∧ EffOk P C n ops k ds D X σ δ M L g) (h4 : chkE1 ops D i = true ∧ EffOk P C n ops k ds D X σ δ M L i) : PR P C n ops k ds D X σ δ M L := by
  rw [Bool.and_eq_true] at hac
  refine pr_es [e, f, g, i] hac.1 hac.2 (by simp) fun x hx => ?_
  simp only [List.mem_cons, List.not_mem_nil, or_false] at hx
  rcases hx with rfl | rfl | rfl | rfl
  · exact h
  · exact h'
  · exact h''
  · exact h4
end
end Go.Chi
namespace Go.Chi

/-! ### calls of an interface's methods -/
section
variable {P : Program} {ro : Option Nat} {σ : Env} {δ : Den} {cur : Path} {M : Mem} {L : HL} {od : Option Nat} {ty : TypeId} {pos : String} {aft : Array Edge} {g : Option (Nat × Bool)}
theorem invoke_run {recv : Operand} {t : TypeId} {u : Value} {name : String} {f : FuncId} {args : Array Operand} {tys : Array TypeId} {vs : List Value} {a : Act} (hs : Sees σ δ a) (hc : holds a cur) (hx : ev σ δ cur recv = some (.iface t u)) (ha : evs σ δ cur args.toList = some vs) (hm : MethOk P t name f)
    (h1 : ∀ w, (callFunc f ⟨u :: vs⟩).run P w = .ok (.enter f ⟨u :: vs⟩) w) (w : World) :
    ((⟨od, .call ⟨.invoke recv name, args, tys⟩, ty, pos, aft, g⟩ : Oper).semAt ro a.eval).run P w = .ok (.enter f ⟨u :: vs⟩) w := by
  rw [semAt_of (by intro c e; cases e)]
  have e1 : args.map a.eval = ⟨vs⟩ := by apply Array.ext'; simpa using evs_sound hs hc ha
  have h3 : ∀ n w, (method (n + 1) t u name).run P w = .ok (f, u) w := fun n w => run_method hm n u w
  simp only [execOp, resolve, e1, ev_sound hs hc hx, Sem.run_bind, Sem.run_pure, Result.andThen_ok, invoke]
  have e2 : (#[Value.iface t u] ++ (⟨vs⟩ : Array Value))[0]? = some (.iface t u) := by simp
  have e3 : (#[Value.iface t u] ++ (⟨vs⟩ : Array Value)).extract 1 (#[Value.iface t u] ++ (⟨vs⟩ : Array Value)).size = ⟨vs⟩ := by
    apply Array.ext'
    simp
  have e4 : #[u] ++ (⟨vs⟩ : Array Value) = ⟨u :: vs⟩ := by apply Array.ext'; simp
  simp only [e2, e3, callMethod, Sem.run_bind, run_program, Result.andThen_ok]
  rw [show P.types.size + Made.depth = (P.types.size + (Made.depth - 1)) + 1 from rfl, h3]
  simp only [Result.andThen_ok, e4]
  exact h1 w
theorem st_invoke {recv : Operand} {t : TypeId} {u : Value} {name : String} {f : FuncId} {args : Array Operand} {tys : Array TypeId} {vs : List Value} {K : Value → Mem → HL → Prop} (hx : ev σ δ cur recv = some (.iface t u)) (ha : evs σ δ cur args.toList = some vs) (hm : MethOk P t name f) (h : Hy σ δ cur → Tr P f (u :: vs) M L K) :
    St P ro ⟨od, .call ⟨.invoke recv name, args, tys⟩, ty, pos, aft, g⟩ σ δ cur M L K := fun a w hs hcur hp => by
  obtain ⟨h1, h2⟩ := h (Hy_of hs hcur)
  exact opWp_enter (w' := w) (invoke_run hs hcur hx ha hm h1 w) (h2 w hp)
end
section
variable {P : Program} {C : Cx} {n : Nat} {k : List Item} {ds : List Deferred} {σ : Env} {δ : Den} {M : Mem} {L : HL} {ops : Array Oper} {D X : List Nat}
theorem runL_invokeE {d : Nat} {ty : TypeId} {pos : String} {aft : Array Edge} {l : List Oper} {recv : Operand} {t : TypeId} {u : Value} {name : String} {f : FuncId} {args : Array Operand} {tys : Array TypeId} {vs : List Value} {K : Ending → Mem → HL → Prop}
    (hx : ev σ δ [] recv = some (.iface t u)) (ha : evs σ δ [] args.toList = some vs) (hm : MethOk P t name f) (ht : TrE P f (u :: vs) M L K) (hd : Nat.blt d n = true) (hn : lkd δ d = none) (hu : unNamed δ d = true)
    (h : ∀ v M' L', K (.returned v) M' L' → RunL P C n ops l k ds ((d, v) :: σ) δ M' L') (hp : ∀ ch M' L', K (.panicked ch) M' L' → RunX P C n (.panicking ch) ds σ M' L') :
    RunL P C n ops (⟨some d, .call ⟨.invoke recv name, args, tys⟩, ty, pos, aft, none⟩ :: l) k ds σ δ M L :=
  runL_enterE (fun a w h3 => invoke_run h3 (holds_nil a) hx ha hm ht.1 w) ht (σ' := fun v => (d, v) :: σ) (fun a v h1 h3 => h3.put (by rw [h1]; exact Nat.blt_eq.mp hd) hn hu v) h hp
/-- the one effect that may come next: it enters a function, which may panic -/
theorem pr_enterE (e : Nat) {d : Nat} {op : Op} {ty : TypeId} {pos : String} {aft : Array Edge} {f : FuncId} {vs : List Value} {K : Ending → Mem → HL → Prop}
    (hchk : (acyc ops && chkC ops D [e] && chkE1 ops D e) = true) (ho : ops[e]? = some ⟨some d, op, ty, pos, aft, none⟩)
    (hr : ∀ a w, Sees σ δ a → ((⟨some d, op, ty, pos, aft, none⟩ : Oper).semAt C.b.roundOf a.eval).run P w = .ok (.enter f ⟨vs⟩) w) (ht : TrE P f vs M L K) (hd : Nat.blt d n = true) (hn : lkd δ d = none) (hu : unNamed δ d = true)
    (h : ∀ v M' L', K (.returned v) M' L' → PendAll P C.b.roundOf ops σ δ M' L' (open_ ops D X e) ∧ PR P C n ops k ds (e :: D) (e :: X) ((d, v) :: σ) δ M' L')
    (hp : ∀ ch M' L', K (.panicked ch) M' L' → RunX P C n (.panicking ch) ds [] M' L') : PR P C n ops k ds D X σ δ M L := by
  simp only [Bool.and_eq_true] at hchk
  obtain ⟨⟨hac, hC⟩, hE⟩ := hchk
  have hE' := hE
  unfold chkE1 at hE'
  simp only [Bool.and_eq_true, Bool.not_eq_true'] at hE'
  have hlt0 := Nat.blt_eq.mp hE'.1.1.1.1
  have hpl : plainAt ops e = true := hE'.1.1.1.2
  have hne0 := memN_false hE'.1.1.2
  have hpl' : plainOp op = true := by unfold plainAt at hpl; rw [ho] at hpl; exact hpl
  refine pump hac ?_ (fun a w h1 h2 h3 h4 hall => absurd (hall e hlt0) hne0)
  intro a â w listed fuel t i hs hr' hi
  obtain ⟨hil, hin, hpr⟩ := (ready_iff hs.hsz).1 hr'
  obtain rfl : i = e := by
    have := List.all_eq_true.1 hC i (List.mem_range.2 hil)
    simp only [Bool.or_eq_true, Bool.not_eq_true'] at this
    rcases this with (h1 | h1) | h1
    · exact absurd (memN_iff.1 h1) hi
    · exact List.mem_singleton.1 (memN_iff.1 h1)
    · have : (predsAt ops i).all (memN D) = true := List.all_eq_true.2 fun p hp => memN_iff.2 (hs.sub p (hpr p hp))
      rw [this] at h1; cases h1
  have hsl : slotOf ops i = some d := by rw [slot_of ho]
  have hag : ∀ t ∈ Oper.looksAt ops ⟨some d, op, ty, pos, aft, none⟩, a.tmps[t]? = â.tmps[t]? := fun t ht => by
    refine hs.looked hr' hE t ?_
    unfold looks; rw [ho]; exact ht
  have hg := stepGR_op (P := P) (b := C.b) (k := k) (cs := C.cs) (w := w) (rest := Region.linearise.go .any ops fuel t (listed.setIfInBounds i true) []) (a := a) ho (wanted_none rfl _)
  have hrun : ((⟨some d, op, ty, pos, aft, none⟩ : Oper).semAt C.b.roundOf a.eval).run P w = .ok (.enter f ⟨vs⟩) w := by
    rw [sem_agree (ops := ops) (a' := â) hpl' hag]
    exact hr â w hs.sees
  obtain ⟨en, w'', fr, ⟨M', L', hp', hK⟩, hne, hsteps, _, hl⟩ := ht.2 w hs.hp (C.b.atR a (.inRegion ops (i :: Region.linearise.go .any ops fuel t (listed.setIfInBounds i true) []) :: k) :: C.cs)
  have henter : step P (lone (C.b.atR a (.inRegion ops (i :: Region.linearise.go .any ops fuel t (listed.setIfInBounds i true) []) :: k)) C.cs w) =
      .next (lone (Frame.enter P f ⟨vs⟩ .normal) (C.b.atR a (.inRegion ops (i :: Region.linearise.go .any ops fuel t (listed.setIfInBounds i true) []) :: k) :: C.cs) w) :=
    step_lone_go (by rw [hg]; simp [stepG.apply, hrun, Frame.atR])
  cases en with
  | outgrown => exact absurd rfl hne
  | returned v =>
    have hstep := step_leave_returned (c := C.b.atR a (.inRegion ops (i :: Region.linearise.go .any ops fuel t (listed.setIfInBounds i true) []) :: k)) (cs := C.cs) hl
    rw [finish_op ho] at hstep
    obtain ⟨h5, h6⟩ := h v M' L' hK
    exact J.steps (.head henter (hsteps.trans (.one hstep))) (h6 _ (â.put (some d) v) w'' _ fuel t (hs.eff hr' hE hsl (fun a hn' hse => hse.put (by rw [hn']; exact Nat.blt_eq.mp hd) hn hu v) hp' (fun q hq a hse _ => h5.mem q hq a hse)))
  | panicked ch =>
    have hstep := step_leave_panicked (c := C.b.atR a (.inRegion ops (i :: Region.linearise.go .any ops fuel t (listed.setIfInBounds i true) []) :: k)) (cs := C.cs) hl
    have hra : (C.b.atR a (.inRegion ops (i :: Region.linearise.go .any ops fuel t (listed.setIfInBounds i true) []) :: k)).raise ch = { C.b.atR a (.inRegion ops (i :: Region.linearise.go .any ops fuel t (listed.setIfInBounds i true) []) :: k) with mode := .panicking ch } := by simp [Frame.raise, Frame.atR]
    rw [hra] at hstep
    exact J.steps (.head henter (hsteps.trans (.one hstep))) (hp ch M' L' hK a w'' _ hs.an hs.ad ⟨fun t v e => by simp [lks] at e, fun t p v e => by simp [lkd] at e⟩ hp')
theorem prn_invokeE {i d : Nat} {ty : TypeId} {pos : String} {aft : Array Edge} {recv : Operand} {t : TypeId} {u : Value} {name : String} {f : FuncId} {args : Array Operand} {tys : Array TypeId} {vs : List Value} {K : Ending → Mem → HL → Prop}
    (ho : ops[i]? = some ⟨some d, .call ⟨.invoke recv name, args, tys⟩, ty, pos, aft, none⟩) (hchk : (acyc ops && chkC ops (dn i) [i] && chkE1 ops (dn i) i) = true)
    (hx : ev σ δ [] recv = some (.iface t u)) (ha : evs σ δ [] args.toList = some vs) (hm : MethOk P t name f) (ht : TrE P f (u :: vs) M L K) (hd : Nat.blt d n = true) (hn : lkd δ d = none) (hu : unNamed δ d = true)
    (hp : ∀ ch M' L', K (.panicked ch) M' L' → RunX P C n (.panicking ch) ds [] M' L')
    (h : ∀ v M' L', K (.returned v) M' L' → PendAll P C.b.roundOf ops σ δ M' L' (open_ ops (dn i) X i) ∧ PR P C n ops k ds (dn (i + 1)) (i :: X) ((d, v) :: σ) δ M' L') : PR P C n ops k ds (dn i) X σ δ M L :=
  pr_enterE i hchk ho (fun a w h3 => invoke_run h3 (holds_nil a) hx ha hm ht.1 w) ht hd hn hu h hp
end

/-! ### rows of any elements; stores that change nothing -/
section
variable {P : Program} {T : TT} {ro : Option Nat} {σ : Env} {δ : Den} {cur : Path} {M : Mem} {L : HL} {d : Option Nat} {op : Op} {ty : TypeId} {pos : String} {aft : Array Edge} {g : Option (Nat × Bool)} {v : Value}
theorem flatRep (zc : List Value) : ∀ (n i : Nat), i < n * zc.length → ((List.replicate n zc).flatten)[i]? = zc[i % zc.length]?
  | 0, i, h => by simp at h
  | n + 1, i, h => by
    rw [List.replicate_succ, List.flatten_cons, List.getElem?_append]
    split
    · rename_i hi; rw [Nat.mod_eq_of_lt hi]
    · rename_i hi
      have hle : zc.length ≤ i := by omega
      rw [flatRep zc n (i - zc.length) (by rw [Nat.succ_mul] at h; omega)]
      congr 1
      conv => rhs; rw [← Nat.sub_add_cancel hle]
      rw [Nat.add_mod_right]
/-- a new slice -/
theorem st_makeSliceG (hT : TOk P T) {t e by_ sz : Nat} {z : Value} {zc : List Value} {x y : Operand} {k k' : IntKind} (n : Nat) (ht : und T t = some (.slice e)) (hi : sizeT T e = some sz) (hz : zeroT T e = some z) (hzc : cellsL z = zc) (hzl : zc.length = sz) (hb : bytesT T e = some by_)
    (hx : ev σ δ cur x = some (.int k (n : Int))) (hy : ev σ δ cur y = some (.int k' (n : Int))) (hroom : by_ * n ≤ 281474976710656) (hn : n < 4611686018427387904) :
    St P ro ⟨d, .makeSlice t x y, ty, pos, aft, g⟩ σ δ cur M L (fun v' M' L' => ∃ b, v' = .slice (some ⟨b, 0, none⟩) n n ∧ M = M' ∧ L' = (b, .cells ⟨(List.replicate n zc).flatten⟩ e (0, 0)) :: L) := fun a w hs hcur hp => by
  obtain ⟨i, hi1, his⟩ := sizeT_ok hi
  obtain ⟨i2, hi2, hz2⟩ := zeroT_ok hz
  obtain ⟨i3, hi3, rfl⟩ := bytesT_ok hb
  rw [hi1] at hi2 hi3
  cases hi2
  cases hi3
  have hrun := run_make (P := P) w t e i z (und_ok hT ht) (hT.info _ _ hi1) hz2 k k' n n (by omega) (Int.le_refl _) (by
    have h : ((i.bytes * n : Nat) : Int) ≤ 281474976710656 := by omega
    rwa [Int.natCast_mul] at h) (by omega)
  have hcells : madeCells z.cells (n * i.size) = ⟨(List.replicate n zc).flatten⟩ := by
    have hzz : z.cells = ⟨zc⟩ := by rw [cellsL_eq, hzc]
    rw [his, hzz]
    apply Array.ext'
    apply List.ext_getElem?
    intro j
    by_cases hj : j < n * sz
    · rw [flatRep zc n j (by rw [hzl]; exact hj), hzl]
      have hpos : 0 < sz := by
        rcases Nat.eq_zero_or_pos sz with h0 | h0
        · rw [h0] at hj; omega
        · exact h0
      have hm : j % sz < zc.length := by rw [hzl]; exact Nat.mod_lt _ hpos
      simp [madeCells, hj, hzl, List.getElem?_eq_getElem hm]
    · have h1 : ((List.replicate n zc).flatten).length = n * sz := by simp [hzl]
      have h2 : ((madeCells (⟨zc⟩ : Array Value) (n * sz)).toList).length = n * sz := by simp [madeCells]
      rw [List.getElem?_eq_none (by rw [h2]; omega)]
      exact (List.getElem?_eq_none (by rw [h1]; omega)).symm
  simp only [Int.toNat_natCast, hcells] at hrun
  refine opWp_value (v := .slice (some ⟨w.heap.size, 0, none⟩) n n) (w' := w.alloc (.cells ⟨(List.replicate n zc).flatten⟩ e)) ?_ ⟨M, _, hp.push _, _, rfl, rfl, rfl⟩
  rw [semAt_of (by intro c e; cases e)]
  simp only [execOp, ev_sound hs hcur hx, ev_sound hs hcur hy, Sem.run_bind, hrun, Result.andThen_ok, Sem.run_pure]
/-- an assertion of another type -/
theorem qt_assertNo (hT : TOk P T) {s t t' : TypeId} {x : Operand} {u : TypeDesc} {z : Value} (hu : und T t = some u) (hc : concD u = true) (hz : zeroT T t = some z) (hx : ev σ δ cur x = some (.iface t' v)) (hne : Nat.beq t' t = false) :
    Qt P ro ⟨d, .typeAssert x s t true, ty, pos, aft, g⟩ σ δ cur M L (.tuple ⟨[z, .bool false]⟩) :=
  qt_of_run (semAt_of (by intro c e; cases e)) fun a w hs hcur hp => by
    have hne' : t' ≠ t := Nat.ne_of_beq_eq_false hne
    have hz' : (zeroValue t).run P w = .ok z w := run_zeroT hT hz w
    cases u <;> first | (cases hc; done) | simp [execOp, Instr.typeAssert, ev_sound hs hcur hx, run_und hT hu, hne', hz']
end
end Go.Chi
