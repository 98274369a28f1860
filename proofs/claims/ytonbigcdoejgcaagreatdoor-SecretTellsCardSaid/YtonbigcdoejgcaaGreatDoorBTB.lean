import Derived.Test.YtonbigcdoejgcaaGreatDoorBTA
import Derived.Laws.BytesString
import Derived.Laws.MakeOwn
import Derived.Laws.OwnMore
import Derived.Lib.UnsafeStr
import Derived.Lib.Builder
import Derived.KernelRfl
namespace Go.Proofs.YtonbigcdoejgcaaGreatDoor
open Go.Chi
set_option maxRecDepth 10000
def abc : ByteArray := ⟨#[97, 98, 99, 100, 101, 102, 103, 104, 105, 106, 107, 108, 109, 110, 111, 112, 113, 114, 115, 116, 117, 118, 119, 120, 121, 122, 48, 49, 50, 51, 52, 53, 54, 55, 56, 57, 47, 46, 45]⟩
theorem sliteIB_ok (M : Mem) (L : HL) (s : ByteArray) (c : Int) : TrQ Tryz.prog 102 [.string s, .int .u8 c] M L (.int .i64 (firstIdx s c.toNat.toUInt8)) := by
  refine Tr.intro 8 Tryz.func102 rfl rfl Tryz.call102 rfl ?_
  intro C hC hro
  repeat (first | refine zz ?_ | refine zx fun _ => ?_ | refine runL_q (qt_callX Tryz.func111 (by kernel_rfl) (by kernel_rfl) (by kernel_rfl) (e := Extern.BytealgIndexByte.indexByte) (by kernel_rfl) rfl (fun w => run_indexByte_string s c w)) rfl rfl rfl ?_)
  exact run_ret hC (rs := [.tmp 4]) rfl (resT rfl resN) (fun _ h => h) ⟨rfl, rfl, rfl⟩
theorem indexByte_ok (M : Mem) (L : HL) (s : ByteArray) (c : Int) : TrQ Tryz.prog 81 [.string s, .int .u8 c] M L (.int .i64 (firstIdx s c.toNat.toUInt8)) := by
  refine Tr.intro 8 Tryz.func81 rfl rfl Tryz.call81 rfl ?_
  intro C hC hro
  repeat (first | refine zz ?_ | refine zx fun _ => ?_ | refine runL_q (qt_callF rfl (fun _ => sliteIB_ok _ _ s c)) rfl rfl rfl ?_)
  exact run_ret hC (rs := [.tmp 4]) rfl (resT rfl resN) (fun _ h => h) ⟨rfl, rfl, rfl⟩
theorem validRune_ok (M : Mem) (L : HL) (r : Int) : TrQ Tryz.prog 117 [.int .i32 r] M L (.bool (validRune r)) := by
  refine Tr.intro 17 Tryz.func117 rfl rfl Tryz.call117 rfl ?_
  intro C hC hro
  repeat (first | refine zz ?_ | refine zx fun _ => ?_)
  refine run_cond rfl (fun h => ?_) (fun h => ?_)
  · repeat (first | refine zz ?_ | refine zx fun _ => ?_)
    refine run_ret hC (rs := [.tmp 2]) rfl (resT rfl resN) (fun _ h => h) ⟨?_, rfl, rfl⟩
    rw [show validRune r = true from decide_eq_true (.inl (by simpa using h))]
    rfl
  · repeat (first | refine zz ?_ | refine zx fun _ => ?_)
    refine run_cond rfl (fun h' => ?_) (fun h' => ?_)
    · repeat (first | refine zz ?_ | refine zx fun _ => ?_)
      refine run_ret hC (rs := [.tmp 2]) rfl (resT rfl resN) (fun _ h => h) ⟨?_, rfl, rfl⟩
      rw [show validRune r = true from decide_eq_true (.inr (by simpa using h'))]
      rfl
    · repeat (first | refine zz ?_ | refine zx fun _ => ?_)
      refine run_ret hC (rs := [.tmp 2]) rfl (resT rfl resN) (fun _ h => h) ⟨?_, rfl, rfl⟩
      rw [show validRune r = false from decide_eq_false (by
        rintro (h1 | h1)
        · simp [h1.1, h1.2] at h
        · simp [h1.1, h1.2] at h')]
      rfl
def runeIx (r : Int) : Int := if 0 ≤ r ∧ r < 128 then firstIdx abc (IntKind.u8.wrap r).toNat.toUInt8 else -1
theorem abc_lt : ∀ b ∈ abc.data.toList, b.toNat < 128 := by decide +kernel
theorem abc_at {i : Nat} (h : i < 39) : ∃ b : UInt8, abc[i]? = some b ∧ b.toNat < 128 := by
  have hx : abc[i]? = some (abc[i]'h) := getElem?_pos abc i h
  exact ⟨_, hx, abc_lt _ (Array.getElem_mem_toList (xs := abc.data) h)⟩
set_option maxHeartbeats 4000000 in
theorem indexRune_ok (M : Mem) (L : HL) (r : Int) : TrQ Tryz.prog 114 [.string abc, .int .i32 r] M L (.int .i64 (runeIx r)) := by
  refine Tr.intro 187 Tryz.func114 rfl rfl Tryz.call114 rfl ?_
  intro C hC hro
  repeat (first | refine zz ?_ | refine zx fun _ => ?_)
  refine run_cond rfl (fun h => ?_) (fun h => ?_)
  · have h0 : 0 ≤ r ∧ r < 128 := by simpa using h
    repeat (first | refine zz ?_ | refine zx fun _ => ?_ | refine runL_q (qt_callF rfl (fun _ => indexByte_ok _ _ abc _)) rfl rfl rfl ?_)
    refine run_ret hC (rs := [.tmp 4]) rfl (resT rfl resN) (fun _ h => h) ⟨?_, rfl, rfl⟩
    rw [runeIx, if_pos h0]; rfl
  have h0 : ¬ (0 ≤ r ∧ r < 128) := by simpa using h
  have hres : runeIx r = -1 := by rw [runeIx, if_neg h0]
  repeat (first | refine zz ?_ | refine zx fun _ => ?_)
  refine run_cond rfl (fun h1 => ?_) (fun h1 => ?_)
  · repeat (first | refine zz ?_ | refine zx fun _ => ?_ | (refine runL_op (st_rangeS tok rfl rfl) rfl rfl rfl ?_; rintro _ _ _ ⟨b, rfl, rfl, rfl⟩))
    refine run_loopN (fun i σ1 M1 L1 => i ≤ 39 ∧ σ1 = [(175, .pointer (some ⟨b, 0, none⟩))] ∧ M = M1 ∧ L1 = (b, .stringIter abc i) :: L) 39 [(175, .pointer (some ⟨b, 0, none⟩))] ?_ ⟨Nat.zero_le _, rfl, rfl, rfl⟩ (fun j _ _ _ h => h.1) ?_
    · exact ⟨rfl, trivial⟩
    rintro i _ _ _ ⟨hi, rfl, rfl, rfl⟩ hnext
    by_cases hlt : i < 39
    · have hd : Utf8.decode abc i = ((abc[i]'hlt).toNat, 1) := decode_ascii abc i hlt (abc_lt _ (Array.getElem_mem_toList (xs := abc.data) hlt))
      have hb' : (abc[i]'hlt).toNat < 128 := abc_lt _ (Array.getElem_mem_toList (xs := abc.data) hlt)
      repeat (first | refine zz ?_ | refine zx fun _ => ?_ | (refine runL_op (st_nextS rfl (by (repeat (first | with_reducible apply Upd.here | with_reducible apply Upd.there | with_reducible apply Upd.append_left))) hlt) rfl rfl rfl ?_; rintro _ _ _ ⟨rfl, rfl, rfl⟩))
      refine run_cond rfl (fun _ => ?_) (fun h => by cases h)
      repeat (first | refine zz ?_ | refine zx fun _ => ?_)
      refine run_cond rfl (fun h2 => ?_) (fun h2 => ?_)
      · exfalso
        rw [hd] at h2
        have h3 : (((abc[i]'hlt).toNat : Int)) = 65533 := by simpa using h2
        omega
      · repeat (first | refine zz ?_ | refine zx fun _ => ?_)
        exact run_sub' (hnext _ _ _ ⟨hlt, rfl, rfl, by rw [hd]⟩) ⟨rfl, trivial⟩
    · repeat (first | refine zz ?_ | refine zx fun _ => ?_ | refine runL_q (qt_nextEnd rfl (by (repeat (first | with_reducible apply List.mem_cons_self | with_reducible assumption | with_reducible apply List.mem_cons_of_mem | with_reducible apply List.mem_append_right))) hlt) rfl rfl rfl ?_)
      refine run_cond rfl (fun h => by cases h) (fun _ => ?_)
      repeat (first | refine zz ?_ | refine zx fun _ => ?_)
      exact run_ret hC (rs := [.tmp 4]) rfl (resT rfl resN) (fun _ h => h.drop) ⟨by rw [hres]; rfl, rfl, rfl⟩
  · repeat (first | refine zz ?_ | refine zx fun _ => ?_ | refine runL_q (qt_callF rfl (fun _ => validRune_ok _ _ r)) rfl rfl rfl ?_)
    refine run_cond rfl (fun h2 => ?_) (fun h2 => ?_)
    · repeat (first | refine zz ?_ | refine zx fun _ => ?_)
      exact run_ret hC (rs := [.tmp 4]) rfl (resT rfl resN) (fun _ h => h) ⟨by rw [hres]; rfl, rfl, rfl⟩
    have hv : validRune r = true := by simpa using h2
    have h128 : 128 ≤ r := by
      simp only [validRune, decide_eq_true_eq] at hv
      omega
    obtain ⟨hz2, hz4, hlast⟩ := encode_facts r (by rw [validRune_eq]; exact hv) h128
    obtain ⟨m, hm⟩ : ∃ m : Nat, (Utf8.encode r).size = m + 1 := ⟨(Utf8.encode r).size - 1, by omega⟩
    have hlast' := hlast (by omega)
    obtain ⟨c, hc, hc128⟩ : ∃ c : UInt8, (Utf8.encode r)[m]? = some c ∧ 128 ≤ c.toNat := by
      refine ⟨(Utf8.encode r)[m]'(by omega), by simp [hm], ?_⟩
      have : (Utf8.encode r).size - 1 = m := by omega
      simpa only [this] using hlast'
    obtain ⟨a0, ha0, ha1⟩ := abc_at (i := m) (by omega)
    repeat (first | refine zz ?_ | refine zx fun _ => ?_ | refine run_scope ?_ | refine runL_q (qt_runeStr tok rfl rfl rfl) rfl rfl rfl ?_)
    refine run_as 8 (.int .i64 (m : Int)) rfl (by rw [show (((Utf8.encode r).size : Int) - 1) = (m : Int) by omega, wrap64_nat (by omega)]) ?_
    refine run_as 9 (.int .i64 (m : Int)) rfl (by rw [show (((Utf8.encode r).size : Int) - 1) = (m : Int) by omega, wrap64_nat (by omega)]) ?_
    repeat (first | refine zz ?_ | refine zx fun _ => ?_)
    refine run_loop ?_
    repeat (first | refine zz ?_ | refine zx fun _ => ?_)
    refine run_cond rfl (fun _ => ?_) (fun h3 => ?_)
    rotate_left
    · exfalso
      have h3' : ¬ ((m : Int) < (abc.size : Int)) := by simpa using h3
      have : abc.size = 39 := rfl
      omega
    repeat (first | refine zz ?_ | refine zx fun _ => ?_ | refine dd ?_ | refine dz ?_ | refine dx fun _ => ?_ | refine run_scope ?_ | refine prn_q rfl (qt_strIndex tok rfl rfl rfl (fun _ => ha0)) (by decide +kernel) rfl rfl rfl ?_ | refine prn_q rfl (qt_strIndex tok rfl rfl rfl (fun _ => hc)) (by decide +kernel) rfl rfl rfl ?_)
    refine run_cond rfl (fun _ => ?_) (fun h4 => ?_)
    rotate_left
    · exfalso
      have h4' : (a0.toNat : Int) = (c.toNat : Int) := by simpa using h4
      omega
    have hm1 : IntKind.i64.wrap ((m : Int) + 1) = ((m + 1 : Nat) : Int) := wrap64_succ (by omega)
    repeat (first | refine zz ?_ | refine zx fun _ => ?_ | refine dd ?_ | refine dz ?_ | refine dx fun _ => ?_)
    refine pr_as 36 (.int .i64 ((m + 1 : Nat) : Int)) rfl (by rw [hm1]) ?_
    repeat (first | refine zz ?_ | refine zx fun _ => ?_ | refine dd ?_ | refine dz ?_ | refine dx fun _ => ?_ | refine prn_q rfl (qt_strLo tok rfl rfl rfl (fun _ => show m + 1 ≤ 39 by omega)) (by decide +kernel) rfl rfl rfl ?_ | refine prn_q rfl (qt_strIndex tok rfl rfl rfl (fun _ => hc)) (by decide +kernel) rfl rfl rfl ?_ | refine prn_q rfl (qt_callF rfl (fun _ => indexByte_ok _ _ _ _)) (by decide +kernel) rfl rfl rfl ?_)
    refine run_cond rfl (fun _ => ?_) (fun h5 => ?_)
    · repeat (first | refine zz ?_ | refine zx fun _ => ?_)
      exact run_ret hC (rs := [.tmp 4]) rfl (resT rfl resN) (fun _ h => h) ⟨by rw [hres]; rfl, rfl, rfl⟩
    · exfalso
      rw [firstIdx_ascii abc _ _ _ abc_lt (by simpa using hc128)] at h5
      cases h5
end Go.Proofs.YtonbigcdoejgcaaGreatDoor
namespace Go.Proofs.YtonbigcdoejgcaaGreatDoor
open Go.Chi
set_option maxRecDepth 10000
def inAbc (r : Int) : Bool := decide (0 ≤ runeIx r)
theorem containsRune_ok (M : Mem) (L : HL) (r : Int) : TrQ Tryz.prog 108 [.string abc, .int .i32 r] M L (.bool (inAbc r)) := by
  refine Tr.intro 9 Tryz.func108 rfl rfl Tryz.call108 rfl ?_
  intro C hC hro
  repeat (first | refine zz ?_ | refine zx fun _ => ?_ | refine runL_q (qt_callF rfl (fun _ => indexRune_ok _ _ r)) rfl rfl rfl ?_)
  exact run_ret hC (rs := [.tmp 4]) rfl (resT rfl resN) (fun _ h => h) ⟨rfl, rfl, rfl⟩
theorem decode_wide (s : ByteArray) {p : Nat} (h : p < s.size) : 1 ≤ (Utf8.decode s p).2 := by
  by_cases ha : (s[p]'h).toNat < 128
  · rw [decode_ascii s p h ha]; exact Nat.le_refl _
  · exact (decode_high s p h (by omega)).2
def namedAt (s : ByteArray) : Nat → Nat → Bool
  | 0, _ => true
  | f + 1, p => if p < s.size then inAbc (Utf8.decode s p).1 && namedAt s f (p + (Utf8.decode s p).2) else true
def namedR (s : ByteArray) : Bool := namedAt s (s.size + 1) 0 && decide (s.size ≠ 0)
theorem namedAt_end (s : ByteArray) {p : Nat} (h : ¬ p < s.size) : ∀ f, namedAt s f p = true
  | 0 => rfl
  | f + 1 => by rw [namedAt, if_neg h]
set_option maxRecDepth 10000 in
set_option maxHeartbeats 4000000 in
theorem named_ok (M : Mem) (L : HL) (s : ByteArray) : TrQ Tryz.prog 92 [.string s] M L (.bool (namedR s)) := by
  refine Tr.intro 15 Tryz.func92 rfl rfl Tryz.call92 rfl ?_
  intro C hC hro
  repeat (first | refine zz ?_ | refine zx fun _ => ?_ | (refine runL_op (st_rangeS tok rfl rfl) rfl rfl rfl ?_; rintro _ _ _ ⟨b, rfl, rfl, rfl⟩))
  refine run_loopN (fun i σ1 M1 L1 => i ≤ s.size ∧ ∃ p, i ≤ p ∧ namedAt s (s.size + 1 - i) p = namedAt s (s.size + 1) 0 ∧ σ1 = [(6, .pointer (some ⟨b, 0, none⟩)), (0, .string s)] ∧ M = M1 ∧ L1 = (b, .stringIter s p) :: L) s.size [(6, .pointer (some ⟨b, 0, none⟩)), (0, .string s)] ?_ ⟨Nat.zero_le _, 0, Nat.le_refl _, rfl, rfl, rfl, rfl⟩ (fun j _ _ _ h => h.1) ?_
  · exact ⟨rfl, rfl, trivial⟩
  rintro i _ _ _ ⟨hi, p, hip, hn, rfl, rfl, rfl⟩ hnext
  by_cases hlt : p < s.size
  · have hw := decode_wide s hlt
    rw [show s.size + 1 - i = (s.size + 1 - (i + 1)) + 1 by omega, namedAt, if_pos hlt] at hn
    repeat (first | refine zz ?_ | refine zx fun _ => ?_ | (refine runL_op (st_nextS rfl (by (repeat (first | with_reducible apply Upd.here | with_reducible apply Upd.there | with_reducible apply Upd.append_left))) hlt) rfl rfl rfl ?_; rintro _ _ _ ⟨rfl, rfl, rfl⟩))
    refine run_cond rfl (fun _ => ?_) (fun h => by cases h)
    repeat (first | refine zz ?_ | refine zx fun _ => ?_ | refine runL_q (qt_callF rfl (fun _ => containsRune_ok _ _ _)) rfl rfl rfl ?_)
    refine run_cond rfl (fun h2 => ?_) (fun h2 => ?_)
    · have h3 : inAbc (Utf8.decode s p).1 = false := by simpa using h2
      repeat (first | refine zz ?_ | refine zx fun _ => ?_)
      refine run_ret hC (rs := [.tmp 2]) rfl (resT rfl resN) (fun _ h => h.drop) ⟨?_, rfl, rfl⟩
      rw [namedR, ← hn, h3]; rfl
    · have h3 : inAbc (Utf8.decode s p).1 = true := by simpa using h2
      repeat (first | refine zz ?_ | refine zx fun _ => ?_)
      exact run_sub' (hnext _ _ _ ⟨by omega, p + (Utf8.decode s p).2, by omega, by rw [← hn, h3]; rfl, rfl, rfl, rfl⟩) ⟨rfl, rfl, trivial⟩
  · rw [namedAt_end s hlt] at hn
    repeat (first | refine zz ?_ | refine zx fun _ => ?_ | refine runL_q (qt_nextEnd rfl (by (repeat (first | with_reducible apply List.mem_cons_self | with_reducible assumption | with_reducible apply List.mem_cons_of_mem | with_reducible apply List.mem_append_right))) hlt) rfl rfl rfl ?_)
    refine run_cond rfl (fun h => by cases h) (fun _ => ?_)
    repeat (first | refine zz ?_ | refine zx fun _ => ?_)
    refine run_ret hC (rs := [.tmp 2]) rfl (resT rfl resN) (fun _ h => h.drop) ⟨?_, rfl, rfl⟩
    rw [namedR, ← hn, empty_beq]
    by_cases h0 : s.size = 0
    · simp [h0]; rfl
    · simp [h0]; rfl
theorem u64_pos (k : IntKind) (h : k = .u64) (x : Int) : 0 ≤ k.wrap x ∧ k.wrap x < 18446744073709551616 := by
  subst h
  simp only [IntKind.wrap, IntKind.signed, IntKind.bits]
  simp
  omega
theorem byte_pos (s : ByteArray) (i : Nat) : 0 ≤ byte s i ∧ byte s i < 256 := by
  have := ((s[i]?).getD 0).toNat_lt
  simp only [byte]
  omega
theorem numV_pos (s : ByteArray) (i : Nat) : 0 ≤ numV s i := by
  cases i with
  | zero => exact Int.le_refl _
  | succ i => exact (u64_pos .u64 rfl _).1
theorem numR_pos (s : ByteArray) : 0 ≤ (numR s).1 := by
  unfold numR
  repeat' split
  all_goals first | exact Int.le_refl _ | exact (byte_pos _ _).1 | exact numV_pos _ _
theorem numR_len (s : ByteArray) (h : (numR s).2.2 = 0) : ∃ n : Nat, (numR s).2.1 = n ∧ 1 ≤ n ∧ n ≤ s.size := by
  have hb := byte_pos s 0
  have hr : s.size ≠ 0 → (rest1 s).size = s.size - 1 := fun _ => by simp [rest1]
  unfold numR at h ⊢
  split at h
  · cases h
  · rename_i h0
    rw [if_neg h0]
    split at h
    · rename_i h1; rw [if_pos h1]; exact ⟨1, rfl, by omega, by omega⟩
    · rename_i h1
      rw [if_neg h1]
      split at h
      · cases h
      · rename_i h2
        rw [if_neg h2]
        split at h
        · cases h
        · rename_i h3
          rw [if_neg h3]
          have := hr h0
          exact ⟨(byte s 0 - 247 + 1).toNat, show byte s 0 - 247 + 1 = _ by omega, by omega, by omega⟩
def textR (s : ByteArray) (most : Nat) : ByteArray × Int × Int :=
  if (numR s).2.2 ≠ 0 then (⟨#[]⟩, 0, (numR s).2.2) else
  if (most : Int) < (numR s).1 then (⟨#[]⟩, 0, 5) else
  if (s.size : Int) - (numR s).2.1 < (numR s).1 then (⟨#[]⟩, 0, 6) else
  (s.extract (numR s).2.1.toNat ((numR s).2.1 + (numR s).1).toNat, (numR s).2.1 + (numR s).1, 0)
theorem u64_nat {n : Nat} (h : n < 18446744073709551616) : IntKind.u64.wrap (n : Int) = n := by
  simp only [IntKind.wrap, IntKind.signed, IntKind.bits]
  simp
  omega
set_option maxRecDepth 10000 in
set_option maxHeartbeats 4000000 in
theorem readText_ok (M : Mem) (L : HL) (s : ByteArray) (most : Nat) (hs : s.size < 4611686018427387904) (hm : most < 4611686018427387904) : TrQ Tryz.prog 79 [.string s, .int .i64 (most : Int)] M L (.tuple ⟨[.string (textR s most).1, .int .i64 (textR s most).2.1, .int .i64 (textR s most).2.2]⟩) := by
  refine Tr.intro 43 Tryz.func79 rfl rfl Tryz.call79 rfl ?_
  intro C hC hro
  repeat (first | refine zz ?_ | refine zx fun _ => ?_ | refine runL_q (qt_callF rfl (fun _ => readNum_ok _ _ s)) rfl rfl rfl ?_)
  refine run_cond rfl (fun h => ?_) (fun h => ?_)
  · have h0 : (numR s).2.2 ≠ 0 := by simpa using h
    repeat (first | refine zz ?_ | refine zx fun _ => ?_)
    exact run_ret hC (rs := [.tmp 4, .tmp 5, .tmp 6]) rfl (resT rfl (resT rfl (resT rfl resN))) (fun _ h => h) ⟨by rw [textR, if_pos h0]; rfl, rfl, rfl⟩
  have h0 : (numR s).2.2 = 0 := by simpa using h
  obtain ⟨n, hn, hn1, hn2⟩ := numR_len s h0
  have hv0 := numR_pos s
  have e1 : IntKind.u64.wrap (if (0 : Int) > (most : Int) then 0 else (most : Int)) = (most : Int) := by rw [if_neg (by omega), u64_nat (by omega)]
  repeat (first | refine zz ?_ | refine zx fun _ => ?_ | refine runL_q (qt_max2 rfl rfl) rfl rfl rfl ?_)
  refine run_cond rfl (fun h1 => ?_) (fun h1 => ?_)
  · rw [e1] at h1
    have h2 : (most : Int) < (numR s).1 := by simpa using h1
    repeat (first | refine zz ?_ | refine zx fun _ => ?_)
    exact run_ret hC (rs := [.tmp 4, .tmp 5, .tmp 6]) rfl (resT rfl (resT rfl (resT rfl resN))) (fun _ h => h) ⟨by rw [textR, if_neg (by simp [h0]), if_pos h2]; rfl, rfl, rfl⟩
  rw [e1] at h1
  have h2 : ¬ (most : Int) < (numR s).1 := by simpa using h1
  have e2 : IntKind.u64.wrap (IntKind.i64.wrap ((s.size : Int) - (numR s).2.1)) = (s.size : Int) - (numR s).2.1 := by
    rw [hn, show (s.size : Int) - (n : Int) = ((s.size - n : Nat) : Int) by omega, wrap64_nat (by omega), u64_nat (by omega)]
  obtain ⟨v, hv⟩ : ∃ v : Nat, (numR s).1 = v := ⟨(numR s).1.toNat, by omega⟩
  repeat (first | refine zz ?_ | refine zx fun _ => ?_)
  refine run_cond rfl (fun h3 => ?_) (fun h3 => ?_)
  · have h4 : (s.size : Int) - (numR s).2.1 < (numR s).1 := by
      have := of_decide_eq_true h3
      rwa [e2] at this
    repeat (first | refine zz ?_ | refine zx fun _ => ?_)
    exact run_ret hC (rs := [.tmp 4, .tmp 5, .tmp 6]) rfl (resT rfl (resT rfl (resT rfl resN))) (fun _ h => h) ⟨by rw [textR, if_neg (by simp [h0]), if_neg h2, if_pos h4]; rfl, rfl, rfl⟩
  have h4 : ¬ (s.size : Int) - (numR s).2.1 < (numR s).1 := by
    have := of_decide_eq_false h3
    rwa [e2] at this
  refine run_as 5 (.int .i64 (n : Int)) rfl (by rw [hn]) ?_
  refine run_as 7 (.int .u64 (v : Int)) rfl (by rw [hv]) ?_
  have e3 : IntKind.i64.wrap ((n : Int) + IntKind.i64.wrap (v : Int)) = ((n + v : Nat) : Int) := by
    rw [wrap64_nat (by omega), show (n : Int) + (v : Int) = ((n + v : Nat) : Int) by omega, wrap64_nat (by omega)]
  repeat (first | refine zz ?_ | refine zx fun _ => ?_)
  refine runL_as 37 (.int .i64 ((n + v : Nat) : Int)) rfl (by rw [e3]) ?_
  repeat (first | refine zz ?_ | refine zx fun _ => ?_ | refine runL_q (qt_strMid tok rfl rfl rfl rfl (fun _ => ⟨by omega, by omega⟩)) rfl rfl rfl ?_)
  refine run_ret hC (rs := [.tmp 4, .tmp 5, .tmp 6]) rfl (resT rfl (resT rfl (resT rfl resN))) (fun _ h => h) ⟨?_, rfl, rfl⟩
  rw [textR, if_neg (by simp [h0]), if_neg h2, if_neg h4, e3, hn, hv, show ((n : Int) + (v : Int)).toNat = n + v by omega, Int.toNat_natCast, show (n : Int) + (v : Int) = ((n + v : Nat) : Int) by omega]
  rfl
end Go.Proofs.YtonbigcdoejgcaaGreatDoor
namespace Go.Proofs.YtonbigcdoejgcaaGreatDoor
open Go.Chi
set_option maxRecDepth 10000
theorem runL_must {C : Cx} {n : Nat} {ops : Array Oper} {k : List Item} {ds : List Deferred} {σ : Env} {δ : Den} {M : Mem} {L : HL} {d : Nat} {ty : TypeId} {pos : String} {aft : Array Edge} {l : List Oper} {args : Array Operand} {tys : Array TypeId} {e : Int}
    (ha : evs σ δ [] args.toList = some [.int .i64 e]) (hd : Nat.blt d n = true) (hn : lkd δ d = none) (hu : unNamed δ d = true)
    (h0 : e = 0 → RunL Tryz.prog C n ops l k ds ((d, .tuple ⟨[]⟩) :: σ) δ M L) (h1 : e ≠ 0 → RunX Tryz.prog C n (.panicking (pan e)) ds σ M L) :
    RunL Tryz.prog C n ops (⟨some d, .call ⟨.value (.func 99), args, tys⟩, ty, pos, aft, none⟩ :: l) k ds σ δ M L := by
  refine runL_callE ha (must_ok _ _ e) hd hn hu ?_ ?_
  · rintro v _ _ ⟨rfl, rfl, hv⟩
    by_cases he : e = 0
    · rw [if_pos he, Ending.returned.injEq] at hv; subst hv; exact h0 he
    · rw [if_neg he] at hv; cases hv
  · rintro v _ _ ⟨rfl, rfl, hv⟩
    by_cases he : e = 0
    · rw [if_pos he] at hv; cases hv
    · rw [if_neg he, Ending.panicked.injEq] at hv; subst hv; exact h1 he
def frontR (s : ByteArray) : Except Int (Nat × Nat) :=
  if s.size = 0 then .error 6 else
  if byte s 0 = 100 then (if (textR (rest1 s) 1024).2.2 ≠ 0 then .error (textR (rest1 s) 1024).2.2 else .ok ((1 + (textR (rest1 s) 1024).2.1).toNat, 0)) else
  if byte s 0 = 97 then (if (textR (rest1 s) 32).2.2 ≠ 0 then .error (textR (rest1 s) 32).2.2 else if namedR (textR (rest1 s) 32).1 = false then .error 7 else .ok ((1 + (textR (rest1 s) 32).2.1).toNat, 0)) else
  if byte s 0 = 114 then (if (numR (rest1 s)).2.2 ≠ 0 then .error (numR (rest1 s)).2.2 else if 32 < (numR (rest1 s)).1 then .error 5 else .ok ((1 + (numR (rest1 s)).2.1).toNat, (numR (rest1 s)).1.toNat)) else
  if byte s 0 = 104 then .ok (1, 1) else
  if byte s 0 = 109 then .ok (1, 2) else
  if byte s 0 = 115 then .ok (1, 3) else .error 7
def frontK (r : Except Int (Nat × Nat)) (M : Mem) (L : HL) (en : Ending) (M' : Mem) (L' : HL) : Prop := M = M' ∧ L = L' ∧ match r with | .ok x => en = .returned (.tuple ⟨[.int .i64 (x.1 : Int), .int .i64 (x.2 : Int)]⟩) | .error e => en = .panicked (pan e)
theorem textR_len (s : ByteArray) (most : Nat) (h : (textR s most).2.2 = 0) : ∃ n : Nat, (textR s most).2.1 = n ∧ 1 ≤ n ∧ n ≤ s.size := by
  have hv := numR_pos s
  unfold textR at h ⊢
  split at h
  · rename_i h1; exact absurd h h1
  · rename_i h0
    obtain ⟨n, hn, h1, h2⟩ := numR_len s (by simpa using h0)
    rw [if_neg h0]
    split at h
    · cases h
    · rename_i h3
      rw [if_neg h3]
      split at h
      · cases h
      · rename_i h4
        rw [if_neg h4]
        exact ⟨((numR s).2.1 + (numR s).1).toNat, show (numR s).2.1 + (numR s).1 = _ by omega, by omega, by omega⟩
theorem rest1_size {s : ByteArray} : (rest1 s).size = s.size - 1 := by simp [rest1]
theorem byte_eq {s : ByteArray} {b : UInt8} {c : Int} (h : byte s 0 = (b.toNat : Int)) {t : Bool} (hb : (((b.toNat : Int) == c)) = t) : (if t then byte s 0 = c else byte s 0 ≠ c) := by
  subst hb
  split <;> rename_i h1 <;> rw [h] <;> simpa using h1
theorem one_wrap {n : Nat} (h : n < 4611686018427387904) : IntKind.i64.wrap (1 + (n : Int)) = ((1 + n : Nat) : Int) := by
  rw [show (1 : Int) + (n : Int) = ((1 + n : Nat) : Int) by omega, wrap64_nat (by omega)]
set_option maxRecDepth 10000 in
set_option maxHeartbeats 8000000 in
theorem front_ok (M : Mem) (L : HL) (s : ByteArray) (hs : s.size < 4611686018427387904) : TrE Tryz.prog 109 [.string s] M L (frontK (frontR s) M L) := by
  refine TrE.intro 73 Tryz.func109 rfl rfl Tryz.call109 rfl ?_
  intro C hC hro
  repeat (first | refine zz ?_ | refine zx fun _ => ?_)
  refine run_cond rfl (fun h => ?_) (fun h => ?_)
  · repeat (first | refine zz ?_ | refine zx fun _ => ?_)
    rw [empty_beq, decide_eq_true_eq] at h
    refine runL_must rfl rfl rfl rfl (fun h => by cases h) (fun _ => ?_)
    exact runX_pan hC (fun _ h => h) ⟨rfl, rfl, by rw [frontR, if_pos h]⟩
  rw [empty_beq, decide_eq_false_iff_not] at h
  have hp : 0 < s.size := by omega
  obtain ⟨b0, hb0, hb0'⟩ := byte_at hp
  have hr : (rest1 s).size < 4611686018427387904 := by rw [rest1_size]; omega
  repeat (first | refine zz ?_ | refine zx fun _ => ?_ | refine runL_q (qt_strIndex (n := 0) tok rfl rfl rfl (fun _ => hb0)) rfl rfl rfl ?_)
  refine run_cond rfl (fun h1 => ?_) (fun h1 => ?_)
  · have hb1 : byte s 0 = 100 := byte_eq hb0' h1
    repeat (first | refine zz ?_ | refine zx fun _ => ?_ | refine runL_q (qt_strLo (n := 1) tok rfl rfl rfl (fun _ => hp)) rfl rfl rfl ?_ | refine runL_q (qt_callF rfl (fun _ => readText_ok _ _ (rest1 s) 1024 hr (by decide))) rfl rfl rfl ?_)
    refine runL_must rfl rfl rfl rfl (fun h2 => ?_) (fun h2 => ?_)
    · obtain ⟨m, hm, hm1, hm2⟩ := textR_len _ _ h2
      repeat (first | refine zz ?_ | refine zx fun _ => ?_)
      refine run_retX hro ?_
      refine runX_ret hC (rs := [.tmp 2, .tmp 3]) rfl (resT rfl (resT rfl resN)) (fun _ h => h) ⟨rfl, rfl, ?_⟩
      rw [frontR, if_neg h, if_pos hb1, if_neg (by simp [h2]), hm, one_wrap (by omega), show (1 + (m : Int)).toNat = 1 + m by omega]
      rfl
    · exact runX_pan hC (fun _ h => h) ⟨rfl, rfl, by rw [frontR, if_neg h, if_pos hb1, if_pos h2]⟩
  have hb1 : byte s 0 ≠ 100 := byte_eq hb0' h1
  repeat (first | refine zz ?_ | refine zx fun _ => ?_)
  refine run_cond rfl (fun h1 => ?_) (fun h1 => ?_)
  · have hb2 : byte s 0 = 97 := byte_eq hb0' h1
    repeat (first | refine zz ?_ | refine zx fun _ => ?_ | refine runL_q (qt_strLo (n := 1) tok rfl rfl rfl (fun _ => hp)) rfl rfl rfl ?_ | refine runL_q (qt_callF rfl (fun _ => readText_ok _ _ (rest1 s) 32 hr (by decide))) rfl rfl rfl ?_)
    refine runL_must rfl rfl rfl rfl (fun h2 => ?_) (fun h2 => ?_)
    · obtain ⟨m, hm, hm1, hm2⟩ := textR_len _ _ h2
      repeat (first | refine zz ?_ | refine zx fun _ => ?_ | refine runL_q (qt_callF rfl (fun _ => named_ok _ _ _)) rfl rfl rfl ?_)
      refine run_cond rfl (fun h3 => ?_) (fun h3 => ?_)
      · have h4 : namedR (textR (rest1 s) 32).1 = false := by simpa using h3
        repeat (first | refine zz ?_ | refine zx fun _ => ?_)
        refine runL_must rfl rfl rfl rfl (fun h => by cases h) (fun _ => ?_)
        exact runX_pan hC (fun _ h => h) ⟨rfl, rfl, by rw [frontR, if_neg h, if_neg hb1, if_pos hb2, if_neg (by simp [h2]), if_pos h4]⟩
      · have h4 : ¬ namedR (textR (rest1 s) 32).1 = false := by simpa using h3
        repeat (first | refine zz ?_ | refine zx fun _ => ?_)
        refine run_retX hro ?_
        refine runX_ret hC (rs := [.tmp 2, .tmp 3]) rfl (resT rfl (resT rfl resN)) (fun _ h => h) ⟨rfl, rfl, ?_⟩
        rw [frontR, if_neg h, if_neg hb1, if_pos hb2, if_neg (by simp [h2]), if_neg h4, hm, one_wrap (by omega), show (1 + (m : Int)).toNat = 1 + m by omega]
        rfl
    · exact runX_pan hC (fun _ h => h) ⟨rfl, rfl, by rw [frontR, if_neg h, if_neg hb1, if_pos hb2, if_pos h2]⟩
  have hb2 : byte s 0 ≠ 97 := byte_eq hb0' h1
  repeat (first | refine zz ?_ | refine zx fun _ => ?_)
  refine run_cond rfl (fun h1 => ?_) (fun h1 => ?_)
  · have hb3 : byte s 0 = 114 := byte_eq hb0' h1
    repeat (first | refine zz ?_ | refine zx fun _ => ?_ | refine runL_q (qt_strLo (n := 1) tok rfl rfl rfl (fun _ => hp)) rfl rfl rfl ?_ | refine runL_q (qt_callF rfl (fun _ => readNum_ok _ _ (rest1 s))) rfl rfl rfl ?_)
    refine runL_must rfl rfl rfl rfl (fun h2 => ?_) (fun h2 => ?_)
    · obtain ⟨m, hm, hm1, hm2⟩ := numR_len _ h2
      have hv0 := numR_pos (rest1 s)
      repeat (first | refine zz ?_ | refine zx fun _ => ?_)
      refine run_cond rfl (fun h3 => ?_) (fun h3 => ?_)
      · have h4 : 32 < (numR (rest1 s)).1 := by simpa using h3
        repeat (first | refine zz ?_ | refine zx fun _ => ?_)
        refine runL_must rfl rfl rfl rfl (fun h => by cases h) (fun _ => ?_)
        exact runX_pan hC (fun _ h => h) ⟨rfl, rfl, by rw [frontR, if_neg h, if_neg hb1, if_neg hb2, if_pos hb3, if_neg (by simp [h2]), if_pos h4]⟩
      · have h4 : ¬ 32 < (numR (rest1 s)).1 := by simpa using h3
        repeat (first | refine zz ?_ | refine zx fun _ => ?_)
        refine run_retX hro ?_
        refine runX_ret hC (rs := [.tmp 2, .tmp 3]) rfl (resT rfl (resT rfl resN)) (fun _ h => h) ⟨rfl, rfl, ?_⟩
        obtain ⟨v, hv⟩ : ∃ v : Nat, (numR (rest1 s)).1 = v := ⟨(numR (rest1 s)).1.toNat, by omega⟩
        rw [frontR, if_neg h, if_neg hb1, if_neg hb2, if_pos hb3, if_neg (by simp [h2]), if_neg h4, hm, hv, one_wrap (by omega), wrap64_nat (by omega), show (1 + (m : Int)).toNat = 1 + m by omega, Int.toNat_natCast]
        rfl
    · exact runX_pan hC (fun _ h => h) ⟨rfl, rfl, by rw [frontR, if_neg h, if_neg hb1, if_neg hb2, if_pos hb3, if_pos h2]⟩
  have hb3 : byte s 0 ≠ 114 := byte_eq hb0' h1
  repeat (first | refine zz ?_ | refine zx fun _ => ?_)
  refine run_cond rfl (fun h1 => ?_) (fun h1 => ?_)
  · have hb4 : byte s 0 = 104 := byte_eq hb0' h1
    repeat (first | refine zz ?_ | refine zx fun _ => ?_)
    refine run_retX hro ?_
    refine runX_ret hC (rs := [.tmp 2, .tmp 3]) rfl (resT rfl (resT rfl resN)) (fun _ h => h) ⟨rfl, rfl, ?_⟩
    rw [frontR, if_neg h, if_neg hb1, if_neg hb2, if_neg hb3, if_pos hb4]; rfl
  have hb4 : byte s 0 ≠ 104 := byte_eq hb0' h1
  repeat (first | refine zz ?_ | refine zx fun _ => ?_)
  refine run_cond rfl (fun h1 => ?_) (fun h1 => ?_)
  · have hb5 : byte s 0 = 109 := byte_eq hb0' h1
    repeat (first | refine zz ?_ | refine zx fun _ => ?_)
    refine run_retX hro ?_
    refine runX_ret hC (rs := [.tmp 2, .tmp 3]) rfl (resT rfl (resT rfl resN)) (fun _ h => h) ⟨rfl, rfl, ?_⟩
    rw [frontR, if_neg h, if_neg hb1, if_neg hb2, if_neg hb3, if_neg hb4, if_pos hb5]; rfl
  have hb5 : byte s 0 ≠ 109 := byte_eq hb0' h1
  repeat (first | refine zz ?_ | refine zx fun _ => ?_)
  refine run_cond rfl (fun h1 => ?_) (fun h1 => ?_)
  · have hb6 : byte s 0 = 115 := byte_eq hb0' h1
    repeat (first | refine zz ?_ | refine zx fun _ => ?_)
    refine run_retX hro ?_
    refine runX_ret hC (rs := [.tmp 2, .tmp 3]) rfl (resT rfl (resT rfl resN)) (fun _ h => h) ⟨rfl, rfl, ?_⟩
    rw [frontR, if_neg h, if_neg hb1, if_neg hb2, if_neg hb3, if_neg hb4, if_neg hb5, if_pos hb6]; rfl
  have hb6 : byte s 0 ≠ 115 := byte_eq hb0' h1
  repeat (first | refine zz ?_ | refine zx fun _ => ?_)
  refine runL_must rfl rfl rfl rfl (fun h => by cases h) (fun _ => ?_)
  exact runX_pan hC (fun _ h => h) ⟨rfl, rfl, by rw [frontR, if_neg h, if_neg hb1, if_neg hb2, if_neg hb3, if_neg hb4, if_neg hb5, if_neg hb6]⟩
end Go.Proofs.YtonbigcdoejgcaaGreatDoor
namespace Go.Proofs.YtonbigcdoejgcaaGreatDoor
open Go.Chi
set_option maxRecDepth 10000
theorem frontR_len {s : ByteArray} {n p : Nat} (h : frontR s = .ok (n, p)) : 1 ≤ n ∧ n ≤ s.size ∧ p ≤ 32 := by
  have hr := rest1_size (s := s)
  unfold frontR at h
  split at h
  · cases h
  rename_i h0
  split at h
  · split at h
    · cases h
    · rename_i h2
      obtain ⟨m, hm, _, _⟩ := textR_len (rest1 s) 1024 (by simpa using h2)
      simp only [Except.ok.injEq, Prod.mk.injEq] at h
      omega
  split at h
  · split at h
    · cases h
    · split at h
      · cases h
      · rename_i h2 _
        obtain ⟨m, hm, _, _⟩ := textR_len (rest1 s) 32 (by simpa using h2)
        simp only [Except.ok.injEq, Prod.mk.injEq] at h
        omega
  split at h
  · split at h
    · cases h
    · split at h
      · cases h
      · rename_i h2 _
        obtain ⟨m, hm, _, _⟩ := numR_len (rest1 s) (by simpa using h2)
        simp only [Except.ok.injEq, Prod.mk.injEq] at h
        have := numR_pos (rest1 s)
        omega
  split at h
  · simp only [Except.ok.injEq, Prod.mk.injEq] at h; omega
  split at h
  · simp only [Except.ok.injEq, Prod.mk.injEq] at h; omega
  split at h
  · simp only [Except.ok.injEq, Prod.mk.injEq] at h; omega
  · cases h
def iter (f : Nat → Except Int Nat) : Nat → Nat → Except Int Nat
  | 0, x => .ok x
  | i + 1, x => match f x with
    | .error e => .error e
    | .ok y => iter f i y
def walkR (s : ByteArray) : Nat → Nat → Except Int Nat
  | 0, _ => .error 60
  | k + 1, a => match frontR (s.extract a s.size) with
    | .error e => .error e
    | .ok x => iter (walkR s k) x.2 (a + x.1)
theorem iter_len {f : Nat → Except Int Nat} {N : Nat} (hf : ∀ x y, x ≤ N → f x = .ok y → y ≤ N) : ∀ i x y, x ≤ N → iter f i x = .ok y → y ≤ N
  | 0, x, y, hx, h => by rw [iter, Except.ok.injEq] at h; omega
  | i + 1, x, y, hx, h => by
    rw [iter] at h
    split at h
    · cases h
    · rename_i z hz
      exact iter_len hf i z y (hf _ _ hx hz) h
theorem walkR_len (s : ByteArray) : ∀ k a y, a ≤ s.size → walkR s k a = .ok y → y ≤ s.size
  | 0, a, y, _, h => by cases h
  | k + 1, a, y, ha, h => by
    rw [walkR] at h
    split at h
    · cases h
    · rename_i x hx
      have := frontR_len (n := x.1) (p := x.2) hx
      have hz : (s.extract a s.size).size = s.size - a := by simp
      exact iter_len (walkR_len s k) _ _ _ (by omega) h
set_option maxRecDepth 10000 in
set_option maxHeartbeats 4000000 in
theorem walk_ok (M : Mem) (s : ByteArray) (hs : s.size < 4611686018427387904) : ∀ (k : Nat), k ≤ 16 → ∀ (L : HL) (a : Nat), a ≤ s.size → TrE Tryz.prog 94 [.string s, .int .i64 (a : Int), .int .i64 ((17 - k : Nat) : Int), fv 98] M L (walkK (walkR s k a) M L) := by
  intro k
  induction k with
  | zero =>
    intro _ L a ha
    refine TrE.intro 41 Tryz.func94 rfl rfl Tryz.call94 rfl ?_
    intro C hC hro
    repeat (first | refine zz ?_ | refine zx fun _ => ?_)
    refine run_cond rfl (fun h => ?_) (fun h => by cases h)
    repeat (first | refine zz ?_ | refine zx fun _ => ?_)
    refine runL_must rfl rfl rfl rfl (fun h => by cases h) (fun _ => ?_)
    exact runX_pan hC (fun _ h => h) ⟨rfl, rfl, rfl⟩
  | succ k ih =>
    intro hk L a ha
    refine TrE.intro 41 Tryz.func94 rfl rfl Tryz.call94 rfl ?_
    intro C hC hro
    repeat (first | refine zz ?_ | refine zx fun _ => ?_)
    refine run_cond rfl (fun h => ?_) (fun h => ?_)
    · exfalso
      have : (16 : Int) < ((17 - (k + 1) : Nat) : Int) := by simpa using h
      omega
    have hz : (s.extract a s.size).size = s.size - a := by simp
    repeat (first | refine zz ?_ | refine zx fun _ => ?_ | refine runL_q (qt_strLo tok rfl rfl rfl (fun _ => ha)) rfl rfl rfl ?_)
    refine runL_callE rfl (front_ok _ _ _ (by omega)) rfl rfl rfl ?_ ?_
    rotate_left
    · rintro ch _ _ ⟨rfl, rfl, hv⟩
      cases hf : frontR (s.extract a s.size) with
      | ok x => rw [hf] at hv; cases hv
      | error e =>
        rw [hf] at hv
        simp only [Ending.panicked.injEq] at hv
        subst hv
        exact runX_pan hC (fun _ h => h) ⟨rfl, rfl, by rw [walkR, hf]⟩
    rintro v _ _ ⟨rfl, rfl, hv⟩
    cases hf : frontR (s.extract a s.size) with
    | error e => rw [hf] at hv; cases hv
    | ok x =>
      rw [hf] at hv
      simp only [Ending.returned.injEq] at hv
      subst hv
      have hx := frontR_len (n := x.1) (p := x.2) hf
      have hw : walkR s (k + 1) a = iter (walkR s k) x.2 (a + x.1) := by rw [walkR, hf]
      have e1 : IntKind.i64.wrap ((a : Int) + (x.1 : Int)) = ((a + x.1 : Nat) : Int) := by
        rw [show (a : Int) + (x.1 : Int) = ((a + x.1 : Nat) : Int) by omega, wrap64_nat (by omega)]
      repeat (first | refine zz ?_ | refine zx fun _ => ?_)
      refine run_loopN (fun i σ1 M1 L1 => i ≤ x.2 ∧ ∃ y, y ≤ s.size ∧ iter (walkR s k) (x.2 - i) y = walkR s (k + 1) a ∧ σ1 = [(0, .string s), (1, .int .i64 (a : Int)), (2, .int .i64 ((17 - (k + 1) : Nat) : Int)), (3, fv 98), (11, .int .i64 (y : Int)), (25, .int .i64 (x.2 : Int)), (26, .int .i64 (i : Int))] ∧ M = M1 ∧ L = L1) x.2 [(0, .string s), (1, .int .i64 (a : Int)), (2, .int .i64 ((17 - (k + 1) : Nat) : Int)), (3, fv 98), (11, .int .i64 ((a + x.1 : Nat) : Int)), (25, .int .i64 (x.2 : Int)), (26, .int .i64 ((0 : Nat) : Int))] ?_ ⟨Nat.zero_le _, a + x.1, by omega, hw.symm, rfl, rfl, rfl⟩ (fun j _ _ _ h => h.1) ?_
      · exact ⟨rfl, rfl, rfl, rfl, by rw [← e1]; rfl, rfl, rfl, trivial⟩
      rintro i _ _ _ ⟨hi, y, hy, hit, rfl, rfl, rfl⟩ hnext
      repeat (first | refine zz ?_ | refine zx fun _ => ?_)
      refine run_cond rfl (fun h5 => ?_) (fun h5 => ?_)
      · have hik : i < x.2 := by simpa using h5
        rw [show x.2 - i = (x.2 - (i + 1)) + 1 by omega, iter] at hit
        repeat (first | refine zz ?_ | refine zx fun _ => ?_)
        refine runL_as 31 (.int .i64 ((17 - k : Nat) : Int)) rfl (by rw [wrap64_succ (by omega), show 17 - (k + 1) + 1 = 17 - k by omega]) ?_
        repeat (first | refine zz ?_ | refine zx fun _ => ?_)
        refine runL_callE rfl (ih (by omega) _ _ hy) rfl rfl rfl ?_ ?_
        rotate_left
        · rintro ch _ _ ⟨rfl, rfl, hv⟩
          cases hg : walkR s k y with
          | ok z => rw [hg] at hv; cases hv
          | error e =>
            rw [hg] at hv hit
            simp only [Ending.panicked.injEq] at hv
            subst hv
            exact runX_pan hC (fun _ h => h) ⟨rfl, rfl, by rw [← hit]⟩
        rintro v _ _ ⟨rfl, rfl, hv⟩
        cases hg : walkR s k y with
        | error e => rw [hg] at hv; cases hv
        | ok z =>
          rw [hg] at hv hit
          simp only [Ending.returned.injEq] at hv
          subst hv
          have hzz := walkR_len s k y z hy hg
          repeat (first | refine zz ?_ | refine zx fun _ => ?_)
          exact run_sub' (hnext _ _ _ ⟨hik, z, hzz, hit, rfl, rfl, rfl⟩) ⟨rfl, rfl, rfl, rfl, rfl, rfl, lk_succ rfl (by omega), trivial⟩
      · have hik : i = x.2 := by simp at h5; omega
        subst hik
        rw [Nat.sub_self, iter] at hit
        repeat (first | refine zz ?_ | refine zx fun _ => ?_ | (refine runL_op (st_callV rfl rfl (fun _ => tell_ok _ _ _ _ _)) rfl rfl rfl ?_; rintro _ _ _ ⟨rfl, rfl, rfl⟩))
        refine run_retX hro ?_
        exact runX_ret hC (rs := [.tmp 8]) rfl (resT rfl resN) (fun _ h => h) ⟨rfl, rfl, by rw [← hit]; rfl⟩
def checkR (s : ByteArray) : Int := if (readR (walkR s 16 0)).2 = 0 ∧ (readR (walkR s 16 0)).1 ≠ (s.size : Int) then 7 else (readR (walkR s 16 0)).2
theorem check_ok (M : Mem) (L : HL) (s : ByteArray) (hs : s.size < 4611686018427387904) : TrQ Tryz.prog 45 [.string s] M L (.int .i64 (checkR s)) := by
  refine Tr.intro 19 Tryz.func45 rfl rfl Tryz.call45 rfl ?_
  intro C hC hro
  repeat (first | refine zz ?_ | refine zx fun _ => ?_ | refine runL_q (qt_callF rfl (fun _ => read_ok _ _ s (walkR s 16 0) (fun L => walk_ok _ s hs 16 (by omega) L 0 (Nat.zero_le _)))) rfl rfl rfl ?_)
  refine run_cond rfl (fun h => ?_) (fun h => ?_)
  · have h1 : (readR (walkR s 16 0)).2 = 0 ∧ (readR (walkR s 16 0)).1 ≠ (s.size : Int) := by simpa using h
    repeat (first | refine zz ?_ | refine zx fun _ => ?_)
    exact run_ret hC (rs := [.tmp 2]) rfl (resT rfl resN) (fun _ h => h) ⟨by rw [checkR, if_pos h1]; rfl, rfl, rfl⟩
  · have h1 : ¬ ((readR (walkR s 16 0)).2 = 0 ∧ (readR (walkR s 16 0)).1 ≠ (s.size : Int)) := by simpa using h
    repeat (first | refine zz ?_ | refine zx fun _ => ?_)
    exact run_ret hC (rs := [.tmp 2]) rfl (resT rfl resN) (fun _ h => h) ⟨by rw [checkR, if_neg h1]; rfl, rfl, rfl⟩
end Go.Proofs.YtonbigcdoejgcaaGreatDoor
namespace Go.Chi
section
variable {κ : Type} [DecidableEq κ]
variable {P : Program} {kt : TypeId} {enc : κ → Value} {T : TT} {ro : Option Nat} {σ : Env} {δ : Den} {cur : Path} {M : Mem} {L : HL} {d : Option Nat} {op : Op} {ty : TypeId} {pos : String} {aft : Array Edge} {g : Option (Nat × Bool)} {v : Value}
end
end Go.Chi
namespace Go.Chi
def bytesI (ns : List Int) : ByteArray := ns.foldl (fun r n => r.push (UInt8.ofNat n.toNat)) ByteArray.empty
section
variable {P : Program} {T : TT} {ro : Option Nat} {σ : Env} {δ : Den} {cur : Path} {M : Mem} {L : HL} {d : Option Nat} {ty : TypeId} {pos : String} {aft : Array Edge} {g : Option (Nat × Bool)} {v : Value}
theorem _root_.Go.Chi.Qt.as {o : Oper} {v' : Value} (h : Qt P ro o σ δ cur M L v) (e : v = v') : Qt P ro o σ δ cur M L v' := e ▸ h
theorem qt_bytesStr (hT : TOk P T) {s t e : TypeId} {x : Operand} {b n c : Nat} (ns : List Int) (hs' : und T s = some (.slice e)) (he : und T e = some (.int .u8)) (hu : und T t = some .string) (hx : ev σ δ cur x = some (.slice (some ⟨b, 0, none⟩) n c)) (hc : Cells M L b 0 (ns.map (Value.int .u8))) (hl : ns.length = n) :
    Qt P ro ⟨d, .convert s t x, ty, pos, aft, g⟩ σ δ cur M L (.string (bytesI ns)) :=
  qt_of_run (semAt_of (by intro c e; cases e)) fun a w hs hcur hp => by
    have h1 := run_loadCells (P := P) hp (ns.map (Value.int .u8)) [] (by simpa using hc)
    have h2 : (loadCells ⟨b, 0, none⟩ n).run P w = .ok (ns.map (Value.int .u8)).toArray w := by
      simp only [List.length_nil, List.nil_append, List.length_map, hl] at h1
      exact h1
    have h3 := run_bytesToString w ⟨b, 0, none⟩ n c ns h2
    have h4 := run_convert_bytes_string (P := P) w s t e (some ⟨b, 0, none⟩) n c (und_ok hT hs') (und_ok hT he) (und_ok hT hu)
    simp only [execOp, ev_sound hs hcur hx, Sem.run_bind, h4, h3, Result.andThen_ok, Sem.run_pure]
    rfl
theorem qt_concat {t u : TypeId} {x y : Operand} {a b : ByteArray} (hx : ev σ δ cur x = some (.string a)) (hy : ev σ δ cur y = some (.string b)) (hsz : a.size + b.size < 4611686018427387904) :
    Qt P ro ⟨d, .binOp .add t x y u, ty, pos, aft, g⟩ σ δ cur M L (.string (a ++ b)) :=
  qt_of_run (semAt_of (by intro c e; cases e)) fun act w hs hcur hp => by
    have hn : ¬ ((a.size + b.size : Nat) : Int) > IntKind.i64.max := by
      have : IntKind.i64.max = 9223372036854775807 := by decide
      omega
    simp only [execOp, eqGuard, binOp, ev_sound hs hcur hx, ev_sound hs hcur hy, Op.stringOp, hn, if_false]
    simp
end
end Go.Chi
namespace Go.Proofs.YtonbigcdoejgcaaGreatDoor
open Go.Chi
set_option maxRecDepth 10000
theorem u8_nat {n : Nat} (h : n < 256) : IntKind.u8.wrap (n : Int) = n := by
  simp only [IntKind.wrap, IntKind.signed, IntKind.bits]
  simp
  omega
theorem bytesI_one (x : Int) : (bytesI [x]).size = 1 := rfl
theorem app_size (a b : ByteArray) : (a ++ b).size = a.size + b.size := ByteArray.size_append
def digN (v : Nat) : ByteArray := if v = 0 then ⟨#[]⟩ else digN (v / 256) ++ bytesI [((v % 256 : Nat) : Int)]
termination_by v
decreasing_by omega
theorem digN_zero : digN 0 = ⟨#[]⟩ := by rw [digN, if_pos rfl]
theorem digN_size : ∀ (k v : Nat), v < 256 ^ k → (digN v).size ≤ k
  | 0, v, h => by
    have : v = 0 := by simp at h; omega
    subst this
    rw [digN_zero]; exact Nat.le_refl _
  | k + 1, v, h => by
    by_cases h0 : v = 0
    · subst h0; rw [digN_zero]; exact Nat.zero_le _
    · rw [digN, if_neg h0, app_size, bytesI_one]
      have := digN_size k (v / 256) (by rw [Nat.pow_succ] at h; omega)
      omega
theorem digN_len {v : Nat} (h : v < 18446744073709551616) : (digN v).size ≤ 8 := digN_size 8 v (by simpa using h)
theorem digN_first : ∀ v : Nat, v ≠ 0 → ∃ b : UInt8, (digN v)[0]? = some b ∧ b ≠ 0 := by
  intro v
  induction v using Nat.strongRecOn with
  | _ v ih =>
    intro h0
    rw [digN, if_neg h0]
    by_cases h1 : v / 256 = 0
    · rw [h1, digN_zero]
      have hv : v % 256 = v := by omega
      rw [hv]
      refine ⟨UInt8.ofNat v, by simp [bytesI]; rfl, fun e => ?_⟩
      have := congrArg UInt8.toNat e
      simp at this
      omega
    · obtain ⟨b, hb, hb0⟩ := ih (v / 256) (by omega) h1
      refine ⟨b, ?_, hb0⟩
      have hlt : 0 < (digN (v / 256)).size := by
        apply Classical.byContradiction
        intro hn
        rw [getElem?_neg (digN (v / 256)) 0 hn] at hb
        cases hb
      rw [getElem?_pos (digN (v / 256)) 0 hlt] at hb
      rw [getElem?_pos (digN (v / 256) ++ bytesI [((v % 256 : Nat) : Int)]) 0 (by rw [app_size]; omega), ByteArray.getElem_append_left hlt]
      exact hb
set_option maxRecDepth 10000 in
set_option maxHeartbeats 4000000 in
theorem digits_ok (M : Mem) : ∀ v : Nat, v < 18446744073709551616 → ∀ L : HL, TrQ Tryz.prog 116 [.int .u64 (v : Int)] M L (.string (digN v)) := by
  intro v
  induction v using Nat.strongRecOn with
  | _ v ih =>
    intro hv L
    refine Tr.intro 14 Tryz.func116 rfl rfl Tryz.call116 rfl ?_
    intro C hC hro
    repeat (first | refine zz ?_ | refine zx fun _ => ?_)
    refine run_cond rfl (fun h => ?_) (fun h => ?_)
    · have h0 : v = 0 := by simp at h; omega
      subst h0
      repeat (first | refine zz ?_ | refine zx fun _ => ?_)
      exact run_ret hC (rs := [.tmp 2]) rfl (resT rfl resN) (fun _ h => h) ⟨by rw [digN_zero]; rfl, rfl, rfl⟩
    have h0 : v ≠ 0 := by simp at h; omega
    have hlen := digN_len (v := v / 256) (by omega)
    refine run_skip ?_
    refine run_seq ?_
    refine prn_start mixed ?_
    iterate 1 (first | refine dq ?_ | refine dgK ?_ | refine prn_gF rfl rfl rfl (by decide +kernel) rfl rfl rfl ?_ | refine dg ?_ | refine dz ?_ | refine dx fun _ => ?_)
    have e6 : Value.int .u64 (IntKind.u64.wrap ((v : Int).tdiv 256)) = .int .u64 ((v / 256 : Nat) : Int) := by rw [Int.tdiv_eq_ediv_of_nonneg (by omega), show (v : Int) / 256 = ((v / 256 : Nat) : Int) by omega, u64_nat (by omega)]
    have hd : digN v = digN (v / 256) ++ bytesI [((v % 256 : Nat) : Int)] := by rw [digN, if_neg h0]
    refine prn_q rfl ((qt_quo rfl rfl (fun _ => by decide)).as e6) (by decide +kernel) rfl rfl rfl ?_
    refine prn_q rfl (qt_callF rfl (fun _ => ih (v / 256) (by omega) (by omega) _)) (by decide +kernel) rfl rfl rfl ?_
    iterate 1 (first | refine dq ?_ | refine dgK ?_ | refine prn_gF rfl rfl rfl (by decide +kernel) rfl rfl rfl ?_ | refine dg ?_ | refine dz ?_ | refine dx fun _ => ?_)
    refine prn_q rfl (qt_rem rfl rfl (fun _ => by decide)) (by decide +kernel) rfl rfl rfl ?_
    refine pr_as 9 (.int .u64 ((v % 256 : Nat) : Int)) rfl (by rw [Int.tmod_eq_emod_of_nonneg (by omega)]; first | rfl | (congr 1; omega)) ?_
    iterate 1 (first | refine dq ?_ | refine dgK ?_ | refine prn_gF rfl rfl rfl (by decide +kernel) rfl rfl rfl ?_ | refine dg ?_ | refine dz ?_ | refine dx fun _ => ?_)
    refine pr_as 10 (.int .u8 ((v % 256 : Nat) : Int)) rfl (by rw [u8_nat (by omega)]) ?_
    refine prn_o1 rfl (st_buildSlice tok rfl rfl rfl rfl rfl rfl rfl) (by decide +kernel) rfl rfl rfl ?_
    rintro _ _ _ ⟨bs, rfl, rfl, rfl⟩
    refine ⟨by (repeat (first | exact trivial | refine And.intro (pend_q rfl rfl rfl (qt_pev tok rfl)) ?_ | refine And.intro (pend_q rfl rfl rfl (ql tok rfl)) ?_ | refine And.intro (pend_q rfl rfl rfl ((qt_quo rfl rfl (fun _ => by decide)).as e6)) ?_ | refine And.intro (pend_q rfl rfl rfl (qt_callF rfl (fun _ => ih (v / 256) (by omega) (by omega) _))) ?_)), ?_⟩
    refine prn_q rfl (qt_bytesStr tok [((v % 256 : Nat) : Int)] rfl rfl rfl rfl (cellsAll List.mem_cons_self) rfl) (by decide +kernel) rfl rfl rfl ?_
    refine prn_q rfl (qt_concat rfl rfl (by rw [bytesI_one]; omega)) (by decide +kernel) rfl rfl rfl ?_
    repeat (first | refine zz ?_ | refine zx fun _ => ?_ | refine dd ?_ | refine dz ?_ | refine dx fun _ => ?_)
    exact run_ret hC (rs := [.tmp 2]) rfl (resT rfl resN) (fun _ h => h.drop) ⟨by rw [hd]; rfl, rfl, rfl⟩
def numB (v : Nat) : ByteArray := if v < 248 then bytesI [IntKind.u8.wrap (v : Int)] else bytesI [IntKind.u8.wrap (IntKind.i64.wrap (247 + ((digN v).size : Int)))] ++ digN v
set_option maxRecDepth 10000 in
set_option maxHeartbeats 4000000 in
theorem num_ok (M : Mem) (L : HL) (v : Nat) (hv : v < 18446744073709551616) : TrQ Tryz.prog 112 [.int .u64 (v : Int)] M L (.string (numB v)) := by
  have hlen := digN_len hv
  refine Tr.intro 20 Tryz.func112 rfl rfl Tryz.call112 rfl ?_
  intro C hC hro
  repeat (first | refine zz ?_ | refine zx fun _ => ?_)
  refine run_cond rfl (fun h => ?_) (fun h => ?_)
  · have h0 : v < 248 := by simp at h; omega
    repeat (first | refine zz ?_ | refine zx fun _ => ?_ | refine runL_q (qt_bytesStr tok [IntKind.u8.wrap (v : Int)] rfl rfl rfl rfl (cellsAll List.mem_cons_self) rfl) rfl rfl rfl ?_)
    exact run_ret hC (rs := [.tmp 2]) rfl (resT rfl resN) (fun _ h => h.drop) ⟨by rw [numB, if_pos h0]; rfl, rfl, rfl⟩
  · have h0 : ¬ v < 248 := by simp at h; omega
    repeat (first | refine zz ?_ | refine zx fun _ => ?_ | refine runL_q (qt_callF rfl (fun _ => digits_ok _ v hv _)) rfl rfl rfl ?_ | refine runL_q (qt_bytesStr tok [IntKind.u8.wrap (IntKind.i64.wrap (247 + ((digN v).size : Int)))] rfl rfl rfl rfl (cellsAll List.mem_cons_self) rfl) rfl rfl rfl ?_ | refine runL_q (qt_concat rfl rfl (by rw [bytesI_one]; omega)) rfl rfl rfl ?_)
    exact run_ret hC (rs := [.tmp 2]) rfl (resT rfl resN) (fun _ h => h.drop) ⟨by rw [numB, if_neg h0]; rfl, rfl, rfl⟩
theorem numB_of {v n : Nat} {s : ByteArray} (h : numB v = s.extract 0 n) (hn : 2 ≤ n) (hs : n ≤ s.size) : 247 < v ∧ byte s 1 ≠ 0 := by
  have hsz := congrArg ByteArray.size h
  have hz : (s.extract 0 n).size = n := by simp; omega
  rw [hz] at hsz
  by_cases h0 : v < 248
  · rw [numB, if_pos h0, bytesI_one] at hsz
    omega
  · refine ⟨by omega, ?_⟩
    obtain ⟨b, hb, hb0⟩ := digN_first v (by omega)
    have hd : 0 < (digN v).size := by
      apply Classical.byContradiction
      intro hn
      rw [getElem?_neg (digN v) 0 hn] at hb
      cases hb
    rw [getElem?_pos (digN v) 0 hd, Option.some.injEq] at hb
    have h1 : (s.extract 0 n)[1]? = some b := by
      rw [← h, numB, if_neg h0, getElem?_pos (_ ++ digN v) 1 (by rw [app_size, bytesI_one]; omega), ByteArray.getElem_append_right (by rw [bytesI_one]; exact Nat.le_refl _)]
      simp only [bytesI_one, Nat.sub_self]
      rw [hb]
    have h2 : s[1]? = some b := by
      rw [getElem?_pos (s.extract 0 n) 1 (by omega)] at h1
      rw [getElem?_pos s 1 (by omega)]
      rw [← h1, ByteArray.getElem_extract]
    rw [byte, h2]
    intro e
    apply hb0
    have : b.toNat = 0 := by simpa using e
    exact UInt8.toNat_inj.1 this
end Go.Proofs.YtonbigcdoejgcaaGreatDoor
namespace Go.Proofs.YtonbigcdoejgcaaGreatDoor
open Go.Chi
set_option maxRecDepth 10000
def refV (s : ByteArray) : Nat → Int
  | 0 => 0
  | i + 1 => IntKind.u64.wrap (IntKind.u64.wrap (refV s i * 256) + IntKind.u64.wrap (byte s (i + 1)))
theorem u64_wrap (x : Int) : IntKind.u64.wrap x = x % 18446744073709551616 := by
  simp only [IntKind.wrap, IntKind.signed, IntKind.bits]
  simp
theorem or_add (x b : Int) (hb0 : 0 ≤ b) (hb : b < 256) : ior .u64 (ishl .u64 x 8) b = IntKind.u64.wrap (IntKind.u64.wrap (x * 256) + b) := by
  have e1 : ishl .u64 x 8 = IntKind.u64.wrap (x * 256) := by simp [ishl, IntKind.bits]
  rw [e1, u64_wrap (x * 256)]
  obtain ⟨q, hq⟩ : ∃ q : Nat, (x * 256) % 18446744073709551616 = ((2 ^ 8 * q : Nat) : Int) := ⟨(x % 72057594037927936).toNat, by omega⟩
  have hlt : (2 ^ 8 * q : Nat) < 18446744073709551616 := by omega
  obtain ⟨c, rfl⟩ : ∃ c : Nat, b = c := ⟨b.toNat, by omega⟩
  rw [hq, ior]
  congr 1
  have ho := Nat.two_pow_add_eq_or_of_lt (i := 8) (b := c) (by omega) q
  have h1 : (BitVec.ofInt 64 ((2 ^ 8 * q : Nat) : Int)).toNat = 2 ^ 8 * q := by
    rw [BitVec.toNat_ofInt]; omega
  have h2 : (BitVec.ofInt 64 (c : Int)).toNat = c := by
    rw [BitVec.toNat_ofInt]; omega
  show (((BitVec.ofInt 64 ((2 ^ 8 * q : Nat) : Int) ||| BitVec.ofInt 64 (c : Int)).toNat : Nat) : Int) = _
  rw [BitVec.toNat_or, h1, h2, ← ho]
  omega
theorem byte_rest (s : ByteArray) (i : Nat) : byte (rest1 s) i = byte s (i + 1) := by
  unfold byte rest1
  by_cases h : i + 1 < s.size
  · rw [getElem?_pos s _ h, getElem?_pos _ _ (by simp; omega), ByteArray.getElem_extract]
    simp [Nat.add_comm]
  · rw [getElem?_neg s _ h, getElem?_neg _ _ (by simp; omega)]
theorem refV_eq (s : ByteArray) : ∀ i, refV s i = numV (rest1 s) i
  | 0 => rfl
  | i + 1 => by
    have hb := byte_pos s (i + 1)
    have hw : IntKind.u64.wrap (byte s (i + 1)) = byte s (i + 1) := by rw [u64_wrap]; omega
    rw [refV, numV, byte_rest, hw, or_add _ _ hb.1 hb.2, refV_eq s i]
theorem refV_pos (s : ByteArray) (i : Nat) : 0 ≤ refV s i ∧ refV s i < 18446744073709551616 := by
  cases i with
  | zero => exact ⟨Int.le_refl _, show (0 : Int) < 18446744073709551616 by decide⟩
  | succ i => exact u64_pos .u64 rfl _
def refK (s : ByteArray) : Nat := (byte s 0 - 247).toNat
def refNum (s : ByteArray) : Int × Int × Int :=
  if s.size = 0 then (0, 0, 6) else
  if byte s 0 < 248 then (byte s 0, 1, 0) else
  if s.size < refK s + 1 then (0, 0, 6) else
  if numB (refV s (refK s)).toNat ≠ s.extract 0 (refK s + 1) then (0, 0, 7) else (refV s (refK s), ((refK s + 1 : Nat) : Int), 0)
theorem refNum_imp {s : ByteArray} (h : (refNum s).2.2 = 0) : numR s = refNum s := by
  have hb := byte_pos s 0
  unfold refNum at h ⊢
  split at h
  · cases h
  rename_i h0
  rw [if_neg h0]
  split at h
  · rename_i h1
    rw [numR, if_neg h0, if_pos (by omega), if_pos h1]
  rename_i h1
  rw [if_neg h1]
  split at h
  · cases h
  rename_i h2
  rw [if_neg h2]
  split at h
  · cases h
  rename_i h3
  rw [if_neg h3]
  have h3' : numB (refV s (refK s)).toNat = s.extract 0 (refK s + 1) := by simpa using h3
  have hk : (refK s : Int) = byte s 0 - 247 := by unfold refK; omega
  obtain ⟨h4, h5⟩ := numB_of h3' (by omega) (by omega)
  have hr := rest1_size (s := s)
  rw [numR, if_neg h0, if_neg (by omega), if_neg (by omega)]
  have hv := refV_eq s (refK s)
  have hz : (byte s 0 - 247).toNat = refK s := rfl
  rw [hz, ← hv, if_neg (by
    rintro (h6 | h6)
    · rw [byte_rest] at h6; exact h5 h6
    · omega)]
  congr 2
  omega
set_option maxRecDepth 10000 in
set_option maxHeartbeats 8000000 in
theorem refNum_ok (M : Mem) (L : HL) (s : ByteArray) : TrQ Tryz.prog 103 [.string s] M L (.tuple ⟨[.int .u64 (refNum s).1, .int .i64 (refNum s).2.1, .int .i64 (refNum s).2.2]⟩) := by
  refine Tr.intro 45 Tryz.func103 rfl rfl Tryz.call103 rfl ?_
  intro C hC hro
  repeat (first | refine zz ?_ | refine zx fun _ => ?_)
  refine run_cond rfl (fun h => ?_) (fun h => ?_)
  · repeat (first | refine zz ?_ | refine zx fun _ => ?_)
    exact run_ret hC (rs := [.tmp 2, .tmp 3, .tmp 4]) rfl (resT rfl (resT rfl (resT rfl resN))) (fun _ h => h) ⟨by rw [empty_beq, decide_eq_true_eq] at h; rw [refNum, if_pos h]; rfl, rfl, rfl⟩
  rw [empty_beq, decide_eq_false_iff_not] at h
  have hs : 0 < s.size := by omega
  obtain ⟨b0, hb0, hb0'⟩ := byte_at hs
  repeat (first | refine zz ?_ | refine zx fun _ => ?_ | refine runL_q (qt_strIndex (n := 0) tok rfl rfl rfl (fun _ => hb0)) rfl rfl rfl ?_)
  refine run_cond rfl (fun h1 => ?_) (fun h1 => ?_)
  · have h2 : byte s 0 < 248 := by rw [hb0']; simpa using h1
    repeat (first | refine zz ?_ | refine zx fun _ => ?_ | refine runL_q (qt_strIndex (n := 0) tok rfl rfl rfl (fun _ => hb0)) rfl rfl rfl ?_)
    refine run_ret hC (rs := [.tmp 2, .tmp 3, .tmp 4]) rfl (resT rfl (resT rfl (resT rfl resN))) (fun _ h => h) ⟨?_, rfl, rfl⟩
    rw [refNum, if_neg h, if_pos h2, hb0', u64_byte]
    rfl
  have h2 : ¬ byte s 0 < 248 := by rw [hb0']; simpa using h1
  have hlt := b0.toNat_lt
  obtain ⟨k, hk⟩ : ∃ k : Nat, k = b0.toNat - 247 := ⟨_, rfl⟩
  have hk1 : refK s = k := by unfold refK; rw [hb0']; omega
  have hkv : IntKind.i64.wrap (IntKind.i64.wrap (1 + IntKind.i64.wrap (b0.toNat : Int)) - 247) = ((k + 1 : Nat) : Int) := by
    rw [wrap64_nat (by omega), show (1 : Int) + (b0.toNat : Int) = ((1 + b0.toNat : Nat) : Int) by omega, wrap64_nat (by omega), show ((1 + b0.toNat : Nat) : Int) - 247 = ((k + 1 : Nat) : Int) by omega, wrap64_nat (by omega)]
  repeat (first | refine zz ?_ | refine zx fun _ => ?_ | refine runL_q (qt_strIndex (n := 0) tok rfl rfl rfl (fun _ => hb0)) rfl rfl rfl ?_)
  refine run_cond rfl (fun h3 => ?_) (fun h3 => ?_)
  · rw [hkv] at h3
    have h4 : s.size < refK s + 1 := by rw [hk1]; simp at h3; omega
    repeat (first | refine zz ?_ | refine zx fun _ => ?_)
    refine run_ret hC (rs := [.tmp 2, .tmp 3, .tmp 4]) rfl (resT rfl (resT rfl (resT rfl resN))) (fun _ h => h) ⟨?_, rfl, rfl⟩
    rw [refNum, if_neg h, if_neg h2, if_pos h4]
    rfl
  rw [hkv] at h3
  have h4 : ¬ s.size < refK s + 1 := by rw [hk1]; simp at h3; omega
  rw [hk1] at h4
  refine run_as 5 (.int .i64 ((k + 1 : Nat) : Int)) rfl (by rw [hkv]) ?_
  repeat (first | refine zz ?_ | refine zx fun _ => ?_)
  refine run_loopN (fun i σ1 M1 L1 => i ≤ k ∧ σ1 = [(7, .int .i64 ((i + 1 : Nat) : Int)), (6, .int .u64 (refV s i)), (5, .int .i64 ((k + 1 : Nat) : Int)), (0, .string s)] ∧ M = M1 ∧ L = L1) k [(7, .int .i64 ((0 + 1 : Nat) : Int)), (6, .int .u64 0), (5, .int .i64 ((k + 1 : Nat) : Int)), (0, .string s)] ?_ ⟨Nat.zero_le _, rfl, rfl, rfl⟩ (fun j _ _ _ h => h.1) ?_
  · exact ⟨rfl, rfl, rfl, rfl, trivial⟩
  rintro i _ _ _ ⟨hi, rfl, rfl, rfl⟩ hnext
  repeat (first | refine zz ?_ | refine zx fun _ => ?_)
  refine run_cond rfl (fun h5 => ?_) (fun h5 => ?_)
  · have hik : i < k := by simp at h5; omega
    obtain ⟨b, hb, hb'⟩ := byte_at (s := s) (i := i + 1) (by omega)
    repeat (first | refine zz ?_ | refine zx fun _ => ?_ | refine runL_q (qt_strIndex (n := i + 1) tok rfl rfl rfl (fun _ => hb)) rfl rfl rfl ?_)
    exact run_sub' (hnext _ _ _ ⟨hik, rfl, rfl, rfl⟩) ⟨lk_succ rfl (by omega), by rw [refV, hb']; rfl, rfl, rfl, trivial⟩
  · have hik : i = k := by simp at h5; omega
    subst hik
    have hvp := refV_pos s i
    obtain ⟨v, hv⟩ : ∃ v : Nat, refV s i = v := ⟨(refV s i).toNat, by omega⟩
    refine run_as 6 (.int .u64 (v : Int)) rfl (by rw [hv]) ?_
    repeat (first | refine zz ?_ | refine zx fun _ => ?_ | refine dd ?_ | refine dz ?_ | refine dx fun _ => ?_ | refine prn_q rfl (qt_callF rfl (fun _ => num_ok _ _ v (by omega))) (by decide +kernel) rfl rfl rfl ?_ | refine prn_q rfl (qt_strHi (n := i + 1) tok rfl rfl rfl (fun _ => by omega)) (by decide +kernel) rfl rfl rfl ?_)
    refine run_cond rfl (fun h6 => ?_) (fun h6 => ?_)
    · repeat (first | refine zz ?_ | refine zx fun _ => ?_)
      refine run_ret hC (rs := [.tmp 2, .tmp 3, .tmp 4]) rfl (resT rfl (resT rfl (resT rfl resN))) (fun _ h => h) ⟨?_, rfl, rfl⟩
      have h7 : numB (refV s (refK s)).toNat ≠ s.extract 0 (refK s + 1) := by rw [hk1, hv, Int.toNat_natCast]; rw [bytes_beq] at h6; simpa using h6
      rw [refNum, if_neg h, if_neg h2, if_neg (by rw [hk1]; exact h4), if_pos h7]
      rfl
    · repeat (first | refine zz ?_ | refine zx fun _ => ?_)
      refine run_ret hC (rs := [.tmp 2, .tmp 3, .tmp 4]) rfl (resT rfl (resT rfl (resT rfl resN))) (fun _ h => h) ⟨?_, rfl, rfl⟩
      have h7 : ¬ numB (refV s (refK s)).toNat ≠ s.extract 0 (refK s + 1) := by rw [hk1, hv, Int.toNat_natCast]; rw [bytes_beq] at h6; simpa using h6
      rw [refNum, if_neg h, if_neg h2, if_neg (by rw [hk1]; exact h4), if_neg h7, hk1, hv]
      rfl
def refText (s : ByteArray) (most : Nat) : ByteArray × Int × Int :=
  if (refNum s).2.2 ≠ 0 then (⟨#[]⟩, 0, (refNum s).2.2) else
  if (most : Int) < (refNum s).1 then (⟨#[]⟩, 0, 5) else
  if (s.size : Int) - (refNum s).2.1 < (refNum s).1 then (⟨#[]⟩, 0, 6) else
  (s.extract (refNum s).2.1.toNat ((refNum s).2.1 + (refNum s).1).toNat, (refNum s).2.1 + (refNum s).1, 0)
theorem refText_imp {s : ByteArray} {most : Nat} (h : (refText s most).2.2 = 0) : textR s most = refText s most := by
  have h0 : (refNum s).2.2 = 0 := by
    apply Classical.byContradiction
    intro h0
    rw [refText, if_pos h0] at h
    exact h0 h
  rw [textR, refNum_imp h0, refText]
set_option maxRecDepth 10000 in
set_option maxHeartbeats 8000000 in
theorem refText_ok (M : Mem) (L : HL) (s : ByteArray) (most : Nat) (hs : s.size < 4611686018427387904) (hm : most < 4611686018427387904) : TrQ Tryz.prog 82 [.string s, .int .i64 (most : Int)] M L (.tuple ⟨[.string (refText s most).1, .int .i64 (refText s most).2.1, .int .i64 (refText s most).2.2]⟩) := by
  refine Tr.intro 53 Tryz.func82 rfl rfl Tryz.call82 rfl ?_
  intro C hC hro
  repeat (first | refine zz ?_ | refine zx fun _ => ?_ | refine runL_q (qt_callF rfl (fun _ => refNum_ok _ _ s)) rfl rfl rfl ?_)
  refine run_cond rfl (fun h => ?_) (fun h => ?_)
  · have h0 : (refNum s).2.2 ≠ 0 := by simpa using h
    repeat (first | refine zz ?_ | refine zx fun _ => ?_)
    exact run_ret hC (rs := [.tmp 4, .tmp 5, .tmp 6]) rfl (resT rfl (resT rfl (resT rfl resN))) (fun _ h => h) ⟨by rw [refText, if_pos h0]; rfl, rfl, rfl⟩
  have h0 : (refNum s).2.2 = 0 := by simpa using h
  have himp := refNum_imp h0
  obtain ⟨n, hn, hn1, hn2⟩ := numR_len s (by rw [himp]; exact h0)
  have hv0 := numR_pos s
  rw [himp] at hn hv0
  have e1 : IntKind.u64.wrap (most : Int) = (most : Int) := u64_nat (by omega)
  repeat (first | refine zz ?_ | refine zx fun _ => ?_)
  refine run_cond rfl (fun h1 => ?_) (fun h1 => ?_)
  · rw [e1] at h1
    have h2 : (most : Int) < (refNum s).1 := by
      simp at h1
      omega
    repeat (first | refine zz ?_ | refine zx fun _ => ?_)
    exact run_ret hC (rs := [.tmp 4, .tmp 5, .tmp 6]) rfl (resT rfl (resT rfl (resT rfl resN))) (fun _ h => h) ⟨by rw [refText, if_neg (by simp [h0]), if_pos h2]; rfl, rfl, rfl⟩
  rw [e1] at h1
  have h2 : ¬ (most : Int) < (refNum s).1 := by
    simp at h1
    omega
  have e2 : IntKind.u64.wrap (IntKind.i64.wrap ((s.size : Int) - (refNum s).2.1)) = (s.size : Int) - (refNum s).2.1 := by
    rw [hn, show (s.size : Int) - (n : Int) = ((s.size - n : Nat) : Int) by omega, wrap64_nat (by omega), u64_nat (by omega)]
  obtain ⟨v, hv⟩ : ∃ v : Nat, (refNum s).1 = v := ⟨(refNum s).1.toNat, by omega⟩
  repeat (first | refine zz ?_ | refine zx fun _ => ?_)
  refine run_cond rfl (fun h3 => ?_) (fun h3 => ?_)
  · have h4 : (s.size : Int) - (refNum s).2.1 < (refNum s).1 := by
      have := of_decide_eq_true h3
      rwa [e2] at this
    repeat (first | refine zz ?_ | refine zx fun _ => ?_)
    exact run_ret hC (rs := [.tmp 4, .tmp 5, .tmp 6]) rfl (resT rfl (resT rfl (resT rfl resN))) (fun _ h => h) ⟨by rw [refText, if_neg (by simp [h0]), if_neg h2, if_pos h4]; rfl, rfl, rfl⟩
  have h4 : ¬ (s.size : Int) - (refNum s).2.1 < (refNum s).1 := by
    have := of_decide_eq_false h3
    rwa [e2] at this
  refine run_as 8 (.int .i64 (n : Int)) rfl (by rw [hn]) ?_
  refine run_as 7 (.int .u64 (v : Int)) rfl (by rw [hv]) ?_
  have e3 : IntKind.i64.wrap ((n : Int) + IntKind.i64.wrap (v : Int)) = ((n + v : Nat) : Int) := by
    rw [wrap64_nat (by omega), show (n : Int) + (v : Int) = ((n + v : Nat) : Int) by omega, wrap64_nat (by omega)]
  repeat (first | refine zz ?_ | refine zx fun _ => ?_)
  refine runL_as 47 (.int .i64 ((n + v : Nat) : Int)) rfl (by rw [e3]) ?_
  repeat (first | refine zz ?_ | refine zx fun _ => ?_ | refine runL_q (qt_strMid tok rfl rfl rfl rfl (fun _ => ⟨by omega, by omega⟩)) rfl rfl rfl ?_)
  refine run_ret hC (rs := [.tmp 4, .tmp 5, .tmp 6]) rfl (resT rfl (resT rfl (resT rfl resN))) (fun _ h => h) ⟨?_, rfl, rfl⟩
  rw [refText, if_neg (by simp [h0]), if_neg h2, if_neg h4, e3, hn, hv, show ((n : Int) + (v : Int)).toNat = n + v by omega, Int.toNat_natCast, show (n : Int) + (v : Int) = ((n + v : Nat) : Int) by omega]
  rfl
end Go.Proofs.YtonbigcdoejgcaaGreatDoor
namespace Go.Proofs.YtonbigcdoejgcaaGreatDoor
open Go.Chi
set_option maxRecDepth 10000
def nameB (c : Int) : Bool := (((decide (c ≥ 97) && decide (c ≤ 122)) || (decide (c ≥ 48) && decide (c ≤ 57))) || c == 47 || c == 46) || c == 45
def nameR (s : ByteArray) : Bool := ((List.range s.size).all fun i => nameB (byte s i)) && decide (s.size ≠ 0)
set_option maxRecDepth 10000 in
set_option maxHeartbeats 4000000 in
theorem name_ok (M : Mem) (L : HL) (s : ByteArray) (hs : s.size < 4611686018427387904) : TrQ Tryz.prog 115 [.string s] M L (.bool (nameR s)) := by
  refine Tr.intro 43 Tryz.func115 rfl rfl Tryz.call115 rfl ?_
  intro C hC hro
  repeat (first | refine zz ?_ | refine zx fun _ => ?_)
  refine run_loopN (fun i σ1 M1 L1 => i ≤ s.size ∧ ((List.range i).all fun i => nameB (byte s i)) = true ∧ σ1 = [(3, .int .i64 (i : Int)), (0, .string s)] ∧ M = M1 ∧ L = L1) s.size [(3, .int .i64 ((0 : Nat) : Int)), (0, .string s)] ?_ ⟨Nat.zero_le _, rfl, rfl, rfl, rfl⟩ (fun j _ _ _ h => h.1) ?_
  · exact ⟨rfl, rfl, trivial⟩
  rintro i _ _ _ ⟨hi, hall, rfl, rfl, rfl⟩ hnext
  repeat (first | refine zz ?_ | refine zx fun _ => ?_)
  refine run_cond rfl (fun h => ?_) (fun h => ?_)
  · have hlt : i < s.size := by simpa using h
    obtain ⟨b, hb, hb'⟩ := byte_at hlt
    repeat (first | refine zz ?_ | refine zx fun _ => ?_ | refine runL_q (qt_strIndex tok rfl rfl rfl (fun _ => hb)) rfl rfl rfl ?_)
    refine run_cond rfl (fun h2 => ?_) (fun h2 => ?_)
    · have h3 : nameB (byte s i) = false := by
        rw [hb']
        have h2' : (!nameB (b.toNat : Int)) = true := h2
        simpa using h2'
      repeat (first | refine zz ?_ | refine zx fun _ => ?_)
      refine run_ret hC (rs := [.tmp 2]) rfl (resT rfl resN) (fun _ h => h) ⟨?_, rfl, rfl⟩
      have : ((List.range s.size).all fun i => nameB (byte s i)) = false := by
        rw [List.all_eq_false]
        exact ⟨i, List.mem_range.2 hlt, by simp [h3]⟩
      rw [nameR, this]; rfl
    · have h3 : nameB (byte s i) = true := by
        rw [hb']
        have h2' : (!nameB (b.toNat : Int)) = false := h2
        simpa using h2'
      repeat (first | refine zz ?_ | refine zx fun _ => ?_)
      exact run_sub' (hnext _ _ _ ⟨hlt, by rw [List.range_succ, List.all_append, hall]; simp [h3], rfl, rfl, rfl⟩) ⟨lk_succ rfl (by omega), rfl, trivial⟩
  · have hge : i = s.size := by simp at h; omega
    subst hge
    repeat (first | refine zz ?_ | refine zx fun _ => ?_)
    refine run_ret hC (rs := [.tmp 2]) rfl (resT rfl resN) (fun _ h => h) ⟨?_, rfl, rfl⟩
    rw [nameR, hall, empty_beq]
    by_cases h0 : s.size = 0
    · simp [h0]; rfl
    · simp [h0]; rfl
theorem abc_all : ∀ n : Fin 256, nameB ((n.val : Nat) : Int) = true → n.val < 128 ∧ inAbc ((n.val : Nat) : Int) = true := by decide +kernel
theorem nameB_imp {b : UInt8} (h : nameB (b.toNat : Int) = true) : b.toNat < 128 ∧ inAbc (b.toNat : Int) = true := abc_all ⟨b.toNat, b.toNat_lt⟩ h
theorem nameAt {s : ByteArray} (h : ((List.range s.size).all fun i => nameB (byte s i)) = true) : ∀ f p, namedAt s f p = true
  | 0, _ => rfl
  | f + 1, p => by
    rw [namedAt]
    split
    · rename_i hp
      have hb := List.all_eq_true.1 h p (List.mem_range.2 hp)
      have hx : byte s p = ((s[p]'hp).toNat : Int) := by rw [byte, getElem?_pos s p hp]; rfl
      rw [hx] at hb
      obtain ⟨h1, h2⟩ := nameB_imp hb
      rw [decode_ascii s p hp h1, h2]
      exact nameAt h f _
    · rfl
theorem nameR_imp {s : ByteArray} (h : nameR s = true) : namedR s = true := by
  rw [nameR, Bool.and_eq_true] at h
  rw [namedR, nameAt h.1, h.2]; rfl
def headR (s : ByteArray) : Int × Int × Int :=
  if s.size = 0 then (0, 0, 6) else
  if byte s 0 = 100 then (IntKind.i64.wrap (1 + (refText (rest1 s) 1024).2.1), 0, (refText (rest1 s) 1024).2.2) else
  if byte s 0 = 97 then (if (refText (rest1 s) 32).2.2 = 0 ∧ nameR (refText (rest1 s) 32).1 = false then (0, 0, 7) else (IntKind.i64.wrap (1 + (refText (rest1 s) 32).2.1), 0, (refText (rest1 s) 32).2.2)) else
  if byte s 0 = 114 then (if (refNum (rest1 s)).2.2 = 0 ∧ 32 < (refNum (rest1 s)).1 then (0, 0, 5) else (IntKind.i64.wrap (1 + (refNum (rest1 s)).2.1), IntKind.i64.wrap (refNum (rest1 s)).1, (refNum (rest1 s)).2.2)) else
  if byte s 0 = 104 then (1, 1, 0) else
  if byte s 0 = 109 then (1, 2, 0) else
  if byte s 0 = 115 then (1, 3, 0) else (0, 0, 7)
theorem headR_imp {s : ByteArray} (hs : s.size < 4611686018427387904) (h : (headR s).2.2 = 0) : ∃ n p : Nat, headR s = ((n : Int), (p : Int), 0) ∧ frontR s = .ok (n, p) := by
  have hr := rest1_size (s := s)
  unfold headR at h ⊢
  unfold frontR
  split at h
  · cases h
  rename_i h0
  rw [if_neg h0, if_neg h0]
  split at h
  · rename_i h1
    rw [if_pos h1, if_pos h1]
    have hi := refText_imp h
    obtain ⟨m, hm, _, _⟩ := textR_len (rest1 s) 1024 (by rw [hi]; exact h)
    rw [hi] at hm ⊢
    rw [h, hm, one_wrap (by omega)]
    exact ⟨1 + m, 0, rfl, by simp; omega⟩
  rename_i h1
  rw [if_neg h1, if_neg h1]
  split at h
  · rename_i h2
    rw [if_pos h2, if_pos h2]
    split at h
    · cases h
    rename_i h3
    have hi := refText_imp h
    obtain ⟨m, hm, _, _⟩ := textR_len (rest1 s) 32 (by rw [hi]; exact h)
    have h4 : nameR (refText (rest1 s) 32).1 = true := by
      cases e : nameR (refText (rest1 s) 32).1 with
      | true => rfl
      | false => exact absurd ⟨h, e⟩ h3
    have h5 := nameR_imp h4
    rw [if_neg h3]
    rw [hi] at hm ⊢
    rw [h5, h, hm, one_wrap (by omega)]
    exact ⟨1 + m, 0, rfl, by simp; omega⟩
  rename_i h2
  rw [if_neg h2, if_neg h2]
  split at h
  · rename_i h3
    rw [if_pos h3, if_pos h3]
    split at h
    · cases h
    rename_i h4
    have hi := refNum_imp h
    obtain ⟨m, hm, _, _⟩ := numR_len (rest1 s) (by rw [hi]; exact h)
    have hv0 := numR_pos (rest1 s)
    rw [if_neg h4]
    rw [hi] at hm hv0 ⊢
    have h5 : ¬ 32 < (refNum (rest1 s)).1 := fun h5 => h4 ⟨h, h5⟩
    obtain ⟨v, hv⟩ : ∃ v : Nat, (refNum (rest1 s)).1 = v := ⟨(refNum (rest1 s)).1.toNat, by omega⟩
    rw [h, hm, hv, one_wrap (by omega), wrap64_nat (by omega)]
    rw [hv] at h5
    exact ⟨1 + m, v, rfl, by simp [h5]; omega⟩
  rename_i h3
  rw [if_neg h3, if_neg h3]
  split at h
  · rename_i h4; rw [if_pos h4, if_pos h4]; exact ⟨1, 1, rfl, rfl⟩
  rename_i h4
  rw [if_neg h4, if_neg h4]
  split at h
  · rename_i h5; rw [if_pos h5, if_pos h5]; exact ⟨1, 2, rfl, rfl⟩
  rename_i h5
  rw [if_neg h5, if_neg h5]
  split at h
  · rename_i h6; rw [if_pos h6, if_pos h6]; exact ⟨1, 3, rfl, rfl⟩
  · cases h
theorem refText_size (s : ByteArray) (most : Nat) : (refText s most).1.size ≤ s.size := by
  unfold refText
  repeat' split
  all_goals first | exact Nat.zero_le _ | (simp; omega)
set_option maxRecDepth 10000 in
set_option maxHeartbeats 8000000 in
theorem head_ok (M : Mem) (L : HL) (s : ByteArray) (hs : s.size < 4611686018427387904) : TrQ Tryz.prog 110 [.string s] M L (.tuple ⟨[.int .i64 (headR s).1, .int .i64 (headR s).2.1, .int .i64 (headR s).2.2]⟩) := by
  refine Tr.intro 76 Tryz.func110 rfl rfl Tryz.call110 rfl ?_
  intro C hC hro
  repeat (first | refine zz ?_ | refine zx fun _ => ?_)
  refine run_cond rfl (fun h => ?_) (fun h => ?_)
  · repeat (first | refine zz ?_ | refine zx fun _ => ?_)
    have h0 : s.size = 0 := by have := eq_of_beq h; omega
    exact run_ret hC (rs := [.tmp 2, .tmp 3, .tmp 4]) rfl (resT rfl (resT rfl (resT rfl resN))) (fun _ h => h) ⟨by rw [headR, if_pos h0]; rfl, rfl, rfl⟩
  have h : ¬ s.size = 0 := by intro e; rw [e] at h; cases h
  have hp : 0 < s.size := by omega
  obtain ⟨b0, hb0, hb0'⟩ := byte_at hp
  have hr : (rest1 s).size < 4611686018427387904 := by rw [rest1_size]; omega
  repeat (first | refine zz ?_ | refine zx fun _ => ?_ | refine runL_q (qt_strIndex (n := 0) tok rfl rfl rfl (fun _ => hb0)) rfl rfl rfl ?_)
  refine run_cond rfl (fun h1 => ?_) (fun h1 => ?_)
  · have hb1 : byte s 0 = 100 := byte_eq hb0' h1
    repeat (first | refine zz ?_ | refine zx fun _ => ?_ | refine runL_q (qt_strLo (n := 1) tok rfl rfl rfl (fun _ => hp)) rfl rfl rfl ?_ | refine runL_q (qt_callF rfl (fun _ => refText_ok _ _ (rest1 s) 1024 hr (by decide))) rfl rfl rfl ?_)
    exact run_ret hC (rs := [.tmp 2, .tmp 3, .tmp 4]) rfl (resT rfl (resT rfl (resT rfl resN))) (fun _ h => h) ⟨by rw [headR, if_neg h, if_pos hb1]; rfl, rfl, rfl⟩
  have hb1 : byte s 0 ≠ 100 := byte_eq hb0' h1
  repeat (first | refine zz ?_ | refine zx fun _ => ?_)
  refine run_cond rfl (fun h1 => ?_) (fun h1 => ?_)
  · have hb2 : byte s 0 = 97 := byte_eq hb0' h1
    have hts := refText_size (rest1 s) 32
    repeat (first | refine zz ?_ | refine zx fun _ => ?_ | refine runL_q (qt_strLo (n := 1) tok rfl rfl rfl (fun _ => hp)) rfl rfl rfl ?_ | refine runL_q (qt_callF rfl (fun _ => refText_ok _ _ (rest1 s) 32 hr (by decide))) rfl rfl rfl ?_ | refine runL_g rfl rfl (qt_callF rfl (fun _ => name_ok _ _ _ (by omega))) rfl rfl rfl rfl rfl ?_)
    refine run_cond rfl (fun h3 => ?_) (fun h3 => ?_)
    · have h4 : (refText (rest1 s) 32).2.2 = 0 ∧ nameR (refText (rest1 s) 32).1 = false := by simpa using h3
      repeat (first | refine zz ?_ | refine zx fun _ => ?_)
      exact run_ret hC (rs := [.tmp 2, .tmp 3, .tmp 4]) rfl (resT rfl (resT rfl (resT rfl resN))) (fun _ h => h) ⟨by rw [headR, if_neg h, if_neg hb1, if_pos hb2, if_pos h4]; rfl, rfl, rfl⟩
    · have h4 : ¬ ((refText (rest1 s) 32).2.2 = 0 ∧ nameR (refText (rest1 s) 32).1 = false) := by simpa using h3
      repeat (first | refine zz ?_ | refine zx fun _ => ?_)
      exact run_ret hC (rs := [.tmp 2, .tmp 3, .tmp 4]) rfl (resT rfl (resT rfl (resT rfl resN))) (fun _ h => h) ⟨by rw [headR, if_neg h, if_neg hb1, if_pos hb2, if_neg h4]; rfl, rfl, rfl⟩
  have hb2 : byte s 0 ≠ 97 := byte_eq hb0' h1
  repeat (first | refine zz ?_ | refine zx fun _ => ?_)
  refine run_cond rfl (fun h1 => ?_) (fun h1 => ?_)
  · have hb3 : byte s 0 = 114 := byte_eq hb0' h1
    repeat (first | refine zz ?_ | refine zx fun _ => ?_ | refine runL_q (qt_strLo (n := 1) tok rfl rfl rfl (fun _ => hp)) rfl rfl rfl ?_ | refine runL_q (qt_callF rfl (fun _ => refNum_ok _ _ (rest1 s))) rfl rfl rfl ?_)
    refine run_cond rfl (fun h3 => ?_) (fun h3 => ?_)
    · have h4 : (refNum (rest1 s)).2.2 = 0 ∧ 32 < (refNum (rest1 s)).1 := by simpa using h3
      repeat (first | refine zz ?_ | refine zx fun _ => ?_)
      exact run_ret hC (rs := [.tmp 2, .tmp 3, .tmp 4]) rfl (resT rfl (resT rfl (resT rfl resN))) (fun _ h => h) ⟨by rw [headR, if_neg h, if_neg hb1, if_neg hb2, if_pos hb3, if_pos h4]; rfl, rfl, rfl⟩
    · have h4 : ¬ ((refNum (rest1 s)).2.2 = 0 ∧ 32 < (refNum (rest1 s)).1) := by simpa using h3
      repeat (first | refine zz ?_ | refine zx fun _ => ?_)
      exact run_ret hC (rs := [.tmp 2, .tmp 3, .tmp 4]) rfl (resT rfl (resT rfl (resT rfl resN))) (fun _ h => h) ⟨by rw [headR, if_neg h, if_neg hb1, if_neg hb2, if_pos hb3, if_neg h4]; rfl, rfl, rfl⟩
  have hb3 : byte s 0 ≠ 114 := byte_eq hb0' h1
  repeat (first | refine zz ?_ | refine zx fun _ => ?_)
  refine run_cond rfl (fun h1 => ?_) (fun h1 => ?_)
  · have hb4 : byte s 0 = 104 := byte_eq hb0' h1
    repeat (first | refine zz ?_ | refine zx fun _ => ?_)
    exact run_ret hC (rs := [.tmp 2, .tmp 3, .tmp 4]) rfl (resT rfl (resT rfl (resT rfl resN))) (fun _ h => h) ⟨by rw [headR, if_neg h, if_neg hb1, if_neg hb2, if_neg hb3, if_pos hb4]; rfl, rfl, rfl⟩
  have hb4 : byte s 0 ≠ 104 := byte_eq hb0' h1
  repeat (first | refine zz ?_ | refine zx fun _ => ?_)
  refine run_cond rfl (fun h1 => ?_) (fun h1 => ?_)
  · have hb5 : byte s 0 = 109 := byte_eq hb0' h1
    repeat (first | refine zz ?_ | refine zx fun _ => ?_)
    exact run_ret hC (rs := [.tmp 2, .tmp 3, .tmp 4]) rfl (resT rfl (resT rfl (resT rfl resN))) (fun _ h => h) ⟨by rw [headR, if_neg h, if_neg hb1, if_neg hb2, if_neg hb3, if_neg hb4, if_pos hb5]; rfl, rfl, rfl⟩
  have hb5 : byte s 0 ≠ 109 := byte_eq hb0' h1
  repeat (first | refine zz ?_ | refine zx fun _ => ?_)
  refine run_cond rfl (fun h1 => ?_) (fun h1 => ?_)
  · have hb6 : byte s 0 = 115 := byte_eq hb0' h1
    repeat (first | refine zz ?_ | refine zx fun _ => ?_)
    exact run_ret hC (rs := [.tmp 2, .tmp 3, .tmp 4]) rfl (resT rfl (resT rfl (resT rfl resN))) (fun _ h => h) ⟨by rw [headR, if_neg h, if_neg hb1, if_neg hb2, if_neg hb3, if_neg hb4, if_neg hb5, if_pos hb6]; rfl, rfl, rfl⟩
  have hb6 : byte s 0 ≠ 115 := byte_eq hb0' h1
  repeat (first | refine zz ?_ | refine zx fun _ => ?_)
  exact run_ret hC (rs := [.tmp 2, .tmp 3, .tmp 4]) rfl (resT rfl (resT rfl (resT rfl resN))) (fun _ h => h) ⟨by rw [headR, if_neg h, if_neg hb1, if_neg hb2, if_neg hb3, if_neg hb4, if_neg hb5, if_neg hb6]; rfl, rfl, rfl⟩
end Go.Proofs.YtonbigcdoejgcaaGreatDoor
namespace Go.Proofs.YtonbigcdoejgcaaGreatDoor
open Go.Chi
set_option maxRecDepth 10000
def rloop (f : ByteArray → Int × Int) (s : ByteArray) : Nat → Int → Int → Int × Int
  | 0, n, e => (n, e)
  | i + 1, n, e => if e ≠ 0 then (n, e) else rloop f s i (IntKind.i64.wrap (n + (f (s.extract n.toNat s.size)).1)) (f (s.extract n.toNat s.size)).2
def finR (r : Int × Int) : Int × Int := if r.2 ≠ 0 then (0, r.2) else (r.1, 0)
def refRead : Nat → ByteArray → Int × Int
  | 0, _ => (0, 60)
  | k + 1, s => finR (rloop (refRead k) s (headR s).2.1.toNat (headR s).1 (headR s).2.2)
theorem rloop_err (f : ByteArray → Int × Int) (s : ByteArray) {e : Int} (he : e ≠ 0) : ∀ i n, rloop f s i n e = (n, e)
  | 0, _ => rfl
  | i + 1, n => by rw [rloop, if_pos he]
theorem ext_ext (w : ByteArray) {a n : Nat} (_ha : a ≤ w.size) (_hn : a + n ≤ w.size) : (w.extract a w.size).extract n (w.extract a w.size).size = w.extract (a + n) w.size := by
  have hz : (w.extract a w.size).size = w.size - a := by simp
  rw [hz]
  apply ByteArray.ext
  apply Array.ext'
  simp only [ByteArray.data_extract, Array.toList_extract, List.extract_eq_take_drop]
  have hl : w.data.toList.length = w.size := by simp
  generalize w.data.toList = l at *
  rw [← hl] at _ha _hn ⊢
  rw [List.take_of_length_le (l := l.drop a) (by simp), List.drop_drop, Nat.sub_sub]
theorem refNum_err {s : ByteArray} (h : (refNum s).2.2 ≠ 0) : (refNum s).1 = 0 := by
  unfold refNum at h ⊢
  repeat' split
  all_goals first | rfl | (rename_i h1 h2 h3 h4; simp [h1, h2, h3, h4] at h) | (rename_i h1 h2; simp [h1, h2] at h)
theorem headR_p32 (s : ByteArray) : (headR s).2.1 ≤ 32 := by
  unfold headR
  repeat' split
  all_goals try (simp; done)
  rename_i h1
  simp only
  by_cases he : (refNum (rest1 s)).2.2 = 0
  · have hv0 := numR_pos (rest1 s)
    rw [refNum_imp he] at hv0
    have h5 : ¬ 32 < (refNum (rest1 s)).1 := fun h5 => h1 ⟨he, h5⟩
    obtain ⟨v, hv⟩ : ∃ v : Nat, (refNum (rest1 s)).1 = v := ⟨(refNum (rest1 s)).1.toNat, by omega⟩
    rw [hv, wrap64_nat (by omega)]
    omega
  · rw [refNum_err he]; decide
theorem refRead_imp : ∀ (k : Nat) (s : ByteArray), s.size < 4611686018427387904 → (refRead k s).2 = 0 → ∃ n : Nat, (refRead k s).1 = n ∧ n ≤ s.size ∧ ∀ (w : ByteArray) (a : Nat), a ≤ w.size → w.extract a w.size = s → walkR w k a = .ok (a + n)
  | 0, s, _, h => by cases h
  | k + 1, s, hs, h => by
    rw [refRead] at h ⊢
    have h1 : (headR s).2.2 = 0 := by
      apply Classical.byContradiction
      intro h1
      rw [rloop_err _ _ h1, finR, if_pos h1] at h
      exact h1 h
    obtain ⟨n0, p0, hh, hf⟩ := headR_imp hs h1
    have hfl := frontR_len hf
    rw [hh] at h ⊢
    simp only [Int.toNat_natCast] at h ⊢
    have key : ∀ (i n : Nat), n ≤ s.size → (rloop (refRead k) s i (n : Int) 0).2 = 0 → ∃ m : Nat, (rloop (refRead k) s i (n : Int) 0).1 = m ∧ m ≤ s.size ∧ ∀ (w : ByteArray) (a : Nat), a ≤ w.size → w.extract a w.size = s → iter (walkR w k) i (a + n) = .ok (a + m) := by
      intro i
      induction i with
      | zero => intro n hn _; exact ⟨n, rfl, hn, fun w a _ _ => rfl⟩
      | succ i ih =>
        intro n hn hr
        rw [rloop, if_neg (by simp), Int.toNat_natCast] at hr ⊢
        have he : (refRead k (s.extract n s.size)).2 = 0 := by
          apply Classical.byContradiction
          intro he
          rw [rloop_err _ _ he] at hr
          exact he hr
        have hz : (s.extract n s.size).size = s.size - n := by simp
        obtain ⟨m, hm, hml, hmw⟩ := refRead_imp k (s.extract n s.size) (by omega) he
        rw [he, hm, show (n : Int) + (m : Int) = ((n + m : Nat) : Int) by omega, wrap64_nat (by omega)] at hr ⊢
        obtain ⟨m2, hm2, hm2l, hm2w⟩ := ih (n + m) (by omega) hr
        refine ⟨m2, hm2, hm2l, fun w a ha hw => ?_⟩
        have hws : w.size - a = s.size := by rw [← hw]; simp
        have h5 := hmw w (a + n) (by omega) (by rw [← hw, ext_ext w ha (by omega)])
        rw [iter, h5]
        have h6 := hm2w w a ha hw
        rw [← h6]
        simp only [Nat.add_assoc]
    have h2 : (rloop (refRead k) s p0 (n0 : Int) 0).2 = 0 := by
      apply Classical.byContradiction
      intro h2
      rw [finR, if_pos h2] at h
      exact h2 h
    obtain ⟨m, hm, hml, hmw⟩ := key p0 n0 hfl.2.1 h2
    refine ⟨m, by rw [finR, if_neg (by simp [h2])]; exact hm, hml, fun w a ha hw => ?_⟩
    rw [walkR, hw, hf]
    exact hmw w a ha hw
set_option maxRecDepth 10000 in
set_option maxHeartbeats 8000000 in
theorem refread_ok (M : Mem) (k : Nat) : k ≤ 16 → ∀ (L : HL) (s : ByteArray), s.size < 4611686018427387904 → TrQ Tryz.prog 105 [.string s, .int .i64 ((17 - k : Nat) : Int)] M L (.tuple ⟨[.int .i64 (refRead k s).1, .int .i64 (refRead k s).2]⟩) := by
  induction k with
  | zero =>
    intro _ L s hs
    refine Tr.intro 44 Tryz.func105 rfl rfl Tryz.call105 rfl ?_
    intro C hC hro
    repeat (first | refine zz ?_ | refine zx fun _ => ?_)
    refine run_cond rfl (fun h => ?_) (fun h => by cases h)
    repeat (first | refine zz ?_ | refine zx fun _ => ?_)
    exact run_ret hC (rs := [.tmp 4, .tmp 5]) rfl (resT rfl (resT rfl resN)) (fun _ h => h) ⟨rfl, rfl, rfl⟩
  | succ k ih =>
    intro hk L s hs
    refine Tr.intro 44 Tryz.func105 rfl rfl Tryz.call105 rfl ?_
    intro C hC hro
    repeat (first | refine zz ?_ | refine zx fun _ => ?_)
    refine run_cond rfl (fun h => ?_) (fun h => ?_)
    · exfalso
      have : (16 : Int) < ((17 - (k + 1) : Nat) : Int) := by simpa using h
      omega
    repeat (first | refine zz ?_ | refine zx fun _ => ?_ | refine runL_q (qt_callF rfl (fun _ => head_ok _ _ s hs)) rfl rfl rfl ?_)
    have hdef : refRead (k + 1) s = finR (rloop (refRead k) s (headR s).2.1.toNat (headR s).1 (headR s).2.2) := rfl
    have hini : (headR s).2.2 = 0 → ∃ m : Nat, (headR s).1 = m ∧ m ≤ s.size := fun h1 => by
      obtain ⟨n0, p0, hh, hf⟩ := headR_imp hs h1
      exact ⟨n0, by rw [hh], (frontR_len hf).2.1⟩
    obtain ⟨pt, hpt⟩ : ∃ p : Nat, (headR s).2.1.toNat = p := ⟨_, rfl⟩
    have hpt' : (headR s).2.1 ≤ (pt : Int) := by omega
    have h32 := headR_p32 s
    rw [hpt] at hdef
    generalize (headR s).2.1 = Z at *
    generalize (headR s).2.2 = e0 at *
    generalize (headR s).1 = n0 at *
    refine run_loopN (fun i σ1 M1 L1 => i ≤ pt ∧ ∃ n e : Int, (e = 0 → ∃ m : Nat, n = m ∧ m ≤ s.size) ∧ rloop (refRead k) s (pt - i) n e = rloop (refRead k) s pt n0 e0 ∧ σ1 = [(0, .string s), (1, .int .i64 ((17 - (k + 1) : Nat) : Int)), (6, .int .i64 n), (7, .int .i64 Z), (8, .int .i64 e), (9, .int .i64 (i : Int))] ∧ M = M1 ∧ L = L1) pt [(0, .string s), (1, .int .i64 ((17 - (k + 1) : Nat) : Int)), (6, .int .i64 n0), (7, .int .i64 Z), (8, .int .i64 e0), (9, .int .i64 ((0 : Nat) : Int))] ?_ ⟨Nat.zero_le _, n0, e0, hini, rfl, rfl, rfl, rfl⟩ (fun j _ _ _ h => h.1) ?_
    · exact ⟨rfl, rfl, rfl, rfl, rfl, rfl, trivial⟩
    rintro i _ _ _ ⟨hi, n, e, hne, hit, rfl, rfl, rfl⟩ hnext
    have hfin : ∀ σ' : Env, (i = pt ∨ e ≠ 0) → lks σ' 6 = some (.int .i64 n) → lks σ' 8 = some (.int .i64 e) → rloop (refRead k) s pt n0 e0 = (n, e) := by
      intro σ' h1 _ _
      rw [← hit]
      rcases h1 with h1 | h1
      · rw [h1, Nat.sub_self]; rfl
      · exact rloop_err _ _ h1 _ _
    repeat (first | refine zz ?_ | refine zx fun _ => ?_)
    refine run_cond rfl (fun h5 => ?_) (fun h5 => ?_)
    · have h6 : (i : Int) < Z ∧ e = 0 := by simpa using h5
      obtain ⟨hiz, rfl⟩ := h6
      have hik : i < pt := by omega
      obtain ⟨m, rfl, hm⟩ := hne rfl
      have hz : (s.extract m s.size).size = s.size - m := by simp
      repeat (first | refine zz ?_ | refine zx fun _ => ?_ | refine runL_q (qt_strLo (n := m) tok rfl rfl rfl (fun _ => hm)) rfl rfl rfl ?_)
      refine runL_as 33 (.int .i64 ((17 - k : Nat) : Int)) rfl (by rw [wrap64_succ (by omega), show 17 - (k + 1) + 1 = 17 - k by omega]) ?_
      repeat (first | refine zz ?_ | refine zx fun _ => ?_ | refine runL_q (qt_callF rfl (fun _ => ih (by omega) _ (s.extract m s.size) (by omega))) rfl rfl rfl ?_)
      refine run_sub' (hnext _ _ _ ⟨hik, IntKind.i64.wrap ((m : Int) + (refRead k (s.extract m s.size)).1), (refRead k (s.extract m s.size)).2, fun he => ?_, ?_, rfl, rfl, rfl⟩) ⟨rfl, rfl, rfl, rfl, rfl, lk_succ rfl (by omega), trivial⟩
      · obtain ⟨m2, hm2, hm2l, _⟩ := refRead_imp k (s.extract m s.size) (by omega) he
        exact ⟨m + m2, by rw [hm2, show (m : Int) + (m2 : Int) = ((m + m2 : Nat) : Int) by omega, wrap64_nat (by omega)], by omega⟩
      · rw [← hit, show pt - i = (pt - (i + 1)) + 1 by omega, rloop, if_neg (by simp), Int.toNat_natCast]
    · have h6 : i = pt ∨ e ≠ 0 := by
        by_cases he : e = 0
        · left
          subst he
          have : Z ≤ (i : Int) := by simpa using h5
          omega
        · exact .inr he
      have hr := hfin [(6, .int .i64 n), (8, .int .i64 e)] h6 rfl rfl
      repeat (first | refine zz ?_ | refine zx fun _ => ?_)
      refine run_cond rfl (fun h7 => ?_) (fun h7 => ?_)
      · have h8 : e ≠ 0 := by simpa using h7
        repeat (first | refine zz ?_ | refine zx fun _ => ?_)
        exact run_ret hC (rs := [.tmp 4, .tmp 5]) rfl (resT rfl (resT rfl resN)) (fun _ h => h) ⟨by rw [hdef, hr, finR, if_pos h8]; rfl, rfl, rfl⟩
      · have h8 : e = 0 := by simpa using h7
        subst h8
        repeat (first | refine zz ?_ | refine zx fun _ => ?_)
        exact run_ret hC (rs := [.tmp 4, .tmp 5]) rfl (resT rfl (resT rfl resN)) (fun _ h => h) ⟨by rw [hdef, hr, finR, if_neg (by simp)]; rfl, rfl, rfl⟩
def topR (s : ByteArray) : Int × Int := if (refRead 16 s).2 ≠ 0 then (0, (refRead 16 s).2) else if 16384 < (refRead 16 s).1 then (0, 5) else ((refRead 16 s).1, 0)
theorem refRd_ok (M : Mem) (L : HL) (s : ByteArray) (hs : s.size < 4611686018427387904) : TrQ Tryz.prog 85 [.string s] M L (.tuple ⟨[.int .i64 (topR s).1, .int .i64 (topR s).2]⟩) := by
  refine Tr.intro 17 Tryz.func85 rfl rfl Tryz.call85 rfl ?_
  intro C hC hro
  repeat (first | refine zz ?_ | refine zx fun _ => ?_ | refine runL_q (qt_callF rfl (fun _ => refread_ok _ 16 (by omega) _ s hs)) rfl rfl rfl ?_)
  refine run_cond rfl (fun h => ?_) (fun h => ?_)
  · have h1 : (refRead 16 s).2 ≠ 0 := by simpa using h
    repeat (first | refine zz ?_ | refine zx fun _ => ?_)
    exact run_ret hC (rs := [.tmp 2, .tmp 3]) rfl (resT rfl (resT rfl resN)) (fun _ h => h) ⟨by rw [topR, if_pos h1]; rfl, rfl, rfl⟩
  have h1 : ¬ (refRead 16 s).2 ≠ 0 := by simpa using h
  repeat (first | refine zz ?_ | refine zx fun _ => ?_)
  refine run_cond rfl (fun h => ?_) (fun h => ?_)
  · have h2 : 16384 < (refRead 16 s).1 := by simpa using h
    repeat (first | refine zz ?_ | refine zx fun _ => ?_)
    exact run_ret hC (rs := [.tmp 2, .tmp 3]) rfl (resT rfl (resT rfl resN)) (fun _ h => h) ⟨by rw [topR, if_neg h1, if_pos h2]; rfl, rfl, rfl⟩
  · have h2 : ¬ 16384 < (refRead 16 s).1 := by simpa using h
    repeat (first | refine zz ?_ | refine zx fun _ => ?_)
    exact run_ret hC (rs := [.tmp 2, .tmp 3]) rfl (resT rfl (resT rfl resN)) (fun _ h => h) ⟨by rw [topR, if_neg h1, if_neg h2]; rfl, rfl, rfl⟩
def refCheck (s : ByteArray) : Int := if (topR s).2 ≠ 0 then (topR s).2 else if (topR s).1 ≠ (s.size : Int) then 7 else 0
theorem refCheck_ok (M : Mem) (L : HL) (s : ByteArray) (hs : s.size < 4611686018427387904) : TrQ Tryz.prog 54 [.string s] M L (.int .i64 (refCheck s)) := by
  refine Tr.intro 17 Tryz.func54 rfl rfl Tryz.call54 rfl ?_
  intro C hC hro
  repeat (first | refine zz ?_ | refine zx fun _ => ?_ | refine runL_q (qt_callF rfl (fun _ => refRd_ok _ _ s hs)) rfl rfl rfl ?_)
  refine run_cond rfl (fun h => ?_) (fun h => ?_)
  · have h1 : (topR s).2 ≠ 0 := by simpa using h
    repeat (first | refine zz ?_ | refine zx fun _ => ?_)
    exact run_ret hC (rs := [.tmp 2]) rfl (resT rfl resN) (fun _ h => h) ⟨by rw [refCheck, if_pos h1]; rfl, rfl, rfl⟩
  have h1 : ¬ (topR s).2 ≠ 0 := by simpa using h
  repeat (first | refine zz ?_ | refine zx fun _ => ?_)
  refine run_cond rfl (fun h => ?_) (fun h => ?_)
  · have h2 : (topR s).1 ≠ (s.size : Int) := by simpa using h
    repeat (first | refine zz ?_ | refine zx fun _ => ?_)
    exact run_ret hC (rs := [.tmp 2]) rfl (resT rfl resN) (fun _ h => h) ⟨by rw [refCheck, if_neg h1, if_pos h2]; rfl, rfl, rfl⟩
  · have h2 : ¬ (topR s).1 ≠ (s.size : Int) := by simpa using h
    repeat (first | refine zz ?_ | refine zx fun _ => ?_)
    exact run_ret hC (rs := [.tmp 2]) rfl (resT rfl resN) (fun _ h => h) ⟨by rw [refCheck, if_neg h1, if_neg h2]; rfl, rfl, rfl⟩
theorem ext_all (s : ByteArray) : s.extract 0 s.size = s := by
  apply ByteArray.ext
  simp
end Go.Proofs.YtonbigcdoejgcaaGreatDoor
namespace Go.Proofs.YtonbigcdoejgcaaGreatDoor
open Go.Chi
def rawV (s : ByteArray) : Nat → Nat
  | 0 => 0
  | i + 1 => rawV s i * 256 + (byte s (i + 1)).toNat
theorem rawV_lt (s : ByteArray) : ∀ i, rawV s i < 256 ^ i
  | 0 => show (0 : Nat) < 1 by decide
  | i + 1 => by
    have := rawV_lt s i
    have hb := byte_pos s (i + 1)
    rw [rawV, Nat.pow_succ]
    omega
theorem refV_raw (s : ByteArray) : ∀ i, i ≤ 8 → refV s i = (rawV s i : Int)
  | 0, _ => rfl
  | i + 1, h => by
    have ih := refV_raw s i (by omega)
    have hb := byte_pos s (i + 1)
    have hlt := rawV_lt s i
    have h7 : 256 ^ i ≤ 256 ^ 7 := Nat.pow_le_pow_right (by decide) (by omega)
    have h7' : rawV s i < 72057594037927936 := by
      have : (256 : Nat) ^ 7 = 72057594037927936 := by decide
      omega
    rw [refV, ih, rawV, u64_wrap, u64_wrap, u64_wrap]
    omega
theorem raw_one (s : ByteArray) : rawV s 1 = (byte s 1).toNat := by simp [rawV]
theorem raw_pos {s : ByteArray} (h : byte s 1 ≠ 0) : ∀ i, rawV s (i + 1) ≠ 0
  | 0 => by
    have hb := byte_pos s 1
    show rawV s 1 ≠ 0
    rw [raw_one]
    omega
  | i + 1 => by
    have := raw_pos h i
    rw [rawV]
    omega
theorem ext_snoc (s : ByteArray) {i : Nat} (h : i + 1 < s.size) : s.extract 1 (i + 2) = s.extract 1 (i + 1) ++ bytesI [byte s (i + 1)] := by
  have hb : bytesI [byte s (i + 1)] = ⟨#[s[i + 1]'h]⟩ := by
    have hx : byte s (i + 1) = ((s[i + 1]'h).toNat : Int) := by rw [byte, getElem?_pos s (i + 1) h]; rfl
    rw [hx]
    simp [bytesI]
    rfl
  rw [hb]
  apply ByteArray.ext
  apply Array.ext'
  simp only [ByteArray.data_append, ByteArray.data_extract, Array.toList_append, Array.toList_extract, List.extract_eq_take_drop]
  have hl : s.data.toList.length = s.size := by simp
  have hg : (s[i + 1]'h) = s.data.toList[i + 1]'(by omega) := rfl
  rw [hg]
  have h1 : i + 2 - 1 = i + 1 := by omega
  have h2 : i + 1 - 1 = i := by omega
  rw [h1, h2, List.take_add_one, List.getElem?_drop, show 1 + i = i + 1 by omega, List.getElem?_eq_getElem (by omega)]
  rfl
theorem dig_raw {s : ByteArray} (h : byte s 1 ≠ 0) : ∀ i, i + 1 < s.size → digN (rawV s (i + 1)) = s.extract 1 (i + 2)
  | 0, hs => by
    have hb := byte_pos s 1
    have h0 : rawV s 1 ≠ 0 := raw_pos h 0
    have hd : digN (rawV s 1) = digN (rawV s 1 / 256) ++ bytesI [((rawV s 1 % 256 : Nat) : Int)] := by rw [digN, if_neg h0]
    rw [hd, ext_snoc s hs]
    have e1 : rawV s 1 / 256 = 0 := by rw [raw_one]; omega
    have e2 : ((rawV s 1 % 256 : Nat) : Int) = byte s 1 := by rw [raw_one]; omega
    rw [e1, e2, digN_zero]
    congr 1
    apply ByteArray.ext
    simp
  | i + 1, hs => by
    have ih := dig_raw h i (by omega)
    have hb := byte_pos s (i + 2)
    have h0 : rawV s (i + 2) ≠ 0 := raw_pos h (i + 1)
    have hd : digN (rawV s (i + 2)) = digN (rawV s (i + 2) / 256) ++ bytesI [((rawV s (i + 2) % 256 : Nat) : Int)] := by rw [digN, if_neg h0]
    have e0 : rawV s (i + 2) = rawV s (i + 1) * 256 + (byte s (i + 2)).toNat := rfl
    have e1 : rawV s (i + 2) / 256 = rawV s (i + 1) := by omega
    have e2 : ((rawV s (i + 2) % 256 : Nat) : Int) = byte s (i + 2) := by omega
    rw [show i + 1 + 1 = i + 2 by omega, hd, e1, e2, ih, ext_snoc s hs]
theorem ext_head (s : ByteArray) {n : Nat} (h : 0 < s.size) (hn : 1 ≤ n) : s.extract 0 n = bytesI [byte s 0] ++ s.extract 1 n := by
  have hb : bytesI [byte s 0] = ⟨#[s[0]'h]⟩ := by
    have hx : byte s 0 = ((s[0]'h).toNat : Int) := by rw [byte, getElem?_pos s 0 h]; rfl
    rw [hx]
    simp [bytesI]
    rfl
  rw [hb]
  apply ByteArray.ext
  apply Array.ext'
  simp only [ByteArray.data_append, ByteArray.data_extract, Array.toList_append, Array.toList_extract, List.extract_eq_take_drop]
  have hl : s.data.toList.length = s.size := by simp
  have hg : s.data.toList[0]? = some (s[0]'h) := by rw [List.getElem?_eq_getElem (by omega)]; rfl
  generalize (s[0]'h) = y at hg ⊢
  cases hd : s.data.toList with
  | nil => rw [hd] at hl; simp at hl; omega
  | cons x l =>
    rw [hd] at hg
    simp at hg
    obtain ⟨m, rfl⟩ : ∃ m, n = m + 1 := ⟨n - 1, by omega⟩
    simp [hg]
theorem refNum_eq (s : ByteArray) : refNum s = numR s := by
  by_cases he : (refNum s).2.2 = 0
  · exact (refNum_imp he).symm
  have hb := byte_pos s 0
  have hr := rest1_size (s := s)
  unfold refNum at he ⊢
  unfold numR
  by_cases h0 : s.size = 0
  · rw [if_pos h0, if_pos h0]
  rw [if_neg h0] at he ⊢
  rw [if_neg h0]
  by_cases h1 : byte s 0 < 248
  · rw [if_pos h1] at he; exact absurd rfl he
  rw [if_neg h1] at he ⊢
  rw [if_neg (show ¬ byte s 0 ≤ 247 by omega)]
  have hk : (refK s : Int) = byte s 0 - 247 := by unfold refK; omega
  by_cases h2 : s.size < refK s + 1
  · rw [if_pos h2, if_pos (show ((rest1 s).size : Int) < byte s 0 - 247 by omega)]
  rw [if_neg h2] at he ⊢
  rw [if_neg (show ¬ ((rest1 s).size : Int) < byte s 0 - 247 by omega)]
  by_cases h3 : numB (refV s (refK s)).toNat ≠ s.extract 0 (refK s + 1)
  · rw [if_pos h3]
    have hz : (byte s 0 - 247).toNat = refK s := rfl
    rw [hz, ← refV_eq s (refK s), byte_rest]
    by_cases h4 : byte s (0 + 1) = 0 ∨ refV s (refK s) ≤ 247
    · rw [if_pos h4]
    · exfalso
      apply h3
      have h5 : byte s 1 ≠ 0 := fun e => h4 (.inl e)
      have h6 : ¬ refV s (refK s) ≤ 247 := fun e => h4 (.inr e)
      have hk8 : refK s ≤ 8 := by omega
      have hraw := refV_raw s (refK s) hk8
      obtain ⟨m, hm⟩ : ∃ m, refK s = m + 1 := ⟨refK s - 1, by omega⟩
      have hd := dig_raw h5 m (by omega)
      rw [hraw, Int.toNat_natCast, numB, if_neg (by omega), hm, hd, show m + 1 + 1 = m + 2 by omega, ext_head s (n := m + 2) (by omega) (by omega)]
      congr 2
      have hsz : (s.extract 1 (m + 2)).size = m + 1 := by simp; omega
      rw [hsz]
      have e1 : IntKind.i64.wrap (247 + ((m + 1 : Nat) : Int)) = ((248 + m : Nat) : Int) := by
        rw [show (247 : Int) + ((m + 1 : Nat) : Int) = ((248 + m : Nat) : Int) by omega, wrap64_nat (by omega)]
      rw [e1, u8_nat (by omega)]
      congr 1
      omega
  · rw [if_neg h3] at he
    exact absurd rfl he
theorem refText_eq (s : ByteArray) (most : Nat) : refText s most = textR s most := by
  rw [refText, textR, refNum_eq]
theorem abc_all' : ∀ n : Fin 128, inAbc ((n.val : Nat) : Int) = true → nameB ((n.val : Nat) : Int) = true := by decide +kernel
theorem named_imp {s : ByteArray} : ∀ f p, s.size < p + f → namedAt s f p = true → ∀ i, p ≤ i → i < s.size → nameB (byte s i) = true
  | 0, p, hf, _, i, hi, hs => by omega
  | f + 1, p, hf, h, i, hi, hs => by
    have hp : p < s.size := by omega
    rw [namedAt, if_pos hp, Bool.and_eq_true] at h
    have hlow : (s[p]'hp).toNat < 128 := by
      apply Classical.byContradiction
      intro hn
      have := (decode_high s p hp (by omega)).1
      have h1 := h.1
      rw [inAbc, decide_eq_true_eq, runeIx, if_neg (by omega)] at h1
      omega
    rw [decode_ascii s p hp hlow] at h
    by_cases e : i = p
    · subst e
      have hx : byte s i = ((s[i]'hp).toNat : Int) := by rw [byte, getElem?_pos s i hp]; rfl
      rw [hx]
      exact abc_all' ⟨_, hlow⟩ h.1
    · exact named_imp f (p + 1) (by omega) h.2 i (by omega) hs
theorem name_eq (s : ByteArray) : nameR s = namedR s := by
  rw [Bool.eq_iff_iff]
  constructor
  · exact nameR_imp
  · intro h
    rw [namedR, Bool.and_eq_true] at h
    rw [nameR, h.2, Bool.and_true, List.all_eq_true]
    intro i hi
    exact named_imp _ 0 (by omega) h.1 i (Nat.zero_le _) (List.mem_range.1 hi)
end Go.Proofs.YtonbigcdoejgcaaGreatDoor
namespace Go.Proofs.YtonbigcdoejgcaaGreatDoor
open Go.Chi
theorem ba_ext {a b : ByteArray} (h : a.data.toList = b.data.toList) : a = b := ByteArray.ext (Array.ext' h)
theorem ba_app (a b : ByteArray) : (a ++ b).data.toList = a.data.toList ++ b.data.toList := by
  simp [ByteArray.data_append]
theorem ba_extract (a : ByteArray) (i j : Nat) : (a.extract i j).data.toList = (a.data.toList.take j).drop i := by
  simp [ByteArray.data_extract, List.extract_eq_take_drop, List.drop_take]
theorem ba_len (a : ByteArray) : a.data.toList.length = a.size := by simp
theorem ext_left (a b : ByteArray) : (a ++ b).extract 0 a.size = a := by
  apply ba_ext
  rw [ba_extract, ba_app, ← ba_len, List.take_left' rfl, List.drop_zero]
theorem ext_right (a b : ByteArray) : (a ++ b).extract a.size (a ++ b).size = b := by
  apply ba_ext
  rw [ba_extract, ← ba_len, ← ba_len, ba_app, List.take_of_length_le (Nat.le_refl _), List.drop_left' rfl]
theorem ext_split (s : ByteArray) {n : Nat} (_h : n ≤ s.size) : s = s.extract 0 n ++ s.extract n s.size := by
  apply ba_ext
  rw [ba_app, ba_extract, ba_extract, List.drop_zero, ← ba_len, List.take_of_length_le (l := s.data.toList) (Nat.le_refl _), List.take_append_drop]
theorem app_assoc (a b c : ByteArray) : a ++ b ++ c = a ++ (b ++ c) := by
  apply ba_ext
  simp only [ba_app, List.append_assoc]
theorem app_nil (a : ByteArray) : a ++ ⟨#[]⟩ = a := by
  apply ba_ext
  rw [ba_app]
  simp
theorem nil_app (a : ByteArray) : (⟨#[]⟩ : ByteArray) ++ a = a := by
  apply ba_ext
  rw [ba_app]
  simp
theorem byte_left {a b : ByteArray} {i : Nat} (h : i < a.size) : byte (a ++ b) i = byte a i := by
  unfold byte
  rw [getElem?_pos (a ++ b) i (by rw [app_size]; omega), getElem?_pos a i h, ByteArray.getElem_append_left h]
theorem byte_right (a b : ByteArray) (i : Nat) : byte (a ++ b) (a.size + i) = byte b i := by
  unfold byte
  by_cases h : i < b.size
  · rw [getElem?_pos (a ++ b) _ (by rw [app_size]; omega), getElem?_pos b i h, ByteArray.getElem_append_right (by omega)]
    simp
  · rw [getElem?_neg (a ++ b) _ (by rw [app_size]; omega), getElem?_neg b i h]
theorem byte_one (x : Int) (h0 : 0 ≤ x) (h : x < 256) : byte (bytesI [x]) 0 = x := by
  have e : (bytesI [x])[0]? = some (UInt8.ofNat x.toNat) := rfl
  unfold byte
  rw [e]
  simp
  omega
theorem ext_one {s : ByteArray} (h : 0 < s.size) : s.extract 0 1 = bytesI [byte s 0] := by
  have e : byte s 0 = ((s[0]'h).toNat : Int) := by unfold byte; rw [getElem?_pos s 0 h]; rfl
  apply ba_ext
  rw [ba_extract, List.drop_zero, e]
  have hl : 0 < s.data.toList.length := by rw [ba_len]; exact h
  have hg : (s[0]'h) = s.data.toList[0]'hl := rfl
  rw [hg]
  obtain ⟨b, l, hbl⟩ : ∃ b l, s.data.toList = b :: l := by
    cases hs : s.data.toList with
    | nil => rw [hs] at hl; simp at hl
    | cons b l => exact ⟨b, l, rfl⟩
  have hb : s.data.toList[0]'hl = b := by simp only [hbl, List.getElem_cons_zero]
  rw [hb, hbl]
  show [b] = [UInt8.ofNat ((b.toNat : Int)).toNat]
  simp
theorem raw_dig : ∀ (v : Nat) (x : Int) (rest : ByteArray), rawV (bytesI [x] ++ (digN v ++ rest)) (digN v).size = v := by
  intro v
  induction v using Nat.strongRecOn with
  | _ v ih =>
    intro x rest
    by_cases h0 : v = 0
    · subst h0
      rw [digN_zero]
      rfl
    · have hd : digN v = digN (v / 256) ++ bytesI [((v % 256 : Nat) : Int)] := by rw [digN, if_neg h0]
      have hs : (digN v).size = (digN (v / 256)).size + 1 := by rw [hd, app_size, bytesI_one]
      rw [hs, hd, rawV, app_assoc, ih (v / 256) (by omega) x (bytesI [((v % 256 : Nat) : Int)] ++ rest)]
      have e1 : (digN (v / 256)).size + 1 = (bytesI [x]).size + ((digN (v / 256)).size + 0) := by rw [bytesI_one]; omega
      rw [e1, byte_right, byte_right, byte_left (by rw [bytesI_one]; omega), byte_one _ (by omega) (by omega)]
      omega
theorem numB_big {v : Nat} (h : ¬ v < 248) (hv : v < 18446744073709551616) : numB v = bytesI [((247 + (digN v).size : Nat) : Int)] ++ digN v ∧ 1 ≤ (digN v).size ∧ (digN v).size ≤ 8 := by
  have h8 := digN_len hv
  have h1 : 1 ≤ (digN v).size := by
    rw [digN, if_neg (by omega), app_size, bytesI_one]
    omega
  refine ⟨?_, h1, h8⟩
  rw [numB, if_neg h]
  congr 3
  rw [show (247 : Int) + ((digN v).size : Int) = ((247 + (digN v).size : Nat) : Int) by omega, wrap64_nat (by omega), u8_nat (by omega)]
theorem num_read {v : Nat} (hv : v < 18446744073709551616) (rest : ByteArray) : numR (numB v ++ rest) = ((v : Int), ((numB v).size : Int), 0) := by
  rw [← refNum_eq]
  by_cases h : v < 248
  · have hB : numB v = bytesI [(v : Int)] := by rw [numB, if_pos h, u8_nat (by omega)]
    have h0 : byte (numB v ++ rest) 0 = v := by rw [hB, byte_left (by rw [bytesI_one]; omega), byte_one _ (by omega) (by omega)]
    unfold refNum
    rw [if_neg (by rw [app_size, hB, bytesI_one]; omega), if_pos (by rw [h0]; omega), h0, hB, bytesI_one]
    rfl
  · obtain ⟨hB, h1, h8⟩ := numB_big h hv
    have h0 : byte (numB v ++ rest) 0 = ((247 + (digN v).size : Nat) : Int) := by
      rw [hB, app_assoc, byte_left (by rw [bytesI_one]; omega), byte_one _ (by omega) (by omega)]
    have hk : refK (numB v ++ rest) = (digN v).size := by
      unfold refK
      rw [h0]
      omega
    have hsz : (numB v).size = (digN v).size + 1 := by rw [hB, app_size, bytesI_one]; omega
    have hr : refV (numB v ++ rest) (digN v).size = (v : Int) := by
      rw [refV_raw _ _ h8, hB, app_assoc, raw_dig]
    unfold refNum
    rw [if_neg (by rw [app_size]; omega), if_neg (by rw [h0]; omega), hk, if_neg (by rw [app_size]; omega), hr, Int.toNat_natCast, ← hsz, ext_left, if_neg (by simp)]
theorem num_back {s : ByteArray} (h : (numR s).2.2 = 0) : ∃ v : Nat, v < 18446744073709551616 ∧ numR s = ((v : Int), ((numB v).size : Int), 0) ∧ s = numB v ++ s.extract (numB v).size s.size := by
  rw [← refNum_eq] at h ⊢
  have hb := byte_pos s 0
  unfold refNum at h ⊢
  split at h
  · cases h
  rename_i h0
  rw [if_neg h0]
  split at h
  · rename_i h1
    rw [if_pos h1]
    have hB : numB (byte s 0).toNat = bytesI [byte s 0] := by
      rw [numB, if_pos (by omega), u8_nat (by omega), Int.toNat_of_nonneg hb.1]
    refine ⟨(byte s 0).toNat, by omega, ?_, ?_⟩
    · rw [hB, bytesI_one, Int.toNat_of_nonneg hb.1]; rfl
    · rw [hB, bytesI_one, ← ext_one (by omega)]
      exact ext_split s (by omega)
  rename_i h1
  rw [if_neg h1]
  split at h
  · cases h
  rename_i h2
  rw [if_neg h2]
  split at h
  · cases h
  rename_i h3
  rw [if_neg h3]
  have hv := refV_pos s (refK s)
  have h3' : numB (refV s (refK s)).toNat = s.extract 0 (refK s + 1) := by simpa using h3
  have hsz : (numB (refV s (refK s)).toNat).size = refK s + 1 := by rw [h3']; simp; omega
  refine ⟨(refV s (refK s)).toNat, by omega, ?_, ?_⟩
  · rw [hsz, Int.toNat_of_nonneg hv.1]
  · rw [hsz, h3']
    exact ext_split s (by omega)
def textB (t : ByteArray) : ByteArray := numB t.size ++ t
theorem ext_mid (a b c : ByteArray) : (a ++ (b ++ c)).extract a.size (a.size + b.size) = b := by
  apply ba_ext
  rw [ba_extract, ba_app, ba_app, ← ba_len, ← ba_len, ← List.append_assoc, List.take_left' (by rw [List.length_append]), List.drop_left' rfl]
theorem text_read {t : ByteArray} {most : Nat} (h : t.size ≤ most) (hm : most < 4611686018427387904) (rest : ByteArray) : textR (textB t ++ rest) most = (t, ((textB t).size : Int), 0) := by
  have hn := num_read (v := t.size) (by omega) (t ++ rest)
  have hT : textB t ++ rest = numB t.size ++ (t ++ rest) := by rw [textB, app_assoc]
  have hz : (textB t).size = (numB t.size).size + t.size := app_size _ _
  unfold textR
  rw [hT, hn]
  simp only [ne_eq, not_true_eq_false, if_false]
  rw [if_neg (by omega), if_neg (by rw [app_size, app_size]; omega)]
  rw [Int.toNat_natCast, show (((numB t.size).size : Int) + (t.size : Int)).toNat = (numB t.size).size + t.size by omega, ext_mid, hz]
  congr 2
theorem text_back {s : ByteArray} {most : Nat} (h : (textR s most).2.2 = 0) : ∃ t : ByteArray, t.size ≤ most ∧ textR s most = (t, ((textB t).size : Int), 0) ∧ s = textB t ++ s.extract (textB t).size s.size := by
  unfold textR at h ⊢
  split at h
  · rename_i h1; exact absurd h h1
  rename_i h1
  have h1 : (numR s).2.2 = 0 := by simpa using h1
  obtain ⟨v, hv, hn, hs⟩ := num_back h1
  rw [hn] at h ⊢
  simp only [ne_eq, not_true_eq_false, if_false] at h ⊢
  split at h
  · cases h
  rename_i h2
  rw [if_neg h2]
  split at h
  · cases h
  rename_i h3
  rw [if_neg h3]
  have hsz := congrArg ByteArray.size hs
  rw [app_size] at hsz
  obtain ⟨r, hr⟩ : ∃ r, r = s.extract (numB v).size s.size := ⟨_, rfl⟩
  rw [← hr] at hs hsz
  have hrv : v ≤ r.size := by omega
  have hr2 := ext_split r hrv
  obtain ⟨t, ht⟩ : ∃ t, t = r.extract 0 v := ⟨_, rfl⟩
  have htz : t.size = v := by rw [ht]; simp; omega
  have hT : textB t = numB v ++ t := by rw [textB, htz]
  have hTz : (textB t).size = (numB v).size + v := by rw [hT, app_size, htz]
  have hall : s = textB t ++ r.extract v r.size := by
    rw [hT, app_assoc, ht, ← hr2]; exact hs
  refine ⟨t, by omega, ?_, ?_⟩
  · rw [Int.toNat_natCast, show (((numB v).size : Int) + (v : Int)).toNat = (numB v).size + v by omega, hTz]
    have : s.extract (numB v).size ((numB v).size + v) = t := by
      have e := ext_mid (numB v) t (r.extract v r.size)
      rw [htz] at e
      rw [← e, ← app_assoc, ← hT, ← hall]
    rw [this]
    congr 2
  · have e := ext_right (textB t) (r.extract v r.size)
    rw [← hall] at e
    rw [e]
    exact hall
end Go.Proofs.YtonbigcdoejgcaaGreatDoor
namespace Go.Proofs.YtonbigcdoejgcaaGreatDoor
open Go.Chi
theorem head_eq (s : ByteArray) (hs : s.size < 4611686018427387904) : match frontR s with | .ok x => headR s = ((x.1 : Int), (x.2 : Int), 0) | .error e => (headR s).2.2 = e ∧ e ≠ 0 := by
  by_cases he : (headR s).2.2 = 0
  · obtain ⟨n, p, h1, h2⟩ := headR_imp hs he
    rw [h2]; exact h1
  · have hr := rest1_size (s := s)
    unfold headR at he ⊢
    unfold frontR
    by_cases h0 : s.size = 0
    · rw [if_pos h0, if_pos h0]; exact ⟨rfl, by decide⟩
    rw [if_neg h0] at he ⊢
    rw [if_neg h0]
    by_cases h1 : byte s 0 = 100
    · rw [if_pos h1] at he ⊢
      rw [if_pos h1, refText_eq] at *
      have he' : (textR (rest1 s) 1024).2.2 ≠ 0 := he
      rw [if_pos he']
      exact ⟨rfl, he'⟩
    rw [if_neg h1] at he ⊢
    rw [if_neg h1]
    by_cases h2 : byte s 0 = 97
    · rw [if_pos h2] at he ⊢
      rw [if_pos h2]
      rw [refText_eq, name_eq] at he ⊢
      by_cases h3 : (textR (rest1 s) 32).2.2 ≠ 0
      · rw [if_pos h3, if_neg (fun h => h3 h.1)]
        exact ⟨rfl, h3⟩
      · rw [if_neg h3]
        have h3' : (textR (rest1 s) 32).2.2 = 0 := by simpa using h3
        by_cases h4 : namedR (textR (rest1 s) 32).1 = false
        · rw [if_pos h4, if_pos ⟨h3', h4⟩]; exact ⟨rfl, by decide⟩
        · rw [if_neg (fun h => h4 h.2)] at he
          exact absurd h3' he
    rw [if_neg h2] at he ⊢
    rw [if_neg h2]
    by_cases h3 : byte s 0 = 114
    · rw [if_pos h3] at he ⊢
      rw [if_pos h3]
      rw [refNum_eq] at he ⊢
      by_cases h4 : (numR (rest1 s)).2.2 ≠ 0
      · rw [if_pos h4, if_neg (fun h => h4 h.1)]
        exact ⟨rfl, h4⟩
      · rw [if_neg h4]
        have h4' : (numR (rest1 s)).2.2 = 0 := by simpa using h4
        by_cases h5 : 32 < (numR (rest1 s)).1
        · rw [if_pos h5, if_pos ⟨h4', h5⟩]; exact ⟨rfl, by decide⟩
        · rw [if_neg (fun h => h5 h.2)] at he
          exact absurd h4' he
    rw [if_neg h3] at he ⊢
    rw [if_neg h3]
    by_cases h4 : byte s 0 = 104
    · rw [if_pos h4] at he; exact absurd rfl he
    rw [if_neg h4] at he ⊢
    rw [if_neg h4]
    by_cases h5 : byte s 0 = 109
    · rw [if_pos h5] at he; exact absurd rfl he
    rw [if_neg h5] at he ⊢
    rw [if_neg h5]
    by_cases h6 : byte s 0 = 115
    · rw [if_pos h6] at he; exact absurd rfl he
    rw [if_neg h6, if_neg h6]
    exact ⟨rfl, by decide⟩
theorem refRead_eq : ∀ (k : Nat) (w : ByteArray) (a : Nat), w.size < 4611686018427387904 → a ≤ w.size → match walkR w k a with | .ok y => refRead k (w.extract a w.size) = (((y - a : Nat) : Int), 0) ∧ a ≤ y | .error e => refRead k (w.extract a w.size) = (0, e) ∧ e ≠ 0
  | 0, w, a, _, _ => ⟨rfl, by decide⟩
  | k + 1, w, a, hw, ha => by
    have hz : (w.extract a w.size).size = w.size - a := by simp
    have hh := head_eq (w.extract a w.size) (by omega)
    rw [walkR, refRead]
    cases hf : frontR (w.extract a w.size) with
    | error e =>
      rw [hf] at hh
      simp only at hh ⊢
      rw [rloop_err _ _ (by rw [hh.1]; exact hh.2), finR, if_pos (by rw [hh.1]; exact hh.2), hh.1]
      exact ⟨rfl, hh.2⟩
    | ok x =>
      rw [hf] at hh
      simp only at hh ⊢
      have hfl := frontR_len (n := x.1) (p := x.2) hf
      rw [hh]
      simp only [Int.toNat_natCast]
      have key : ∀ (i n : Nat), a + n ≤ w.size → match iter (walkR w k) i (a + n) with | .ok y => rloop (refRead k) (w.extract a w.size) i (n : Int) 0 = (((y - a : Nat) : Int), 0) ∧ a ≤ y | .error e => (rloop (refRead k) (w.extract a w.size) i (n : Int) 0).2 = e ∧ e ≠ 0 := by
        intro i
        induction i with
        | zero => intro n hn; exact ⟨by rw [rloop, show a + n - a = n by omega], by omega⟩
        | succ i ih =>
          intro n hn
          rw [iter, rloop, if_neg (by simp), Int.toNat_natCast]
          have hx := ext_ext w ha hn
          rw [hx]
          have hr := refRead_eq k w (a + n) hw hn
          cases hwk : walkR w k (a + n) with
          | error e =>
            rw [hwk] at hr
            simp only at hr ⊢
            rw [hr.1, rloop_err _ _ hr.2]
            exact ⟨rfl, hr.2⟩
          | ok y =>
            rw [hwk] at hr
            simp only at hr ⊢
            have hyl := walkR_len w k (a + n) y hn hwk
            rw [hr.1]
            have e1 : IntKind.i64.wrap ((n : Int) + ((y - (a + n) : Nat) : Int)) = ((y - a : Nat) : Int) := by
              rw [show (n : Int) + ((y - (a + n) : Nat) : Int) = ((y - a : Nat) : Int) by omega, wrap64_nat (by omega)]
            simp only [e1]
            have := ih (y - a) (by omega)
            rw [show a + (y - a) = y by omega] at this
            exact this
      have hk := key x.2 x.1 (by omega)
      cases hit : iter (walkR w k) x.2 (a + x.1) with
      | error e =>
        rw [hit] at hk
        simp only at hk ⊢
        rw [finR, if_pos (by rw [hk.1]; exact hk.2), hk.1]
        exact ⟨rfl, hk.2⟩
      | ok y =>
        rw [hit] at hk
        simp only at hk ⊢
        rw [finR, hk.1, if_neg (by simp)]
        exact ⟨rfl, hk.2⟩
theorem refCheck_eq (s : ByteArray) (hs : s.size < 4611686018427387904) : refCheck s = checkR s := by
  have h := refRead_eq 16 s 0 hs (Nat.zero_le _)
  rw [ext_all] at h
  unfold refCheck checkR topR
  cases hw : walkR s 16 0 with
  | error e =>
    rw [hw] at h
    simp only at h
    rw [h.1]
    simp [readR, h.2]
  | ok y =>
    rw [hw] at h
    simp only [Nat.sub_zero] at h
    rw [h.1]
    by_cases hy : 16384 < y
    · have hy' : (16384 : Int) < (y : Int) := by omega
      simp [readR, hy, hy']
    · have hy' : ¬ (16384 : Int) < (y : Int) := by omega
      simp only [readR, hy, hy', if_false]
      by_cases e : (y : Int) = (s.size : Int) <;> simp [e]
end Go.Proofs.YtonbigcdoejgcaaGreatDoor
namespace Go.Proofs.YtonbigcdoejgcaaGreatDoor
open Go.Chi
inductive Hd : ByteArray → Nat → Prop
  | data {t : ByteArray} (h : t.size ≤ 1024) : Hd (bytesI [100] ++ textB t) 0
  | atom {t : ByteArray} (h : t.size ≤ 32) (hn : namedR t = true) : Hd (bytesI [97] ++ textB t) 0
  | row {v : Nat} (h : v ≤ 32) : Hd (bytesI [114] ++ numB v) v
  | hash : Hd (bytesI [104]) 1
  | mac : Hd (bytesI [109]) 2
  | slot : Hd (bytesI [115]) 3
theorem rest1_one (c : Int) (x : ByteArray) : rest1 (bytesI [c] ++ x) = x := ext_right (bytesI [c]) x
theorem byte0_one {c : Int} (h0 : 0 ≤ c) (h : c < 256) (x : ByteArray) : byte (bytesI [c] ++ x) 0 = c := by
  rw [byte_left (by rw [bytesI_one]; decide), byte_one c h0 h]
theorem one_ne (c : Int) (x : ByteArray) : ¬ (bytesI [c] ++ x).size = 0 := by rw [app_size, bytesI_one]; omega
theorem hd_front {h : ByteArray} {p : Nat} (hh : Hd h p) (x : ByteArray) : frontR (h ++ x) = .ok (h.size, p) := by
  cases hh with
  | @data t ht =>
    rw [app_assoc]
    unfold frontR
    rw [if_neg (one_ne _ _), byte0_one (by decide) (by decide), if_pos rfl, rest1_one, text_read ht (by decide) x, if_neg (by simp), app_size, bytesI_one]
    simp only
    congr 2
  | @atom t ht hn =>
    rw [app_assoc]
    unfold frontR
    rw [if_neg (one_ne _ _), byte0_one (by decide) (by decide), if_neg (by decide), if_pos rfl, rest1_one, text_read ht (by decide) x, if_neg (by simp), if_neg (by rw [hn]; simp), app_size, bytesI_one]
    simp only
    congr 2
  | @row v hv =>
    rw [app_assoc]
    unfold frontR
    rw [if_neg (one_ne _ _), byte0_one (by decide) (by decide), if_neg (by decide), if_neg (by decide), if_pos rfl, rest1_one, num_read (v := p) (by omega) x, if_neg (by simp), if_neg (by simp; omega), app_size, bytesI_one]
    simp only [Int.toNat_natCast]
    congr 2
  | hash =>
    unfold frontR
    rw [if_neg (one_ne _ _), byte0_one (by decide) (by decide), if_neg (by decide), if_neg (by decide), if_neg (by decide), if_pos rfl, bytesI_one]
  | mac =>
    unfold frontR
    rw [if_neg (one_ne _ _), byte0_one (by decide) (by decide), if_neg (by decide), if_neg (by decide), if_neg (by decide), if_neg (by decide), if_pos rfl, bytesI_one]
  | slot =>
    unfold frontR
    rw [if_neg (one_ne _ _), byte0_one (by decide) (by decide), if_neg (by decide), if_neg (by decide), if_neg (by decide), if_neg (by decide), if_neg (by decide), if_pos rfl, bytesI_one]
theorem byte_split {s : ByteArray} (h : ¬ s.size = 0) {c : Int} (hc : byte s 0 = c) : s = bytesI [c] ++ rest1 s := by
  have := ext_split s (n := 1) (by omega)
  rw [ext_one (by omega), hc] at this
  exact this
theorem front_hd {s : ByteArray} {n p : Nat} (h : frontR s = .ok (n, p)) : ∃ hd x, s = hd ++ x ∧ Hd hd p ∧ hd.size = n := by
  unfold frontR at h
  split at h
  · cases h
  rename_i h0
  split at h
  · rename_i hc
    split at h
    · cases h
    · rename_i h1
      obtain ⟨t, ht, he, hs⟩ := text_back (s := rest1 s) (most := 1024) (by simpa using h1)
      rw [he] at h
      simp only [Except.ok.injEq, Prod.mk.injEq] at h
      refine ⟨bytesI [100] ++ textB t, (rest1 s).extract (textB t).size (rest1 s).size, ?_, h.2 ▸ Hd.data ht, ?_⟩
      · rw [app_assoc, ← hs]; exact byte_split h0 hc
      · rw [app_size, bytesI_one]; omega
  split at h
  · rename_i hc
    split at h
    · cases h
    split at h
    · cases h
    · rename_i h1 h2
      obtain ⟨t, ht, he, hs⟩ := text_back (s := rest1 s) (most := 32) (by simpa using h1)
      rw [he] at h h2
      simp only [Except.ok.injEq, Prod.mk.injEq] at h
      refine ⟨bytesI [97] ++ textB t, (rest1 s).extract (textB t).size (rest1 s).size, ?_, h.2 ▸ Hd.atom ht (by simpa using h2), ?_⟩
      · rw [app_assoc, ← hs]; exact byte_split h0 hc
      · rw [app_size, bytesI_one]; omega
  split at h
  · rename_i hc
    split at h
    · cases h
    split at h
    · cases h
    · rename_i h1 h2
      obtain ⟨v, hv, he, hs⟩ := num_back (s := rest1 s) (by simpa using h1)
      rw [he] at h h2
      simp only [Except.ok.injEq, Prod.mk.injEq] at h
      have hp : v = p := by have := h.2; omega
      subst hp
      refine ⟨bytesI [114] ++ numB v, (rest1 s).extract (numB v).size (rest1 s).size, ?_, Hd.row (by simp at h2; omega), ?_⟩
      · rw [app_assoc, ← hs]; exact byte_split h0 hc
      · rw [app_size, bytesI_one]; omega
  split at h
  · rename_i hc
    simp only [Except.ok.injEq, Prod.mk.injEq] at h
    exact ⟨bytesI [104], rest1 s, byte_split h0 hc, h.2 ▸ Hd.hash, h.1⟩
  split at h
  · rename_i hc
    simp only [Except.ok.injEq, Prod.mk.injEq] at h
    exact ⟨bytesI [109], rest1 s, byte_split h0 hc, h.2 ▸ Hd.mac, h.1⟩
  split at h
  · rename_i hc
    simp only [Except.ok.injEq, Prod.mk.injEq] at h
    exact ⟨bytesI [115], rest1 s, byte_split h0 hc, h.2 ▸ Hd.slot, h.1⟩
  · cases h
theorem Hd.pos {h : ByteArray} {p : Nat} (hh : Hd h p) : 1 ≤ h.size := by
  cases hh <;> simp only [app_size, bytesI_one] <;> omega
def cat : List ByteArray → ByteArray
  | [] => ⟨#[]⟩
  | p :: ps => p ++ cat ps
def Tm : Nat → ByteArray → Prop
  | 0, _ => False
  | k + 1, t => ∃ h ps, Hd h ps.length ∧ t = h ++ cat ps ∧ ∀ p ∈ ps, Tm k p
theorem Tm.pos {k : Nat} {t : ByteArray} (h : Tm k t) : 1 ≤ t.size := by
  cases k with
  | zero => exact h.elim
  | succ k =>
    obtain ⟨hd, ps, h1, rfl, _⟩ := h
    rw [app_size]
    have := h1.pos
    omega
theorem Tm.mono : ∀ {k k' : Nat} {t : ByteArray}, Tm k t → k ≤ k' → Tm k' t
  | 0, _, _, h, _ => h.elim
  | k + 1, 0, _, _, h => by omega
  | k + 1, k' + 1, t, ⟨hd, ps, h1, h2, h3⟩, h => ⟨hd, ps, h1, h2, fun p hp => (h3 p hp).mono (by omega)⟩
theorem walk_at : ∀ {k : Nat} {t : ByteArray}, Tm k t → ∀ x y : ByteArray, walkR (x ++ (t ++ y)) k x.size = .ok (x.size + t.size)
  | 0, _, h, _, _ => h.elim
  | k + 1, _, ⟨hd, ps, h1, rfl, h3⟩, x, y => by
    rw [walkR, ext_right, app_assoc, hd_front h1]
    simp only
    have key : ∀ (ps : List ByteArray), (∀ p ∈ ps, Tm k p) → ∀ x : ByteArray, iter (walkR (x ++ (cat ps ++ y)) k) ps.length x.size = .ok (x.size + (cat ps).size) := by
      intro ps
      induction ps with
      | nil => intro _ x; rw [List.length_nil, iter, cat]; rfl
      | cons p ps ih =>
        intro hp x
        rw [List.length_cons, iter, cat, app_assoc, walk_at (hp p List.mem_cons_self) x (cat ps ++ y)]
        simp only
        have := ih (fun q hq => hp q (List.mem_cons_of_mem _ hq)) (x ++ p)
        rw [app_assoc, app_size] at this
        rw [this, app_size, Nat.add_assoc]
    have := key ps h3 (x ++ hd)
    rw [app_assoc, app_size] at this
    rw [this, app_size, Nat.add_assoc]
theorem at_walk (s : ByteArray) : ∀ {k a e : Nat}, a ≤ s.size → walkR s k a = .ok e → ∃ t y, s.extract a s.size = t ++ y ∧ Tm k t ∧ e = a + t.size
  | 0, _, _, _, h => by cases h
  | k + 1, a, e, ha, h => by
    rw [walkR] at h
    split at h
    · cases h
    rename_i x hx
    obtain ⟨hd, y, h1, h2, h3⟩ := front_hd (n := x.1) (p := x.2) hx
    have hz : (s.extract a s.size).size = s.size - a := by simp
    have hle : a + x.1 ≤ s.size := by
      have := congrArg ByteArray.size h1
      rw [hz, app_size] at this
      omega
    have key : ∀ (i b e : Nat), b ≤ s.size → iter (walkR s k) i b = .ok e → ∃ ps y, ps.length = i ∧ s.extract b s.size = cat ps ++ y ∧ (∀ p ∈ ps, Tm k p) ∧ e = b + (cat ps).size := by
      intro i
      induction i with
      | zero =>
        intro b e hb he
        rw [iter, Except.ok.injEq] at he
        subst he
        exact ⟨[], s.extract b s.size, rfl, (nil_app _).symm, (fun p hp => by cases hp), rfl⟩
      | succ i ih =>
        intro b e hb he
        rw [iter] at he
        split at he
        · cases he
        rename_i c hc
        obtain ⟨t, y, q1, q2, q3⟩ := at_walk s hb hc
        have hcl := walkR_len s k b c hb hc
        obtain ⟨ps, y2, r1, r2, r3, r4⟩ := ih c e hcl he
        have hy : y = s.extract c s.size := by
          have := ext_right t y
          rw [← q1, ext_ext s hb (by omega)] at this
          rw [← this, q3]
        refine ⟨t :: ps, y2, by rw [List.length_cons, r1], by rw [q1, hy, r2, cat, app_assoc], ?_, by rw [cat, app_size]; omega⟩
        intro p hp
        rcases List.mem_cons.1 hp with rfl | hp
        · exact q2
        · exact r3 p hp
    obtain ⟨ps, y2, r1, r2, r3, r4⟩ := key x.2 (a + x.1) e hle h
    have hy : y = s.extract (a + x.1) s.size := by
      have := ext_right hd y
      rw [← h1, h3, ext_ext s ha (by omega)] at this
      exact this.symm
    exact ⟨hd ++ cat ps, y2, by rw [h1, hy, r2, app_assoc], ⟨hd, ps, by rw [r1]; exact h2, rfl, r3⟩, by rw [app_size]; omega⟩
theorem ok_tm {t : ByteArray} (hs : t.size < 4611686018427387904) (h : checkR t = 0) : Tm 16 t ∧ t.size ≤ 16384 := by
  unfold checkR at h
  split at h
  · cases h
  rename_i hc
  have hr := refRead_eq 16 t 0 hs (Nat.zero_le _)
  cases hw : walkR t 16 0 with
  | error e =>
    rw [hw] at h hr
    exact absurd h hr.2
  | ok y =>
    obtain ⟨u, v, h1, h2, h3⟩ := at_walk t (Nat.zero_le _) hw
    rw [ext_all] at h1
    rw [hw] at h hc
    have hy : ¬ 16384 < y := fun h4 => by
      have : readR (.ok y) = (0, 5) := if_pos h4
      rw [this] at h
      cases h
    have hry : readR (.ok y) = ((y : Int), 0) := if_neg hy
    rw [hry] at hc
    have h5 : y = t.size := by
      by_cases h5 : y = t.size
      · exact h5
      · exact absurd ⟨rfl, show (y : Int) ≠ _ by omega⟩ hc
    have : v.size = 0 := by
      have := congrArg ByteArray.size h1
      rw [app_size] at this
      omega
    have hv : v = ⟨#[]⟩ := by
      apply ba_ext
      apply List.eq_nil_of_length_eq_zero
      rw [ba_len, this]
    rw [hv, app_nil] at h1
    exact ⟨h1 ▸ h2, by omega⟩
theorem tm_ok {t : ByteArray} (h : Tm 16 t) (hz : t.size ≤ 16384) : checkR t = 0 := by
  have := walk_at h ⟨#[]⟩ ⟨#[]⟩
  rw [nil_app, app_nil] at this
  have h0 : (⟨#[]⟩ : ByteArray).size = 0 := rfl
  rw [h0, Nat.zero_add] at this
  have hry : readR (walkR t 16 0) = ((t.size : Int), 0) := by rw [this]; exact if_neg (by omega)
  unfold checkR
  rw [hry]
  exact if_neg (fun h => h.2 rfl)
theorem check_iff {t : ByteArray} (hs : t.size < 4611686018427387904) : checkR t = 0 ↔ Tm 16 t ∧ t.size ≤ 16384 := ⟨ok_tm hs, fun h => tm_ok h.1 h.2⟩
end Go.Proofs.YtonbigcdoejgcaaGreatDoor
namespace Go.Proofs.YtonbigcdoejgcaaGreatDoor
open Go.Chi
def cutL : Nat → ByteArray → List ByteArray
  | 0, _ => []
  | i + 1, u => u.extract 0 (refRead 16 u).1.toNat :: cutL i (u.extract (refRead 16 u).1.toNat u.size)
def headN (t : ByteArray) : Nat := match frontR t with | .ok x => x.1 | .error _ => 0
def partsL (t : ByteArray) : List ByteArray := match frontR t with | .ok x => cutL x.2 (t.extract x.1 t.size) | .error _ => []
theorem read_at {k : Nat} {t : ByteArray} (h : Tm k t) (hk : k ≤ 16) (y : ByteArray) (hs : (t ++ y).size < 4611686018427387904) : refRead 16 (t ++ y) = ((t.size : Int), 0) := by
  have h1 := walk_at (h.mono hk) ⟨#[]⟩ y
  have h2 := refRead_eq 16 (t ++ y) 0 hs (Nat.zero_le _)
  rw [nil_app, show (⟨#[]⟩ : ByteArray).size = 0 from rfl, Nat.zero_add] at h1
  rw [h1, ext_all] at h2
  exact h2.1
theorem cut_cat {k : Nat} (hk : k ≤ 16) : ∀ {ps : List ByteArray}, (∀ p ∈ ps, Tm k p) → ∀ y : ByteArray, (cat ps ++ y).size < 4611686018427387904 → cutL ps.length (cat ps ++ y) = ps
  | [], _, _, _ => rfl
  | p :: ps, hp, y, hs => by
    rw [cat, app_assoc] at hs ⊢
    rw [List.length_cons, cutL, read_at (hp p List.mem_cons_self) hk _ hs]
    simp only [Int.toNat_natCast]
    rw [ext_left, ext_right, cut_cat hk (fun q hq => hp q (List.mem_cons_of_mem _ hq)) y (by rw [app_size] at hs; omega)]
theorem head_of {h : ByteArray} {p : Nat} (hh : Hd h p) (x : ByteArray) : headN (h ++ x) = h.size := by
  unfold headN; rw [hd_front hh]
theorem parts_of {k : Nat} (hk : k ≤ 16) {h : ByteArray} {ps : List ByteArray} (hh : Hd h ps.length) (hp : ∀ p ∈ ps, Tm k p) (hs : (h ++ cat ps).size < 4611686018427387904) : partsL (h ++ cat ps) = ps := by
  unfold partsL
  rw [hd_front hh]
  simp only
  rw [ext_right]
  have := cut_cat hk hp ⟨#[]⟩ (by rw [app_nil]; rw [app_size] at hs; omega)
  rwa [app_nil] at this
theorem cat_mem {p : ByteArray} : ∀ {ps : List ByteArray}, p ∈ ps → p.size ≤ (cat ps).size
  | [], h => by cases h
  | q :: ps, h => by
    rw [cat, app_size]
    rcases List.mem_cons.1 h with rfl | h
    · omega
    · have := cat_mem h; omega
def placesL : Nat → ByteArray → List ByteArray
  | 0, _ => []
  | k + 1, t => t :: (partsL t).flatMap (placesL k)
structure Pl where
  a : Nat
  e : Nat
  d : Nat
def kids (f : Nat → ByteArray → List Pl) : Nat → List ByteArray → List Pl
  | _, [] => []
  | a, p :: ps => f a p ++ kids f (a + p.size) ps
def postL : Nat → Nat → Nat → ByteArray → List Pl
  | 0, _, _, _ => []
  | k + 1, d, a, t => kids (postL k (d + 1)) (a + headN t) (partsL t) ++ [⟨a, a + t.size, d⟩]
def preL : Nat → Nat → Nat → ByteArray → List Pl
  | 0, _, _, _ => []
  | k + 1, d, a, t => ⟨a, a + t.size, d⟩ :: kids (preL k (d + 1)) (a + headN t) (partsL t)
theorem kids_perm {f g : Nat → ByteArray → List Pl} (h : ∀ a p, (f a p).Perm (g a p)) : ∀ a ps, (kids f a ps).Perm (kids g a ps)
  | _, [] => List.Perm.refl _
  | a, p :: ps => (h a p).append (kids_perm h (a + p.size) ps)
theorem post_pre : ∀ k d a t, (postL k d a t).Perm (preL k d a t)
  | 0, _, _, _ => List.Perm.refl _
  | k + 1, d, a, t => by
    rw [postL, preL]
    exact (List.perm_append_singleton _ _).trans ((kids_perm (post_pre k (d + 1)) _ _).cons _)
def InP (a e d : Nat) (p : Pl) : Prop := a ≤ p.a ∧ p.a < e ∧ p.a < p.e ∧ p.e ≤ e ∧ d ≤ p.d
theorem kids_in {f : Nat → ByteArray → List Pl} {d : Nat} : ∀ {ps : List ByteArray} {a : Nat}, (∀ p ∈ ps, ∀ a, (∀ q ∈ f a p, InP a (a + p.size) d q) ∧ (f a p).Pairwise (fun q r => q.a < r.a)) →
    (∀ q ∈ kids f a ps, InP a (a + (cat ps).size) d q) ∧ (kids f a ps).Pairwise (fun q r => q.a < r.a)
  | [], _, _ => ⟨(fun q hq => by cases hq), List.Pairwise.nil⟩
  | p :: ps, a, h => by
    obtain ⟨h1, h2⟩ := h p List.mem_cons_self a
    obtain ⟨h3, h4⟩ := kids_in (ps := ps) (a := a + p.size) (fun q hq => h q (List.mem_cons_of_mem _ hq))
    rw [kids, cat, app_size]
    refine ⟨fun q hq => ?_, List.pairwise_append.2 ⟨h2, h4, fun q hq r hr => ?_⟩⟩
    · rcases List.mem_append.1 hq with hq | hq
      · obtain ⟨q1, q2, q3, q4, q5⟩ := h1 q hq
        exact ⟨q1, by omega, q3, by omega, q5⟩
      · obtain ⟨q1, q2, q3, q4, q5⟩ := h3 q hq
        exact ⟨by omega, by omega, q3, by omega, q5⟩
    · have := h1 q hq
      have := h3 r hr
      unfold InP at *
      omega
theorem pre_in : ∀ {k : Nat}, k ≤ 16 → ∀ {t : ByteArray}, Tm k t → t.size < 4611686018427387904 → ∀ (d a : Nat), (∀ q ∈ preL k d a t, InP a (a + t.size) d q) ∧ (preL k d a t).Pairwise (fun q r => q.a < r.a)
  | 0, _, _, h, _, _, _ => h.elim
  | k + 1, hk, t, ⟨hd, ps, h1, h2, h3⟩, hs, d, a => by
    subst h2
    have hpos := h1.pos
    rw [preL, head_of h1, parts_of (by omega) h1 h3 hs]
    have hz : (hd ++ cat ps).size = hd.size + (cat ps).size := app_size _ _
    obtain ⟨q1, q2⟩ := kids_in (f := preL k (d + 1)) (d := d + 1) (ps := ps) (a := a + hd.size) fun p hp a => pre_in (by omega) (h3 p hp) (by have := cat_mem hp; omega) (d + 1) a
    refine ⟨fun q hq => ?_, List.pairwise_cons.2 ⟨fun q hq => ?_, q2⟩⟩
    · rcases List.mem_cons.1 hq with rfl | hq
      · exact ⟨Nat.le_refl _, by show a < _; omega, by show a < a + _; omega, Nat.le_refl _, Nat.le_refl _⟩
      · obtain ⟨r1, r2, r3, r4, r5⟩ := q1 q hq
        exact ⟨by omega, by omega, r3, by omega, by omega⟩
    · have := (q1 q hq).1
      show a < q.a
      omega
theorem pre_texts : ∀ {k : Nat}, k ≤ 16 → ∀ {t : ByteArray}, Tm k t → ∀ (d : Nat) (x y : ByteArray), (x ++ (t ++ y)).size < 4611686018427387904 → (preL k d x.size t).map (fun p => (x ++ (t ++ y)).extract p.a p.e) = placesL k t
  | 0, _, _, h, _, _, _, _ => h.elim
  | k + 1, hk, t, ⟨hd, ps, h1, h2, h3⟩, d, x, y, hs => by
    subst h2
    have hsz : (x ++ ((hd ++ cat ps) ++ y)).size = x.size + ((hd.size + (cat ps).size) + y.size) := by simp only [app_size]
    rw [preL, placesL, head_of h1, parts_of (by omega) h1 h3 (by rw [app_size]; omega), List.map_cons, ext_mid]
    congr 1
    have key : ∀ (qs : List ByteArray), (∀ p ∈ qs, Tm k p) → ∀ (x y : ByteArray), (x ++ (cat qs ++ y)).size < 4611686018427387904 → (kids (preL k (d + 1)) x.size qs).map (fun p => (x ++ (cat qs ++ y)).extract p.a p.e) = qs.flatMap (placesL k) := by
      intro qs
      induction qs with
      | nil => intro _ x y _; rfl
      | cons q qs ih =>
        intro hq x y hsz
        have e : x ++ (cat (q :: qs) ++ y) = x ++ (q ++ (cat qs ++ y)) := by rw [cat, app_assoc]
        have e2 : x ++ (q ++ (cat qs ++ y)) = (x ++ q) ++ (cat qs ++ y) := (app_assoc _ _ _).symm
        rw [e] at hsz ⊢
        rw [kids, List.map_append, List.flatMap_cons, pre_texts (by omega) (hq q List.mem_cons_self) (d + 1) x (cat qs ++ y) hsz]
        congr 1
        have := ih (fun p hp => hq p (List.mem_cons_of_mem _ hp)) (x ++ q) y (by rw [← e2]; exact hsz)
        rw [e2]
        rw [app_size] at this
        exact this
    have := key ps h3 (x ++ hd) y (by rw [app_assoc, ← app_assoc hd]; exact hs)
    rw [app_size] at this
    rw [app_assoc, ← app_assoc hd] at this
    exact this
end Go.Proofs.YtonbigcdoejgcaaGreatDoor
namespace Go.Proofs.YtonbigcdoejgcaaGreatDoor
open Go.Chi
def swapF (fr to : ByteArray) : Nat → ByteArray → ByteArray
  | 0, t => t
  | k + 1, t => if t = fr then to else t.extract 0 (headN t) ++ cat ((partsL t).map (swapF fr to k))
def accC : ByteArray → List ByteArray → ByteArray
  | s, [] => s
  | s, q :: qs => if 16384 < s.size then s else accC (s ++ q) qs
def swapC (fr to : ByteArray) : Nat → ByteArray → ByteArray
  | 0, t => t
  | k + 1, t => if t = fr then to else accC (t.extract 0 (headN t)) ((partsL t).map (swapC fr to k))
theorem accC_ge : ∀ (qs : List ByteArray) (s : ByteArray), s.size ≤ (accC s qs).size
  | [], s => Nat.le_refl _
  | q :: qs, s => by
    rw [accC]
    split
    · exact Nat.le_refl _
    · have := accC_ge qs (s ++ q); rw [app_size] at this; omega
theorem accC_le : ∀ (qs : List ByteArray) (s : ByteArray), (accC s qs).size ≤ (s ++ cat qs).size
  | [], s => by rw [cat, app_nil]; exact Nat.le_refl _
  | q :: qs, s => by
    rw [accC]
    split
    · rw [app_size]; omega
    · have := accC_le qs (s ++ q); rwa [app_assoc] at this
def SameL (a b : ByteArray) : Prop := a = b ∨ (16384 < a.size ∧ 16384 < b.size)
theorem accC_same {f g : ByteArray → ByteArray} : ∀ (ps : List ByteArray) (s : ByteArray), (∀ p ∈ ps, SameL (f p) (g p)) → SameL (accC s (ps.map f)) (s ++ cat (ps.map g))
  | [], s, _ => .inl (app_nil s).symm
  | p :: ps, s, h => by
    rw [List.map_cons, List.map_cons, accC, cat]
    split
    · exact .inr ⟨‹_›, by rw [app_size]; omega⟩
    · rcases h p List.mem_cons_self with e | ⟨h1, h2⟩
      · rw [e, ← app_assoc]
        exact accC_same ps _ fun q hq => h q (List.mem_cons_of_mem _ hq)
      · refine .inr ⟨?_, by rw [app_size, app_size]; omega⟩
        have := accC_ge (ps.map f) (s ++ f p)
        rw [app_size] at this
        omega
theorem swap_same (fr to : ByteArray) : ∀ (k : Nat) (t : ByteArray), SameL (swapC fr to k t) (swapF fr to k t)
  | 0, t => .inl rfl
  | k + 1, t => by
    rw [swapC, swapF]
    split
    · exact .inl rfl
    · exact accC_same _ _ fun p _ => swap_same fr to k p
theorem cat_le {f : ByteArray → ByteArray} {m : Nat} : ∀ {ps : List ByteArray}, (∀ p ∈ ps, (f p).size ≤ p.size * m) → (cat (ps.map f)).size ≤ (cat ps).size * m
  | [], _ => Nat.zero_le _
  | p :: ps, h => by
    rw [List.map_cons, cat, cat, app_size, app_size, Nat.add_mul]
    exact Nat.add_le_add (h p List.mem_cons_self) (cat_le fun q hq => h q (List.mem_cons_of_mem _ hq))
theorem le_mul1 (a m : Nat) : a ≤ a * (m + 1) := by rw [Nat.mul_succ]; omega
theorem swap_le (fr to : ByteArray) : ∀ {k : Nat}, k ≤ 16 → ∀ {t : ByteArray}, Tm k t → t.size < 4611686018427387904 → (swapF fr to k t).size ≤ t.size * (to.size + 1) ∧ (swapC fr to k t).size ≤ t.size * (to.size + 1)
  | 0, _, _, h, _ => h.elim
  | k + 1, hk, t, h, hs => by
    have hpos := h.pos
    obtain ⟨hd, ps, h1, h2, h3⟩ := h
    subst h2
    have hto : to.size ≤ (hd ++ cat ps).size * (to.size + 1) := Nat.le_trans (Nat.le_succ _) (Nat.le_mul_of_pos_left _ hpos)
    have hih : ∀ p ∈ ps, (swapF fr to k p).size ≤ p.size * (to.size + 1) ∧ (swapC fr to k p).size ≤ p.size * (to.size + 1) := fun p hp => swap_le fr to (by omega) (h3 p hp) (by have := cat_mem hp; rw [app_size] at hs; omega)
    rw [swapF, swapC, head_of h1, parts_of (by omega) h1 h3 hs, ext_left]
    split
    · exact ⟨hto, hto⟩
    · have e1 := cat_le (f := swapF fr to k) (m := to.size + 1) fun p hp => (hih p hp).1
      have e2 := cat_le (f := swapC fr to k) (m := to.size + 1) fun p hp => (hih p hp).2
      have e3 := accC_le (ps.map (swapC fr to k)) hd
      have e4 := le_mul1 hd.size to.size
      rw [app_size] at e3
      constructor
      · rw [app_size, app_size, Nat.add_mul]; omega
      · rw [app_size, Nat.add_mul]; omega
def stepW (s fr to : ByteArray) (st : ByteArray × Nat) (p : Pl) : ByteArray × Nat := if p.a < st.2 ∨ s.extract p.a p.e ≠ fr then st else (st.1 ++ s.extract st.2 p.a ++ to, p.e)
theorem fold_skip (s fr to b : ByteArray) (n : Nat) : ∀ (l : List Pl), (∀ p ∈ l, p.a < n) → l.foldl (stepW s fr to) (b, n) = (b, n)
  | [], _ => rfl
  | p :: l, h => by
    rw [List.foldl_cons, stepW, if_pos (.inl (h p List.mem_cons_self))]
    exact fold_skip s fr to b n l fun q hq => h q (List.mem_cons_of_mem _ hq)
theorem fold_ge (s fr to : ByteArray) : ∀ (l : List Pl) (st : ByteArray × Nat), st.1.size ≤ (l.foldl (stepW s fr to) st).1.size
  | [], _ => Nat.le_refl _
  | p :: l, st => by
    rw [List.foldl_cons]
    refine Nat.le_trans ?_ (fold_ge s fr to l _)
    unfold stepW
    split
    · exact Nat.le_refl _
    · simp only [app_size]; omega
theorem ext_add {s : ByteArray} {a b c : Nat} (h1 : a ≤ b) (h2 : b ≤ c) (h3 : c ≤ s.size) : s.extract a b ++ s.extract b c = s.extract a c := by
  apply ba_ext
  rw [ba_app, ba_extract, ba_extract, ba_extract]
  have e : (s.data.toList.take b).drop a = ((s.data.toList.take c).drop a).take (b - a) := by
    rw [List.take_drop, List.take_take, Nat.add_sub_cancel' h1, Nat.min_eq_left h2]
  have e2 : (s.data.toList.take c).drop b = ((s.data.toList.take c).drop a).drop (b - a) := by
    rw [List.drop_drop, Nat.add_sub_cancel' h1]
  rw [e, e2, List.take_append_drop]
theorem swap_fold (fr to : ByteArray) : ∀ {k : Nat}, k ≤ 16 → ∀ {t : ByteArray}, Tm k t → ∀ (d : Nat) (x y b : ByteArray) (n : Nat), (x ++ (t ++ y)).size < 4611686018427387904 → n ≤ x.size →
    n ≤ ((preL k d x.size t).foldl (stepW (x ++ (t ++ y)) fr to) (b, n)).2 ∧ ((preL k d x.size t).foldl (stepW (x ++ (t ++ y)) fr to) (b, n)).2 ≤ x.size + t.size ∧
      ((preL k d x.size t).foldl (stepW (x ++ (t ++ y)) fr to) (b, n)).1 ++ (x ++ (t ++ y)).extract ((preL k d x.size t).foldl (stepW (x ++ (t ++ y)) fr to) (b, n)).2 (x.size + t.size) = b ++ ((x ++ (t ++ y)).extract n x.size ++ swapF fr to k t)
  | 0, _, _, h, _, _, _, _, _, _, _ => h.elim
  | k + 1, hk, t, h, d, x, y, b, n, hs, hn => by
    have hz : (x ++ (t ++ y)).size = x.size + (t.size + y.size) := by simp only [app_size]
    have hin := (pre_in hk h (by omega) d x.size).1
    obtain ⟨hd, ps, h1, h2, h3⟩ := h
    rw [preL, List.foldl_cons, swapF]
    by_cases he : t = fr
    · have e : stepW (x ++ (t ++ y)) fr to (b, n) ⟨x.size, x.size + t.size, d⟩ = (b ++ (x ++ (t ++ y)).extract n x.size ++ to, x.size + t.size) := by
        unfold stepW
        rw [if_neg]
        rw [ext_mid]
        rintro (h | h)
        · have h : x.size < n := h
          omega
        · exact h he
      rw [e, if_pos he, fold_skip _ _ _ _ _ _ fun p hp => (hin p (by rw [preL]; exact List.mem_cons_of_mem _ hp)).2.1]
      refine ⟨by show n ≤ x.size + t.size; omega, Nat.le_refl _, ?_⟩
      show b ++ _ ++ to ++ (x ++ (t ++ y)).extract (x.size + t.size) (x.size + t.size) = _
      have : (x ++ (t ++ y)).extract (x.size + t.size) (x.size + t.size) = ⟨#[]⟩ := by
        apply ba_ext
        rw [ba_extract]
        apply List.drop_eq_nil_of_le
        rw [List.length_take]
        omega
      rw [this, app_nil, app_assoc]
    · have e : stepW (x ++ (t ++ y)) fr to (b, n) ⟨x.size, x.size + t.size, d⟩ = (b, n) := by
        unfold stepW
        rw [if_pos]
        rw [ext_mid]
        exact .inr he
      rw [e, if_neg he]
      subst h2
      have hsz : (hd ++ cat ps).size = hd.size + (cat ps).size := app_size _ _
      rw [head_of h1, parts_of (by omega) h1 h3 (by omega), ext_left]
      have key : ∀ (qs : List ByteArray), (∀ p ∈ qs, Tm k p) → ∀ (x y b : ByteArray) (n : Nat), (x ++ (cat qs ++ y)).size < 4611686018427387904 → n ≤ x.size →
          n ≤ ((kids (preL k (d + 1)) x.size qs).foldl (stepW (x ++ (cat qs ++ y)) fr to) (b, n)).2 ∧ ((kids (preL k (d + 1)) x.size qs).foldl (stepW (x ++ (cat qs ++ y)) fr to) (b, n)).2 ≤ x.size + (cat qs).size ∧
            ((kids (preL k (d + 1)) x.size qs).foldl (stepW (x ++ (cat qs ++ y)) fr to) (b, n)).1 ++ (x ++ (cat qs ++ y)).extract ((kids (preL k (d + 1)) x.size qs).foldl (stepW (x ++ (cat qs ++ y)) fr to) (b, n)).2 (x.size + (cat qs).size) = b ++ ((x ++ (cat qs ++ y)).extract n x.size ++ cat (qs.map (swapF fr to k))) := by
        intro qs
        induction qs with
        | nil => exact fun _ x y b n _ hn => ⟨Nat.le_refl _, Nat.le_trans hn (Nat.le_add_right _ _), by rw [List.map_nil, cat, app_nil]; rfl⟩
        | cons q qs ih =>
          intro hq x y b n hsz hn
          have e0 : x ++ (cat (q :: qs) ++ y) = x ++ (q ++ (cat qs ++ y)) := by rw [cat, app_assoc]
          have e2 : x ++ (q ++ (cat qs ++ y)) = (x ++ q) ++ (cat qs ++ y) := (app_assoc _ _ _).symm
          rw [e0] at hsz ⊢
          obtain ⟨q1, q2, q3⟩ := swap_fold fr to (by omega) (hq q List.mem_cons_self) (d + 1) x (cat qs ++ y) b n hsz hn
          rw [kids, List.foldl_append, List.map_cons, cat, cat, app_size]
          generalize hr : (preL k (d + 1) x.size q).foldl (stepW (x ++ (q ++ (cat qs ++ y))) fr to) (b, n) = r at q1 q2 q3 ⊢
          obtain ⟨rb, rn⟩ := r
          simp only at q1 q2 q3
          obtain ⟨p1, p2, p3⟩ := ih (fun p hp => hq p (List.mem_cons_of_mem _ hp)) (x ++ q) y rb rn (by rw [← e2]; exact hsz) (by rw [app_size]; exact q2)
          rw [← e2, app_size] at p1 p2 p3
          refine ⟨by omega, by omega, ?_⟩
          rw [← Nat.add_assoc, p3, ← app_assoc rb, q3]
          simp only [app_assoc]
      obtain ⟨p1, p2, p3⟩ := key ps h3 (x ++ hd) y b n (by rw [app_assoc, ← app_assoc hd]; exact hs) (by rw [app_size]; omega)
      have e3 : (x ++ hd) ++ (cat ps ++ y) = x ++ (hd ++ cat ps ++ y) := by simp only [app_assoc]
      rw [e3, app_size] at p1 p2 p3
      rw [hsz, ← Nat.add_assoc]
      refine ⟨p1, p2, ?_⟩
      rw [p3]
      have e4 : (x ++ (hd ++ cat ps ++ y)).extract n (x.size + hd.size) = (x ++ (hd ++ cat ps ++ y)).extract n x.size ++ hd := by
        rw [← ext_add (b := x.size) hn (by omega) (by simp only [app_size]; omega)]
        congr 1
        rw [app_assoc hd]
        exact ext_mid x hd _
      rw [e4]
      simp only [app_assoc]
end Go.Proofs.YtonbigcdoejgcaaGreatDoor
namespace Go.Proofs.YtonbigcdoejgcaaGreatDoor
open Go.Chi
def pl0 : Pl := ⟨0, 0, 0⟩
def layL (at_ : List Pl) (l : List Pl) : List Pl := l.foldl (fun r p => r.set p.a p) at_
def findP (l : List Pl) (i : Nat) : Pl := (l.find? fun p => p.a == i).getD pl0
theorem lay_len : ∀ (l at_ : List Pl), (layL at_ l).length = at_.length
  | [], _ => rfl
  | p :: l, at_ => by
    rw [layL, List.foldl_cons]
    exact (lay_len l _).trans List.length_set
theorem lay_at : ∀ (l at_ : List Pl) (i : Nat), i < at_.length → l.Pairwise (fun p q => p.a ≠ q.a) → (layL at_ l)[i]? = some ((l.find? fun p => p.a == i).getD ((at_[i]?).getD pl0))
  | [], at_, i, h, _ => by
    show at_[i]? = _
    rw [List.find?_nil, List.getElem?_eq_getElem h]; rfl
  | p :: l, at_, i, h, hp => by
    obtain ⟨h1, h2⟩ := List.pairwise_cons.1 hp
    have := lay_at l (at_.set p.a p) i (by rw [List.length_set]; exact h) h2
    rw [layL, List.foldl_cons]
    rw [show List.foldl (fun (r : List Pl) (p : Pl) => r.set p.a p) (at_.set p.a p) l = layL (at_.set p.a p) l from rfl, this, List.find?_cons]
    by_cases e : p.a = i
    · subst e
      have hn : l.find? (fun q => q.a == p.a) = none := List.find?_eq_none.2 fun q hq => by
        have := h1 q hq
        simp; omega
      rw [hn]
      simp [h]
    · have hb : (p.a == i) = false := by simp [e]
      rw [hb, List.getElem?_set_ne e]
theorem uniq_a : ∀ {l : List Pl}, l.Pairwise (fun p q => p.a ≠ q.a) → ∀ {p q : Pl}, p ∈ l → q ∈ l → p.a = q.a → p = q
  | [], _, _, _, h, _, _ => by cases h
  | x :: l, hp, p, q, h1, h2, e => by
    obtain ⟨k1, k2⟩ := List.pairwise_cons.1 hp
    rcases List.mem_cons.1 h1 with rfl | h1 <;> rcases List.mem_cons.1 h2 with rfl | h2
    · rfl
    · exact absurd e (k1 q h2)
    · exact absurd e.symm (k1 p (by assumption))
    · exact uniq_a k2 (by assumption) (by assumption) e
theorem find_perm {l ps : List Pl} (h : l.Perm ps) (hp : ps.Pairwise (fun p q => p.a ≠ q.a)) (i : Nat) : l.find? (fun p => p.a == i) = ps.find? (fun p => p.a == i) := by
  cases hf : ps.find? (fun p => p.a == i) with
  | none =>
    rw [List.find?_eq_none] at hf ⊢
    exact fun p hm => hf p (h.mem_iff.1 hm)
  | some p =>
    have h1 := List.find?_some hf
    have h2 := List.mem_of_find?_eq_some hf
    cases hg : l.find? (fun p => p.a == i) with
    | none =>
      rw [List.find?_eq_none] at hg
      exact absurd h1 (hg p (h.mem_iff.2 h2))
    | some q =>
      have g1 := List.find?_some hg
      have g2 := h.mem_iff.1 (List.mem_of_find?_eq_some hg)
      simp only [beq_iff_eq] at h1 g1
      rw [uniq_a hp g2 h2 (by omega)]
theorem sorted_filter : ∀ (m k : Nat) (ps : List Pl), ps.Pairwise (fun p q => p.a < q.a) → (∀ p ∈ ps, m ≤ p.a ∧ p.a < m + k ∧ 0 < p.d) → ((List.range' m k).map (findP ps)).filter (fun p => decide (0 < p.d)) = ps
  | m, 0, ps, _, h => by
    cases ps with
    | nil => rfl
    | cons p ps => have := h p List.mem_cons_self; omega
  | m, k + 1, ps, hp, h => by
    rw [List.range'_succ, List.map_cons]
    cases ps with
    | nil =>
      have := sorted_filter (m + 1) k [] List.Pairwise.nil (fun p hp => by cases hp)
      rw [List.filter_cons, if_neg (by simp [findP, pl0]), this]
    | cons p ps =>
      obtain ⟨h1, h2⟩ := List.pairwise_cons.1 hp
      have hp0 := h p List.mem_cons_self
      by_cases e : p.a = m
      · have hf : findP (p :: ps) m = p := by unfold findP; rw [List.find?_cons, e]; simp
        rw [hf, List.filter_cons, if_pos (by simp [hp0.2.2])]
        congr 1
        have := sorted_filter (m + 1) k ps h2 fun q hq => by have := h q (List.mem_cons_of_mem _ hq); have := h1 q hq; omega
        refine Eq.trans ?_ this
        congr 1
        apply List.map_congr_left
        intro i hi
        have hi := List.mem_range'_1.1 hi
        have hb : (p.a == i) = false := by simp; omega
        unfold findP
        rw [List.find?_cons, hb]
      · have hf : findP (p :: ps) m = pl0 := by
          unfold findP
          rw [List.find?_eq_none.2]
          · rfl
          · intro q hq
            rcases List.mem_cons.1 hq with rfl | hq
            · simp [e]
            · have := h1 q hq
              simp; omega
        rw [hf, List.filter_cons, if_neg (by simp [pl0])]
        exact sorted_filter (m + 1) k (p :: ps) hp fun q hq => by
          have := h q hq
          rcases List.mem_cons.1 hq with rfl | hq
          · omega
          · have := h1 q hq; omega
theorem lay_filter {l ps : List Pl} {n : Nat} (h : l.Perm ps) (hp : ps.Pairwise (fun p q => p.a < q.a)) (hi : ∀ p ∈ ps, p.a < n ∧ 0 < p.d) : (layL (List.replicate n pl0) l).filter (fun p => decide (0 < p.d)) = ps := by
  have hne : ps.Pairwise (fun p q => p.a ≠ q.a) := hp.imp fun h => by omega
  have hnl : l.Pairwise (fun p q => p.a ≠ q.a) := (h.pairwise_iff (fun {a b} hab => Ne.symm hab)).2 hne
  have e : layL (List.replicate n pl0) l = (List.range' 0 n).map (findP ps) := by
    apply List.ext_getElem?
    intro i
    by_cases hi : i < n
    · rw [lay_at l _ i (by rw [List.length_replicate]; exact hi) hnl, List.getElem?_map, List.getElem?_range' hi, Option.map_some, find_perm h hne]
      unfold findP
      rw [List.getElem?_replicate, if_pos hi]
      simp
    · rw [List.getElem?_eq_none (by rw [lay_len, List.length_replicate]; omega), List.getElem?_eq_none (by rw [List.length_map, List.length_range']; omega)]
  rw [e]
  exact sorted_filter 0 n ps hp fun p hm => by have := hi p hm; omega
theorem places_eq {t : ByteArray} (h : Tm 16 t) (hs : t.size < 4611686018427387904) : (layL (List.replicate t.size pl0) (postL 16 1 0 t)).filter (fun p => decide (0 < p.d)) = preL 16 1 0 t := by
  obtain ⟨h1, h2⟩ := pre_in (Nat.le_refl _) h hs 1 0
  refine lay_filter (post_pre 16 1 0 t) h2 fun p hp => ?_
  have := h1 p hp
  unfold InP at this
  omega
end Go.Proofs.YtonbigcdoejgcaaGreatDoor
namespace Go.Proofs.YtonbigcdoejgcaaGreatDoor
open Go.Chi
def mayB (t : ByteArray) : Bool := decide (checkR t = 0)
def hasB (t sub : ByteArray) : Bool := (mayB t && mayB sub) && (placesL 16 t).any fun x => decide (x = sub)
def swapE (t fr to : ByteArray) : ByteArray × Int :=
  if ((mayB t && mayB fr) && mayB to) = false then (⟨#[]⟩, 2) else
  if mayB (swapF fr to 16 t) = false then (⟨#[]⟩, 5) else (swapF fr to 16 t, 0)
def turnB (fr to t : ByteArray) : ByteArray := if (swapE t fr to).2 = 0 then (swapE t fr to).1 else t
theorem mayB_iff {t : ByteArray} (hs : t.size < 4611686018427387904) : mayB t = true ↔ Tm 16 t ∧ t.size ≤ 16384 := by rw [mayB, decide_eq_true_eq]; exact check_iff hs
theorem has_pre {t sub : ByteArray} (hs : t.size < 4611686018427387904) (h : mayB t = true) : (placesL 16 t).any (fun x => decide (x = sub)) = (preL 16 1 0 t).any fun p => decide (t.extract p.a p.e = sub) := by
  have := pre_texts (Nat.le_refl _) ((mayB_iff hs).1 h).1 1 ⟨#[]⟩ ⟨#[]⟩ (by rw [nil_app, app_nil]; exact hs)
  rw [nil_app, app_nil] at this
  rw [← this, List.any_map]
  rfl
theorem swap_pre {t fr to : ByteArray} (hs : t.size < 4611686018427387904) (h : mayB t = true) :
    ((preL 16 1 0 t).foldl (stepW t fr to) (⟨#[]⟩, 0)).2 ≤ t.size ∧ ((preL 16 1 0 t).foldl (stepW t fr to) (⟨#[]⟩, 0)).1 ++ t.extract ((preL 16 1 0 t).foldl (stepW t fr to) (⟨#[]⟩, 0)).2 t.size = swapF fr to 16 t := by
  have h0 : (⟨#[]⟩ : ByteArray).size = 0 := rfl
  obtain ⟨_, h1, h2⟩ := swap_fold fr to (Nat.le_refl _) ((mayB_iff hs).1 h).1 1 ⟨#[]⟩ ⟨#[]⟩ ⟨#[]⟩ 0 (by rw [nil_app, app_nil]; exact hs) (Nat.zero_le _)
  simp only [nil_app, app_nil, h0, Nat.zero_add] at h1 h2
  refine ⟨h1, h2.trans ?_⟩
  have : t.extract 0 0 = ⟨#[]⟩ := by
    apply ba_ext
    rw [ba_extract]
    simp
  rw [this, nil_app]
theorem swap_small {t fr to : ByteArray} (h : Tm 16 t ∧ t.size ≤ 16384) (hto : to.size ≤ 16384) : (swapF fr to 16 t).size < 1099511627776 ∧ (swapC fr to 16 t).size < 1099511627776 := by
  obtain ⟨h1, h2⟩ := swap_le fr to (Nat.le_refl _) h.1 (by omega)
  have : t.size * (to.size + 1) ≤ 16384 * 16385 := Nat.mul_le_mul h.2 (by omega)
  omega
theorem may_swapC {t fr to : ByteArray} (h : Tm 16 t ∧ t.size ≤ 16384) (hto : to.size ≤ 16384) : mayB (swapC fr to 16 t) = mayB (swapF fr to 16 t) ∧ (mayB (swapF fr to 16 t) = true → swapC fr to 16 t = swapF fr to 16 t) := by
  obtain ⟨z1, z2⟩ := swap_small (fr := fr) h hto
  rcases swap_same fr to 16 t with e | ⟨h1, h2⟩
  · rw [e]; exact ⟨rfl, fun _ => rfl⟩
  · have e1 : mayB (swapC fr to 16 t) = false := by
      cases hm : mayB (swapC fr to 16 t) with
      | false => rfl
      | true => have := ((mayB_iff (by omega)).1 hm).2; omega
    have e2 : mayB (swapF fr to 16 t) = false := by
      cases hm : mayB (swapF fr to 16 t) with
      | false => rfl
      | true => have := ((mayB_iff (by omega)).1 hm).2; omega
    rw [e1, e2]
    exact ⟨rfl, fun h => by cases h⟩
theorem long_not {s : ByteArray} (hs : s.size < 4611686018427387904) (h : 16384 < s.size) : mayB s = false := by
  cases hm : mayB s with
  | false => rfl
  | true => have := ((mayB_iff hs).1 hm).2; omega
theorem swap_self (fr : ByteArray) : ∀ {k : Nat}, k ≤ 16 → ∀ {t : ByteArray}, Tm k t → t.size < 4611686018427387904 → swapF fr fr k t = t
  | 0, _, _, h, _ => h.elim
  | k + 1, hk, t, ⟨hd, ps, h1, h2, h3⟩, hs => by
    subst h2
    rw [swapF, head_of h1, parts_of (by omega) h1 h3 hs, ext_left]
    split
    · exact Eq.symm ‹_›
    · have : ps.map (swapF fr fr k) = ps := by
        conv => rhs; rw [← List.map_id ps]
        apply List.map_congr_left
        intro p hp
        exact swap_self fr (by omega) (h3 p hp) (by have := cat_mem hp; rw [app_size] at hs; omega)
      rw [this]
theorem turn_self {fr t : ByteArray} (hs : t.size < 4611686018427387904) : turnB fr fr t = t := by
  unfold turnB swapE
  cases hm : mayB t with
  | false => rfl
  | true =>
    rw [swap_self fr (Nat.le_refl _) ((mayB_iff hs).1 hm).1 hs]
    cases hf : mayB fr with
    | false => rfl
    | true => rw [hm]; rfl
end Go.Proofs.YtonbigcdoejgcaaGreatDoor
namespace Go.Proofs.YtonbigcdoejgcaaGreatDoor
open Go.Chi
def keyS (c a b : Int) : ByteArray := bytesI [c, 47, 48 + a, 47, 48 + b]
theorem keyS_size (c a b : Int) : (keyS c a b).size = 5 := rfl
def keyB (s : ByteArray) : Bool := (List.range 8).any fun a => (List.range 8).any fun b => decide (a ≤ b) && (decide (s = keyS 107 a b) || decide (s = keyS 115 a b))
theorem keyB_iff {s : ByteArray} : keyB s = true ↔ ∃ a b : Nat, a < 8 ∧ b < 8 ∧ a ≤ b ∧ (s = keyS 107 a b ∨ s = keyS 115 a b) := by
  simp only [keyB, List.any_eq_true, List.mem_range, Bool.and_eq_true, decide_eq_true_eq, Bool.or_eq_true]
  constructor
  · rintro ⟨a, h1, b, h2, h3, h4⟩; exact ⟨a, b, h1, h2, h3, h4⟩
  · rintro ⟨a, b, h1, h2, h3, h4⟩; exact ⟨a, h1, b, h2, h3, h4⟩
theorem byte_keyS2 (c : Int) (a b : Nat) (ha : a < 8) : byte (keyS c a b) 2 = 48 + a := by
  have : (keyS c a b)[2]? = some (UInt8.ofNat (48 + (a : Int)).toNat) := rfl
  unfold byte
  rw [this]
  simp
  omega
theorem byte_keyS4 (c : Int) (a b : Nat) (hb : b < 8) : byte (keyS c a b) 4 = 48 + b := by
  have : (keyS c a b)[4]? = some (UInt8.ofNat (48 + (b : Int)).toNat) := rfl
  unfold byte
  rw [this]
  simp
  omega
end Go.Proofs.YtonbigcdoejgcaaGreatDoor
namespace Go.Proofs.YtonbigcdoejgcaaGreatDoor
open Go.Chi
def kindB (c : Int) : Int := if c = 100 then 1 else if c = 97 then 2 else if c = 114 then 3 else if c = 104 then 4 else if c = 109 then 5 else 6
def kindN (t : ByteArray) : Int := if mayB t = true then kindB (byte t 0) else 0
theorem Tm.byte {k : Nat} {t : ByteArray} (h : Tm k t) : byte t 0 = 100 ∨ byte t 0 = 97 ∨ byte t 0 = 114 ∨ byte t 0 = 104 ∨ byte t 0 = 109 ∨ byte t 0 = 115 := by
  cases k with
  | zero => exact h.elim
  | succ k =>
    obtain ⟨hd, ps, h1, rfl, _⟩ := h
    rw [byte_left h1.pos]
    generalize ps.length = n at h1
    cases h1 with
    | data h => left; exact byte0_one (by decide) (by decide) _
    | atom h hn => right; left; exact byte0_one (by decide) (by decide) _
    | row h => right; right; left; exact byte0_one (by decide) (by decide) _
    | hash => right; right; right; left; exact byte_one 104 (by decide) (by decide)
    | mac => right; right; right; right; left; exact byte_one 109 (by decide) (by decide)
    | slot => right; right; right; right; right; exact byte_one 115 (by decide) (by decide)
def textN (t : ByteArray) : ByteArray × Bool := if mayB t = true ∧ (byte t 0 = 100 ∨ byte t 0 = 97) then ((textR (rest1 t) 1024).1, true) else (⟨#[]⟩, false)
end Go.Proofs.YtonbigcdoejgcaaGreatDoor
namespace Go.Proofs.YtonbigcdoejgcaaGreatDoor
open Go.Chi
theorem take_snoc {α : Type} {l : List α} {j : Nat} {x : α} (h : l[j]? = some x) : l.take (j + 1) = l.take j ++ [x] := by rw [List.take_add_one, h]; rfl
theorem any_snoc {α : Type} {xs : List α} {j : Nat} {x : α} (p : α → Bool) (hx : xs[j]? = some x) (hp : (xs.take j).any p = false) : (xs.take (j + 1)).any p = p x := by rw [take_snoc hx, List.any_append, hp]; simp
theorem any_true {α : Type} {xs : List α} {j : Nat} {x : α} (p : α → Bool) (hx : xs[j]? = some x) (hp : p x = true) : xs.any p = true := List.any_eq_true.2 ⟨x, List.mem_of_getElem? hx, hp⟩
theorem SMb.at_ {M : Mem} {a : Option Addr} {len : Nat} {xs : List Mb} (h : SlM M 2 a len (xs.map mbC)) {j : Nat} (hj : j < len) : ∃ b off m, a = some ⟨b, off, none⟩ ∧ xs[j]? = some m ∧ Cells M [] b (off + j * 2) (mbC m) := by
  obtain ⟨b, off, c, ha, hc, _, hcells⟩ := h.at_ hj
  obtain ⟨m, hm, rfl⟩ : ∃ m, xs[j]? = some m ∧ mbC m = c := by simpa using hc
  exact ⟨b, off, m, ha, hm, hcells⟩
def stC (x : ByteArray) : List Value := [.string x]
theorem SStr.at_ {M : Mem} {a : Option Addr} {len : Nat} {xs : List ByteArray} (h : SlM M 1 a len (xs.map stC)) {j : Nat} (hj : j < len) : ∃ b off m, a = some ⟨b, off, none⟩ ∧ xs[j]? = some m ∧ Cells M [] b (off + j * 1) (stC m) := by
  obtain ⟨b, off, c, ha, hc, _, hcells⟩ := h.at_ hj
  obtain ⟨m, hm, rfl⟩ : ∃ m, xs[j]? = some m ∧ stC m = c := by simpa using hc
  exact ⟨b, off, m, ha, hm, hcells⟩
def MbOk (M : Mem) (s : SMb) : Prop := s.Ok M ∧ s.len < 1000000
def StOk (M : Mem) (s : SStr) : Prop := s.Ok M ∧ s.len < 1000000
theorem MbOk.le {M M' : Mem} {s : SMb} (hm : M.le M') (h : MbOk M s) : MbOk M' s := ⟨h.1.le hm, h.2⟩
theorem StOk.le {M M' : Mem} {s : SStr} (hm : M.le M') (h : StOk M s) : StOk M' s := ⟨h.1.le hm, h.2⟩
theorem StOk.nil (M : Mem) : StOk M ⟨none, 0, 0, []⟩ := ⟨SlM.nil _ _ _, by decide⟩
theorem MbOk.len {M : Mem} {s : SMb} (h : MbOk M s) : s.xs.length = s.len := by have := h.1.1; simpa using this
theorem StOk.len {M : Mem} {s : SStr} (h : StOk M s) : s.xs.length = s.len := by have := h.1.1; simpa using this
end Go.Proofs.YtonbigcdoejgcaaGreatDoor
namespace Go.Proofs.YtonbigcdoejgcaaGreatDoor
open Go.Chi
set_option maxRecDepth 10000
abbrev pt (b : Nat) : Value := .pointer (some ⟨b, 0, none⟩)
abbrev iv (n : Nat) : Value := .int .i64 (n : Int)
theorem isM_ok (M : Mem) (s : SStr) (h : StOk M s) (hz : ∀ t ∈ s.xs, t.size < 4611686018427387904) : TrQ Tryz.prog 73 [s.v] M [] (.bool (s.xs.all mayB)) := by
  have hlen := h.len
  have h6 := h.2
  obtain ⟨a, n, c, xs⟩ := s
  simp only [SStr.v] at *
  refine Tr.intro 15 Tryz.func73 rfl rfl Tryz.call73 rfl ?_
  intro C hC hro
  repeat (first | refine zz ?_ | refine zx fun _ => ?_)
  refine run_loopN (fun j σ1 M1 L1 => j ≤ n ∧ M = M1 ∧ [] = L1 ∧ (xs.take j).all mayB = true ∧ σ1 = [(7, iv j), (6, iv n), (5, .slice a n c)]) n [(7, iv 0), (6, iv n), (5, .slice a n c)] ?_ ⟨Nat.zero_le _, rfl, rfl, rfl, rfl⟩ (fun j _ _ _ h => h.1) ?_
  · exact ⟨rfl, rfl, rfl, trivial⟩
  rintro j _ _ _ ⟨hj, rfl, rfl, hpre, rfl⟩ hnext
  repeat (first | refine zz ?_ | refine zx fun _ => ?_)
  refine run_cond rfl (fun h1 => ?_) (fun h1 => ?_)
  · have hlt : j < n := by simpa using h1
    obtain ⟨b, off, t, ha, hm, hc⟩ := SStr.at_ h.1 hlt
    subst ha
    have htz := hz t (List.mem_of_getElem? hm)
    repeat (first | refine zz ?_ | refine zx fun _ => ?_ | refine runL_q (qt_indexN tok rfl rfl rfl rfl (fun _ => by omega)) rfl rfl rfl ?_ | refine runL_g rfl rfl (qt_indexN tok rfl rfl rfl rfl (fun _ => by omega)) rfl rfl rfl rfl rfl ?_ | refine runL_q (qt_ldM tok rfl hc rfl) rfl rfl rfl ?_ | refine runL_g rfl rfl (qt_ldM tok rfl hc rfl) rfl rfl rfl rfl rfl ?_ | refine runL_q (qt_ldM0 tok rfl hc rfl) rfl rfl rfl ?_ | refine runL_g rfl rfl (qt_ldM0 tok rfl hc rfl) rfl rfl rfl rfl rfl ?_ | refine rq (qt_callF rfl (fun _ => check_ok _ _ t htz)) ?_)
    refine run_cond (t := checkR t != 0) rfl (fun h2 => ?_) (fun h2 => ?_)
    · have hf : mayB t = false := by simp at h2; simp [mayB, h2]
      repeat (first | refine zz ?_ | refine zx fun _ => ?_)
      exact run_ret hC (rs := [.tmp 2]) rfl (resT rfl resN) (fun _ h => h) ⟨by rw [show xs.all mayB = false from List.all_eq_false.2 ⟨t, List.mem_of_getElem? hm, show ¬ mayB t = true by rw [hf]; decide⟩]; rfl, rfl, rfl⟩
    · have ht : mayB t = true := by simp at h2; simp [mayB, h2]
      repeat (first | refine zz ?_ | refine zx fun _ => ?_)
      exact run_sub' (hnext _ _ _ ⟨hlt, rfl, rfl, by rw [List.take_add_one, hm, List.all_append, hpre]; simp [ht], rfl⟩) ⟨lk_succ rfl (by omega), rfl, rfl, trivial⟩
  · have hge : j = n := by simp at h1; omega
    subst hge
    rw [List.take_of_length_le (by omega)] at hpre
    repeat (first | refine zz ?_ | refine zx fun _ => ?_)
    exact run_ret hC (rs := [.tmp 2]) rfl (resT rfl resN) (fun _ h => h) ⟨by rw [hpre]; rfl, rfl, rfl⟩
theorem isL_ok (M : Mem) (L : HL) (b n : Nat) (xs : List ByteArray) (hm : (b, Obj.cells ⟨(xs.map stC).flatten⟩ 9 (0, 0)) ∈ L) (hn : xs.length = n) (h6 : n < 1000000) (hz : ∀ t ∈ xs, t.size < 4611686018427387904) : TrQ Tryz.prog 73 [.slice (some ⟨b, 0, none⟩) n n] M L (.bool (xs.all mayB)) :=
  TrQ.lend (fun w => Tryz.call73 _ w) fun M' _ hb => isM_ok M' ⟨some ⟨b, 0, none⟩, n, n, xs⟩ ⟨by
    have := SlM.ofBlk (size := 1) (ls := xs.map stC) (hb _ _ hm) rfl (fun c hc => by obtain ⟨x, _, rfl⟩ := List.mem_map.1 hc; rfl)
    rwa [List.length_map, hn] at this, h6⟩ hz
def darhms : ByteArray := ⟨#[100, 97, 114, 104, 109, 115]⟩
theorem kind_ix : ∀ n : Fin 256, (n.val = 100 ∨ n.val = 97 ∨ n.val = 114 ∨ n.val = 104 ∨ n.val = 109 ∨ n.val = 115) → IntKind.u8.wrap (IntKind.i64.wrap (1 + firstIdx darhms ((n.val : Nat) : Int).toNat.toUInt8)) = kindB ((n.val : Nat) : Int) := by decide +kernel
theorem tkind_ok (M : Mem) (L : HL) (t : ByteArray) (hz : t.size < 4611686018427387904) : TrQ Tryz.prog 50 [.string t] M L (.int .u8 (kindN t)) := by
  refine Tr.intro 12 Tryz.func50 rfl rfl Tryz.call50 rfl ?_
  intro C hC hro
  repeat (first | refine zz ?_ | refine zx fun _ => ?_)
  rename_i b
  repeat (first | refine zz ?_ | refine zx fun _ => ?_ | refine rq (qt_callF rfl (fun _ => isL_ok _ _ b 1 [t] List.mem_cons_self rfl (by decide) (fun x hx => by simp at hx; subst hx; exact hz))) ?_)
  refine run_cond (t := !(mayB t && true)) rfl (fun h => ?_) (fun h => ?_)
  · have hf : mayB t = false := by simpa using h
    repeat (first | refine zz ?_ | refine zx fun _ => ?_)
    exact run_ret hC (rs := [.tmp 2]) rfl (resT rfl resN) (fun _ h => h.drop) ⟨by rw [kindN, if_neg (by rw [hf]; decide)]; rfl, rfl, rfl⟩
  have ht : mayB t = true := by simpa using h
  obtain ⟨h1, h2⟩ := (mayB_iff hz).1 ht
  obtain ⟨c, hc1, hc2⟩ := byte_at (i := 0) (show 0 < t.size from h1.pos)
  have hk := kind_ix ⟨c.toNat, c.toNat_lt⟩ (by have := h1.byte; rw [hc2] at this; simp only; omega)
  repeat (first | refine zz ?_ | refine zx fun _ => ?_ | refine rq (qt_strIndex (n := 0) (b := c) tok rfl rfl rfl (fun _ => hc1)) ?_ | refine rq (qt_callF rfl (fun _ => indexByte_ok _ _ darhms (c.toNat : Int))) ?_)
  exact run_ret hC (rs := [.tmp 2]) rfl (resT rfl resN) (fun _ h => h.drop) ⟨by rw [kindN, if_pos ht, hc2, ← hk]; rfl, rfl, rfl⟩
theorem kindB_12 (c : Int) : (kindB c = 1 ↔ c = 100) ∧ (kindB c = 2 ↔ c = 97) := by
  unfold kindB
  constructor
  · constructor
    · intro h; repeat' (first | split at h | omega)
    · intro h; rw [if_pos h]
  · constructor
    · intro h; repeat' (first | split at h | omega)
    · intro h; rw [if_neg (by omega), if_pos h]
theorem ttext_ok (M : Mem) (L : HL) (t : ByteArray) (hz : t.size < 4611686018427387904) : TrQ Tryz.prog 48 [.string t] M L (.tuple ⟨[.string (textN t).1, .bool (textN t).2]⟩) := by
  refine Tr.intro 24 Tryz.func48 rfl rfl Tryz.call48 rfl ?_
  intro C hC hro
  repeat (first | refine zz ?_ | refine zx fun _ => ?_ | refine rq (qt_callF rfl (fun _ => tkind_ok _ _ t hz)) ?_)
  have hkb := kindB_12 (byte t 0)
  refine run_cond (t := (kindN t != 1) && (kindN t != 2)) rfl (fun h => ?_) (fun h => ?_)
  · have hn : textN t = (⟨#[]⟩, false) := by
      unfold textN
      rw [if_neg]
      rintro ⟨h1, h2⟩
      unfold kindN at h
      rw [if_pos h1] at h
      simp only [Bool.and_eq_true, bne_iff_ne] at h
      omega
    repeat (first | refine zz ?_ | refine zx fun _ => ?_)
    exact run_ret hC (rs := [.tmp 2, .tmp 3]) rfl (resT rfl (resT rfl resN)) (fun _ h => h) ⟨by rw [hn]; rfl, rfl, rfl⟩
  have hn : textN t = ((textR (rest1 t) 1024).1, true) ∧ 1 ≤ t.size := by
    unfold textN
    have h1 : mayB t = true := by
      cases hm : mayB t with
      | true => rfl
      | false => unfold kindN at h; rw [if_neg (by rw [hm]; decide)] at h; simp at h
    unfold kindN at h
    rw [if_pos h1] at h
    refine ⟨if_pos ⟨h1, ?_⟩, ((mayB_iff hz).1 h1).1.pos⟩
    simp only [Bool.and_eq_false_iff, bne_eq_false_iff_eq] at h
    omega
  repeat (first | refine zz ?_ | refine zx fun _ => ?_ | refine rq (qt_strLo (n := 1) tok rfl rfl rfl (fun _ => hn.2)) ?_ | refine rq (qt_callF rfl (fun _ => readText_ok _ _ (rest1 t) 1024 (by rw [rest1_size]; omega) (by decide))) ?_)
  exact run_ret hC (rs := [.tmp 2, .tmp 3]) rfl (resT rfl (resT rfl resN)) (fun _ h => h) ⟨by rw [hn.1]; rfl, rfl, rfl⟩
end Go.Proofs.YtonbigcdoejgcaaGreatDoor
namespace Go.Chi
section
variable {P : Program} {T : TT} {ro : Option Nat} {σ : Env} {δ : Den} {cur : Path} {M : Mem} {L : HL} {d : Option Nat} {op : Op} {ty : TypeId} {pos : String} {aft : Array Edge} {g : Option (Nat × Bool)} {v : Value}
theorem qt_indexA (hT : TOk P T) {t : TypeId} {x y : Operand} {b off len : Nat} {k : IntKind} {n e s : Nat}
    (hx : ev σ δ cur x = some (.pointer (some ⟨b, off, none⟩))) (hy : ev σ δ cur y = some (.int k (n : Int))) (hu : und T t = some (.array len e)) (hi : sizeT T e = some s) (hb : Hy σ δ cur → n < len) :
    Qt P ro ⟨d, .indexAddr t x y, ty, pos, aft, g⟩ σ δ cur M L (.pointer (some ⟨b, off + n * s, none⟩)) :=
  qt_of_run (semAt_of (by intro c e; cases e)) fun a w hs hcur hp => by
    have h := hb (Hy_of hs hcur)
    simp [execOp, Instr.indexAt, Instr.sureAddr, ev_sound hs hcur hx, ev_sound hs hcur hy, asIntOf, run_und hT hu, run_sizeT hT hi, add_none, h]
end
end Go.Chi
namespace Go.Chi
section
variable {P : Program} {T : TT} {ro : Option Nat} {σ : Env} {δ : Den} {cur : Path} {M : Mem} {L : HL} {d : Option Nat} {op : Op} {ty : TypeId} {pos : String} {aft : Array Edge} {g : Option (Nat × Bool)} {v : Value}
end
section
variable {P : Program} {ro : Option Nat} {o : Oper} {σ : Env} {δ : Den} {cur : Path} {M : Mem} {L : HL}
theorem St.frz {K K' : Value → Mem → HL → Prop} (h : St P ro o σ δ cur M L K) (hk : ∀ v M' L' w, Hp M' L' w → K v M' L' → ∃ M'' L'', Hp M'' L'' w ∧ K' v M'' L'') : St P ro o σ δ cur M L K' :=
  fun a w h1 h2 h3 => (h a w h1 h2 h3).mono fun _ _ ⟨_, _, h4, h5⟩ => hk _ _ _ _ h4 h5
end
section
variable {P : Program} {C : Cx} {n : Nat} {k : List Item} {ds : List Deferred} {σ : Env} {δ : Den} {M : Mem} {L : HL} {ops : Array Oper} {X : List Nat}
end
end Go.Chi
namespace Go.Chi
section
variable {P : Program} {T : TT} {ro : Option Nat} {σ : Env} {δ : Den} {cur : Path} {M : Mem} {L : HL} {d : Option Nat} {op : Op} {ty : TypeId} {pos : String} {aft : Array Edge} {g : Option (Nat × Bool)} {v : Value}
def bC (l : List UInt8) : List Value := l.map fun b => .int .u8 (b.toNat : Int)
end
end Go.Chi
namespace Go.Chi
section
variable {P : Program} {T : TT} {ro : Option Nat} {σ : Env} {δ : Den} {cur : Path} {M : Mem} {L : HL} {d : Option Nat} {op : Op} {ty : TypeId} {pos : String} {aft : Array Edge} {g : Option (Nat × Bool)} {v : Value}
theorem st_appendX' (hT : TOk P T) {s x : Operand} {t t2 e : TypeId}  {i : TypeInfo} {z : Value} {n m : Nat} {xs news : List Value} {xv : Value} {N L0 : HL}
    (hs : ev σ δ cur s = some v) (hx : ev σ δ cur x = some xv) (ht : und T t = some (.slice e)) (hi : tlk T e = some i) (hz : i.zero = some z) (hzs : (cellsL z).length = i.size) (hby : i.bytes ≠ 0)
    (hL : L.Perm (N ++ L0)) (ho : OS e i.size v n xs N) (ht2 : und T t2 = some .string) (hfst : ∀ w, Hp M L w → (Builtin.firstCells i.size m xv).run P w = .ok ⟨news⟩ w) (hlx : ∀ w, (Builtin.lenOf xv).run P w = .ok m w) (hnl : news.length = m * i.size) (h1 : ∀ u ∈ news, u.oneCell' = true) (hroom : (2 * (n + m) + 192) * i.bytes ≤ 281474976710656) (h63 : n + m < 9223372036854775808) :
    St P ro ⟨d, .call ⟨.builtin .append, #[s, x], #[t, t2]⟩, ty, pos, aft, g⟩ σ δ cur M L (fun v' M' L' => ∃ N', M = M' ∧ L' = N' ++ L0 ∧ OS e i.size v' (n + m) (xs ++ news) N') := fun a w hse hcur hp => by
  have hlen := ho.len
  have hes := ev_sound hse hcur hs
  have hex := ev_sound hse hcur hx
  have hp' := hp.perm hL
  have hfirst := hfst w hp
  -- the slice, its base and capacity
  obtain ⟨base, cap, rfl⟩ : ∃ base cap, v = .slice base n cap := by
    rcases ho with ⟨rfl, rfl, _⟩ | ⟨b, cap, cs, rfl, _⟩
    · exact ⟨none, 0, rfl⟩
    · exact ⟨_, cap, rfl⟩
  have hexec : ∀ (r : Result Value), (Builtin.append_ #[t, t2] ty #[.slice base n cap, xv]).run P w = r → (execOp a.eval ⟨d, .call ⟨.builtin .append, #[s, x], #[t, t2]⟩, ty, pos, aft, g⟩).run P w = r.andThen fun v w' => .ok (.value v) w' := fun r hr => by
    simp only [execOp, resolve, Sem.run_bind, Sem.run_pure, Result.andThen_ok, invoke, builtin, List.map_toArray, List.map_cons, List.map_nil, hes, hex, hr]
  have hund := run_und hT ht
  have hund2 := run_und hT ht2
  by_cases hcap : n + m ≤ cap
  · -- in place
    rcases ho with ⟨hv, rfl, rfl, rfl⟩ | ⟨b, cap', cs, hv, rfl, hle, hcl, hxs⟩
    · injection hv with e1 e2 e3
      subst e1 e3
      have hm0 : m = 0 := by omega
      subst hm0
      have hn0 : news = [] := List.length_eq_zero_iff.1 (by simpa using hnl)
      subst hn0
      refine opWp_value (v := .slice none 0 0) (w' := w) ?_ ⟨M, L0, by simpa using hp', [], rfl, by simp, .inl ⟨rfl, rfl, by simp, rfl⟩⟩
      rw [semAt_of (by intro c e; cases e), hexec (.ok (.slice none 0 0) w)]
      · rfl
      · simp [Builtin.append_, hund, hund2, run_size hT hi, hlx, hfirst]
    · injection hv with e1 e2 e3
      subst e1 e3
      have hb : w.heap[b]? = some (.cells ⟨cs⟩ e (0, 0)) := hp'.own (b, .cells ⟨cs⟩ e (0, 0)) (by simp)
      have hle2 : n * i.size + news.length ≤ cs.length := by rw [hnl, hcl, ← Nat.add_mul]; exact Nat.mul_le_mul_right _ hcap
      have hrun := run_storeCells_at (P := P) b (n * i.size) e news 0 ⟨cs⟩ w hb (by simpa using hle2) h1
      simp only [Nat.add_zero] at hrun
      refine opWp_value (v := .slice (some ⟨b, 0, none⟩) (n + m) cap) (w' := w.setRow b ⟨setSeg cs (n * i.size) news⟩) ?_ ⟨M, (b, .cells ⟨setSeg cs (n * i.size) news⟩ e (0, 0)) :: L0, ?_, [(b, .cells ⟨setSeg cs (n * i.size) news⟩ e (0, 0))], rfl, rfl, .inr ⟨b, cap, _, rfl, rfl, hcap, ?_, ?_⟩⟩
      · rw [semAt_of (by intro c e; cases e), hexec (.ok (.slice (some ⟨b, 0, none⟩) (n + m) cap) (w.setRow b ⟨setSeg cs (n * i.size) news⟩))]
        · rfl
        · simp only [Builtin.append_, Sem.run_bind, run_size hT hi, hlx, hfirst, Result.andThen_ok, hund, hund2, hcap, if_true, Sem.run_pure, Bool.false_eq_true, if_false, Bool.not_false, List.getElem?_toArray, List.getElem?_cons_zero, List.getElem?_cons_succ, add_none, Nat.zero_add, hrun]
          simp [setSeg]
      · exact hp'.setRow (Upd.here _ _ _ _)
      · simp [setSeg]; omega
      · rw [Nat.add_mul, ← hnl]
        have hx' : xs.length = n * i.size := hlen
        unfold setSeg
        rw [hxs, List.take_append_of_le_length (by simp; omega)]
        rw [← hx', ← List.length_append]
        exact List.take_length
  · -- a new array
    have hold : ∀ w, Hp M L w → (Builtin.firstCells i.size n (.slice base n cap)).run P w = .ok ⟨xs⟩ w := fun w hw => by
      refine run_firstCells hw ?_
      rcases ho with ⟨hv, rfl, rfl, rfl⟩ | ⟨b, cap', cs, hv, rfl, hle, hcl, hxs⟩
      · exact .inl ⟨none, 0, hv, rfl, rfl⟩
      · refine .inr ⟨b, 0, cap, ?_, ?_, hlen⟩
        · injection hv with e1 e2 e3; rw [e1]
        · refine ⟨⟨cs⟩, e, (0, 0), .inl (hL.mem_iff.2 (by simp)), fun j u hu => ?_⟩
          rw [← hxs, List.getElem?_take] at hu
          split at hu
          · simpa using hu
          · cases hu
    have hlt : cap < n + m := by omega
    have hnext : ¬ Builtin.nextslicecap (n + m) cap * i.bytes > 2 ^ 48 := by
      have h2 := Nat.mul_le_mul_right i.bytes (nextcap_le hlt)
      have : (2 : Nat) ^ 48 = 281474976710656 := by decide
      omega
    obtain ⟨nc, hnc, hnc2⟩ : ∃ nc, nc = (Question.appendCap (n + m) cap e).cut (w.tape w.drawn (.appendCap (n + m) cap e)) ∧ n + m ≤ nc := ⟨_, rfl, by simp [Question.cut]⟩
    have hd := hp.drawn (w.drawn + 1)
    have hfirst' := hfst _ hd
    have hold' := hold _ hd
    let nb : Array Value := ⟨xs⟩ ++ ⟨news⟩ ++ Builtin.zeroCells z.cells (nc - (n + m))
    have hnb : nb = ⟨nb.toList⟩ := rfl
    have hpush := hd.push (.cells nb e (0, 0))
    refine opWp_value (v := .slice (some ⟨w.heap.size, 0, none⟩) (n + m) nc) (w' := { w with drawn := w.drawn + 1, heap := w.heap.push (.cells nb e (0, 0)) }) ?_ ⟨M, (w.heap.size, .cells nb e (0, 0)) :: L0, ?_, [(w.heap.size, .cells nb e (0, 0))], rfl, rfl, .inr ⟨w.heap.size, nc, nb.toList, rfl, rfl, hnc2, ?_, ?_⟩⟩
    · rw [semAt_of (by intro c e; cases e), hexec (.ok (.slice (some ⟨w.heap.size, 0, none⟩) (n + m) nc) { w with drawn := w.drawn + 1, heap := w.heap.push (.cells nb e (0, 0)) })]
      · rfl
      · have hbz : ¬ (i.bytes = 0) := hby
        simp only [Builtin.append_, Sem.run_bind, run_size hT hi, hlx, Result.andThen_ok, hund, hund2, hcap, if_false, Sem.run_pure, Bool.false_eq_true, Bool.not_false, if_true, List.getElem?_toArray, List.getElem?_cons_zero, List.getElem?_cons_succ, run_info hT hi, hbz, or_self, and_false, Sem.run_ite, hnext, run_choose, Question.forced, run_askRoom, ← hnc, hold', hfirst', zeroValue, hz]
        rfl
    · have h3 : Hp M ((w.heap.size, .cells nb e (0, 0)) :: (N ++ L0)) { w with drawn := w.drawn + 1, heap := w.heap.push (.cells nb e (0, 0)) } := hpush.perm (List.Perm.cons _ hL)
      have h4 : Hp M (N ++ ((w.heap.size, .cells nb e (0, 0)) :: L0)) { w with drawn := w.drawn + 1, heap := w.heap.push (.cells nb e (0, 0)) } := h3.perm (by simpa using List.perm_middle.symm)
      exact h4.dropAll
    · have hzc : z.cells.size = i.size := by rw [cellsL_eq]; exact hzs
      have : nb.toList.length = xs.length + news.length + (nc - (n + m)) * i.size := by
        rw [Array.length_toList]
        show ((⟨xs⟩ : Array Value) ++ ⟨news⟩ ++ Builtin.zeroCells z.cells (nc - (n + m))).size = _
        rw [Array.size_append, Array.size_append, zeroCells_size, hzc]
        rfl
      rw [this, hlen, hnl, ← Nat.add_mul, ← Nat.add_mul]
      congr 1; omega
    · have : nb.toList = (xs ++ news) ++ (Builtin.zeroCells z.cells (nc - (n + m))).toList := by simp [nb]
      rw [this]
      have hl2 : (xs ++ news).length = (n + m) * i.size := by rw [List.length_append, hlen, hnl, Nat.add_mul]
      rw [← hl2, List.take_left']
      rfl
theorem st_appendS (hT : TOk P T) {s x : Operand} {t t2 e sz by_ : Nat} {z : Value} {n : Nat} {xs : List Value} {str : ByteArray} {N L0 : HL}
    (hs : ev σ δ cur s = some v) (hx : ev σ δ cur x = some (.string str)) (ht : und T t = some (.slice e)) (ht2 : und T t2 = some .string) (hi : sizeT T e = some sz) (h1z : sz = 1) (hz : zeroT T e = some z) (hzs : (cellsL z).length = sz) (hb : bytesT T e = some by_) (hby : Nat.ble 1 by_ = true)
    (hL : L.Perm (N ++ L0)) (ho : OS e sz v n xs N) (hroom : (2 * (n + str.size) + 192) * by_ ≤ 281474976710656) (h63 : n + str.size < 9223372036854775808) :
    St P ro ⟨d, .call ⟨.builtin .append, #[s, x], #[t, t2]⟩, ty, pos, aft, g⟩ σ δ cur M L (fun v' M' L' => ∃ N', M = M' ∧ L' = N' ++ L0 ∧ OS e sz v' (n + str.size) (xs ++ bC str.data.toList) N') := by
  obtain ⟨i, hi1, rfl⟩ := sizeT_ok hi
  obtain ⟨i2, hi2, hz2⟩ := zeroT_ok hz
  obtain ⟨i3, hi3, rfl⟩ := bytesT_ok hb
  rw [hi1] at hi2 hi3
  cases hi2
  cases hi3
  have hlen : (bC str.data.toList).length = str.size * i.size := by rw [h1z, Nat.mul_one]; simp [bC]
  refine st_appendX' hT hs hx ht hi1 hz2 hzs (by have := Nat.le_of_ble_eq_true hby; omega) hL ho ht2 (fun w _ => ?_) (fun w => ?_) hlen (fun u hu => ?_) hroom h63
  · have e : (str.extract 0 str.size).data.toList = str.data.toList := by
      simp
    simp only [Builtin.firstCells, Sem.run_pure]
    congr 1
    apply Array.ext'
    simp only [bC, Array.toList_map]
    rw [e]
  · simp [Builtin.lenOf]
  · obtain ⟨b, _, rfl⟩ := List.mem_map.1 hu; rfl
theorem qt_sliceData {x : Operand} {t : TypeId} {a : Addr} {n c : Nat} (hx : ev σ δ cur x = some (.slice (some a) n c)) (hc : c ≠ 0) :
    Qt P ro ⟨d, .call ⟨.builtin .unsafeSliceData, #[x], #[t]⟩, ty, pos, aft, g⟩ σ δ cur M L (.pointer (some a)) :=
  qt_of_run (semAt_of (by intro c e; cases e)) fun a' w hs hcur hp => by
    have hex := ev_sound hs hcur hx
    have := Lib.run_unsafeSliceData_row (P := P) w #[t] ty a n c hc
    simp only [execOp, resolve, Sem.run_bind, Sem.run_pure, Result.andThen_ok, invoke, builtin, List.map_toArray, List.map_cons, List.map_nil, hex, this]
def frzN (fz : Nat × Nat) (n : Nat) : Nat × Nat := if fz.1 == fz.2 then (0, n) else (min fz.1 0, max fz.2 n)
theorem st_unsafeString (hT : TOk P T) {x y : Operand} {pt it e b n : Nat} {cs : List Value} {fz : Nat × Nat} {l : List UInt8} {L' : HL} (hpt : und T pt = some (.pointer e)) (hc : sizeT T e = some 1) (hx : ev σ δ cur x = some (.pointer (some ⟨b, 0, none⟩))) (hy : ev σ δ cur y = some (.int .i64 (n : Int)))
    (hl : l.length = n) (h0 : n ≠ 0) (h63 : n ≤ 9223372036854775807) (hcs : cs.take n = bC l) (hu : Upd L b (.cells ⟨cs⟩ e fz) (.cells ⟨cs⟩ e (frzN fz n)) L') :
    St P ro ⟨d, .call ⟨.builtin .unsafeString, #[x, y], #[pt, it]⟩, ty, pos, aft, g⟩ σ δ cur M L (fun v M' L1 => M = M' ∧ L1 = L' ∧ v = .string ⟨l.toArray⟩) := fun a w hse hcur hp => by
  have hex := ev_sound hse hcur hx
  have hey := ev_sound hse hcur hy
  have hb := hp.own _ hu.mem
  have hb : w.heap[b]? = some (.cells ⟨cs⟩ e fz) := hb
  have hlt := (Array.getElem?_eq_some_iff.1 hb).1
  have hle : n ≤ cs.length := by
    have := congrArg List.length hcs
    rw [List.length_take] at this
    simp only [bC, List.length_map, hl] at this
    omega
  obtain ⟨i, hi1, hi2⟩ := sizeT_ok hc
  have hce : P.cellsOf e = 1 := by
    unfold Program.cellsOf
    rw [hT.info _ _ hi1]
    simpa using hi2
  subst hl
  have hrun := Lib.run_unsafeString_row (P := P) w pt it ty e (und_ok hT hpt) hce b cs.length (by simp [World.shape?, hb]) l (by rintro rfl; exact h0 rfl) hle h63 fun j u hj => by
    have hjl := (List.getElem?_eq_some_iff.1 hj).1
    have h1 : (cs.take l.length)[j]? = some (.int .u8 (u.toNat : Int)) := by rw [hcs]; simp [bC, hj]
    rw [List.getElem?_take, if_pos hjl] at h1
    have e2 : (⟨b, 0, none⟩ : Addr).add j = ⟨b, j, none⟩ := by
      unfold Addr.add
      split <;> simp_all
    rw [e2]
    simp [World.cell?, hb, h1]
  refine opWp_value (v := .string ⟨l.toArray⟩) (w' := w.freeze ⟨b, 0, none⟩ l.length) ?_ ⟨M, L', ?_, rfl, rfl, rfl⟩
  · rw [semAt_of (by intro c e; cases e)]
    simp only [execOp, resolve, Sem.run_bind, Sem.run_pure, Result.andThen_ok, invoke, builtin, List.map_toArray, List.map_cons, List.map_nil, hex, hey, hrun]
  · refine hp.upd hu ?_ ?_ ?_ ?_ ?_
    · unfold World.freeze; rw [if_neg h0]
    · unfold World.freeze; rw [if_neg h0]
    · unfold World.freeze; rw [if_neg h0]
    · unfold World.freeze
      rw [if_neg h0]
      show (w.heap.modify b _)[b]? = _
      rw [Array.getElem?_modify, if_pos rfl, hb]
      obtain ⟨lo, hi⟩ := fz
      simp [frzN]
    · intro k hk
      unfold World.freeze
      rw [if_neg h0]
      show (w.heap.modify b _)[k]? = _
      rw [Array.getElem?_modify, if_neg (Ne.symm hk)]
theorem qt_toUnsafe (hT : TOk P T) {x : Operand} {src dst t e b sz : Nat} {cs : List Value} {fz : Nat × Nat} (hs : und T src = some (.pointer t)) (hd : und T dst = some .unsafePointer) (ht : sizeT T t = some sz) (hsz : Nat.beq sz 0 = false)
    (hx : ev σ δ cur x = some (.pointer (some ⟨b, 0, none⟩))) (hm : (b, Obj.cells ⟨cs⟩ e fz) ∈ L) (h0 : Nat.blt 0 cs.length = true) : Qt P ro ⟨d, .convert src dst x, ty, pos, aft, g⟩ σ δ cur M L (.pointer (some ⟨b, 0, none⟩)) :=
  qt_of_run (semAt_of (by intro c e; cases e)) fun a' w hse hcur hp => by
    have hex := ev_sound hse hcur hx
    obtain ⟨i, hi, rfl⟩ := sizeT_ok ht
    have hb : w.heap[b]? = some (.cells ⟨cs⟩ e fz) := hp.own _ hm
    have := Lib.run_to_unsafe (P := P) w ⟨b, 0, none⟩ (und_ok hT hs) (und_ok hT hd) (hT.info _ _ hi) (by intro h; rw [h] at hsz; cases hsz) (show w.shape? b = some (e, cs.length) by simp [World.shape?, hb]) (by simpa using h0)
    simp only [execOp, Sem.run_bind, Sem.run_pure, Result.andThen_ok, hex, this]
theorem qt_fromUnsafe (hT : TOk P T) {x : Operand} {src dst u e b sz : Nat} {cs : List Value} {fz : Nat × Nat} (hs : und T src = some .unsafePointer) (hd : und T dst = some (.pointer u)) (hu : sizeT T u = some sz)
    (hx : ev σ δ cur x = some (.pointer (some ⟨b, 0, none⟩))) (hm : (b, Obj.cells ⟨cs⟩ e fz) ∈ L) (hl : liesAt P P.depth e (cs.length / P.cellsOf e) 0 u 1 = true) : Qt P ro ⟨d, .convert src dst x, ty, pos, aft, g⟩ σ δ cur M L (.pointer (some ⟨b, 0, none⟩)) :=
  qt_of_run (semAt_of (by intro c e; cases e)) fun a' w hse hcur hp => by
    have hex := ev_sound hse hcur hx
    obtain ⟨i, hi, _⟩ := sizeT_ok hu
    have hb : w.heap[b]? = some (.cells ⟨cs⟩ e fz) := hp.own _ hm
    have := Lib.run_from_unsafe (P := P) w ⟨b, 0, none⟩ (und_ok hT hs) (und_ok hT hd) (hT.info _ _ hi) (show w.shape? b = some (e, cs.length) by simp [World.shape?, hb]) hl
    simp only [execOp, Sem.run_bind, Sem.run_pure, Result.andThen_ok, hex, this]
theorem qt_neqPtr (hT : TOk P T) {x y : Operand} {tp t te sz : Nat} {a : Addr} (ht : und T tp = some (.pointer te)) (hs : sizeT T te = some sz) (hx : ev σ δ cur x = some (.pointer (some a))) (hy : ev σ δ cur y = some (.pointer (some a))) :
    Qt P ro ⟨d, .binOp .neq tp x y t, ty, pos, aft, g⟩ σ δ cur M L (.bool false) :=
  qt_of_run (semAt_of (by intro c e; cases e)) fun a' w hse hcur hp => by
    have hex := ev_sound hse hcur hx
    have hey := ev_sound hse hcur hy
    obtain ⟨i, hi, _⟩ := sizeT_ok hs
    have := Lib.run_neq_ptr_same (P := P) w a (und_ok hT ht) (hT.info _ _ hi)
    have hg : (eqGuard .neq tp x y (.pointer (some a)) (.pointer (some a))).run P w = .ok () w := by simp [eqGuard]
    simp only [execOp, Sem.run_bind, Sem.run_pure, Result.andThen_ok, hex, hey, this, hg]
theorem madeCells_rep (z : Array Value) (h : 0 < z.size) : ∀ n : Nat, (madeCells z (n * z.size)).toList = (List.replicate n z.toList).flatten
  | 0 => by simp [madeCells]
  | n + 1 => by
    have ih := madeCells_rep z h n
    rw [List.replicate_succ', List.flatten_append, ← ih]
    simp only [madeCells, Array.toList_map, Array.toList_range, Nat.succ_mul, List.range_add, List.map_append, List.map_map, List.flatten_singleton]
    congr 1
    apply List.ext_getElem
    · simp
    · intro i h1 h2
      have hi : i < z.size := by simpa using h2
      simp [Nat.add_mod, Nat.mod_eq_of_lt hi, hi]
theorem st_makeRow (hT : TOk P T) {t e by_ sz : Nat} {z : Value} {x y : Operand} {k k' : IntKind} (n : Nat) (ht : und T t = some (.slice e)) (hi : sizeT T e = some sz) (hz : zeroT T e = some z) (hzs : (cellsL z).length = sz) (h0 : Nat.blt 0 sz = true) (hb : bytesT T e = some by_)
    (hx : ev σ δ cur x = some (.int k (n : Int))) (hy : ev σ δ cur y = some (.int k' (n : Int))) (hroom : by_ * n ≤ 281474976710656) (hn : n < 4611686018427387904) :
    St P ro ⟨d, .makeSlice t x y, ty, pos, aft, g⟩ σ δ cur M L (fun v' M' L' => ∃ b, v' = .slice (some ⟨b, 0, none⟩) n n ∧ M = M' ∧ L' = (b, .cells ⟨(List.replicate n (cellsL z)).flatten⟩ e (0, 0)) :: L) := fun a w hs hcur hp => by
  obtain ⟨i, hi1, his⟩ := sizeT_ok hi
  obtain ⟨i2, hi2, hz2⟩ := zeroT_ok hz
  obtain ⟨i3, hi3, rfl⟩ := bytesT_ok hb
  rw [hi1] at hi2 hi3
  cases hi2
  cases hi3
  have hrun := run_make (P := P) w t e i z (und_ok hT ht) (hT.info _ _ hi1) hz2 k k' n n (by omega) (Int.le_refl _) (by
    have h : ((i.bytes * n : Nat) : Int) ≤ 281474976710656 := by omega
    rwa [Int.natCast_mul] at h) (by omega)
  have hzz : z.cells.size = i.size := by rw [cellsL_eq, his]; exact hzs
  have hcells : madeCells z.cells (n * i.size) = ⟨(List.replicate n (cellsL z)).flatten⟩ := by
    apply Array.ext'
    have := madeCells_rep z.cells (by rw [hzz, his]; simpa using h0) n
    rw [hzz] at this
    rw [this, cellsL_eq]
  simp only [Int.toNat_natCast, hcells] at hrun
  refine opWp_value (v := .slice (some ⟨w.heap.size, 0, none⟩) n n) (w' := w.alloc (.cells ⟨(List.replicate n (cellsL z)).flatten⟩ e)) ?_ ⟨M, _, hp.push _, _, rfl, rfl, rfl⟩
  rw [semAt_of (by intro c e; cases e)]
  simp only [execOp, ev_sound hs hcur hx, ev_sound hs hcur hy, Sem.run_bind, hrun, Result.andThen_ok, Sem.run_pure]
end
theorem flatF_len {α : Type} {f : α → List Value} {w : Nat} (hf : ∀ x, (f x).length = w) : ∀ xs : List α, ((xs.map f).flatten).length = xs.length * w
  | [] => by simp
  | x :: xs => by rw [List.map_cons, List.flatten_cons, List.length_append, hf, flatF_len hf xs, List.length_cons, Nat.succ_mul, Nat.add_comm]
theorem flatF_at {α : Type} {f : α → List Value} (xs : List α) {i : Nat} {x : α} (h : xs[i]? = some x) : (xs.map f).flatten = ((xs.take i).map f).flatten ++ (f x ++ ((xs.drop (i + 1)).map f).flatten) := by
  have hlt := (List.getElem?_eq_some_iff.1 h).1
  have hx := (List.getElem?_eq_some_iff.1 h).2
  conv => lhs; rw [← List.take_append_drop i xs, List.drop_eq_getElem_cons hlt, hx]
  rw [List.map_append, List.flatten_append, List.map_cons, List.flatten_cons]
theorem rows_set {α : Type} {f : α → List Value} {w : Nat} (hf : ∀ x, (f x).length = w) {xs : List α} {i k : Nat} {x y : α} {vs : List Value} (h : xs[i]? = some x) (hs : setE (f x) k vs = some (f y)) : setE (xs.map f).flatten (i * w + k) vs = some ((xs.set i y).map f).flatten := by
  have hlt := (List.getElem?_eq_some_iff.1 h).1
  rw [flatF_at xs h, flatF_at (xs.set i y) (i := i) (x := y) (by rw [List.getElem?_set_self hlt])]
  have hl : ((xs.take i).map f).flatten.length = i * w := by rw [flatF_len hf, List.length_take, Nat.min_eq_left (by omega)]
  have := setE_mid (pre := ((xs.take i).map f).flatten) (post := ((xs.drop (i + 1)).map f).flatten) hs
  rw [hl] at this
  rw [this, List.take_set_of_le (Nat.le_refl _), List.drop_set_of_lt (by omega)]
theorem setE_row {x y : List Value} (h : x.length = y.length) : setE x 0 y = some y := by
  rw [setE_of (by omega)]
  simp [setSeg, ← h]
theorem cells_row {α : Type} {f : α → List Value} {w : Nat} (hf : ∀ x, (f x).length = w) {M : Mem} {L : HL} {b e : Nat} {fz : Nat × Nat} {xs : List α} {i : Nat} {x : α} (hm : (b, Obj.cells ⟨(xs.map f).flatten⟩ e fz) ∈ L) (h : xs[i]? = some x) : Cells M L b (0 + i * w) (f x) :=
  ⟨_, e, fz, .inl hm, fun j u hu => by
    have := flat_at (size := w) (ls := xs.map f) (fun l hl => by obtain ⟨y, _, rfl⟩ := List.mem_map.1 hl; exact hf y) (i := i) (c := f x) (by rw [List.getElem?_map, h]; rfl) hu
    simpa using this⟩
end Go.Chi
namespace Go.Proofs.YtonbigcdoejgcaaGreatDoor
open Go.Chi
set_option maxRecDepth 10000
abbrev bdO (p v : Value) : Obj := .cells ⟨[p, v]⟩ 147 (0, 0)
theorem copyCheck_ok (M : Mem) (L L' : HL) (b : Nat) (p v : Value) (hp : p = .pointer none ∨ p = pt b) (hu : Upd L b (bdO p v) (bdO (pt b) v) L') :
    Tr Tryz.prog 107 [pt b] M L (fun _ M' L1 => M = M' ∧ L1 = L') := by
  refine Tr.intro 20 Tryz.func107 rfl rfl Tryz.call107 rfl ?_
  intro C hC hro
  rcases hp with rfl | rfl
  · repeat (first | refine zz ?_ | refine zx fun _ => ?_ | refine rq (qt_ld tok rfl hu.mem rfl) ?_)
    refine run_cond rfl (fun _ => ?_) (fun h => by cases h)
    repeat (first | refine zz ?_ | refine zx fun _ => ?_ | refine rq (qt_toUnsafe tok rfl rfl rfl rfl rfl hu.mem rfl) ?_ | refine rq (qt_callX Tryz.func113 (by kernel_rfl) (by kernel_rfl) (by kernel_rfl) (e := Extern.AbiNoEscape.same) (by kernel_rfl) rfl (fun w => rfl)) ?_ | refine rq (qt_fromUnsafe tok rfl rfl rfl rfl hu.mem (by kernel_rfl)) ?_ | refine ws ?_ rfl rfl rfl rfl rfl hu rfl)
    exact run_end hC rfl (vs := []) trivial (fun _ h => h) ⟨rfl, rfl⟩
  · have hl : L' = L := by
      obtain ⟨A, B, rfl, rfl⟩ := hu; rfl
    subst hl
    repeat (first | refine zz ?_ | refine zx fun _ => ?_ | refine rq (qt_ld tok rfl hu.mem rfl) ?_)
    refine run_cond rfl (fun h => by cases h) (fun _ => ?_)
    repeat (first | refine zz ?_ | refine zx fun _ => ?_ | refine rq (qt_ld tok rfl hu.mem rfl) ?_ | refine rq (qt_neqPtr tok rfl rfl rfl rfl) ?_)
    refine run_cond rfl (fun h => by cases h) (fun _ => ?_)
    repeat (first | refine zz ?_ | refine zx fun _ => ?_)
    exact run_end hC rfl (vs := []) trivial (fun _ h => h) ⟨rfl, rfl⟩
def BdS (v : Value) (l : List UInt8) (N : HL) : Prop := OS 5 1 v l.length (bC l) N
theorem bdS_nil : BdS (.slice none 0 0) [] [] := OS.nil _ _
theorem osH {e size n : Nat} {v : Value} {xs : List Value} {N : HL} (h : OS e size v n xs N) : ∃ a cap, v = .slice a n cap := by
  rcases h with ⟨rfl, rfl, _⟩ | ⟨b, cap, cs, rfl, _⟩
  · exact ⟨none, 0, rfl⟩
  · exact ⟨_, cap, rfl⟩
theorem bWrite1_ok (M : Mem) (R N : HL) (b : Nat) (p v : Value) (l : List UInt8) (s : ByteArray) (hp : p = .pointer none ∨ p = pt b) (hO : BdS v l N) (hz : l.length + s.size < 1099511627776) :
    Tr Tryz.prog 89 [pt b, .string s] M ((b, bdO p v) :: (N ++ R)) (fun _ M' L1 => M = M' ∧ ∃ v' N', L1 = N' ++ ((b, bdO (pt b) v') :: R) ∧ BdS v' (l ++ s.data.toList) N') := by
  unfold BdS at hO
  obtain ⟨av, cv, rfl⟩ := osH hO
  refine Tr.intro 19 Tryz.func89 rfl rfl Tryz.call89 rfl ?_
  intro C hC hro
  repeat (first | refine zz ?_ | refine zx fun _ => ?_ | (refine ro (st_callF rfl (fun _ => copyCheck_ok _ _ _ b p _ hp (Upd.here _ _ _ _))) ?_; rintro _ _ _ ⟨rfl, rfl⟩) | (refine ro (st_appendS (n := l.length) (str := s) tok rfl rfl rfl rfl rfl rfl rfl rfl rfl rfl (List.perm_middle (l₁ := N)).symm hO (by omega) (by omega)) ?_; rintro va _ _ ⟨N', rfl, rfl, hO'⟩; obtain ⟨a2, c2, rfl⟩ := osH hO'))
  exact run_ret hC (rs := [.tmp 4, .tmp 5]) rfl (resT rfl (resT rfl resN)) (fun _ h => h) ⟨rfl, _, N', rfl, by
    unfold BdS
    rw [show bC (l ++ s.data.toList) = bC l ++ bC s.data.toList by unfold bC; rw [List.map_append], List.length_append]
    simpa using hO'⟩
theorem bWrite_ok (M : Mem) (L R N : HL) (b : Nat) (p v : Value) (l : List UInt8) (s : ByteArray) (hL : L.Perm ((b, bdO p v) :: (N ++ R))) (hp : p = .pointer none ∨ p = pt b) (hO : BdS v l N) (hz : l.length + s.size < 1099511627776) :
    Tr Tryz.prog 89 [pt b, .string s] M L (fun _ M' L1 => M = M' ∧ ∃ v' N', L1 = N' ++ ((b, bdO (pt b) v') :: R) ∧ BdS v' (l ++ s.data.toList) N') :=
  Tr.perm (bWrite1_ok M R N b p v l s hp hO hz) hL fun _ _ _ h => ⟨_, List.Perm.refl _, h⟩
theorem bLen_ok (M : Mem) (L : HL) (b : Nat) (p : Value) (a : Option Addr) (n c : Nat) (hm : (b, bdO p (.slice a n c)) ∈ L) : TrQ Tryz.prog 90 [pt b] M L (iv n) := by
  refine Tr.intro 8 Tryz.func90 rfl rfl Tryz.call90 rfl ?_
  intro C hC hro
  repeat (first | refine zz ?_ | refine zx fun _ => ?_ | refine rq (qt_ld tok rfl hm rfl) ?_)
  exact run_ret hC (rs := [.tmp 2]) rfl (resT rfl resN) (fun _ h => h) ⟨rfl, rfl, rfl⟩
def BdF (v : Value) (l : List UInt8) (N : HL) : Prop := ∃ b cap cs fz, v = .slice (some ⟨b, 0, none⟩) l.length cap ∧ N = [(b, .cells ⟨cs⟩ 5 fz)] ∧ l.length ≤ cap ∧ cs.take l.length = bC l
theorem BdS.f {v : Value} {l : List UInt8} {N : HL} (h : BdS v l N) (h0 : l ≠ []) : BdF v l N := by
  rcases h with ⟨_, h, _⟩ | ⟨b, cap, cs, rfl, rfl, h1, h2, h3⟩
  · exact absurd (List.length_eq_zero_iff.1 h) h0
  · exact ⟨b, cap, cs, _, rfl, rfl, h1, by simpa using h3⟩
theorem bString1_ok (M : Mem) (R N : HL) (b : Nat) (p v : Value) (l : List UInt8) (hO : BdF v l N) (h0 : l ≠ []) (hz : l.length < 1099511627776) :
    Tr Tryz.prog 91 [pt b] M ((b, bdO p v) :: (N ++ R)) (fun w M' L1 => M = M' ∧ w = .string ⟨l.toArray⟩ ∧ ∃ N', L1 = (b, bdO p v) :: (N' ++ R) ∧ BdF v l N') := by
  obtain ⟨b2, cap, cs, fz, rfl, rfl, h1, h2⟩ := hO
  have hl0 : l.length ≠ 0 := fun h => h0 (List.length_eq_zero_iff.1 h)
  refine Tr.intro 14 Tryz.func91 rfl rfl Tryz.call91 rfl ?_
  intro C hC hro
  repeat (first | refine zz ?_ | refine zx fun _ => ?_ | refine dd ?_ | refine dz ?_ | refine dx fun _ => ?_ | refine pq rfl (qt_sliceData rfl (by omega)) ?_ | (refine pe rfl (st_unsafeString tok rfl rfl rfl rfl rfl hl0 (by omega) h2 (Upd.there _ (Upd.here _ _ _ _))) ?_; rintro _ _ _ ⟨rfl, rfl, rfl⟩))
  exact run_ret hC (rs := [.tmp 2]) rfl (resT rfl resN) (fun _ h => h) ⟨rfl, rfl, _, rfl, b2, cap, cs, _, rfl, rfl, h1, h2⟩
theorem bString_ok (M : Mem) (L R N : HL) (b : Nat) (p v : Value) (l : List UInt8) (hL : L.Perm ((b, bdO p v) :: (N ++ R))) (hO : BdF v l N) (h0 : l ≠ []) (hz : l.length < 1099511627776) :
    Tr Tryz.prog 91 [pt b] M L (fun w M' L1 => M = M' ∧ w = .string ⟨l.toArray⟩ ∧ ∃ N', L1 = (b, bdO p v) :: (N' ++ R) ∧ BdF v l N') :=
  Tr.perm (bString1_ok M R N b p v l hO h0 hz) hL fun _ _ _ h => ⟨_, List.Perm.refl _, h⟩
end Go.Proofs.YtonbigcdoejgcaaGreatDoor
namespace Go.Proofs.YtonbigcdoejgcaaGreatDoor
open Go.Chi
set_option maxRecDepth 10000
theorem frontQ_ok (M : Mem) (L : HL) (s : ByteArray) (n p : Nat) (hs : s.size < 4611686018427387904) (h : frontR s = .ok (n, p)) : TrQ Tryz.prog 109 [.string s] M L (.tuple ⟨[.int .i64 (n : Int), .int .i64 (p : Int)]⟩) := by
  refine (front_ok M L s hs).tr ?_
  rintro e M' L' ⟨rfl, rfl, hv⟩
  rw [h] at hv
  exact ⟨_, hv, rfl, rfl, rfl⟩
theorem Hd.le32 {h : ByteArray} {p : Nat} (hh : Hd h p) : p ≤ 32 := by cases hh <;> omega
def Teller (P : Program) (f : FuncId) (caps : List Value) (Inv : List Pl → Mem → HL → Prop) : Prop :=
  ∀ (l : List Pl) (a e d : Nat) (M : Mem) (L : HL), l.length < 1000000 → Inv l M L → Tr P f ([.int .i64 (a : Int), .int .i64 (e : Int), .int .i64 (d : Int)] ++ caps) M L (fun _ M' L' => M.le M' ∧ Inv (l ++ [⟨a, e, d⟩]) M' L')
theorem cat_app : ∀ (ps qs : List ByteArray), cat (ps ++ qs) = cat ps ++ cat qs
  | [], qs => (nil_app _).symm
  | p :: ps, qs => by rw [List.cons_append, cat, cat, cat_app ps qs, app_assoc]
theorem kids_app (f : Nat → ByteArray → List Pl) : ∀ (ps qs : List ByteArray) (a : Nat), kids f a (ps ++ qs) = kids f a ps ++ kids f (a + (cat ps).size) qs
  | [], qs, a => rfl
  | p :: ps, qs, a => by rw [List.cons_append, kids, kids, kids_app f ps qs, List.append_assoc, cat, app_size, Nat.add_assoc]
theorem kids_len_of {k d : Nat} : ∀ {ps : List ByteArray}, (∀ p ∈ ps, ∀ a, (postL k d a p).length ≤ p.size) → ∀ a, (kids (postL k d) a ps).length ≤ (cat ps).size
  | [], _, _ => Nat.zero_le _
  | p :: ps, h, a => by
    rw [kids, List.length_append, cat, app_size]
    exact Nat.add_le_add (h p List.mem_cons_self a) (kids_len_of (fun q hq => h q (List.mem_cons_of_mem _ hq)) _)
theorem post_len : ∀ {k : Nat}, k ≤ 16 → ∀ {t : ByteArray}, Tm k t → t.size < 4611686018427387904 → ∀ d a, (postL k d a t).length ≤ t.size
  | 0, _, _, h, _, _, _ => h.elim
  | k + 1, hk, t, ⟨hd, ps, h1, h2, h3⟩, hs, d, a => by
    subst h2
    have hz : (hd ++ cat ps).size = hd.size + (cat ps).size := app_size _ _
    have hpos := h1.pos
    rw [postL, head_of h1, parts_of (by omega) h1 h3 hs, List.length_append, List.length_singleton]
    have := kids_len_of (k := k) (d := d + 1) (ps := ps) (fun p hp a => post_len (by omega) (h3 p hp) (by have := cat_mem hp; omega) (d + 1) a) (a + hd.size)
    omega
theorem kids_len {k : Nat} (hk : k ≤ 16) {ps : List ByteArray} (h : ∀ p ∈ ps, Tm k p) (d a : Nat) (hs : (cat ps).size < 4611686018427387904) : (kids (postL k d) a ps).length ≤ (cat ps).size :=
  kids_len_of (fun p hp a => post_len hk (h p hp) (by have := cat_mem hp; omega) d a) a
set_option maxHeartbeats 8000000 in
theorem walkT_ok (f : FuncId) (caps : List Value) (Inv : List Pl → Mem → HL → Prop) (hcb : Teller Tryz.prog f caps Inv) : ∀ (k : Nat), k ≤ 16 → ∀ (t : ByteArray), Tm k t → ∀ (x y : ByteArray), (x ++ (t ++ y)).size < 4611686018427387904 → ∀ (l : List Pl) (M : Mem) (L : HL), l.length + t.size ≤ 1000000 → Inv l M L →
    Tr Tryz.prog 94 [.string (x ++ (t ++ y)), .int .i64 (x.size : Int), .int .i64 ((17 - k : Nat) : Int), .func (.func f) ⟨[]⟩ ⟨caps⟩] M L (fun v M' L' => M.le M' ∧ v = .int .i64 ((x.size + t.size : Nat) : Int) ∧ Inv (l ++ postL k (17 - k) x.size t) M' L') := by
  intro k
  induction k with
  | zero => intro _ t ht; exact ht.elim
  | succ k ih =>
    intro hk t ht x y hs l M L hlz hI
    obtain ⟨hd, ps, h1, h2, h3⟩ := ht
    subst h2
    have hz : (x ++ ((hd ++ cat ps) ++ y)).size = x.size + ((hd.size + (cat ps).size) + y.size) := by simp only [app_size]
    have hrow := h1.le32
    have hpos := h1.pos
    have hfr := frontQ_ok M L ((x ++ ((hd ++ cat ps) ++ y)).extract x.size (x ++ ((hd ++ cat ps) ++ y)).size) hd.size ps.length (by rw [ByteArray.size_extract]; omega) (by rw [ext_right, app_assoc]; exact hd_front h1 _)
    have e1 : IntKind.i64.wrap ((x.size : Int) + (hd.size : Int)) = ((x.size + hd.size : Nat) : Int) := by
      rw [show (x.size : Int) + (hd.size : Int) = ((x.size + hd.size : Nat) : Int) by omega, wrap64_nat (by omega)]
    generalize hS : x ++ ((hd ++ cat ps) ++ y) = S at hfr hz hs
    refine Tr.intro 41 Tryz.func94 rfl rfl Tryz.call94 rfl ?_
    intro C hC hro
    repeat (first | refine zz ?_ | refine zx fun _ => ?_)
    refine run_cond rfl (fun h => ?_) (fun h => ?_)
    · exfalso
      have : (16 : Int) < ((17 - (k + 1) : Nat) : Int) := by simpa using h
      omega
    repeat (first | refine zz ?_ | refine zx fun _ => ?_ | refine rq (qt_strLo tok rfl rfl rfl (fun _ => by omega)) ?_ | refine rq (qt_callF rfl (fun _ => hfr)) ?_)
    have hS2 : (x ++ hd) ++ (cat ps ++ y) = S := by rw [← hS]; simp only [app_assoc]
    have hln : (hd ++ cat ps).size = hd.size + (cat ps).size := app_size _ _
    refine run_loopN (fun i σ1 M1 L1 => i ≤ ps.length ∧ M.le M1 ∧ Inv (l ++ kids (postL k (17 - k)) (x.size + hd.size) (ps.take i)) M1 L1 ∧ σ1 = [(0, .string S), (1, .int .i64 (x.size : Int)), (2, .int .i64 ((17 - (k + 1) : Nat) : Int)), (3, .func (.func f) ⟨[]⟩ ⟨caps⟩), (11, .int .i64 ((x.size + hd.size + (cat (ps.take i)).size : Nat) : Int)), (25, .int .i64 (ps.length : Int)), (26, .int .i64 (i : Int))]) ps.length [(0, .string S), (1, .int .i64 (x.size : Int)), (2, .int .i64 ((17 - (k + 1) : Nat) : Int)), (3, .func (.func f) ⟨[]⟩ ⟨caps⟩), (11, .int .i64 ((x.size + hd.size : Nat) : Int)), (25, .int .i64 (ps.length : Int)), (26, .int .i64 ((0 : Nat) : Int))] ?_ ⟨Nat.zero_le _, Mem.le_refl _, by rw [List.take_zero, kids, List.append_nil]; exact hI, by rw [List.take_zero]; rfl⟩ (fun j _ _ _ h => h.1) ?_
    · exact ⟨rfl, rfl, rfl, rfl, by rw [← e1]; rfl, rfl, rfl, trivial⟩
    rintro i _ M1 L1 ⟨hi, hM1, hI1, rfl⟩ hnext
    repeat (first | refine zz ?_ | refine zx fun _ => ?_)
    refine run_cond rfl (fun h5 => ?_) (fun h5 => ?_)
    · have hik : i < ps.length := by simpa using h5
      obtain ⟨q, hq⟩ : ∃ q, ps[i]? = some q := ⟨_, List.getElem?_eq_getElem hik⟩
      have hqm := List.mem_of_getElem? hq
      have htk : ps.take (i + 1) = ps.take i ++ [q] := by rw [List.take_add_one, hq]; rfl
      have hcat : cat ps = cat (ps.take i) ++ (q ++ cat (ps.drop (i + 1))) := by
        conv => lhs; rw [← List.take_append_drop (i + 1) ps, cat_app, htk, cat_app]
        rw [cat, cat, app_nil, app_assoc]
      have hS3 : (x ++ hd ++ cat (ps.take i)) ++ (q ++ (cat (ps.drop (i + 1)) ++ y)) = S := by
        rw [← hS2, hcat]; simp only [app_assoc]
      have hx3 : (x ++ hd ++ cat (ps.take i)).size = x.size + hd.size + (cat (ps.take i)).size := by rw [app_size, app_size]
      have hkl := kids_len (by omega) (ps := ps.take i) (fun p hp => h3 p (List.mem_of_mem_take hp)) (17 - k) (x.size + hd.size) (by have := congrArg ByteArray.size hcat; rw [app_size] at this; omega)
      have hqz : (cat (ps.take i)).size + q.size ≤ (cat ps).size := by have := congrArg ByteArray.size hcat; rw [app_size, app_size] at this; omega
      have hih := ih (by omega) q (h3 q hqm) (x ++ hd ++ cat (ps.take i)) (cat (ps.drop (i + 1)) ++ y) (by rw [hS3]; exact hs) _ M1 L1 (by rw [List.length_append]; omega) hI1
      rw [hS3, hx3] at hih
      repeat (first | refine zz ?_ | refine zx fun _ => ?_)
      refine runL_as 31 (.int .i64 ((17 - k : Nat) : Int)) rfl (by rw [wrap64_succ (by omega), show 17 - (k + 1) + 1 = 17 - k by omega]) ?_
      repeat (first | refine zz ?_ | refine zx fun _ => ?_ | (refine ro (st_callF rfl (fun _ => hih)) ?_; rintro _ M2 L2 ⟨hM2, rfl, hI2⟩))
      exact run_sub' (hnext _ _ _ ⟨hik, Mem.le_trans hM1 hM2, by rw [htk, kids_app]; simpa [kids, Nat.add_assoc] using hI2, rfl⟩) ⟨rfl, rfl, rfl, rfl, by rw [htk, cat_app, app_size, cat, cat, app_nil]; simp only [Nat.add_assoc]; rfl, rfl, lk_succ rfl (by omega), trivial⟩
    · have hik : i = ps.length := by simp at h5; omega
      subst hik
      rw [List.take_length] at hI1 ⊢
      have hkl := kids_len (by omega) (ps := ps) h3 (17 - k) (x.size + hd.size) (by omega)
      repeat (first | refine zz ?_ | refine zx fun _ => ?_ | (refine ro (st_callV rfl rfl (fun _ => hcb _ x.size (x.size + hd.size + (cat ps).size) (17 - (k + 1)) M1 L1 (by rw [List.length_append]; omega) hI1)) ?_; rintro _ M2 L2 ⟨hM2, hI2⟩))
      refine run_ret hC (rs := [.tmp 8]) rfl (resT rfl resN) (fun _ h => h) ⟨Mem.le_trans hM1 hM2, by rw [hln, Nat.add_assoc]; rfl, ?_⟩
      rw [postL, head_of h1, parts_of (by omega) h1 h3 (by omega), ← List.append_assoc, show 17 - (k + 1) + 1 = 17 - k by omega, hln, ← Nat.add_assoc]
      exact hI2
end Go.Proofs.YtonbigcdoejgcaaGreatDoor
namespace Go.Proofs.YtonbigcdoejgcaaGreatDoor
open Go.Chi
set_option maxRecDepth 10000
def plC (p : Pl) : List Value := [iv p.a, iv p.e, iv p.d]
theorem plC_one (p : Pl) : ∀ u ∈ plC p, u.oneCell' = true := by
  intro u hu
  simp only [plC, List.mem_cons, List.not_mem_nil, or_false] at hu
  rcases hu with rfl | rfl | rfl <;> rfl
theorem plC_len (l : List Pl) : ∀ c ∈ l.map plC, c.length = 3 := by
  intro c hc; obtain ⟨p, _, rfl⟩ := List.mem_map.1 hc; rfl
def PlI (M0 : Mem) (b : Nat) (L0 : HL) (l : List Pl) (M : Mem) (L : HL) : Prop := M0 = M ∧ ∃ v N, L = N ++ ((b, .cells ⟨[v]⟩ 156 (0, 0)) :: L0) ∧ OS 131 3 v l.length (l.map plC).flatten N
theorem teller_ok (M0 : Mem) (b : Nat) (L0 : HL) : Teller Tryz.prog 95 [pt b] (PlI M0 b L0) := by
  rintro l a e d M L hlz ⟨rfl, v, N, rfl, hO⟩
  obtain ⟨av, cv, rfl⟩ := osH hO
  refine Tr.intro 14 Tryz.func95 rfl rfl Tryz.call95 rfl ?_
  intro C hC hro
  repeat (first | refine zz ?_ | refine zx fun _ => ?_ | refine rq (qt_ld tok rfl (List.mem_append_right _ List.mem_cons_self) rfl) ?_)
  rename_i b1
  repeat (first | refine zz ?_ | refine zx fun _ => ?_ | (refine ro (st_append (news := plC ⟨a, e, d⟩) (m := 1) tok rfl rfl rfl rfl rfl rfl rfl rfl (L0 := (b1, .cells ⟨plC ⟨a, e, d⟩⟩ 131 (0, 0)) :: (b, .cells ⟨[.slice av l.length cv]⟩ 156 (0, 0)) :: L0) (List.perm_middle (l₁ := N)).symm hO (.inr ⟨b1, 0, 1, rfl, cellsAll List.mem_cons_self, rfl⟩) (plC_one _) (by omega) (by omega)) ?_; rintro v3 _ _ ⟨N', rfl, rfl, hO3⟩))
  obtain ⟨a3, c3, rfl⟩ := osH hO3
  repeat (first | refine zz ?_ | refine zx fun _ => ?_)
  refine run_end hC rfl (vs := []) trivial (fun _ h => (h.perm (List.perm_middle (l₁ := N'))).drop) ⟨Mem.le_refl _, rfl, _, N', rfl, ?_⟩
  have e : ([⟨a, e, d⟩].map plC).flatten = plC ⟨a, e, d⟩ := by simp
  rw [List.length_append, List.length_singleton, List.map_append, List.flatten_append, e]
  exact hO3
theorem plC_w (p : Pl) : (plC p).length = 3 := rfl
theorem layL_snoc {at_ l : List Pl} {j : Nat} {p : Pl} (h : l[j]? = some p) : layL at_ (l.take (j + 1)) = (layL at_ (l.take j)).set p.a p := by
  rw [List.take_add_one, h]
  unfold layL
  rw [List.foldl_append]
  rfl
theorem filter_snoc {α : Type} {l : List α} {j : Nat} {x : α} (q : α → Bool) (h : l[j]? = some x) : (l.take (j + 1)).filter q = (l.take j).filter q ++ (if q x = true then [x] else []) := by
  rw [List.take_add_one, h, List.filter_append]
  cases hq : q x <;> simp [hq]
set_option maxHeartbeats 16000000 in
theorem places1_ok (M : Mem) (t : ByteArray) (bt : Nat) (hb : Cells M [] bt 0 [.string t]) (ht : mayB t = true) (hz : t.size ≤ 20000) :
    IterM Tryz.prog 93 [pt bt] M ((preL 16 1 0 t).map fun p => [.agg ⟨plC p⟩]) := by
  intro lp I X M0 L0 hle hmono hyield hI
  obtain ⟨hT, hz2⟩ := (mayB_iff (by omega)).1 ht
  have hb0 := hb.le hle
  have hpe := places_eq hT (by omega)
  have hpl := post_len (Nat.le_refl _) hT (by omega) 1 0
  have hpi := (pre_in (Nat.le_refl _) hT (by omega) 1 0).1
  have hin : ∀ p ∈ postL 16 1 0 t, p.a < t.size := fun p hp => by
    have := hpi p ((post_pre 16 1 0 t).mem_iff.1 hp)
    unfold InP at this
    omega
  refine Tr.intro 43 Tryz.func93 rfl rfl Tryz.call93 rfl ?_
  intro C hC hro
  have hwalk := fun b3 => walkT_ok 95 [pt b3] (PlI M0 b3 L0) (teller_ok M0 b3 L0) 16 (Nat.le_refl _) t hT ⟨#[]⟩ ⟨#[]⟩ (by rw [nil_app, app_nil]; omega) [] M0 ((b3, .cells ⟨[.slice none 0 0]⟩ 156 (0, 0)) :: L0) (by show 0 + t.size ≤ _; omega) ⟨rfl, _, [], rfl, OS.nil _ _⟩
  simp only [nil_app, app_nil] at hwalk
  repeat (first | refine zz ?_ | refine zx fun _ => ?_ | refine runL_q (qt_indexN tok rfl rfl rfl rfl (fun _ => by omega)) rfl rfl rfl ?_ | refine runL_g rfl rfl (qt_indexN tok rfl rfl rfl rfl (fun _ => by omega)) rfl rfl rfl rfl rfl ?_ | refine runL_q (qt_ldM tok rfl hb0 rfl) rfl rfl rfl ?_ | refine runL_g rfl rfl (qt_ldM tok rfl hb0 rfl) rfl rfl rfl rfl rfl ?_ | refine runL_q (qt_ldM0 tok rfl hb0 rfl) rfl rfl rfl ?_ | refine runL_g rfl rfl (qt_ldM0 tok rfl hb0 rfl) rfl rfl rfl rfl rfl ?_)
  rename_i b3
  refine ro (st_callF rfl (fun _ => hwalk b3)) ?_
  rintro _ M1 L1 ⟨_, rfl, rfl, v, N, rfl, hO⟩
  rw [show [] ++ postL 16 (17 - 16) (⟨#[]⟩ : ByteArray).size t = postL 16 1 0 t from rfl] at hO
  generalize hl : postL 16 1 0 t = l at hO hpe hpl hin
  refine runL_memE (fun M' L' => M0.le M' ∧ ∃ a2 c2, v = .slice a2 l.length c2 ∧ SlM M' 3 a2 l.length (l.map plC) ∧ L' = (b3, .cells ⟨[.slice a2 l.length c2]⟩ 156 (0, 0)) :: L0) (fun w hw => ?_) ?_
  · obtain ⟨M', a2, c2, h1, h2, h3, h4⟩ := hw.freezeOS (ls := l.map plC) hO (by simp) (plC_len l)
    subst h3
    exact ⟨M', _, h2, h1, a2, c2, rfl, h4, rfl⟩
  rintro M2 _ ⟨hM2, a2, c2, rfl, hsl, rfl⟩
  have hb2 := hb0.le hM2
  repeat (first | refine zz ?_ | refine zx fun _ => ?_ | refine runL_q (qt_indexN tok rfl rfl rfl rfl (fun _ => by omega)) rfl rfl rfl ?_ | refine runL_g rfl rfl (qt_indexN tok rfl rfl rfl rfl (fun _ => by omega)) rfl rfl rfl rfl rfl ?_ | refine runL_q (qt_ldM tok rfl hb2 rfl) rfl rfl rfl ?_ | refine runL_g rfl rfl (qt_ldM tok rfl hb2 rfl) rfl rfl rfl rfl rfl ?_ | refine runL_q (qt_ldM0 tok rfl hb2 rfl) rfl rfl rfl ?_ | refine runL_g rfl rfl (qt_ldM0 tok rfl hb2 rfl) rfl rfl rfl rfl rfl ?_ | (refine ro (st_makeRow (by_ := 24) tok t.size rfl rfl rfl rfl rfl rfl rfl rfl (by omega) (by omega)) ?_; rintro _ _ _ ⟨bA, rfl, rfl, rfl⟩))
  repeat (first | refine zz ?_ | refine zx fun _ => ?_)
  refine run_loopN (fun j σ1 M3 L3 => j ≤ l.length ∧ M2 = M3 ∧ L3 = (bA, .cells ⟨((layL (List.replicate t.size pl0) (l.take j)).map plC).flatten⟩ 131 (0, 0)) :: (b3, .cells ⟨[.slice a2 l.length c2]⟩ 156 (0, 0)) :: L0 ∧ σ1 = [(17, iv j), (16, iv l.length), (15, .slice a2 l.length c2), (4, .slice (some ⟨bA, 0, none⟩) t.size t.size), (0, yv lp)]) l.length [(17, iv 0), (16, iv l.length), (15, .slice a2 l.length c2), (4, .slice (some ⟨bA, 0, none⟩) t.size t.size), (0, yv lp)] ?_ ⟨Nat.zero_le _, rfl, by
    show _ = (bA, Obj.cells ⟨((List.replicate t.size pl0).map plC).flatten⟩ _ _) :: _
    rw [List.map_replicate]; rfl, rfl⟩ (fun j _ _ _ h => h.1) ?_
  · exact ⟨rfl, rfl, rfl, rfl, rfl, trivial⟩
  · rintro j _ _ _ ⟨hj, rfl, rfl, rfl⟩ hnext
    repeat (first | refine zz ?_ | refine zx fun _ => ?_)
    refine run_cond rfl (fun h1 => ?_) (fun h1 => ?_)
    · have hlt : j < l.length := by simpa using h1
      obtain ⟨bb, off, cc, ha, hcc, _, hc⟩ := hsl.at_ hlt
      obtain ⟨p, hp, rfl⟩ : ∃ p, l[j]? = some p ∧ plC p = cc := by simpa using hcc
      have hpa := hin p (List.mem_of_getElem? hp)
      refine run_as 15 (.slice (some ⟨bb, off, none⟩) l.length c2) rfl (by rw [ha]) ?_
      repeat (first | refine zz ?_ | refine zx fun _ => ?_ | refine runL_q (qt_indexN tok rfl rfl rfl rfl (fun _ => by omega)) rfl rfl rfl ?_ | refine runL_g rfl rfl (qt_indexN tok rfl rfl rfl rfl (fun _ => by omega)) rfl rfl rfl rfl rfl ?_ | refine runL_q (qt_ldM tok rfl hc rfl) rfl rfl rfl ?_ | refine runL_g rfl rfl (qt_ldM tok rfl hc rfl) rfl rfl rfl rfl rfl ?_ | refine runL_q (qt_ldM0 tok rfl hc rfl) rfl rfl rfl ?_ | refine runL_g rfl rfl (qt_ldM0 tok rfl hc rfl) rfl rfl rfl rfl rfl ?_)
      rename_i b6
      have hlay : (layL (List.replicate t.size pl0) (l.take j)).length = t.size := by rw [lay_len, List.length_replicate]
      have hst : setE ((layL (List.replicate t.size pl0) (l.take j)).map plC).flatten (0 + p.a * 3) (plC p) = some ((layL (List.replicate t.size pl0) (l.take (j + 1))).map plC).flatten := by
        rw [layL_snoc hp, Nat.zero_add]
        exact rows_set (k := 0) plC_w (List.getElem?_eq_getElem (by rw [hlay]; exact hpa)) (setE_row rfl)
      refine ws ?_ rfl rfl rfl rfl rfl (Upd.there _ (Upd.here _ _ _ _)) hst
      repeat (first | refine zz ?_ | refine zx fun _ => ?_)
      exact run_mem (fun _ h => h.drop) (run_sub' (hnext _ _ _ ⟨hlt, rfl, rfl, rfl⟩) ⟨lk_succ rfl (by omega), rfl, by rw [ha]; rfl, rfl, rfl, trivial⟩)
    · have hge : j = l.length := by simp at h1; omega
      subst hge
      rw [List.take_of_length_le (Nat.le_refl _)]
      generalize hat : layL (List.replicate t.size pl0) l = at_ at hpe
      have hal : at_.length = t.size := by rw [← hat, lay_len, List.length_replicate]
      repeat (first | refine zz ?_ | refine zx fun _ => ?_)
      refine run_loopN (fun i σ1 M3 L3 => i ≤ t.size ∧ M0.le M3 ∧ (∃ L4, L3 = (bA, .cells ⟨(at_.map plC).flatten⟩ 131 (0, 0)) :: (b3, .cells ⟨[.slice a2 l.length c2]⟩ 156 (0, 0)) :: L4 ∧ I ((at_.take i).filter (fun p => decide (0 < p.d))).length M3 L4) ∧ σ1 = [(29, iv i), (28, iv t.size), (27, .slice (some ⟨bA, 0, none⟩) t.size t.size), (0, yv lp)]) t.size [(29, iv 0), (28, iv t.size), (27, .slice (some ⟨bA, 0, none⟩) t.size t.size), (0, yv lp)] ?_ ⟨Nat.zero_le _, hM2, ⟨L0, rfl, by simpa using hmono _ _ _ _ hM2 hI⟩, rfl⟩ (fun j _ _ _ h => h.1) ?_
      · exact ⟨rfl, rfl, rfl, rfl, trivial⟩
      · rintro i _ M3 _ ⟨hi, hM3, ⟨L4, rfl, hI4⟩, rfl⟩ hnext2
        repeat (first | refine zz ?_ | refine zx fun _ => ?_)
        refine run_cond rfl (fun h2 => ?_) (fun h2 => ?_)
        · have hlt : i < t.size := by simpa using h2
          obtain ⟨p, hp⟩ : ∃ p, at_[i]? = some p := ⟨_, List.getElem?_eq_getElem (by omega)⟩
          have hsn := filter_snoc (fun p : Pl => decide (0 < p.d)) hp
          have hc : Cells M3 ((bA, Obj.cells ⟨(at_.map plC).flatten⟩ 131 (0, 0)) :: (b3, .cells ⟨[.slice a2 l.length c2]⟩ 156 (0, 0)) :: L4) bA (0 + i * 3) (plC p) := cells_row plC_w List.mem_cons_self hp
          refine run_skip ?_
          refine run_seq ?_
          refine run_block ?_
          refine run_seq ?_
          (refine run_region ?_; (repeat (first | refine zq ?_ | refine zx fun _ => ?_ | refine rq (qt_indexN tok rfl rfl rfl rfl (fun _ => hlt)) ?_ | refine rq (qt_ldC (k := 0) tok rfl hc rfl) ?_)); refine runL_nil ?_)
          rename_i b8
          refine run_seq ?_
          refine run_region ?_
          refine wq ?_
          refine wq ?_
          refine wq ?_
          refine wq ?_
          by_cases hd : 0 < p.d
          · rw [if_pos (by simpa using hd)] at hsn
            refine runL_as 36 (.bool true) rfl (by simp [hd]) ?_
            refine wgK ?_
            refine wgK ?_
            have hget : ((preL 16 1 0 t).map fun p => [Value.agg ⟨plC p⟩])[((at_.take i).filter (fun p => decide (0 < p.d))).length]? = some [.agg ⟨plC p⟩] := by
              rw [List.getElem?_map, ← hpe]
              have e : at_.filter (fun p => decide (0 < p.d)) = (at_.take (i + 1)).filter (fun p => decide (0 < p.d)) ++ (at_.drop (i + 1)).filter (fun p => decide (0 < p.d)) := by rw [← List.filter_append, List.take_append_drop]
              rw [e, hsn]
              simp
            refine runL_gT rfl rfl (st_yield rfl rfl (fun _ => hyield _ _ _ _ [_, _, _] hget hM3 hI4)) rfl rfl rfl ?_
            rintro v M4 _ ⟨L5, rfl, hM4, hv4⟩
            rcases hv4 with ⟨rfl, hI5⟩ | ⟨rfl, hX⟩
            · repeat (first | refine zc ?_ | refine zk ?_ | refine zx fun _ => ?_)
              refine run_cond rfl (fun h => by cases h) (fun _ => ?_)
              repeat (first | refine zz ?_ | refine zx fun _ => ?_)
              exact run_mem (fun _ h => h.drop) (run_sub' (hnext2 _ _ _ ⟨hlt, Mem.le_trans hM3 hM4, ⟨L5, rfl, by rw [hsn, List.length_append]; exact hI5⟩, rfl⟩) ⟨lk_succ rfl (by omega), rfl, rfl, rfl, trivial⟩)
            · repeat (first | refine zc ?_ | refine zk ?_ | refine zx fun _ => ?_)
              refine run_cond rfl (fun _ => ?_) (fun h => by cases h)
              exact run_ret hC (rs := []) rfl resN (fun _ h => h.drop.drop.drop) ⟨Mem.le_trans hM3 hM4, .inr ⟨_, hX⟩⟩
          · rw [if_neg (by simpa using hd), List.append_nil] at hsn
            refine runL_as 36 (.bool false) rfl (by simp [hd]) ?_
            repeat (first | refine zc ?_ | refine zk ?_ | refine zx fun _ => ?_)
            refine run_cond rfl (fun h => by cases h) (fun _ => ?_)
            repeat (first | refine zz ?_ | refine zx fun _ => ?_)
            exact run_mem (fun _ h => h.drop) (run_sub' (hnext2 _ _ _ ⟨hlt, hM3, ⟨L4, rfl, by rw [hsn]; exact hI4⟩, rfl⟩) ⟨lk_succ rfl (by omega), rfl, rfl, rfl, trivial⟩)
        · have hge2 : i = t.size := by simp at h2; omega
          subst hge2
          rw [List.take_of_length_le (by omega), hpe] at hI4
          repeat (first | refine zz ?_ | refine zx fun _ => ?_)
          exact run_end hC rfl (vs := []) trivial (fun _ h => h.drop.drop) ⟨hM3, .inl (by rw [List.length_map]; exact hI4)⟩
end Go.Proofs.YtonbigcdoejgcaaGreatDoor
namespace Go.Proofs.YtonbigcdoejgcaaGreatDoor
open Go.Chi
set_option maxRecDepth 10000
theorem places_ok (M : Mem) (L : HL) (t : ByteArray) (ht : mayB t = true) (hz : t.size ≤ 20000) : Tr Tryz.prog 74 [.string t] M L (fun v M' L' => M.le M' ∧ L' = L ∧ ∃ bt, v = .func (.func 93) #[] ⟨[pt bt]⟩ ∧ IterM Tryz.prog 93 [pt bt] M' ((preL 16 1 0 t).map fun p => [.agg ⟨plC p⟩])) := by
  refine Tr.intro 4 Tryz.func74 rfl rfl Tryz.call74 rfl ?_
  intro C hC hro
  repeat (first | refine zz ?_ | refine zx fun _ => ?_)
  rename_i bt
  refine run_retE hC (rs := [.tmp 2]) rfl (resT rfl resN) fun w hw => ?_
  obtain ⟨M', h1, h2, h3⟩ := hw.freeze1
  exact ⟨M', L, h3, h1, rfl, bt, rfl, places1_ok M' t bt (Cells.ofBlk h2) ht hz⟩
theorem pre_sub {t : ByteArray} (ht : mayB t = true) (hz : t.size ≤ 20000) {p : Pl} (hp : p ∈ preL 16 1 0 t) : p.a ≤ p.e ∧ p.e ≤ t.size := by
  have := (pre_in (Nat.le_refl _) ((mayB_iff (by omega)).1 ht).1 (by omega) 1 0).1 p hp
  unfold InP at this
  omega
set_option maxHeartbeats 16000000 in
theorem has_ok (M : Mem) (L : HL) (t sub : ByteArray) (hz : t.size ≤ 20000) (hz2 : sub.size ≤ 20000) : TrQ Tryz.prog 43 [.string t, .string sub] M L (.bool (hasB t sub)) := by
  refine Tr.intro 22 Tryz.func43 rfl rfl Tryz.call43 rfl ?_
  intro C hC hro
  repeat (first | refine zz ?_ | refine zx fun _ => ?_)
  rename_i b2 b3 b4 b8
  repeat (first | refine zz ?_ | refine zx fun _ => ?_ | refine rq (qt_callF rfl (fun _ => isL_ok _ _ b8 2 [t, sub] List.mem_cons_self rfl (by decide) (fun x hx => by simp at hx; rcases hx with rfl | rfl <;> omega))) ?_)
  refine run_cond (t := !(mayB t && (mayB sub && true))) rfl (fun h => ?_) (fun h => ?_)
  · have hf : hasB t sub = false := by unfold hasB; simp only [Bool.and_true] at h; rw [Bool.not_eq_true'] at h; rw [h]; rfl
    repeat (first | refine zz ?_ | refine zx fun _ => ?_)
    exact run_ret hC (rs := [.cell 4 4]) rfl (rl tok rfl resN) (fun _ h => h.drop.drop.drop.drop) ⟨by rw [hf]; rfl, rfl, rfl⟩
  have hm : mayB t = true ∧ mayB sub = true := by simpa using h
  have hh : hasB t sub = (preL 16 1 0 t).any fun p => decide (t.extract p.a p.e = sub) := by
    unfold hasB
    rw [has_pre (by omega) hm.1, hm.1, hm.2]
    rfl
  repeat (first | refine zz ?_ | refine zx fun _ => ?_ | (refine ro (st_callF rfl (fun _ => places_ok _ _ t hm.1 hz)) ?_; rintro _ M1 _ ⟨hM1, rfl, bt, rfl, hit⟩))
  let LL := fun v : Bool => (b8, Obj.cells ⟨[.string t, .string sub]⟩ 9 (0, 0)) :: (b4, Obj.cells ⟨[.bool v]⟩ 4 (0, 0)) :: (b3, Obj.cells ⟨[.string sub]⟩ 9 (0, 0)) :: (b2, Obj.cells ⟨[.string t]⟩ 9 (0, 0)) :: L
  have hpre := fun p (hp : p ∈ preL 16 1 0 t) => pre_sub hm.1 hz hp
  generalize preL 16 1 0 t = E at hh hit hpre
  refine run_rangeM hro rfl hit rfl (by intro x hx; obtain ⟨p, _, rfl⟩ := List.mem_map.1 hx; rfl)
    (fun k M' L' => M1.le M' ∧ ((E.take k).any fun p => decide (t.extract p.a p.e = sub)) = false ∧ L' = LL false)
    (fun cd _ M' L' => cd = .ret ∧ M1.le M' ∧ (E.any fun p => decide (t.extract p.a p.e = sub)) = true ∧ L' = LL true)
    (fun k M2 M3 L2 h ⟨h1, h0, h2⟩ => ⟨Mem.le_trans h1 h, h0, h2⟩) ?_ ?_ ?_ ?_
  · exact ⟨Mem.le_refl _, rfl, rfl⟩
  · rintro j x M2 _ R R' C' hx hM2 ⟨hM2', hno, rfl⟩ B
    obtain ⟨p, hp, rfl⟩ : ∃ p, E[j]? = some p ∧ [Value.agg ⟨plC p⟩] = x := by simpa using hx
    obtain ⟨hp1, hp2⟩ := hpre p (List.mem_of_getElem? hp)
    simp only [LL, List.cons_append]
    repeat (first | refine zz ?_ | refine zx fun _ => ?_)
    rename_i b5
    refine B.begin' ((b5, Obj.cells ⟨plC p⟩ 131 (0, 0)) :: LL false) rfl ?_
    simp only [LL, List.cons_append]
    repeat (first | refine zz ?_ | refine zx fun _ => ?_ | refine dd ?_ | refine dz ?_ | refine dx fun _ => ?_ | refine pq rfl (qt_strMid (m := p.a) (n := p.e) tok rfl rfl rfl rfl (fun _ => ⟨hp1, hp2⟩)) ?_)
    refine run_cond (t := decide (t.extract p.a p.e = sub)) (by show some (Value.bool _) = _; rw [bytes_beq]) (fun hc => ?_) (fun hc => ?_)
    · repeat (first | refine zz ?_ | refine zx fun _ => ?_)
      exact B.ret' (Mem.le_refl _) (fun _ h => h.drop) ⟨rfl, hM2', List.any_eq_true.2 ⟨p, List.mem_of_getElem? hp, hc⟩, rfl⟩
    · repeat (first | refine zz ?_ | refine zx fun _ => ?_)
      exact B.fin' (L2 := LL false) (Mem.le_refl _) (fun _ h => h.drop) ⟨hM2', by rw [List.take_add_one, hp, List.any_append, hno]; simpa using hc, rfl⟩
  · rintro D M2 _ hM2 ⟨hM2', hno, rfl⟩
    rw [List.length_map, List.take_length] at hno
    rw [hno] at hh
    simp only [LL]
    repeat (first | refine zz ?_ | refine zx fun _ => ?_)
    exact run_ret1 hC (by (repeat (first | with_reducible apply Upd.here | with_reducible apply Upd.there | with_reducible apply Upd.append_left))) (rs := [.cell 4 4]) rfl (rl tok rfl resN) (fun _ h => h.drop.drop.drop.drop.drop.of_le (Mem.le_trans hM1 hM2)) ⟨by rw [hh]; rfl, rfl, rfl⟩
  · rintro _ j D M2 _ hM2 ⟨rfl, hM2', hf, rfl⟩
    rw [hf] at hh
    exact run_ret1 hC (by (repeat (first | with_reducible apply Upd.here | with_reducible apply Upd.there | with_reducible apply Upd.append_left))) (rs := [.cell 4 4]) rfl (rl tok rfl resN) (fun _ h => h.drop.drop.drop.drop.drop.of_le (Mem.le_trans hM1 hM2)) ⟨by rw [hh]; rfl, rfl, rfl⟩
end Go.Proofs.YtonbigcdoejgcaaGreatDoor
namespace Go.Chi
section
open Classical
noncomputable def cn (a : Nat × Obj) (l : HL) : Nat := l.count a
noncomputable def cn1 (a x : Nat × Obj) : Nat := if x == a then 1 else 0
theorem cn_app (a : Nat × Obj) (l m : HL) : cn a (l ++ m) = cn a l + cn a m := by unfold cn; exact List.count_append
theorem cn_cons (a x : Nat × Obj) (l : HL) : cn a (x :: l) = cn1 a x + cn a l := by
  unfold cn cn1
  rw [List.count_cons, Nat.add_comm]
theorem pm_iff {l m : HL} : l.Perm m ↔ ∀ a, cn a l = cn a m := by unfold cn; exact List.perm_iff_count
end
end Go.Chi
namespace Go.Proofs.YtonbigcdoejgcaaGreatDoor
open Go.Chi
set_option maxRecDepth 10000
theorem fold_take {α β : Type} (f : β → α → β) (b : β) {l : List α} {j : Nat} {x : α} (h : l[j]? = some x) : (l.take (j + 1)).foldl f b = f ((l.take j).foldl f b) x := by
  rw [List.take_add_one, h, List.foldl_append]
  rfl
theorem swapF_pos {fr to : ByteArray} (ht : 1 ≤ to.size) {k : Nat} {t : ByteArray} (h : Tm k t) : 1 ≤ (swapF fr to k t).size := by
  cases k with
  | zero => exact h.elim
  | succ k =>
    obtain ⟨hd, ps, h1, rfl, _⟩ := h
    rw [swapF]
    split
    · exact ht
    · rw [head_of h1, ext_left, app_size]
      have := h1.pos
      omega
theorem bStr_ok (M : Mem) (L R N : HL) (b : Nat) (p v : Value) (s : ByteArray) (hL : L.Perm ((b, bdO p v) :: (N ++ R))) (hO : BdF v s.data.toList N) (h0 : 1 ≤ s.size) (hz : s.size < 1099511627776) :
    Tr Tryz.prog 91 [pt b] M L (fun w M' L1 => M = M' ∧ w = .string s ∧ ∃ N', L1 = (b, bdO p v) :: (N' ++ R) ∧ BdF v s.data.toList N') := by
  have hl := ba_len s
  refine (bString_ok M L R N b p v _ hL hO (fun h => by rw [h] at hl; simp at hl; omega) (by omega)).mono ?_
  rintro w M' L' ⟨h1, rfl, h2⟩
  exact ⟨h1, rfl, h2⟩
set_option maxHeartbeats 16000000 in
theorem swap_ok (M : Mem) (L : HL) (t fr to : ByteArray) (hz : t.size ≤ 20000) (hz2 : fr.size ≤ 20000) (hz3 : to.size ≤ 20000) : TrQ Tryz.prog 68 [.string t, .string fr, .string to] M L (.tuple ⟨[.string (swapE t fr to).1, .int .i64 (swapE t fr to).2]⟩) := by
  refine Tr.intro 55 Tryz.func68 rfl rfl Tryz.call68 rfl ?_
  intro C hC hro
  repeat (first | refine zz ?_ | refine zx fun _ => ?_)
  rename_i b3 b4 b5 b6 b7 b14
  repeat (first | refine zz ?_ | refine zx fun _ => ?_ | refine rq (qt_callF rfl (fun _ => isL_ok _ _ b14 3 [t, fr, to] List.mem_cons_self rfl (by decide) (fun x hx => by simp at hx; rcases hx with rfl | rfl | rfl <;> omega))) ?_)
  refine run_cond (t := !(mayB t && (mayB fr && (mayB to && true)))) rfl (fun h => ?_) (fun h => ?_)
  · have hf : swapE t fr to = (⟨#[]⟩, 2) := by
      unfold swapE
      rw [if_pos]
      cases h1 : mayB t <;> cases h2 : mayB fr <;> cases h3 : mayB to <;> simp_all
    repeat (first | refine zz ?_ | refine zx fun _ => ?_)
    exact run_ret hC (rs := [.cell 6 9, .cell 7 28]) rfl (rl tok rfl (rl tok rfl resN)) (fun _ h => h.drop.drop.drop.drop.drop.drop) ⟨by rw [hf]; rfl, rfl, rfl⟩
  have hm : mayB t = true ∧ mayB fr = true ∧ mayB to = true := by simpa using h
  obtain ⟨hmt, hmf, hmo⟩ := hm
  have hE : swapE t fr to = if mayB (swapF fr to 16 t) = false then (⟨#[]⟩, 5) else (swapF fr to 16 t, 0) := by
    unfold swapE
    rw [if_neg (by rw [hmt, hmf, hmo]; decide)]
  have hto := ((mayB_iff (by omega)).1 hmo).2
  have hsm := (swap_small (fr := fr) ((mayB_iff (by omega)).1 hmt) hto).1
  obtain ⟨hs1, hs2⟩ := swap_pre (fr := fr) (to := to) (by omega) hmt
  have hpre := fun p (hp : p ∈ preL 16 1 0 t) => pre_sub hmt hz hp
  have h1t := ((mayB_iff (t := t) (by omega)).1 hmt).1.pos
  repeat (first | refine zz ?_ | refine zx fun _ => ?_ | (refine ro (st_callF rfl (fun _ => places_ok _ _ t hmt hz)) ?_; rintro _ M1 _ ⟨hM1, rfl, bt, rfl, hit⟩))
  rename_i b8 b9
  generalize preL 16 1 0 t = E at hit hpre hs1 hs2
  let st := fun k : Nat => (E.take k).foldl (stepW t fr to) (⟨#[]⟩, 0)
  let R0 : Int → Nat → HL := fun e7 n => (b9, Obj.cells ⟨[iv n]⟩ 3 (0, 0)) :: (b14, Obj.cells ⟨[.string t, .string fr, .string to]⟩ 9 (0, 0)) :: (b7, Obj.cells ⟨[.int .i64 e7]⟩ 28 (0, 0)) :: (b6, Obj.cells ⟨[.string ⟨#[]⟩]⟩ 9 (0, 0)) :: (b5, Obj.cells ⟨[.string to]⟩ 9 (0, 0)) :: (b4, Obj.cells ⟨[.string fr]⟩ 9 (0, 0)) :: (b3, Obj.cells ⟨[.string t]⟩ 9 (0, 0)) :: L
  refine run_mem (fun _ h => h.perm (List.Perm.swap _ _ _)) ?_
  refine run_rangeM hro rfl hit rfl (by intro x hx; obtain ⟨p, _, rfl⟩ := List.mem_map.1 hx; rfl)
    (fun k M' L' => M1.le M' ∧ (st k).1.size ≤ 16384 ∧ ∃ p v N, (p = Value.pointer none ∨ p = pt b8) ∧ BdS v (st k).1.data.toList N ∧ L' = N ++ ((b8, bdO p v) :: R0 0 (st k).2))
    (fun cd _ M' L' => cd = .ret ∧ M1.le M' ∧ 16384 < (swapF fr to 16 t).size ∧ ∃ p v N n, L' = N ++ ((b8, bdO p v) :: R0 5 n))
    (fun k M2 M3 L2 h ⟨h1, h0, h2⟩ => ⟨Mem.le_trans h1 h, h0, h2⟩) ?_ ?_ ?_ ?_
  · exact ⟨Mem.le_refl _, Nat.zero_le _, _, _, [], .inl rfl, bdS_nil, rfl⟩
  · rintro j x M2 _ R R' C' hx hM2 ⟨hM2', hlen, pb, v, N, hpb, hO, rfl⟩ B
    obtain ⟨p, hp, rfl⟩ : ∃ p, E[j]? = some p ∧ [Value.agg ⟨plC p⟩] = x := by simpa using hx
    obtain ⟨hp1, hp2⟩ := hpre p (List.mem_of_getElem? hp)
    have hst : st (j + 1) = stepW t fr to (st j) p := fold_take _ _ hp
    generalize hsj : st j = s0 at hst hlen hO ⊢
    obtain ⟨sb, sn⟩ := s0
    simp only at hlen hO ⊢
    simp only [List.append_assoc, List.cons_append, R0]
    repeat (first | refine zz ?_ | refine zx fun _ => ?_)
    rename_i b10
    refine B.begin' ((b10, Obj.cells ⟨plC p⟩ 131 (0, 0)) :: (N ++ ((b8, bdO pb v) :: R0 0 sn))) (by simp only [List.append_assoc, List.cons_append, R0]; rfl) ?_
    simp only [List.append_assoc, List.cons_append, R0]
    repeat (first | refine zz ?_ | refine zx fun _ => ?_ | refine dd ?_ | refine dz ?_ | refine dx fun _ => ?_ | refine pg rfl rfl rfl (qt_strMid (m := p.a) (n := p.e) tok rfl rfl rfl rfl (fun _ => ⟨hp1, hp2⟩)) ?_)
    refine run_cond (t := decide ((p.a : Int) < (sn : Int)) || (!((t.extract p.a p.e).toList == fr.toList))) rfl (fun hc => ?_) (fun hc => ?_)
    · repeat (first | refine zz ?_ | refine zx fun _ => ?_)
      have hst2 : st (j + 1) = (sb, sn) := by
        rw [hst]
        unfold stepW
        rw [if_pos]
        rw [bytes_beq] at hc
        simp only [Bool.or_eq_true, decide_eq_true_eq, Bool.not_eq_true', decide_eq_false_iff_not] at hc
        rcases hc with h | h
        · exact .inl (by show p.a < sn; omega)
        · exact .inr h
      refine B.fin' (L2 := N ++ ((b8, bdO pb v) :: R0 0 sn)) (Mem.le_refl _) (fun _ h => by simpa only [List.append_assoc, List.cons_append, R0] using h.drop) ⟨hM2', by rw [hst2]; exact hlen, pb, v, N, hpb, by rw [hst2]; exact hO, by rw [hst2]⟩
    · rw [bytes_beq] at hc
      simp only [Bool.or_eq_false_iff, decide_eq_false_iff_not, Bool.not_eq_false', decide_eq_true_eq] at hc
      have hge : sn ≤ p.a := by omega
      have hst2 : st (j + 1) = (sb ++ t.extract sn p.a ++ to, p.e) := by
        rw [hst]
        unfold stepW
        rw [if_neg]
        rintro (h | h)
        · have h : p.a < sn := h
          omega
        · exact h hc.2
      have hx1 : (t.extract sn p.a).size ≤ 20000 := by rw [ByteArray.size_extract]; omega
      have hz4 : sb.data.toList.length = sb.size := by simp
      repeat (first | refine zz ?_ | refine zx fun _ => ?_ | refine rq (qt_strMid (m := sn) (n := p.a) tok rfl rfl rfl rfl (fun _ => ⟨hge, by omega⟩)) ?_ | (refine ro (st_callF rfl (fun _ => bWrite_ok _ _ ((b10, Obj.cells ⟨plC p⟩ 131 (0, 0)) :: (R0 0 sn ++ R')) N b8 pb v _ (t.extract sn p.a) (pm_iff.2 fun a => by simp only [cn_app, cn_cons, R0]; omega) hpb hO (by omega))) ?_; rintro _ _ _ ⟨rfl, v2, N2, rfl, hO2⟩))
      simp only [R0, List.cons_append]
      have hz5 := ba_len (t.extract sn p.a)
      have hz6 := ba_len to
      repeat (first | refine zz ?_ | refine zx fun _ => ?_ | (refine ro (st_callF rfl (fun _ => bWrite_ok _ _ ((b10, Obj.cells ⟨plC p⟩ 131 (0, 0)) :: (R0 0 sn ++ R')) N2 b8 (pt b8) v2 _ to (pm_iff.2 fun a => by simp only [cn_app, cn_cons, R0]; omega) (.inr rfl) hO2 (by rw [List.length_append]; omega))) ?_; rintro _ _ _ ⟨rfl, v3, N3, rfl, hO3⟩))
      simp only [R0, List.cons_append]
      obtain ⟨a3, c3, rfl⟩ := osH (show OS _ _ _ _ _ _ from hO3)
      repeat (first | refine zz ?_ | refine zx fun _ => ?_ | refine rq (qt_callF rfl (fun _ => bLen_ok _ _ b8 _ _ _ _ (List.mem_append_right _ List.mem_cons_self))) ?_)
      have hb : sb.data.toList ++ (t.extract sn p.a).data.toList ++ to.data.toList = (sb ++ t.extract sn p.a ++ to).data.toList := by simp only [ba_app]
      have hsz : (sb.data.toList ++ (t.extract sn p.a).data.toList ++ to.data.toList).length = (sb ++ t.extract sn p.a ++ to).size := by rw [hb, ba_len]
      refine run_cond (t := decide (((sb.data.toList ++ (t.extract sn p.a).data.toList ++ to.data.toList).length : Int) > 16384)) rfl (fun hl => ?_) (fun hl => ?_)
      · repeat (first | refine zz ?_ | refine zx fun _ => ?_)
        have hgt : 16384 < (sb ++ t.extract sn p.a ++ to).size := by rw [hsz] at hl; have := of_decide_eq_true hl; omega
        have hF : (sb ++ t.extract sn p.a ++ to).size ≤ (swapF fr to 16 t).size := by
          have h1 := fold_ge t fr to (E.drop (j + 1)) (st (j + 1))
          have h2 : (E.drop (j + 1)).foldl (stepW t fr to) (st (j + 1)) = E.foldl (stepW t fr to) (⟨#[]⟩, 0) := by
            show (E.drop (j + 1)).foldl _ ((E.take (j + 1)).foldl _ _) = _
            rw [← List.foldl_append, List.take_append_drop]
          rw [h2, hst2] at h1
          have h3 := congrArg ByteArray.size hs2
          rw [app_size] at h3
          simp only at h1
          omega
        refine B.ret' (L2 := N3 ++ ((b8, bdO (pt b8) (.slice a3 (sb.data.toList ++ (t.extract sn p.a).data.toList ++ to.data.toList).length c3)) :: R0 5 p.e)) (Mem.le_refl _) (fun _ h => ?_) ⟨rfl, hM2', by omega, _, _, N3, _, rfl⟩
        exact (Hp.perm (L := N3 ++ ((b8, bdO (pt b8) (.slice a3 (sb.data.toList ++ (t.extract sn p.a).data.toList ++ to.data.toList).length c3)) :: (b10, Obj.cells ⟨plC p⟩ 131 (0, 0)) :: (R0 5 p.e ++ R'))) (L' := (b10, Obj.cells ⟨plC p⟩ 131 (0, 0)) :: (N3 ++ ((b8, bdO (pt b8) (.slice a3 (sb.data.toList ++ (t.extract sn p.a).data.toList ++ to.data.toList).length c3)) :: R0 5 p.e) ++ R')) h (pm_iff.2 fun a => by simp only [cn_app, cn_cons]; omega)).drop
      · have hle : (sb ++ t.extract sn p.a ++ to).size ≤ 16384 := by rw [hsz] at hl; have := of_decide_eq_false hl; omega
        repeat (first | refine zz ?_ | refine zx fun _ => ?_)
        refine B.fin' (L2 := N3 ++ ((b8, bdO (pt b8) (.slice a3 (sb.data.toList ++ (t.extract sn p.a).data.toList ++ to.data.toList).length c3)) :: R0 0 p.e)) (Mem.le_refl _) (fun _ h => ?_) ⟨hM2', by rw [hst2]; exact hle, _, _, N3, .inr rfl, by rw [hst2]; show BdS _ (sb ++ t.extract sn p.a ++ to).data.toList N3; rw [← hb]; exact hO3, by rw [hst2]⟩
        exact (Hp.perm (L := N3 ++ ((b8, bdO (pt b8) (.slice a3 (sb.data.toList ++ (t.extract sn p.a).data.toList ++ to.data.toList).length c3)) :: (b10, Obj.cells ⟨plC p⟩ 131 (0, 0)) :: (R0 0 p.e ++ R'))) (L' := (b10, Obj.cells ⟨plC p⟩ 131 (0, 0)) :: (N3 ++ ((b8, bdO (pt b8) (.slice a3 (sb.data.toList ++ (t.extract sn p.a).data.toList ++ to.data.toList).length c3)) :: R0 0 p.e) ++ R')) h (pm_iff.2 fun a => by simp only [cn_app, cn_cons]; omega)).drop
  · rintro D M2 _ hM2 ⟨hM2', hlen, pb, v, N, hpb, hO, rfl⟩
    rw [List.length_map] at hlen hO ⊢
    have hsE : st E.length = E.foldl (stepW t fr to) (⟨#[]⟩, 0) := by show (E.take E.length).foldl _ _ = _; rw [List.take_length]
    rw [hsE] at hlen hO ⊢
    generalize E.foldl (stepW t fr to) (⟨#[]⟩, 0) = s0 at hs1 hs2 hlen hO ⊢
    obtain ⟨sb, sn⟩ := s0
    simp only at hs1 hs2 hlen hO ⊢
    simp only [R0, List.cons_append]
    have hz4 := ba_len sb
    have hz5 := ba_len (t.extract sn t.size)
    have hz6 : (t.extract sn t.size).size = t.size - sn := by simp
    have hF := swapF_pos (fr := fr) ((mayB_iff (t := to) (by omega)).1 hmo).1.pos ((mayB_iff (t := t) (by omega)).1 hmt).1
    repeat (first | refine zz ?_ | refine zx fun _ => ?_ | refine rq (qt_strLo (n := sn) tok rfl rfl rfl (fun _ => hs1)) ?_ | (refine ro (st_callF rfl (fun _ => bWrite_ok _ _ ((D, Obj.deferred (some [])) :: R0 0 sn) N b8 pb v _ (t.extract sn t.size) (pm_iff.2 fun a => by simp only [cn_app, cn_cons, R0]; omega) hpb hO (by omega))) ?_; rintro _ _ _ ⟨rfl, v2, N2, rfl, hO2⟩))
    rw [← ba_app, hs2] at hO2
    generalize swapF fr to 16 t = F at hO2 hsm hE hF
    clear hs2 hlen
    repeat (first | refine zz ?_ | refine zx fun _ => ?_ | (refine ro (st_callF rfl (fun _ => bStr_ok _ _ ((D, Obj.deferred (some [])) :: R0 0 sn) N2 b8 (pt b8) v2 F (List.perm_middle (l₁ := N2)) (hO2.f (fun h => by have := ba_len F; rw [h] at this; simp at this; omega)) hF hsm)) ?_; rintro _ _ _ ⟨rfl, rfl, N3, rfl, hO3⟩))
    rename_i b51
    simp only [R0]
    repeat (first | refine zz ?_ | refine zx fun _ => ?_ | refine rq (qt_callF rfl (fun _ => isL_ok _ _ b51 1 [F] List.mem_cons_self rfl (by decide) (fun x hx => by simp at hx; subst hx; omega))) ?_)
    refine run_cond (t := !(mayB F && true)) rfl (fun h => ?_) (fun h => ?_)
    · have hf : mayB F = false := by simpa using h
      rw [if_pos hf] at hE
      repeat (first | refine zz ?_ | refine zx fun _ => ?_)
      exact run_ret1 hC (by (repeat (first | with_reducible apply Upd.here | with_reducible apply Upd.there | with_reducible apply Upd.append_left))) (rs := [.cell 6 9, .cell 7 28]) rfl (rl tok rfl (rl tok rfl resN)) (fun _ h => h.drop.drop.dropAll.drop.drop.drop.drop.drop.drop.drop.drop.of_le (Mem.le_trans hM1 hM2)) ⟨by rw [hE]; rfl, rfl, rfl⟩
    · have hf : mayB F = true := by simpa using h
      rw [if_neg (by rw [hf]; decide)] at hE
      repeat (first | refine zz ?_ | refine zx fun _ => ?_ | (refine ro (st_callF rfl (fun _ => bStr_ok _ ((b51, .cells ⟨[.string F]⟩ 9 (0, 0)) :: (b8, bdO (pt b8) v2) :: (N3 ++ ((D, Obj.deferred (some [])) :: R0 0 sn))) ((b51, .cells ⟨[.string F]⟩ 9 (0, 0)) :: (D, Obj.deferred (some [])) :: R0 0 sn) N3 b8 (pt b8) v2 F (pm_iff.2 fun a => by simp only [cn_app, cn_cons]; omega) hO3 hF hsm)) ?_; rintro _ _ _ ⟨rfl, rfl, N4, rfl, hO4⟩; simp only [R0]))
      exact run_ret1 hC (by (repeat (first | with_reducible apply Upd.here | with_reducible apply Upd.there | with_reducible apply Upd.append_left))) (rs := [.cell 6 9, .cell 7 28]) rfl (rl tok rfl (rl tok rfl resN)) (fun _ h => h.drop.dropAll.drop.drop.drop.drop.drop.drop.drop.drop.drop.of_le (Mem.le_trans hM1 hM2)) ⟨by rw [hE]; rfl, rfl, rfl⟩
  · rintro _ j D M2 _ hM2 ⟨rfl, hM2', hgt, p, v, N, n, rfl⟩
    rw [if_pos (long_not (by omega) hgt)] at hE
    simp only [R0]
    exact run_ret1 hC (by (repeat (first | with_reducible apply Upd.here | with_reducible apply Upd.there | with_reducible apply Upd.append_left))) (rs := [.cell 6 9, .cell 7 28]) rfl (rl tok rfl (rl tok rfl resN)) (fun _ h => h.drop.dropAll.drop.drop.drop.drop.drop.drop.drop.drop.of_le (Mem.le_trans hM1 hM2)) ⟨by rw [hE]; rfl, rfl, rfl⟩
end Go.Proofs.YtonbigcdoejgcaaGreatDoor
namespace Go.Proofs.YtonbigcdoejgcaaGreatDoor
open Go.Chi
set_option maxRecDepth 10000
theorem dmay_ok (M : Mem) (L : HL) (t : ByteArray) (hz : t.size < 4611686018427387904) : TrQ Tryz.prog 14 [.string t] M L (.bool (mayB t)) := by
  have he : (refCheck t == 0) = mayB t := by rw [refCheck_eq t hz]; unfold mayB; rw [Bool.eq_iff_iff]; simp
  refine Tr.intro 6 Tryz.func14 rfl rfl Tryz.call14 rfl ?_
  intro C hC hro
  repeat (first | refine zz ?_ | refine zx fun _ => ?_ | refine rq (qt_callF rfl (fun _ => refCheck_ok _ _ t hz)) ?_)
  exact run_ret hC (rs := [.tmp 2]) rfl (resT rfl resN) (fun _ h => h) ⟨by rw [← he]; rfl, rfl, rfl⟩
theorem dkind_ok (M : Mem) (L : HL) (t : ByteArray) (hz : t.size < 4611686018427387904) : TrQ Tryz.prog 53 [.string t] M L (.int .u8 (kindN t)) := by
  refine Tr.intro 18 Tryz.func53 rfl rfl Tryz.call53 rfl ?_
  intro C hC hro
  repeat (first | refine zz ?_ | refine zx fun _ => ?_ | refine rq (qt_callF rfl (fun _ => dmay_ok _ _ t hz)) ?_)
  refine run_cond (t := !mayB t) rfl (fun h => ?_) (fun h => ?_)
  · have hf : mayB t = false := by simpa using h
    repeat (first | refine zz ?_ | refine zx fun _ => ?_)
    exact run_ret hC (rs := [.tmp 2]) rfl (resT rfl resN) (fun _ h => h) ⟨by rw [kindN, if_neg (by rw [hf]; decide)]; rfl, rfl, rfl⟩
  have ht : mayB t = true := by simpa using h
  obtain ⟨h1, h2⟩ := (mayB_iff hz).1 ht
  obtain ⟨c, hc1, hc2⟩ := byte_at (i := 0) (show 0 < t.size from h1.pos)
  have hkn : kindN t = kindB (c.toNat : Int) := by rw [kindN, if_pos ht, hc2]
  rw [hkn] at hC
  have hby := h1.byte
  rw [hc2] at hby
  clear hkn hc2
  unfold kindB at hC
  repeat (first | refine zz ?_ | refine zx fun _ => ?_ | refine rq (qt_strIndex (n := 0) (b := c) tok rfl rfl rfl (fun _ => hc1)) ?_)
  refine run_cond (t := (c.toNat : Int) == 100) rfl (fun h => ?_) (fun h => ?_)
  · rw [if_pos (by simpa using h)] at hC
    repeat (first | refine zz ?_ | refine zx fun _ => ?_)
    exact run_ret hC (rs := [.tmp 2]) rfl (resT rfl resN) (fun _ h => h) ⟨rfl, rfl, rfl⟩
  rw [if_neg (by simpa using h)] at hC
  repeat (first | refine zz ?_ | refine zx fun _ => ?_)
  refine run_cond (t := (c.toNat : Int) == 97) rfl (fun h => ?_) (fun h => ?_)
  · rw [if_pos (by simpa using h)] at hC
    repeat (first | refine zz ?_ | refine zx fun _ => ?_)
    exact run_ret hC (rs := [.tmp 2]) rfl (resT rfl resN) (fun _ h => h) ⟨rfl, rfl, rfl⟩
  rw [if_neg (by simpa using h)] at hC
  repeat (first | refine zz ?_ | refine zx fun _ => ?_)
  refine run_cond (t := (c.toNat : Int) == 114) rfl (fun h => ?_) (fun h => ?_)
  · rw [if_pos (by simpa using h)] at hC
    repeat (first | refine zz ?_ | refine zx fun _ => ?_)
    exact run_ret hC (rs := [.tmp 2]) rfl (resT rfl resN) (fun _ h => h) ⟨rfl, rfl, rfl⟩
  rw [if_neg (by simpa using h)] at hC
  repeat (first | refine zz ?_ | refine zx fun _ => ?_)
  refine run_cond (t := (c.toNat : Int) == 104) rfl (fun h => ?_) (fun h => ?_)
  · rw [if_pos (by simpa using h)] at hC
    repeat (first | refine zz ?_ | refine zx fun _ => ?_)
    exact run_ret hC (rs := [.tmp 2]) rfl (resT rfl resN) (fun _ h => h) ⟨rfl, rfl, rfl⟩
  rw [if_neg (by simpa using h)] at hC
  repeat (first | refine zz ?_ | refine zx fun _ => ?_)
  refine run_cond (t := (c.toNat : Int) == 109) rfl (fun h => ?_) (fun h => ?_)
  · rw [if_pos (by simpa using h)] at hC
    repeat (first | refine zz ?_ | refine zx fun _ => ?_)
    exact run_ret hC (rs := [.tmp 2]) rfl (resT rfl resN) (fun _ h => h) ⟨rfl, rfl, rfl⟩
  rw [if_neg (by simpa using h)] at hC
  repeat (first | refine zz ?_ | refine zx fun _ => ?_)
  exact run_ret hC (rs := [.tmp 2]) rfl (resT rfl resN) (fun _ h => h) ⟨rfl, rfl, rfl⟩
theorem dtext_ok (M : Mem) (L : HL) (t : ByteArray) (hz : t.size < 4611686018427387904) : TrQ Tryz.prog 51 [.string t] M L (.tuple ⟨[.string (textN t).1, .bool (textN t).2]⟩) := by
  have hc : mayB t = true → t[0]? = some ((t[0]?).getD 0) := fun hm => by
    obtain ⟨c, h1, _⟩ := byte_at (i := 0) (show 0 < t.size from ((mayB_iff hz).1 hm).1.pos)
    rw [h1]; rfl
  have hb : byte t 0 = (((t[0]?).getD 0).toNat : Int) := rfl
  generalize (t[0]?).getD 0 = c at hc hb
  refine Tr.intro 28 Tryz.func51 rfl rfl Tryz.call51 rfl ?_
  intro C hC hro
  repeat (first | refine zz ?_ | refine zx fun _ => ?_ | refine rq (qt_callF rfl (fun _ => dmay_ok _ _ t hz)) ?_ | refine rg rfl rfl (qt_strIndex (n := 0) (b := c) tok rfl rfl rfl (fun hy => hc (by have h1 : (!mayB t) = false := hy.1; simpa using h1))) ?_ | refine rg rfl rfl (qt_strIndex (n := 0) (b := c) tok rfl rfl rfl (fun hy => hc (by have h1 : (!mayB t) = false := hy.2.1; simpa using h1))) ?_)
  refine run_cond (t := (!mayB t) || (((c.toNat : Int) != 100) && ((c.toNat : Int) != 97))) rfl (fun h => ?_) (fun h => ?_)
  · have hn : textN t = (⟨#[]⟩, false) := by
      unfold textN
      rw [if_neg]
      rintro ⟨h1, h2⟩
      rw [hb] at h2
      rw [h1] at h
      simp only [Bool.not_true, Bool.false_or, Bool.and_eq_true, bne_iff_ne] at h
      omega
    repeat (first | refine zz ?_ | refine zx fun _ => ?_)
    exact run_ret hC (rs := [.tmp 2, .tmp 3]) rfl (resT rfl (resT rfl resN)) (fun _ h => h) ⟨by rw [hn]; rfl, rfl, rfl⟩
  have hm : mayB t = true := by
    cases hm : mayB t with
    | true => rfl
    | false => rw [hm] at h; simp at h
  have hp := ((mayB_iff hz).1 hm).1.pos
  have hn : textN t = ((textR (rest1 t) 1024).1, true) := by
    unfold textN
    rw [if_pos]
    refine ⟨hm, ?_⟩
    rw [hb]
    rw [hm] at h
    simp only [Bool.not_true, Bool.false_or, Bool.and_eq_false_iff, bne_eq_false_iff_eq] at h
    exact h
  have hte := refText_ok M L (rest1 t) 1024 (by rw [rest1_size]; omega) (by decide)
  rw [refText_eq] at hte
  repeat (first | refine zz ?_ | refine zx fun _ => ?_ | refine rq (qt_strLo (n := 1) tok rfl rfl rfl (fun _ => hp)) ?_ | refine rq (qt_callF rfl (fun _ => hte)) ?_)
  exact run_ret hC (rs := [.tmp 2, .tmp 3]) rfl (resT rfl (resT rfl resN)) (fun _ h => h) ⟨by rw [hn]; rfl, rfl, rfl⟩
end Go.Proofs.YtonbigcdoejgcaaGreatDoor
namespace Go.Proofs.YtonbigcdoejgcaaGreatDoor
open Go.Chi
set_option maxRecDepth 10000
theorem stC_oneL (x : ByteArray) : ∀ u ∈ stC x, u.oneCell' = true := by intro u hu; simp [stC] at hu; subst hu; rfl
theorem stC_lenL (l : List ByteArray) : ∀ c ∈ l.map stC, c.length = 1 := by intro c hc; obtain ⟨x, _, rfl⟩ := List.mem_map.1 hc; rfl
theorem stC_snoc (l : List ByteArray) (x : ByteArray) : ((l ++ [x]).map stC).flatten = (l.map stC).flatten ++ stC x := by simp
set_option maxHeartbeats 8000000 in
theorem dparts_ok (M : Mem) (L : HL) (k : Nat) (hk : k ≤ 15) (hd : ByteArray) (ps : List ByteArray) (h1 : Hd hd ps.length) (h3 : ∀ p ∈ ps, Tm k p) (hz : (hd ++ cat ps).size ≤ 1000000) :
    Tr Tryz.prog 100 [.string (hd ++ cat ps)] M L (fun v M' L' => M = M' ∧ ∃ N, L' = N ++ L ∧ OS 9 1 v ps.length (ps.map stC).flatten N) := by
  have hrow := h1.le32
  have hh := head_eq (hd ++ cat ps) (by omega)
  rw [hd_front h1] at hh
  have hln : (hd ++ cat ps).size = hd.size + (cat ps).size := app_size _ _
  generalize hS : hd ++ cat ps = S at hh hln hz ⊢
  simp only at hh
  refine Tr.intro 41 Tryz.func100 rfl rfl Tryz.call100 rfl ?_
  intro C hC hro
  repeat (first | refine zz ?_ | refine zx fun _ => ?_ | refine rq (Qt.as (v' := .tuple ⟨[iv hd.size, iv ps.length, .int .i64 0]⟩) (qt_callF rfl (fun _ => head_ok _ _ S (by omega))) (by rw [hh])) ?_)
  refine run_loopN (fun j σ1 M1 L1 => j ≤ ps.length ∧ M = M1 ∧ ∃ a c N, L1 = N ++ L ∧ OS 9 1 (.slice a j c) j ((ps.take j).map stC).flatten N ∧ σ1 = [(7, iv j), (6, .slice a j c), (3, iv (hd.size + (cat (ps.take j)).size)), (4, iv ps.length), (0, .string S)]) ps.length [(7, iv 0), (6, .slice none 0 0), (3, iv hd.size), (4, iv ps.length), (0, .string S)] ?_ ⟨Nat.zero_le _, rfl, _, _, [], rfl, OS.nil _ _, rfl⟩ (fun j _ _ _ h => h.1) ?_
  · exact ⟨rfl, rfl, rfl, rfl, rfl, trivial⟩
  rintro j _ _ _ ⟨hj, rfl, a, c, N, rfl, hO, rfl⟩ hnext
  repeat (first | refine zz ?_ | refine zx fun _ => ?_)
  refine run_cond rfl (fun h5 => ?_) (fun h5 => ?_)
  · have hik : j < ps.length := by simpa using h5
    obtain ⟨q, hq⟩ : ∃ q, ps[j]? = some q := ⟨_, List.getElem?_eq_getElem hik⟩
    have hqm := List.mem_of_getElem? hq
    have htk : ps.take (j + 1) = ps.take j ++ [q] := by rw [List.take_add_one, hq]; rfl
    have hcat : cat ps = cat (ps.take j) ++ (q ++ cat (ps.drop (j + 1))) := by
      conv => lhs; rw [← List.take_append_drop (j + 1) ps, cat_app, htk, cat_app]
      rw [cat, cat, app_nil, app_assoc]
    have hS3 : (hd ++ cat (ps.take j)) ++ (q ++ cat (ps.drop (j + 1))) = S := by rw [← hS, hcat, app_assoc]
    have hx3 : (hd ++ cat (ps.take j)).size = hd.size + (cat (ps.take j)).size := app_size _ _
    have hx4 : S.size = (hd ++ cat (ps.take j)).size + (q.size + (cat (ps.drop (j + 1))).size) := by rw [← hS3]; simp only [app_size]
    have hex : S.extract (hd.size + (cat (ps.take j)).size) S.size = q ++ cat (ps.drop (j + 1)) := by rw [← hx3, ← hS3]; exact ext_right _ _
    have hem : S.extract (hd.size + (cat (ps.take j)).size) (hd.size + (cat (ps.take j)).size + q.size) = q := by rw [← hx3, ← hS3]; exact ext_mid _ _ _
    have hrd := read_at (h3 q hqm) (by omega) (cat (ps.drop (j + 1))) (by rw [app_size]; omega)
    have hcall := fun L => refread_ok M 16 (by decide) L (q ++ cat (ps.drop (j + 1))) (by rw [app_size]; omega)
    rw [hrd, ← hex] at hcall
    generalize hn : hd.size + (cat (ps.take j)).size = n at *
    have hadd : IntKind.i64.wrap ((n : Int) + (q.size : Int)) = ((n + q.size : Nat) : Int) := by
      rw [show (n : Int) + (q.size : Int) = ((n + q.size : Nat) : Int) by omega, wrap64_nat (by omega)]
    repeat (first | refine zz ?_ | refine zx fun _ => ?_ | refine rq (qt_strLo (n := n) tok rfl rfl rfl (fun _ => by omega)) ?_ | refine rq (qt_callF rfl (fun _ => hcall _)) ?_ | refine rq (Qt.as (v' := .string q) (qt_strMid (m := n) (n := n + q.size) tok rfl rfl rfl (by rw [← hadd]; rfl) (fun _ => by omega)) (congrArg Value.string hem)) ?_)
    rename_i b1
    have hidx : iv (hd.size + (cat (ps.take (j + 1))).size) = .int .i64 (IntKind.i64.wrap ((n : Int) + (q.size : Int))) := by rw [hadd, htk, cat_app, app_size, cat, cat, app_nil, ← Nat.add_assoc, hn]
    repeat (first | refine zz ?_ | refine zx fun _ => ?_ | (refine ro (st_append (news := stC q) (m := 1) tok rfl rfl rfl rfl rfl rfl rfl rfl (L0 := (b1, .cells ⟨[.string q]⟩ 9 (0, 0)) :: L) (List.perm_middle (l₁ := N)).symm hO (.inr ⟨b1, 0, 1, rfl, cellsAll List.mem_cons_self, rfl⟩) (stC_oneL q) (by omega) (by omega)) ?_; rintro v3 _ _ ⟨N', rfl, rfl, hO3⟩; obtain ⟨a3, c3, rfl⟩ := osH hO3))
    refine run_mem (L' := N' ++ L) (fun _ h => (h.perm (List.perm_middle (l₁ := N'))).drop) (run_sub' (hnext _ _ _ ⟨hik, rfl, a3, c3, N', rfl, by rw [htk, stC_snoc]; exact hO3, rfl⟩) ⟨lk_succ rfl (by omega), rfl, by show _ = some (iv _); rw [hidx]; rfl, rfl, rfl, trivial⟩)
  · have hik : j = ps.length := by simp at h5; omega
    subst hik
    rw [List.take_length] at hO
    repeat (first | refine zz ?_ | refine zx fun _ => ?_)
    exact run_ret hC (rs := [.tmp 2]) rfl (resT rfl resN) (fun _ h => h) ⟨rfl, N, rfl, hO⟩
theorem places_len : ∀ {k : Nat}, k ≤ 16 → ∀ {t : ByteArray}, Tm k t → t.size < 4611686018427387904 → (placesL k t).length ≤ t.size
  | 0, _, _, h, _ => h.elim
  | k + 1, hk, t, ⟨hd, ps, h1, h2, h3⟩, hs => by
    subst h2
    have hz : (hd ++ cat ps).size = hd.size + (cat ps).size := app_size _ _
    have hpos := h1.pos
    have key : ∀ qs : List ByteArray, (∀ p ∈ qs, Tm k p) → (cat qs).size < 4611686018427387904 → (qs.flatMap (placesL k)).length ≤ (cat qs).size := by
      intro qs
      induction qs with
      | nil => intro _ _; exact Nat.zero_le _
      | cons q qs ih =>
        intro h hs
        rw [cat, app_size] at hs
        rw [List.flatMap_cons, List.length_append, cat, app_size]
        exact Nat.add_le_add (places_len (by omega) (h q List.mem_cons_self) (by omega)) (ih (fun p hp => h p (List.mem_cons_of_mem _ hp)) (by omega))
    rw [placesL, parts_of (by omega) h1 h3 hs, List.length_cons]
    have := key ps h3 (by omega)
    omega
set_option maxHeartbeats 8000000 in
theorem dplaces_ok : ∀ (k : Nat), k ≤ 16 → ∀ (t : ByteArray), Tm k t → t.size ≤ 20000 → ∀ (M : Mem) (L : HL), Tr Tryz.prog 78 [.string t] M L (fun v M' L' => M.le M' ∧ L' = L ∧ ∃ a c, v = .slice a (placesL k t).length c ∧ SlM M' 1 a (placesL k t).length ((placesL k t).map stC))
  | 0, _, t, h, _, _, _ => h.elim
  | k + 1, hk, t, h, hz, M, L => by
    have hlen := places_len hk h (by omega)
    obtain ⟨hd, ps, h1, h2, h3⟩ := h
    subst h2
    have hln : (hd ++ cat ps).size = hd.size + (cat ps).size := app_size _ _
    have hpos := h1.pos
    rw [placesL, parts_of (by omega) h1 h3 (by omega)] at hlen ⊢
    have hrow := h1.le32
    have hih := fun q (hq : q ∈ ps) => dplaces_ok k (by omega) q (h3 q hq) (by have := cat_mem hq; omega)
    have hpa := fun M L => dparts_ok M L k (by omega) hd ps h1 h3 (by omega)
    generalize hd ++ cat ps = S at hz hlen hln hpa ⊢
    refine Tr.intro 24 Tryz.func78 rfl rfl Tryz.call78 rfl ?_
    intro C hC hro
    repeat (first | refine zz ?_ | refine zx fun _ => ?_)
    rename_i b7
    refine ro (st_callF rfl (fun _ => hpa _ _)) ?_
    rintro v _ L1 ⟨rfl, N, rfl, hO⟩
    refine runL_memE (fun M' L' => M.le M' ∧ ∃ a2 c2, v = .slice a2 ps.length c2 ∧ SlM M' 1 a2 ps.length (ps.map stC) ∧ L' = (b7, .cells ⟨[.string S]⟩ 9 (0, 0)) :: L) (fun w hw => ?_) ?_
    · obtain ⟨M', a2, c2, h1, h2, h3, h4⟩ := hw.freezeOS (ls := ps.map stC) hO (by simp) (stC_lenL ps)
      subst h3
      exact ⟨M', _, h2, h1, a2, c2, rfl, h4, rfl⟩
    rintro M2 _ ⟨hM2, a2, c2, rfl, hsl, rfl⟩
    repeat (first | refine zz ?_ | refine zx fun _ => ?_)
    have hpl : ∀ j, 1 + ((ps.take j).flatMap (placesL k)).length ≤ 20000 := fun j => by
      have e : (ps.flatMap (placesL k)).length = ((ps.take j).flatMap (placesL k)).length + ((ps.drop j).flatMap (placesL k)).length := by rw [← List.length_append, ← List.flatMap_append, List.take_append_drop]
      rw [List.length_cons] at hlen
      omega
    refine run_loopN (fun j σ1 M3 L3 => j ≤ ps.length ∧ M2.le M3 ∧ ∃ a c N, L3 = N ++ L ∧ OS 9 1 (.slice a (1 + ((ps.take j).flatMap (placesL k)).length) c) (1 + ((ps.take j).flatMap (placesL k)).length) ((S :: (ps.take j).flatMap (placesL k)).map stC).flatten N ∧ σ1 = [(5, iv j), (4, .slice a2 ps.length c2), (3, .slice a (1 + ((ps.take j).flatMap (placesL k)).length) c)]) ps.length [(5, iv 0), (4, .slice a2 ps.length c2), (3, .slice (some ⟨b7, 0, none⟩) 1 1)] ?_ ⟨Nat.zero_le _, Mem.le_refl _, _, _, [(b7, .cells ⟨[.string S]⟩ 9 (0, 0))], rfl, .inr ⟨b7, 1, _, rfl, rfl, Nat.le_refl _, rfl, rfl⟩, rfl⟩ (fun j _ _ _ h => h.1) ?_
    · exact ⟨rfl, rfl, rfl, trivial⟩
    rintro j _ M3 _ ⟨hj, hM3, a, c, N, rfl, hO3, rfl⟩ hnext
    repeat (first | refine zz ?_ | refine zx fun _ => ?_)
    refine run_cond rfl (fun h5 => ?_) (fun h5 => ?_)
    · have hik : j < ps.length := by simpa using h5
      obtain ⟨bb, off, q, ha, hq, hc⟩ := SStr.at_ hsl hik
      subst ha
      have hqm := List.mem_of_getElem? hq
      have htk : ps.take (j + 1) = ps.take j ++ [q] := by rw [List.take_add_one, hq]; rfl
      have hc3 := hc.le hM3
      have hfl : (ps.take (j + 1)).flatMap (placesL k) = (ps.take j).flatMap (placesL k) ++ placesL k q := by rw [htk, List.flatMap_append]; simp
      have hp1 := hpl j
      have hp2 := hpl (j + 1)
      rw [hfl, List.length_append] at hp2
      repeat (first | refine zz ?_ | refine zx fun _ => ?_ | refine runL_q (qt_indexN tok rfl rfl rfl rfl (fun _ => by omega)) rfl rfl rfl ?_ | refine runL_g rfl rfl (qt_indexN tok rfl rfl rfl rfl (fun _ => by omega)) rfl rfl rfl rfl rfl ?_ | refine runL_q (qt_ldM tok rfl hc3 rfl) rfl rfl rfl ?_ | refine runL_g rfl rfl (qt_ldM tok rfl hc3 rfl) rfl rfl rfl rfl rfl ?_ | refine runL_q (qt_ldM0 tok rfl hc3 rfl) rfl rfl rfl ?_ | refine runL_g rfl rfl (qt_ldM0 tok rfl hc3 rfl) rfl rfl rfl rfl rfl ?_ | (refine ro (st_callF rfl (fun _ => hih q hqm _ _)) ?_; rintro _ M4 _ ⟨hM4, rfl, a4, c4, rfl, hs4⟩) | (refine ro (st_appendG (xs := ((S :: (ps.take j).flatMap (placesL k)).map stC).flatten) (m := (placesL k q).length) (news := ((placesL k q).map stC).flatten) tok rfl rfl rfl rfl rfl rfl rfl rfl (List.Perm.refl _) hO3 (SrcG.ofSlM hs4) (fun u hu => by obtain ⟨x, hx, hu⟩ := List.mem_flatten.1 hu; obtain ⟨y, _, rfl⟩ := List.mem_map.1 hx; exact stC_oneL y u hu) (by omega) (by omega)) ?_; rintro v5 _ _ ⟨N5, rfl, rfl, hO5⟩; obtain ⟨a5, c5, rfl⟩ := osH hO5))
      have hlen2 : 1 + ((ps.take (j + 1)).flatMap (placesL k)).length = 1 + ((ps.take j).flatMap (placesL k)).length + (placesL k q).length := by rw [hfl, List.length_append, Nat.add_assoc]
      refine run_sub' (hnext _ _ _ ⟨hik, Mem.le_trans hM3 hM4, a5, c5, N5, rfl, ?_, rfl⟩) ⟨lk_succ rfl (by omega), rfl, by rw [hlen2]; rfl, trivial⟩
      rw [hlen2, hfl, ← List.cons_append, List.map_append, List.flatten_append]
      exact hO5
    · have hik : j = ps.length := by simp at h5; omega
      subst hik
      rw [List.take_length] at hO3
      repeat (first | refine zz ?_ | refine zx fun _ => ?_)
      refine run_retE hC (rs := [.tmp 2]) rfl (resT rfl resN) fun w hw => ?_
      rw [show 1 + (ps.flatMap (placesL k)).length = (S :: ps.flatMap (placesL k)).length by rw [List.length_cons, Nat.add_comm]] at hO3
      obtain ⟨M', a6, c6, q1, q2, q3, q4⟩ := hw.freezeOS (ls := (S :: ps.flatMap (placesL k)).map stC) hO3 (by rw [List.length_map]) (stC_lenL _)
      refine ⟨M', L, q2, Mem.le_trans (Mem.le_trans hM2 hM3) q1, rfl, a6, c6, ?_, q4⟩
      rw [List.take_length]
      show Value.slice a (1 + (ps.flatMap (placesL k)).length) c = _
      rw [show 1 + (ps.flatMap (placesL k)).length = (S :: ps.flatMap (placesL k)).length by rw [List.length_cons, Nat.add_comm]]
      exact q3
end Go.Proofs.YtonbigcdoejgcaaGreatDoor
namespace Go.Proofs.YtonbigcdoejgcaaGreatDoor
open Go.Chi
set_option maxRecDepth 10000
theorem dIn_ok (M : Mem) (L : HL) (s : SStr) (h : StOk M s) (x : ByteArray) : TrQ Tryz.prog 77 [s.v, .string x] M L (.bool (s.xs.any fun y => decide (y = x))) := by
  have hlen := h.len
  have h6 := h.2
  obtain ⟨a, n, c, xs⟩ := s
  simp only [SStr.v] at *
  refine Tr.intro 18 Tryz.func77 rfl rfl Tryz.call77 rfl ?_
  intro C hC hro
  repeat (first | refine zz ?_ | refine zx fun _ => ?_)
  refine run_loopN (fun j σ1 M1 L1 => j ≤ n ∧ M = M1 ∧ L = L1 ∧ ((xs.take j).any fun y => decide (y = x)) = false ∧ σ1 = [(5, iv j), (0, .slice a n c), (1, .string x)]) n [(5, iv 0), (0, .slice a n c), (1, .string x)] ?_ ⟨Nat.zero_le _, rfl, rfl, rfl, rfl⟩ (fun j _ _ _ h => h.1) ?_
  · exact ⟨rfl, rfl, rfl, trivial⟩
  rintro j _ _ _ ⟨hj, rfl, rfl, hpre, rfl⟩ hnext
  repeat (first | refine zz ?_ | refine zx fun _ => ?_)
  refine run_cond rfl (fun h1 => ?_) (fun h1 => ?_)
  · have hlt : j < n := by simpa using h1
    obtain ⟨b, off, t, ha, hm, hc⟩ := SStr.at_ h.1 hlt
    subst ha
    repeat (first | refine zz ?_ | refine zx fun _ => ?_ | refine runL_q (qt_indexN tok rfl rfl rfl rfl (fun _ => by omega)) rfl rfl rfl ?_ | refine runL_g rfl rfl (qt_indexN tok rfl rfl rfl rfl (fun _ => by omega)) rfl rfl rfl rfl rfl ?_ | refine runL_q (qt_ldM tok rfl hc rfl) rfl rfl rfl ?_ | refine runL_g rfl rfl (qt_ldM tok rfl hc rfl) rfl rfl rfl rfl rfl ?_ | refine runL_q (qt_ldM0 tok rfl hc rfl) rfl rfl rfl ?_ | refine runL_g rfl rfl (qt_ldM0 tok rfl hc rfl) rfl rfl rfl rfl rfl ?_)
    refine run_cond (t := decide (t = x)) (by show some (Value.bool _) = _; rw [bytes_beq]) (fun h2 => ?_) (fun h2 => ?_)
    · repeat (first | refine zz ?_ | refine zx fun _ => ?_)
      exact run_ret hC (rs := [.tmp 4]) rfl (resT rfl resN) (fun _ h => h) ⟨by rw [any_true (fun y => decide (y = x)) hm h2]; rfl, rfl, rfl⟩
    · repeat (first | refine zz ?_ | refine zx fun _ => ?_)
      exact run_sub' (hnext _ _ _ ⟨hlt, rfl, rfl, by rw [any_snoc (fun y => decide (y = x)) hm hpre]; exact h2, rfl⟩) ⟨lk_succ rfl (by omega), rfl, rfl, trivial⟩
  · have hge : j = n := by simp at h1; omega
    subst hge
    rw [List.take_of_length_le (by omega)] at hpre
    repeat (first | refine zz ?_ | refine zx fun _ => ?_)
    exact run_ret hC (rs := [.tmp 4]) rfl (resT rfl resN) (fun _ h => h) ⟨by rw [hpre]; rfl, rfl, rfl⟩
theorem dHas_ok (M : Mem) (L : HL) (t sub : ByteArray) (hz : t.size ≤ 20000) (hz2 : sub.size ≤ 20000) : TrQ Tryz.prog 46 [.string t, .string sub] M L (.bool (hasB t sub)) := by
  have h1 := fun M L => dmay_ok M L t (by omega)
  have h2 := fun M L => dmay_ok M L sub (by omega)
  have hh : hasB t sub = ((mayB t && mayB sub) && (placesL 16 t).any fun x => decide (x = sub)) := rfl
  have hT := fun hm => (mayB_iff (t := t) (by omega)).1 hm
  cases hm : mayB t with
  | false =>
    rw [hm] at h1 hh
    rw [hh]
    refine Tr.intro 17 Tryz.func46 rfl rfl Tryz.call46 rfl ?_
    intro C hC hro
    repeat (first | refine zc ?_ | refine zk ?_ | refine zx fun _ => ?_ | refine rq (qt_callF rfl (fun _ => h1 _ _)) ?_)
    exact run_ret hC (rs := [.tmp 4]) rfl (resT rfl resN) (fun _ h => h) ⟨rfl, rfl, rfl⟩
  | true =>
    obtain ⟨hT1, hT2⟩ := hT hm
    rw [hm] at h1 hh
    cases hm2 : mayB sub with
    | false =>
      rw [hm2] at h2 hh
      rw [hh]
      refine Tr.intro 17 Tryz.func46 rfl rfl Tryz.call46 rfl ?_
      intro C hC hro
      repeat (first | refine zc ?_ | refine zk ?_ | refine zx fun _ => ?_ | refine rq (qt_callF rfl (fun _ => h1 _ _)) ?_ | refine runL_gK rfl rfl (qt_callF rfl (fun _ => h2 _ _)) rfl rfl rfl ?_)
      exact run_ret hC (rs := [.tmp 4]) rfl (resT rfl resN) (fun _ h => h) ⟨rfl, rfl, rfl⟩
    | true =>
      have hpl := places_len (Nat.le_refl _) hT1 (by omega)
      rw [hm2] at h2 hh
      rw [hh]
      refine Tr.intro 17 Tryz.func46 rfl rfl Tryz.call46 rfl ?_
      intro C hC hro
      repeat (first | refine zc ?_ | refine zk ?_ | refine zx fun _ => ?_ | refine rq (qt_callF rfl (fun _ => h1 _ _)) ?_ | refine runL_gK rfl rfl (qt_callF rfl (fun _ => h2 _ _)) rfl rfl rfl ?_ | (refine runL_gT rfl rfl (st_callF rfl (fun _ => dplaces_ok 16 (Nat.le_refl _) t hT1 hz _ _)) rfl rfl rfl ?_; rintro _ M1 _ ⟨hM1, rfl, a, c, rfl, hs⟩) | refine runL_gK rfl rfl (qt_callF rfl (fun _ => dIn_ok _ _ ⟨a, _, c, _⟩ ⟨hs, by show (placesL 16 t).length < 1000000; omega⟩ sub)) rfl rfl rfl ?_)
      exact run_ret hC (rs := [.tmp 4]) rfl (resT rfl resN) (fun _ h => h.of_le hM1) ⟨rfl, rfl, rfl⟩
set_option maxHeartbeats 8000000 in
theorem dswap_ok (fr to : ByteArray) (hto : to.size ≤ 20000) : ∀ (k : Nat), k ≤ 16 → ∀ (t : ByteArray), Tm k t → t.size ≤ 20000 → ∀ (M : Mem) (L : HL), TrQ Tryz.prog 106 [.string t, .string fr, .string to] M L (.string (swapC fr to k t))
  | 0, _, t, h, _, _, _ => h.elim
  | k + 1, hk, t, h, hz, M, L => by
    obtain ⟨hd, ps, h1, h2, h3⟩ := h
    have hh := head_eq t (by omega)
    subst h2
    rw [hd_front h1] at hh
    have hln : (hd ++ cat ps).size = hd.size + (cat ps).size := app_size _ _
    have hrow := h1.le32
    have hih := fun q (hq : q ∈ ps) => dswap_ok fr to hto k (by omega) q (h3 q hq) (by have := cat_mem hq; omega)
    have hqz : ∀ q ∈ ps, (swapC fr to k q).size ≤ 20000 * 20001 := fun q hq => by
      have e := (swap_le fr to (by omega) (h3 q hq) (by have := cat_mem hq; omega)).2
      have : q.size * (to.size + 1) ≤ 20000 * 20001 := Nat.mul_le_mul (by have := cat_mem hq; omega) (by omega)
      omega
    have hpa := fun M L => dparts_ok M L k (by omega) hd ps h1 h3 (by omega)
    have hsw : swapC fr to (k + 1) (hd ++ cat ps) = if hd ++ cat ps = fr then to else accC hd (ps.map (swapC fr to k)) := by
      rw [swapC, head_of h1, parts_of (by omega) h1 h3 (by omega), ext_left]
    have hex : (hd ++ cat ps).extract 0 hd.size = hd := ext_left _ _
    rw [hsw]
    generalize hd ++ cat ps = S at hz hln hpa hh hex ⊢
    simp only at hh
    refine Tr.intro 49 Tryz.func106 rfl rfl Tryz.call106 rfl ?_
    intro C hC hro
    repeat (first | refine zz ?_ | refine zx fun _ => ?_)
    refine run_cond (t := decide (S = fr)) (by show some (Value.bool _) = _; rw [bytes_beq]) (fun h => ?_) (fun h => ?_)
    · rw [if_pos (of_decide_eq_true h)] at hC
      repeat (first | refine zz ?_ | refine zx fun _ => ?_)
      exact run_ret hC (rs := [.tmp 6]) rfl (resT rfl resN) (fun _ h => h) ⟨rfl, rfl, rfl⟩
    rw [if_neg (of_decide_eq_false h)] at hC
    repeat (first | refine zz ?_ | refine zx fun _ => ?_ | refine rq (Qt.as (v' := .tuple ⟨[iv hd.size, iv ps.length, .int .i64 0]⟩) (qt_callF rfl (fun _ => head_ok _ _ S (by omega))) (by rw [hh])) ?_ | refine rq (Qt.as (v' := .string hd) (qt_strHi (n := hd.size) tok rfl rfl rfl (fun _ => by omega)) (congrArg Value.string hex)) ?_)
    refine ro (st_callF rfl (fun _ => hpa _ _)) ?_
    rintro v _ L1 ⟨rfl, N, rfl, hO⟩
    refine runL_memE (fun M' L' => M.le M' ∧ ∃ a2 c2, v = .slice a2 ps.length c2 ∧ SlM M' 1 a2 ps.length (ps.map stC) ∧ L = L') (fun w hw => ?_) ?_
    · obtain ⟨M', a2, c2, h1, h2, h3, h4⟩ := hw.freezeOS (ls := ps.map stC) hO (by simp) (stC_lenL ps)
      subst h3
      exact ⟨M', _, h2, h1, a2, c2, rfl, h4, rfl⟩
    rintro M2 _ ⟨hM2, a2, c2, rfl, hsl, rfl⟩
    repeat (first | refine zz ?_ | refine zx fun _ => ?_)
    refine run_loopN (fun j σ1 M3 L3 => j ≤ ps.length ∧ M2 = M3 ∧ L = L3 ∧ ∃ s : ByteArray, accC hd (ps.map (swapC fr to k)) = accC s ((ps.drop j).map (swapC fr to k)) ∧ s.size ≤ 1000000000 ∧ σ1 = [(12, iv j), (11, .slice a2 ps.length c2), (10, .string s), (1, .string fr), (2, .string to)]) ps.length [(12, iv 0), (11, .slice a2 ps.length c2), (10, .string hd), (1, .string fr), (2, .string to)] ?_ ⟨Nat.zero_le _, rfl, rfl, hd, rfl, by omega, rfl⟩ (fun j _ _ _ h => h.1) ?_
    · exact ⟨rfl, rfl, rfl, rfl, rfl, trivial⟩
    rintro j _ _ _ ⟨hj, rfl, rfl, s, hacc, hsz, rfl⟩ hnext
    repeat (first | refine zz ?_ | refine zx fun _ => ?_)
    refine run_cond (t := decide ((j : Int) < (ps.length : Int)) && decide ((s.size : Int) ≤ 16384)) rfl (fun h5 => ?_) (fun h5 => ?_)
    · simp only [Bool.and_eq_true, decide_eq_true_eq] at h5
      have hik : j < ps.length := by omega
      obtain ⟨bb, off, q, ha, hq, hc⟩ := SStr.at_ hsl hik
      subst ha
      have hqm := List.mem_of_getElem? hq
      have hq1 := hqz q hqm
      have hdr : ps.drop j = q :: ps.drop (j + 1) := by rw [List.drop_eq_getElem_cons hik]; congr 1; exact (List.getElem?_eq_some_iff.1 hq).2
      rw [hdr, List.map_cons, accC, if_neg (by omega)] at hacc
      repeat (first | refine zz ?_ | refine zx fun _ => ?_ | refine runL_q (qt_indexN tok rfl rfl rfl rfl (fun _ => by omega)) rfl rfl rfl ?_ | refine runL_g rfl rfl (qt_indexN tok rfl rfl rfl rfl (fun _ => by omega)) rfl rfl rfl rfl rfl ?_ | refine runL_q (qt_ldM tok rfl hc rfl) rfl rfl rfl ?_ | refine runL_g rfl rfl (qt_ldM tok rfl hc rfl) rfl rfl rfl rfl rfl ?_ | refine runL_q (qt_ldM0 tok rfl hc rfl) rfl rfl rfl ?_ | refine runL_g rfl rfl (qt_ldM0 tok rfl hc rfl) rfl rfl rfl rfl rfl ?_ | refine rq (qt_callF rfl (fun _ => hih q hqm _ _)) ?_ | refine rq (qt_concat rfl rfl (by omega)) ?_)
      exact run_sub' (hnext _ _ _ ⟨hik, rfl, rfl, s ++ swapC fr to k q, hacc, by rw [app_size]; omega, rfl⟩) ⟨lk_succ rfl (by omega), rfl, rfl, rfl, rfl, trivial⟩
    · have hfin : accC hd (ps.map (swapC fr to k)) = s := by
        rw [hacc]
        simp only [Bool.and_eq_false_iff, decide_eq_false_iff_not] at h5
        by_cases hik : j < ps.length
        · rw [List.drop_eq_getElem_cons hik, List.map_cons, accC, if_pos (by omega)]
        · rw [List.drop_eq_nil_of_le (by omega), List.map_nil, accC]
      rw [hfin] at hC
      repeat (first | refine zz ?_ | refine zx fun _ => ?_)
      exact run_ret hC (rs := [.tmp 6]) rfl (resT rfl resN) (fun _ h => h.of_le hM2) ⟨rfl, rfl, rfl⟩
set_option maxHeartbeats 8000000 in
theorem dSwap_ok (M : Mem) (L : HL) (t fr to : ByteArray) (hz : t.size ≤ 20000) (hz2 : fr.size ≤ 20000) (hz3 : to.size ≤ 20000) : TrQ Tryz.prog 86 [.string t, .string fr, .string to] M L (.tuple ⟨[.string (swapE t fr to).1, .int .i64 (swapE t fr to).2]⟩) := by
  have h1 := fun M L => dmay_ok M L t (by omega)
  have h2 := fun M L => dmay_ok M L fr (by omega)
  have h3 := fun M L => dmay_ok M L to (by omega)
  by_cases hall : ((mayB t && mayB fr) && mayB to) = false
  · have hE : swapE t fr to = (⟨#[]⟩, 2) := by unfold swapE; rw [if_pos hall]
    cases hm1 : mayB t with
    | false =>
      rw [hm1] at h1
      refine Tr.intro 30 Tryz.func86 rfl rfl Tryz.call86 rfl ?_
      intro C hC hro
      repeat (first | refine zc ?_ | refine zk ?_ | refine zx fun _ => ?_ | refine rq (qt_callF rfl (fun _ => h1 _ _)) ?_)
      refine run_cond rfl (fun _ => ?_) (fun h => by cases h)
      repeat (first | refine zz ?_ | refine zx fun _ => ?_)
      exact run_ret hC (rs := [.tmp 6, .tmp 7]) rfl (resT rfl (resT rfl resN)) (fun _ h => h) ⟨by rw [hE]; rfl, rfl, rfl⟩
    | true =>
      rw [hm1] at h1
      cases hm2 : mayB fr with
      | false =>
        rw [hm2] at h2
        refine Tr.intro 30 Tryz.func86 rfl rfl Tryz.call86 rfl ?_
        intro C hC hro
        repeat (first | refine zc ?_ | refine zk ?_ | refine zx fun _ => ?_ | refine rq (qt_callF rfl (fun _ => h1 _ _)) ?_ | refine runL_gK rfl rfl (qt_callF rfl (fun _ => h2 _ _)) rfl rfl rfl ?_)
        refine run_cond rfl (fun _ => ?_) (fun h => by cases h)
        repeat (first | refine zz ?_ | refine zx fun _ => ?_)
        exact run_ret hC (rs := [.tmp 6, .tmp 7]) rfl (resT rfl (resT rfl resN)) (fun _ h => h) ⟨by rw [hE]; rfl, rfl, rfl⟩
      | true =>
        rw [hm2] at h2
        cases hm3 : mayB to with
        | false =>
          rw [hm3] at h3
          refine Tr.intro 30 Tryz.func86 rfl rfl Tryz.call86 rfl ?_
          intro C hC hro
          repeat (first | refine zc ?_ | refine zk ?_ | refine zx fun _ => ?_ | refine rq (qt_callF rfl (fun _ => h1 _ _)) ?_ | refine runL_gK rfl rfl (qt_callF rfl (fun _ => h2 _ _)) rfl rfl rfl ?_ | refine runL_gK rfl rfl (qt_callF rfl (fun _ => h3 _ _)) rfl rfl rfl ?_)
          refine run_cond rfl (fun _ => ?_) (fun h => by cases h)
          repeat (first | refine zz ?_ | refine zx fun _ => ?_)
          exact run_ret hC (rs := [.tmp 6, .tmp 7]) rfl (resT rfl (resT rfl resN)) (fun _ h => h) ⟨by rw [hE]; rfl, rfl, rfl⟩
        | true => rw [hm1, hm2, hm3] at hall; cases hall
  · have hm : mayB t = true ∧ mayB fr = true ∧ mayB to = true := by
      cases a : mayB t <;> cases b : mayB fr <;> cases c : mayB to <;> simp_all
    obtain ⟨hm1, hm2, hm3⟩ := hm
    have hT := (mayB_iff (t := t) (by omega)).1 hm1
    have hto := ((mayB_iff (t := to) (by omega)).1 hm3).2
    obtain ⟨q1, q2⟩ := may_swapC (fr := fr) hT hto
    have hsz := (swap_small (fr := fr) hT hto).2
    have hE : swapE t fr to = if mayB (swapC fr to 16 t) = false then (⟨#[]⟩, 5) else (swapC fr to 16 t, 0) := by
      unfold swapE
      rw [if_neg hall, q1]
      split
      · rfl
      · rename_i hne
        rw [q2 (by simpa using hne)]
    rw [hm1] at h1
    rw [hm2] at h2
    rw [hm3] at h3
    refine Tr.intro 30 Tryz.func86 rfl rfl Tryz.call86 rfl ?_
    intro C hC hro
    repeat (first | refine zc ?_ | refine zk ?_ | refine zx fun _ => ?_ | refine rq (qt_callF rfl (fun _ => h1 _ _)) ?_ | refine runL_gK rfl rfl (qt_callF rfl (fun _ => h2 _ _)) rfl rfl rfl ?_ | refine runL_gK rfl rfl (qt_callF rfl (fun _ => h3 _ _)) rfl rfl rfl ?_)
    refine run_cond rfl (fun h => by cases h) (fun _ => ?_)
    repeat (first | refine zz ?_ | refine zx fun _ => ?_ | refine rq (qt_callF rfl (fun _ => dswap_ok fr to hz3 16 (Nat.le_refl _) t hT.1 hz _ _)) ?_ | refine rq (qt_callF rfl (fun _ => dmay_ok _ _ (swapC fr to 16 t) (by omega))) ?_)
    refine run_cond (t := !mayB (swapC fr to 16 t)) rfl (fun h => ?_) (fun h => ?_)
    · have hf : mayB (swapC fr to 16 t) = false := by simpa using h
      rw [if_pos hf] at hE
      repeat (first | refine zz ?_ | refine zx fun _ => ?_)
      exact run_ret hC (rs := [.tmp 6, .tmp 7]) rfl (resT rfl (resT rfl resN)) (fun _ h => h) ⟨by rw [hE]; rfl, rfl, rfl⟩
    · have hf : mayB (swapC fr to 16 t) = true := by simpa using h
      rw [if_neg (by rw [hf]; decide)] at hE
      repeat (first | refine zz ?_ | refine zx fun _ => ?_)
      exact run_ret hC (rs := [.tmp 6, .tmp 7]) rfl (resT rfl (resT rfl resN)) (fun _ h => h) ⟨by rw [hE]; rfl, rfl, rfl⟩
theorem dSame06_ok (M : Mem) (L : HL) (s u : SStr) (hs : StOk M s) (hu : StOk M u) (he : s.xs = u.xs) : TrQ Tryz.prog 15 [s.v, u.v] M L (.bool true) := by
  have hls := hs.len
  have hlu := hu.len
  have h6 := hs.2
  have hs0 := hs.1
  have hu0 := hu.1
  obtain ⟨a, n, c, xs⟩ := s
  obtain ⟨a2, n2, c2, xs2⟩ := u
  simp only [SStr.v, SStr.Ok] at *
  subst he
  obtain rfl : n2 = n := by omega
  refine Tr.intro 26 Tryz.func15 rfl rfl Tryz.call15 rfl ?_
  intro C hC hro
  repeat (first | refine zz ?_ | refine zx fun _ => ?_)
  refine run_cond (t := (n2 : Int) != (n2 : Int)) rfl (fun h => by simp at h) (fun _ => ?_)
  repeat (first | refine zz ?_ | refine zx fun _ => ?_)
  refine run_loopN (fun j σ1 M1 L1 => j ≤ n2 ∧ M = M1 ∧ L = L1 ∧ σ1 = [(5, iv j), (0, .slice a n2 c), (1, .slice a2 n2 c2)]) n2 [(5, iv 0), (0, .slice a n2 c), (1, .slice a2 n2 c2)] ?_ ⟨Nat.zero_le _, rfl, rfl, rfl⟩ (fun j _ _ _ h => h.1) ?_
  · exact ⟨rfl, rfl, rfl, trivial⟩
  rintro j _ _ _ ⟨hj, rfl, rfl, rfl⟩ hnext
  repeat (first | refine zz ?_ | refine zx fun _ => ?_)
  refine run_cond rfl (fun h1 => ?_) (fun h1 => ?_)
  · have hlt : j < n2 := by simpa using h1
    obtain ⟨b, off, t, ha, hm, hc⟩ := SStr.at_ hs0 hlt
    obtain ⟨b2, off2, t2, ha2, hm2, hc2⟩ := SStr.at_ hu0 hlt
    obtain rfl : t = t2 := Option.some.inj (hm.symm.trans hm2)
    subst ha ha2
    repeat (first | refine zz ?_ | refine zx fun _ => ?_ | refine dd ?_ | refine dz ?_ | refine dx fun _ => ?_ | refine prn_q rfl (qt_indexN tok rfl rfl rfl rfl (fun _ => by omega)) (by decide +kernel) rfl rfl rfl ?_ | refine prn_g rfl rfl rfl (qt_indexN tok rfl rfl rfl rfl (fun _ => by omega)) (by decide +kernel) rfl rfl rfl rfl rfl ?_ | refine prn_q rfl (qt_ldM tok rfl hc rfl) (by decide +kernel) rfl rfl rfl ?_ | refine prn_g rfl rfl rfl (qt_ldM tok rfl hc rfl) (by decide +kernel) rfl rfl rfl rfl rfl ?_ | refine prn_q rfl (qt_ldM0 tok rfl hc rfl) (by decide +kernel) rfl rfl rfl ?_ | refine prn_g rfl rfl rfl (qt_ldM0 tok rfl hc rfl) (by decide +kernel) rfl rfl rfl rfl rfl ?_ | refine prn_q rfl (qt_ldM tok rfl hc2 rfl) (by decide +kernel) rfl rfl rfl ?_ | refine prn_g rfl rfl rfl (qt_ldM tok rfl hc2 rfl) (by decide +kernel) rfl rfl rfl rfl rfl ?_ | refine prn_q rfl (qt_ldM0 tok rfl hc2 rfl) (by decide +kernel) rfl rfl rfl ?_ | refine prn_g rfl rfl rfl (qt_ldM0 tok rfl hc2 rfl) (by decide +kernel) rfl rfl rfl rfl rfl ?_)
    refine run_cond (t := false) (by show some (Value.bool _) = _; rw [bytes_beq]; simp) (fun h => by cases h) (fun _ => ?_)
    repeat (first | refine zz ?_ | refine zx fun _ => ?_)
    exact run_sub' (hnext _ _ _ ⟨hlt, rfl, rfl, rfl⟩) ⟨lk_succ rfl (by omega), rfl, rfl, trivial⟩
  · repeat (first | refine zz ?_ | refine zx fun _ => ?_)
    exact run_ret hC (rs := [.tmp 4]) rfl (resT rfl resN) (fun _ h => h) ⟨rfl, rfl, rfl⟩
end Go.Proofs.YtonbigcdoejgcaaGreatDoor
namespace Go.Proofs.YtonbigcdoejgcaaGreatDoor
open Go.Chi
set_option maxRecDepth 10000
theorem setE_one {cs : List Value} {off : Nat} {u v : Value} (h : cs[off]? = some u) : setE cs off [v] = some (cs.set off v) := by
  have hlt := (List.getElem?_eq_some_iff.1 h).1
  rw [setE_of (by simp; omega)]
  congr 1
  rw [setSeg, List.set_eq_take_append_cons_drop, if_pos hlt]
  simp
theorem set_same {cs : List Value} {off : Nat} {u : Value} (h : cs[off]? = some u) : cs.set off u = cs := by
  apply List.ext_getElem?
  intro i
  by_cases e : i = off
  · subst e
    have hlt := (List.getElem?_eq_some_iff.1 h).1
    rw [List.getElem?_set_self hlt, h]
  · rw [List.getElem?_set_ne (Ne.symm e)]
set_option maxHeartbeats 4000000 in
theorem stext_ok (M : Mem) (L L' : HL) (fr to s : ByteArray) (b off et : Nat) (cs : List Value) (hf : fr.size ≤ 20000) (ht : to.size ≤ 20000) (hs : s.size ≤ 20000) (hc : cs[off]? = some (.string s)) (hu : Upd L b (.cells ⟨cs⟩ et (0, 0)) (.cells ⟨cs.set off (.string (turnB fr to s))⟩ et (0, 0)) L') :
    Tr Tryz.prog 30 [.agg ⟨[.string fr, .string to]⟩, .pointer (some ⟨b, off, none⟩)] M L (fun _ M' L1 => M = M' ∧ L1 = L') := by
  have hcell : ∀ b2 : Nat, ∀ o, Cells M ((b2, o) :: L) b off [.string s] := fun b2 o => cells1 (List.mem_cons_of_mem _ hu.mem) hc
  have hsame : turnB fr to s = s → L' = L := fun h => by
    rw [h, set_same hc] at hu
    obtain ⟨A, B, rfl, rfl⟩ := hu
    rfl
  refine Tr.intro 31 Tryz.func30 rfl rfl Tryz.call30 rfl ?_
  intro C hC hro
  repeat (first | refine zz ?_ | refine zx fun _ => ?_)
  rename_i b2
  repeat (first | refine zz ?_ | refine zx fun _ => ?_ | refine dd ?_ | refine dz ?_ | refine dx fun _ => ?_ | refine pq rfl (qt_ldC (k := 0) tok rfl (hcell _ _) rfl) ?_ | refine pq rfl (qt_callF rfl (fun _ => swap_ok _ _ s fr to hs hf ht)) ?_)
  refine run_cond (t := (swapE s fr to).2 == 0 && !(fr.toList == to.toList && (to.toList == fr.toList && true))) rfl (fun h => ?_) (fun h => ?_)
  · have h0 : (swapE s fr to).2 = 0 := by simp only [Bool.and_eq_true, beq_iff_eq] at h; exact h.1
    have ht : turnB fr to s = (swapE s fr to).1 := by unfold turnB; rw [if_pos h0]
    rw [ht] at hu
    refine run_region ?_
    refine wq ?_
    refine wq ?_
    refine wq ?_
    refine ws ?_ rfl rfl rfl rfl rfl (Upd.there _ hu) (setE_one hc)
    refine runL_nil ?_
    exact run_end hC rfl (vs := []) trivial (fun _ h => h.drop) ⟨rfl, rfl⟩
  · have hs : turnB fr to s = s := by
      rw [bytes_beq, bytes_beq] at h
      simp only [Bool.and_true, Bool.and_eq_false_iff, beq_eq_false_iff_ne, ne_eq, Bool.not_eq_false', Bool.and_eq_true, decide_eq_true_eq] at h
      rcases h with h | h
      · unfold turnB; rw [if_neg h]
      · rw [h.1]; exact turn_self (by omega)
    rw [hsame hs] at hC
    refine run_skip ?_
    exact run_end hC rfl (vs := []) trivial (fun _ h => h.drop) ⟨rfl, rfl⟩
theorem of_ok (M : Mem) (L : HL) (fr to : ByteArray) (hf : fr.size ≤ 20000) (ht : to.size ≤ 20000) : TrQ Tryz.prog 66 [.string fr, .string to] M L (if (mayB fr && mayB to) = true then .tuple ⟨[.agg ⟨[.string fr, .string to]⟩, .int .i64 0]⟩ else .tuple ⟨[.agg ⟨[.string ⟨#[]⟩, .string ⟨#[]⟩]⟩, .int .i64 2]⟩) := by
  have hb : ∀ x : ByteArray, (checkR x != 0) = !mayB x := fun x => by unfold mayB; rw [Bool.eq_iff_iff]; simp
  refine Tr.intro 18 Tryz.func66 rfl rfl Tryz.call66 rfl ?_
  intro C hC hro
  repeat (first | refine zz ?_ | refine zx fun _ => ?_ | refine rq (qt_callF rfl (fun _ => check_ok _ _ fr (by omega))) ?_ | refine rg rfl rfl (qt_callF rfl (fun _ => check_ok _ _ to (by omega))) ?_)
  refine run_cond (t := checkR fr != 0 || checkR to != 0) rfl (fun h => ?_) (fun h => ?_)
  · rw [hb, hb] at h
    rw [if_neg (by cases a : mayB fr <;> cases b : mayB to <;> simp_all)] at hC
    repeat (first | refine zz ?_ | refine zx fun _ => ?_)
    exact run_ret hC (rs := [.cell 4 80, .tmp 5]) rfl (rl tok rfl (resT rfl resN)) (fun _ h => h.drop) ⟨rfl, rfl, rfl⟩
  · rw [hb, hb] at h
    rw [if_pos (by cases a : mayB fr <;> cases b : mayB to <;> simp_all)] at hC
    repeat (first | refine zz ?_ | refine zx fun _ => ?_)
    exact run_ret hC (rs := [.cell 4 80, .tmp 5]) rfl (rl tok rfl (resT rfl resN)) (fun _ h => h.drop) ⟨rfl, rfl, rfl⟩
end Go.Proofs.YtonbigcdoejgcaaGreatDoor
namespace Go.Proofs.YtonbigcdoejgcaaGreatDoor
open Go.Chi
set_option maxRecDepth 10000
theorem flatU {ls : List (List Value)} (h : ∀ c ∈ ls, ∀ u ∈ c, u.oneCell' = true) : ∀ u ∈ ls.flatten, u.oneCell' = true := fun u hu => by
  obtain ⟨c, hc, hu⟩ := List.mem_flatten.1 hu
  exact h c hc u hu
theorem sl_nil {M : Mem} {w n : Nat} {ls : List (List Value)} (h : SlM M w none n ls) : ls = [] ∧ n = 0 := by
  obtain ⟨h1, _, h3⟩ := h
  rcases h3 with h3 | ⟨b, off, e, _⟩
  · exact ⟨h3, by rw [← h1, h3]; rfl⟩
  · cases e
theorem cloneString_ok (M : Mem) (L : HL) (a : Option Addr) (n c : Nat) (ls : List (List Value)) (hs : SlM M 1 a n ls) (hn : n < 1000000) (h1 : ∀ c ∈ ls, ∀ u ∈ c, u.oneCell' = true) :
    Tr Tryz.prog 67 [.slice a n c] M L (fun v M' L' => M = M' ∧ ∃ N, L' = N ++ L ∧ OS 9 1 v n ls.flatten N) := by
  refine Tr.intro 8 Tryz.func67 rfl rfl Tryz.call67 rfl ?_
  intro C hC hro
  cases a with
  | none =>
    obtain ⟨rfl, rfl⟩ := sl_nil hs
    repeat (first | refine zz ?_ | refine zx fun _ => ?_)
    refine run_cond rfl (fun _ => ?_) (fun h => by cases h)
    repeat (first | refine zz ?_ | refine zx fun _ => ?_)
    exact run_ret hC (rs := [.tmp 2]) rfl (resT rfl resN) (fun _ h => h) ⟨rfl, [], rfl, OS.nil _ _⟩
  | some a =>
    repeat (first | refine zz ?_ | refine zx fun _ => ?_)
    refine run_cond rfl (fun h => by cases h) (fun _ => ?_)
    repeat (first | refine zz ?_ | refine zx fun _ => ?_)
    rename_i bs
    refine runL_op (st_appendG (xs := []) (n := 0) (news := ls.flatten) (m := n) tok rfl rfl rfl rfl rfl rfl rfl rfl (L0 := L) (N := [(bs, .cells ⟨[]⟩ 9 (0, 0))]) (List.Perm.refl _) (.inr ⟨bs, 0, [], rfl, rfl, Nat.le_refl _, rfl, rfl⟩) (SrcG.ofSlM hs) (flatU h1) (by omega) (by omega)) rfl rfl rfl ?_
    rintro v _ _ ⟨N', rfl, rfl, hO⟩
    repeat (first | refine zz ?_ | refine zx fun _ => ?_)
    exact run_ret hC (rs := [.tmp 2]) rfl (resT rfl resN) (fun _ h => h) ⟨rfl, N', rfl, by simp only [Nat.zero_add, List.nil_append] at hO; exact hO⟩
theorem cloneMember_ok (M : Mem) (L : HL) (a : Option Addr) (n c : Nat) (ls : List (List Value)) (hs : SlM M 2 a n ls) (hn : n < 1000000) (h1 : ∀ c ∈ ls, ∀ u ∈ c, u.oneCell' = true) :
    Tr Tryz.prog 71 [.slice a n c] M L (fun v M' L' => M = M' ∧ ∃ N, L' = N ++ L ∧ OS 124 2 v n ls.flatten N) := by
  refine Tr.intro 8 Tryz.func71 rfl rfl Tryz.call71 rfl ?_
  intro C hC hro
  cases a with
  | none =>
    obtain ⟨rfl, rfl⟩ := sl_nil hs
    repeat (first | refine zz ?_ | refine zx fun _ => ?_)
    refine run_cond rfl (fun _ => ?_) (fun h => by cases h)
    repeat (first | refine zz ?_ | refine zx fun _ => ?_)
    exact run_ret hC (rs := [.tmp 2]) rfl (resT rfl resN) (fun _ h => h) ⟨rfl, [], rfl, OS.nil _ _⟩
  | some a =>
    repeat (first | refine zz ?_ | refine zx fun _ => ?_)
    refine run_cond rfl (fun h => by cases h) (fun _ => ?_)
    repeat (first | refine zz ?_ | refine zx fun _ => ?_)
    rename_i bs
    refine runL_op (st_appendG (xs := []) (n := 0) (news := ls.flatten) (m := n) tok rfl rfl rfl rfl rfl rfl rfl rfl (L0 := L) (N := [(bs, .cells ⟨[]⟩ 124 (0, 0))]) (List.Perm.refl _) (.inr ⟨bs, 0, [], rfl, rfl, Nat.le_refl _, rfl, rfl⟩) (SrcG.ofSlM hs) (flatU h1) (by omega) (by omega)) rfl rfl rfl ?_
    rintro v _ _ ⟨N', rfl, rfl, hO⟩
    repeat (first | refine zz ?_ | refine zx fun _ => ?_)
    exact run_ret hC (rs := [.tmp 2]) rfl (resT rfl resN) (fun _ h => h) ⟨rfl, N', rfl, by simp only [Nat.zero_add, List.nil_append] at hO; exact hO⟩
theorem cloneGive_ok (M : Mem) (L : HL) (a : Option Addr) (n c : Nat) (ls : List (List Value)) (hs : SlM M 2 a n ls) (hn : n < 1000000) (h1 : ∀ c ∈ ls, ∀ u ∈ c, u.oneCell' = true) :
    Tr Tryz.prog 33 [.slice a n c] M L (fun v M' L' => M = M' ∧ ∃ N, L' = N ++ L ∧ OS 71 2 v n ls.flatten N) := by
  refine Tr.intro 8 Tryz.func33 rfl rfl Tryz.call33 rfl ?_
  intro C hC hro
  cases a with
  | none =>
    obtain ⟨rfl, rfl⟩ := sl_nil hs
    repeat (first | refine zz ?_ | refine zx fun _ => ?_)
    refine run_cond rfl (fun _ => ?_) (fun h => by cases h)
    repeat (first | refine zz ?_ | refine zx fun _ => ?_)
    exact run_ret hC (rs := [.tmp 2]) rfl (resT rfl resN) (fun _ h => h) ⟨rfl, [], rfl, OS.nil _ _⟩
  | some a =>
    repeat (first | refine zz ?_ | refine zx fun _ => ?_)
    refine run_cond rfl (fun h => by cases h) (fun _ => ?_)
    repeat (first | refine zz ?_ | refine zx fun _ => ?_)
    rename_i bs
    refine runL_op (st_appendG (xs := []) (n := 0) (news := ls.flatten) (m := n) tok rfl rfl rfl rfl rfl rfl rfl rfl (L0 := L) (N := [(bs, .cells ⟨[]⟩ 71 (0, 0))]) (List.Perm.refl _) (.inr ⟨bs, 0, [], rfl, rfl, Nat.le_refl _, rfl, rfl⟩) (SrcG.ofSlM hs) (flatU h1) (by omega) (by omega)) rfl rfl rfl ?_
    rintro v _ _ ⟨N', rfl, rfl, hO⟩
    repeat (first | refine zz ?_ | refine zx fun _ => ?_)
    exact run_ret hC (rs := [.tmp 2]) rfl (resT rfl resN) (fun _ h => h) ⟨rfl, N', rfl, by simp only [Nat.zero_add, List.nil_append] at hO; exact hO⟩
theorem cloneStep_ok (M : Mem) (L : HL) (a : Option Addr) (n c : Nat) (ls : List (List Value)) (hs : SlM M 7 a n ls) (hn : n < 1000000) (h1 : ∀ c ∈ ls, ∀ u ∈ c, u.oneCell' = true) :
    Tr Tryz.prog 34 [.slice a n c] M L (fun v M' L' => M = M' ∧ ∃ N, L' = N ++ L ∧ OS 87 7 v n ls.flatten N) := by
  refine Tr.intro 8 Tryz.func34 rfl rfl Tryz.call34 rfl ?_
  intro C hC hro
  cases a with
  | none =>
    obtain ⟨rfl, rfl⟩ := sl_nil hs
    repeat (first | refine zz ?_ | refine zx fun _ => ?_)
    refine run_cond rfl (fun _ => ?_) (fun h => by cases h)
    repeat (first | refine zz ?_ | refine zx fun _ => ?_)
    exact run_ret hC (rs := [.tmp 2]) rfl (resT rfl resN) (fun _ h => h) ⟨rfl, [], rfl, OS.nil _ _⟩
  | some a =>
    repeat (first | refine zz ?_ | refine zx fun _ => ?_)
    refine run_cond rfl (fun h => by cases h) (fun _ => ?_)
    repeat (first | refine zz ?_ | refine zx fun _ => ?_)
    rename_i bs
    refine runL_op (st_appendG (xs := []) (n := 0) (news := ls.flatten) (m := n) tok rfl rfl rfl rfl rfl rfl rfl rfl (L0 := L) (N := [(bs, .cells ⟨[]⟩ 87 (0, 0))]) (List.Perm.refl _) (.inr ⟨bs, 0, [], rfl, rfl, Nat.le_refl _, rfl, rfl⟩) (SrcG.ofSlM hs) (flatU h1) (by omega) (by omega)) rfl rfl rfl ?_
    rintro v _ _ ⟨N', rfl, rfl, hO⟩
    repeat (first | refine zz ?_ | refine zx fun _ => ?_)
    exact run_ret hC (rs := [.tmp 2]) rfl (resT rfl resN) (fun _ h => h) ⟨rfl, N', rfl, by simp only [Nat.zero_add, List.nil_append] at hO; exact hO⟩
theorem cloneAct_ok (M : Mem) (L : HL) (a : Option Addr) (n c : Nat) (ls : List (List Value)) (hs : SlM M 10 a n ls) (hn : n < 1000000) (h1 : ∀ c ∈ ls, ∀ u ∈ c, u.oneCell' = true) :
    Tr Tryz.prog 69 [.slice a n c] M L (fun v M' L' => M = M' ∧ ∃ N, L' = N ++ L ∧ OS 75 10 v n ls.flatten N) := by
  refine Tr.intro 8 Tryz.func69 rfl rfl Tryz.call69 rfl ?_
  intro C hC hro
  cases a with
  | none =>
    obtain ⟨rfl, rfl⟩ := sl_nil hs
    repeat (first | refine zz ?_ | refine zx fun _ => ?_)
    refine run_cond rfl (fun _ => ?_) (fun h => by cases h)
    repeat (first | refine zz ?_ | refine zx fun _ => ?_)
    exact run_ret hC (rs := [.tmp 2]) rfl (resT rfl resN) (fun _ h => h) ⟨rfl, [], rfl, OS.nil _ _⟩
  | some a =>
    repeat (first | refine zz ?_ | refine zx fun _ => ?_)
    refine run_cond rfl (fun h => by cases h) (fun _ => ?_)
    repeat (first | refine zz ?_ | refine zx fun _ => ?_)
    rename_i bs
    refine runL_op (st_appendG (xs := []) (n := 0) (news := ls.flatten) (m := n) tok rfl rfl rfl rfl rfl rfl rfl rfl (L0 := L) (N := [(bs, .cells ⟨[]⟩ 75 (0, 0))]) (List.Perm.refl _) (.inr ⟨bs, 0, [], rfl, rfl, Nat.le_refl _, rfl, rfl⟩) (SrcG.ofSlM hs) (flatU h1) (by omega) (by omega)) rfl rfl rfl ?_
    rintro v _ _ ⟨N', rfl, rfl, hO⟩
    repeat (first | refine zz ?_ | refine zx fun _ => ?_)
    exact run_ret hC (rs := [.tmp 2]) rfl (resT rfl resN) (fun _ h => h) ⟨rfl, N', rfl, by simp only [Nat.zero_add, List.nil_append] at hO; exact hO⟩
theorem cloneEvent_ok (M : Mem) (L : HL) (a : Option Addr) (n c : Nat) (ls : List (List Value)) (hs : SlM M 22 a n ls) (hn : n < 1000000) (h1 : ∀ c ∈ ls, ∀ u ∈ c, u.oneCell' = true) :
    Tr Tryz.prog 70 [.slice a n c] M L (fun v M' L' => M = M' ∧ ∃ N, L' = N ++ L ∧ OS 64 22 v n ls.flatten N) := by
  refine Tr.intro 8 Tryz.func70 rfl rfl Tryz.call70 rfl ?_
  intro C hC hro
  cases a with
  | none =>
    obtain ⟨rfl, rfl⟩ := sl_nil hs
    repeat (first | refine zz ?_ | refine zx fun _ => ?_)
    refine run_cond rfl (fun _ => ?_) (fun h => by cases h)
    repeat (first | refine zz ?_ | refine zx fun _ => ?_)
    exact run_ret hC (rs := [.tmp 2]) rfl (resT rfl resN) (fun _ h => h) ⟨rfl, [], rfl, OS.nil _ _⟩
  | some a =>
    repeat (first | refine zz ?_ | refine zx fun _ => ?_)
    refine run_cond rfl (fun h => by cases h) (fun _ => ?_)
    repeat (first | refine zz ?_ | refine zx fun _ => ?_)
    rename_i bs
    refine runL_op (st_appendG (xs := []) (n := 0) (news := ls.flatten) (m := n) tok rfl rfl rfl rfl rfl rfl rfl rfl (L0 := L) (N := [(bs, .cells ⟨[]⟩ 64 (0, 0))]) (List.Perm.refl _) (.inr ⟨bs, 0, [], rfl, rfl, Nat.le_refl _, rfl, rfl⟩) (SrcG.ofSlM hs) (flatU h1) (by omega) (by omega)) rfl rfl rfl ?_
    rintro v _ _ ⟨N', rfl, rfl, hO⟩
    repeat (first | refine zz ?_ | refine zx fun _ => ?_)
    exact run_ret hC (rs := [.tmp 2]) rfl (resT rfl resN) (fun _ h => h) ⟨rfl, N', rfl, by simp only [Nat.zero_add, List.nil_append] at hO; exact hO⟩
theorem clonePost_ok (M : Mem) (L : HL) (a : Option Addr) (n c : Nat) (ls : List (List Value)) (hs : SlM M 3 a n ls) (hn : n < 1000000) (h1 : ∀ c ∈ ls, ∀ u ∈ c, u.oneCell' = true) :
    Tr Tryz.prog 72 [.slice a n c] M L (fun v M' L' => M = M' ∧ ∃ N, L' = N ++ L ∧ OS 55 3 v n ls.flatten N) := by
  refine Tr.intro 8 Tryz.func72 rfl rfl Tryz.call72 rfl ?_
  intro C hC hro
  cases a with
  | none =>
    obtain ⟨rfl, rfl⟩ := sl_nil hs
    repeat (first | refine zz ?_ | refine zx fun _ => ?_)
    refine run_cond rfl (fun _ => ?_) (fun h => by cases h)
    repeat (first | refine zz ?_ | refine zx fun _ => ?_)
    exact run_ret hC (rs := [.tmp 2]) rfl (resT rfl resN) (fun _ h => h) ⟨rfl, [], rfl, OS.nil _ _⟩
  | some a =>
    repeat (first | refine zz ?_ | refine zx fun _ => ?_)
    refine run_cond rfl (fun h => by cases h) (fun _ => ?_)
    repeat (first | refine zz ?_ | refine zx fun _ => ?_)
    rename_i bs
    refine runL_op (st_appendG (xs := []) (n := 0) (news := ls.flatten) (m := n) tok rfl rfl rfl rfl rfl rfl rfl rfl (L0 := L) (N := [(bs, .cells ⟨[]⟩ 55 (0, 0))]) (List.Perm.refl _) (.inr ⟨bs, 0, [], rfl, rfl, Nat.le_refl _, rfl, rfl⟩) (SrcG.ofSlM hs) (flatU h1) (by omega) (by omega)) rfl rfl rfl ?_
    rintro v _ _ ⟨N', rfl, rfl, hO⟩
    repeat (first | refine zz ?_ | refine zx fun _ => ?_)
    exact run_ret hC (rs := [.tmp 2]) rfl (resT rfl resN) (fun _ h => h) ⟨rfl, N', rfl, by simp only [Nat.zero_add, List.nil_append] at hO; exact hO⟩
end Go.Proofs.YtonbigcdoejgcaaGreatDoor
