import Derived.Test.YtkjljcgbnikmkaaGreatDoorBKB
import Derived.Test.YtkjljcgbnikmkaaGreatDoorBKA
import Derived.DeepKeys
import Derived.Laws.StructEq
import Derived.Laws.IdiomCopy
namespace Go.Proofs.YtkjljcgbnikmkaaGreatDoor
open Go.Chi
set_option maxRecDepth 10000

/-! ### the document's names -/
def nameB (c : Int) : Bool := (((decide (c ≥ 97) && decide (c ≤ 122)) || (decide (c ≥ 48) && decide (c ≤ 57))) || c == 47 || c == 46) || c == 45
def nameR (s : ByteArray) : Bool := ((List.range s.size).all fun i => nameB (byte s i)) && decide (s.size ≠ 0)
set_option maxRecDepth 10000 in
set_option maxHeartbeats 4000000 in
theorem name_ok (M : Mem) (L : HL) (s : ByteArray) (hs : s.size < 4611686018427387904) : TrQ Tryz.prog 145 [.string s] M L (.bool (nameR s)) := by
  refine Tr.intro 43 Tryz.func145 rfl rfl Tryz.call145 rfl ?_
  intro C hC hro
  repeat (first | with_reducible (first | refine zS ?_ | refine zR ?_ | refine zN ?_ | refine zK ?_ | refine zB ?_ | refine zI ?_) | refine zE rfl ?_ | refine wq ?_ | refine wg ?_ | refine ws ?_ | refine wb fun _ => ?_ | refine wa fun _ => ?_ | refine wl fun _ => ?_)
  refine run_loopN (fun i σ1 M1 L1 => i ≤ s.size ∧ ((List.range i).all fun i => nameB (byte s i)) = true ∧ σ1 = [(3, .int .i64 (i : Int)), (0, .string s)] ∧ M = M1 ∧ L = L1) s.size [(3, .int .i64 ((0 : Nat) : Int)), (0, .string s)] ?_ ⟨Nat.zero_le _, rfl, rfl, rfl, rfl⟩ (fun j _ _ _ h => h.1) ?_
  · exact ⟨rfl, rfl, trivial⟩
  rintro i _ _ _ ⟨hi, hall, rfl, rfl, rfl⟩ hnext
  repeat (first | with_reducible (first | refine zS ?_ | refine zR ?_ | refine zN ?_ | refine zK ?_ | refine zB ?_ | refine zI ?_) | refine zE rfl ?_ | refine wq ?_ | refine wg ?_ | refine ws ?_ | refine wb fun _ => ?_ | refine wa fun _ => ?_ | refine wl fun _ => ?_)
  refine run_cond rfl (fun h => ?_) (fun h => ?_)
  · have hlt : i < s.size := by simpa using h
    obtain ⟨b, hb, hb'⟩ := byte_at hlt
    repeat (first | with_reducible (first | refine zS ?_ | refine zR ?_ | refine zN ?_ | refine zK ?_ | refine zB ?_ | refine zI ?_) | refine zE rfl ?_ | refine wq ?_ | refine wg ?_ | refine ws ?_ | refine wb fun _ => ?_ | refine wa fun _ => ?_ | refine wl fun _ => ?_ | refine runL_q (qt_strIndex tok rfl rfl rfl (fun _ => hb)) rfl rfl rfl ?_)
    refine run_cond rfl (fun h2 => ?_) (fun h2 => ?_)
    · have h3 : nameB (byte s i) = false := by
        rw [hb']
        have h2' : (!nameB (b.toNat : Int)) = true := h2
        simpa using h2'
      repeat (first | with_reducible (first | refine zS ?_ | refine zR ?_ | refine zN ?_ | refine zK ?_ | refine zB ?_ | refine zI ?_) | refine zE rfl ?_ | refine wq ?_ | refine wg ?_ | refine ws ?_ | refine wb fun _ => ?_ | refine wa fun _ => ?_ | refine wl fun _ => ?_)
      refine run_ret hC (rs := [.tmp 2]) rfl (resT rfl resN) (fun _ h => h) ⟨?_, rfl, rfl⟩
      have : ((List.range s.size).all fun i => nameB (byte s i)) = false := by
        rw [List.all_eq_false]
        exact ⟨i, List.mem_range.2 hlt, by simp [h3]⟩
      rw [nameR, this]; rfl
    · have h3 : nameB (byte s i) = true := by
        rw [hb']
        have h2' : (!nameB (b.toNat : Int)) = false := h2
        simpa using h2'
      repeat (first | with_reducible (first | refine zS ?_ | refine zR ?_ | refine zN ?_ | refine zK ?_ | refine zB ?_ | refine zI ?_) | refine zE rfl ?_ | refine wq ?_ | refine wg ?_ | refine ws ?_ | refine wb fun _ => ?_ | refine wa fun _ => ?_ | refine wl fun _ => ?_)
      exact run_sub' (hnext _ _ _ ⟨hlt, by rw [List.range_succ, List.all_append, hall]; simp [h3], rfl, rfl, rfl⟩) ⟨lk_succ rfl (by omega), rfl, trivial⟩
  · have hge : i = s.size := by simp at h; omega
    subst hge
    repeat (first | with_reducible (first | refine zS ?_ | refine zR ?_ | refine zN ?_ | refine zK ?_ | refine zB ?_ | refine zI ?_) | refine zE rfl ?_ | refine wq ?_ | refine wg ?_ | refine ws ?_ | refine wb fun _ => ?_ | refine wa fun _ => ?_ | refine wl fun _ => ?_)
    refine run_ret hC (rs := [.tmp 2]) rfl (resT rfl resN) (fun _ h => h) ⟨?_, rfl, rfl⟩
    rw [nameR, hall, empty_beq]
    by_cases h0 : s.size = 0
    · simp [h0]; rfl
    · simp [h0]; rfl
theorem abc_all : ∀ n : Fin 256, nameB ((n.val : Nat) : Int) = true → n.val < 128 ∧ inAbc ((n.val : Nat) : Int) = true := by decide +kernel
theorem nameB_imp {b : UInt8} (h : nameB (b.toNat : Int) = true) : b.toNat < 128 ∧ inAbc (b.toNat : Int) = true := abc_all ⟨b.toNat, b.toNat_lt⟩ h
theorem nameAt {s : ByteArray} (h : ((List.range s.size).all fun i => nameB (byte s i)) = true) : ∀ f p, namedAt s f p = true
  | 0, _ => rfl
  | f + 1, p => by
    rw [namedAt]
    split
    · rename_i hp
      have hb := List.all_eq_true.1 h p (List.mem_range.2 hp)
      have hx : byte s p = ((s[p]'hp).toNat : Int) := by rw [byte, getElem?_pos s p hp]; rfl
      rw [hx] at hb
      obtain ⟨h1, h2⟩ := nameB_imp hb
      rw [decode_ascii s p hp h1, h2]
      exact nameAt h f _
    · rfl
theorem nameR_imp {s : ByteArray} (h : nameR s = true) : namedR s = true := by
  rw [nameR, Bool.and_eq_true] at h
  rw [namedR, nameAt h.1, h.2]; rfl

/-! ### the document's terms -/
def headR (s : ByteArray) : Int × Int × Int :=
  if s.size = 0 then (0, 0, 6) else
  if byte s 0 = 100 then (IntKind.i64.wrap (1 + (refText (rest1 s) 1024).2.1), 0, (refText (rest1 s) 1024).2.2) else
  if byte s 0 = 97 then (if (refText (rest1 s) 32).2.2 = 0 ∧ nameR (refText (rest1 s) 32).1 = false then (0, 0, 7) else (IntKind.i64.wrap (1 + (refText (rest1 s) 32).2.1), 0, (refText (rest1 s) 32).2.2)) else
  if byte s 0 = 114 then (if (refNum (rest1 s)).2.2 = 0 ∧ 32 < (refNum (rest1 s)).1 then (0, 0, 5) else (IntKind.i64.wrap (1 + (refNum (rest1 s)).2.1), IntKind.i64.wrap (refNum (rest1 s)).1, (refNum (rest1 s)).2.2)) else
  if byte s 0 = 104 then (1, 1, 0) else
  if byte s 0 = 109 then (1, 2, 0) else
  if byte s 0 = 115 then (1, 3, 0) else (0, 0, 7)
theorem headR_imp {s : ByteArray} (hs : s.size < 4611686018427387904) (h : (headR s).2.2 = 0) : ∃ n p : Nat, headR s = ((n : Int), (p : Int), 0) ∧ frontR s = .ok (n, p) := by
  have hr := rest1_size (s := s)
  unfold headR at h ⊢
  unfold frontR
  split at h
  · cases h
  rename_i h0
  rw [if_neg h0, if_neg h0]
  split at h
  · rename_i h1
    rw [if_pos h1, if_pos h1]
    have hi := refText_imp h
    obtain ⟨m, hm, _, _⟩ := textR_len (rest1 s) 1024 (by rw [hi]; exact h)
    rw [hi] at hm ⊢
    rw [h, hm, one_wrap (by omega)]
    exact ⟨1 + m, 0, rfl, by simp; omega⟩
  rename_i h1
  rw [if_neg h1, if_neg h1]
  split at h
  · rename_i h2
    rw [if_pos h2, if_pos h2]
    split at h
    · cases h
    rename_i h3
    have hi := refText_imp h
    obtain ⟨m, hm, _, _⟩ := textR_len (rest1 s) 32 (by rw [hi]; exact h)
    have h4 : nameR (refText (rest1 s) 32).1 = true := by
      cases e : nameR (refText (rest1 s) 32).1 with
      | true => rfl
      | false => exact absurd ⟨h, e⟩ h3
    have h5 := nameR_imp h4
    rw [if_neg h3]
    rw [hi] at hm ⊢
    rw [h5, h, hm, one_wrap (by omega)]
    exact ⟨1 + m, 0, rfl, by simp; omega⟩
  rename_i h2
  rw [if_neg h2, if_neg h2]
  split at h
  · rename_i h3
    rw [if_pos h3, if_pos h3]
    split at h
    · cases h
    rename_i h4
    have hi := refNum_imp h
    obtain ⟨m, hm, _, _⟩ := numR_len (rest1 s) (by rw [hi]; exact h)
    have hv0 := numR_pos (rest1 s)
    rw [if_neg h4]
    rw [hi] at hm hv0 ⊢
    have h5 : ¬ 32 < (refNum (rest1 s)).1 := fun h5 => h4 ⟨h, h5⟩
    obtain ⟨v, hv⟩ : ∃ v : Nat, (refNum (rest1 s)).1 = v := ⟨(refNum (rest1 s)).1.toNat, by omega⟩
    rw [h, hm, hv, one_wrap (by omega), wrap64_nat (by omega)]
    rw [hv] at h5
    exact ⟨1 + m, v, rfl, by simp [h5]; omega⟩
  rename_i h3
  rw [if_neg h3, if_neg h3]
  split at h
  · rename_i h4; rw [if_pos h4, if_pos h4]; exact ⟨1, 1, rfl, rfl⟩
  rename_i h4
  rw [if_neg h4, if_neg h4]
  split at h
  · rename_i h5; rw [if_pos h5, if_pos h5]; exact ⟨1, 2, rfl, rfl⟩
  rename_i h5
  rw [if_neg h5, if_neg h5]
  split at h
  · rename_i h6; rw [if_pos h6, if_pos h6]; exact ⟨1, 3, rfl, rfl⟩
  · cases h
theorem refText_size (s : ByteArray) (most : Nat) : (refText s most).1.size ≤ s.size := by
  unfold refText
  repeat' split
  all_goals first | exact Nat.zero_le _ | (simp; omega)
set_option maxRecDepth 10000 in
set_option maxHeartbeats 8000000 in
theorem head_ok (M : Mem) (L : HL) (s : ByteArray) (hs : s.size < 4611686018427387904) : TrQ Tryz.prog 143 [.string s] M L (.tuple ⟨[.int .i64 (headR s).1, .int .i64 (headR s).2.1, .int .i64 (headR s).2.2]⟩) := by
  refine Tr.intro 76 Tryz.func143 rfl rfl Tryz.call143 rfl ?_
  intro C hC hro
  repeat (first | with_reducible (first | refine zS ?_ | refine zR ?_ | refine zN ?_ | refine zK ?_ | refine zB ?_ | refine zI ?_) | refine zE rfl ?_ | refine wq ?_ | refine wg ?_ | refine ws ?_ | refine wb fun _ => ?_ | refine wa fun _ => ?_ | refine wl fun _ => ?_)
  refine run_cond rfl (fun h => ?_) (fun h => ?_)
  · repeat (first | with_reducible (first | refine zS ?_ | refine zR ?_ | refine zN ?_ | refine zK ?_ | refine zB ?_ | refine zI ?_) | refine zE rfl ?_ | refine wq ?_ | refine wg ?_ | refine ws ?_ | refine wb fun _ => ?_ | refine wa fun _ => ?_ | refine wl fun _ => ?_)
    have h0 : s.size = 0 := by have := eq_of_beq h; omega
    exact run_ret hC (rs := [.tmp 2, .tmp 3, .tmp 4]) rfl (resT rfl (resT rfl (resT rfl resN))) (fun _ h => h) ⟨by rw [headR, if_pos h0]; rfl, rfl, rfl⟩
  have h : ¬ s.size = 0 := by intro e; rw [e] at h; cases h
  have hp : 0 < s.size := by omega
  obtain ⟨b0, hb0, hb0'⟩ := byte_at hp
  have hr : (rest1 s).size < 4611686018427387904 := by rw [rest1_size]; omega
  repeat (first | with_reducible (first | refine zS ?_ | refine zR ?_ | refine zN ?_ | refine zK ?_ | refine zB ?_ | refine zI ?_) | refine zE rfl ?_ | refine wq ?_ | refine wg ?_ | refine ws ?_ | refine wb fun _ => ?_ | refine wa fun _ => ?_ | refine wl fun _ => ?_ | refine runL_q (qt_strIndex (n := 0) tok rfl rfl rfl (fun _ => hb0)) rfl rfl rfl ?_)
  refine run_cond rfl (fun h1 => ?_) (fun h1 => ?_)
  · have hb1 : byte s 0 = 100 := byte_eq hb0' h1
    repeat (first | with_reducible (first | refine zS ?_ | refine zR ?_ | refine zN ?_ | refine zK ?_ | refine zB ?_ | refine zI ?_) | refine zE rfl ?_ | refine wq ?_ | refine wg ?_ | refine ws ?_ | refine wb fun _ => ?_ | refine wa fun _ => ?_ | refine wl fun _ => ?_ | refine runL_q (qt_strLo (n := 1) tok rfl rfl rfl (fun _ => hp)) rfl rfl rfl ?_ | refine runL_q (qt_callF rfl (fun _ => refText_ok _ _ (rest1 s) 1024 hr (by decide))) rfl rfl rfl ?_)
    exact run_ret hC (rs := [.tmp 2, .tmp 3, .tmp 4]) rfl (resT rfl (resT rfl (resT rfl resN))) (fun _ h => h) ⟨by rw [headR, if_neg h, if_pos hb1]; rfl, rfl, rfl⟩
  have hb1 : byte s 0 ≠ 100 := byte_eq hb0' h1
  repeat (first | with_reducible (first | refine zS ?_ | refine zR ?_ | refine zN ?_ | refine zK ?_ | refine zB ?_ | refine zI ?_) | refine zE rfl ?_ | refine wq ?_ | refine wg ?_ | refine ws ?_ | refine wb fun _ => ?_ | refine wa fun _ => ?_ | refine wl fun _ => ?_)
  refine run_cond rfl (fun h1 => ?_) (fun h1 => ?_)
  · have hb2 : byte s 0 = 97 := byte_eq hb0' h1
    have hts := refText_size (rest1 s) 32
    repeat (first | with_reducible (first | refine zS ?_ | refine zR ?_ | refine zN ?_ | refine zK ?_ | refine zB ?_ | refine zI ?_) | refine zE rfl ?_ | refine wq ?_ | refine wg ?_ | refine ws ?_ | refine wb fun _ => ?_ | refine wa fun _ => ?_ | refine wl fun _ => ?_ | refine runL_q (qt_strLo (n := 1) tok rfl rfl rfl (fun _ => hp)) rfl rfl rfl ?_ | refine runL_q (qt_callF rfl (fun _ => refText_ok _ _ (rest1 s) 32 hr (by decide))) rfl rfl rfl ?_ | refine runL_g rfl rfl (qt_callF rfl (fun _ => name_ok _ _ _ (by omega))) rfl rfl rfl rfl rfl ?_)
    refine run_cond rfl (fun h3 => ?_) (fun h3 => ?_)
    · have h4 : (refText (rest1 s) 32).2.2 = 0 ∧ nameR (refText (rest1 s) 32).1 = false := by simpa using h3
      repeat (first | with_reducible (first | refine zS ?_ | refine zR ?_ | refine zN ?_ | refine zK ?_ | refine zB ?_ | refine zI ?_) | refine zE rfl ?_ | refine wq ?_ | refine wg ?_ | refine ws ?_ | refine wb fun _ => ?_ | refine wa fun _ => ?_ | refine wl fun _ => ?_)
      exact run_ret hC (rs := [.tmp 2, .tmp 3, .tmp 4]) rfl (resT rfl (resT rfl (resT rfl resN))) (fun _ h => h) ⟨by rw [headR, if_neg h, if_neg hb1, if_pos hb2, if_pos h4]; rfl, rfl, rfl⟩
    · have h4 : ¬ ((refText (rest1 s) 32).2.2 = 0 ∧ nameR (refText (rest1 s) 32).1 = false) := by simpa using h3
      repeat (first | with_reducible (first | refine zS ?_ | refine zR ?_ | refine zN ?_ | refine zK ?_ | refine zB ?_ | refine zI ?_) | refine zE rfl ?_ | refine wq ?_ | refine wg ?_ | refine ws ?_ | refine wb fun _ => ?_ | refine wa fun _ => ?_ | refine wl fun _ => ?_)
      exact run_ret hC (rs := [.tmp 2, .tmp 3, .tmp 4]) rfl (resT rfl (resT rfl (resT rfl resN))) (fun _ h => h) ⟨by rw [headR, if_neg h, if_neg hb1, if_pos hb2, if_neg h4]; rfl, rfl, rfl⟩
  have hb2 : byte s 0 ≠ 97 := byte_eq hb0' h1
  repeat (first | with_reducible (first | refine zS ?_ | refine zR ?_ | refine zN ?_ | refine zK ?_ | refine zB ?_ | refine zI ?_) | refine zE rfl ?_ | refine wq ?_ | refine wg ?_ | refine ws ?_ | refine wb fun _ => ?_ | refine wa fun _ => ?_ | refine wl fun _ => ?_)
  refine run_cond rfl (fun h1 => ?_) (fun h1 => ?_)
  · have hb3 : byte s 0 = 114 := byte_eq hb0' h1
    repeat (first | with_reducible (first | refine zS ?_ | refine zR ?_ | refine zN ?_ | refine zK ?_ | refine zB ?_ | refine zI ?_) | refine zE rfl ?_ | refine wq ?_ | refine wg ?_ | refine ws ?_ | refine wb fun _ => ?_ | refine wa fun _ => ?_ | refine wl fun _ => ?_ | refine runL_q (qt_strLo (n := 1) tok rfl rfl rfl (fun _ => hp)) rfl rfl rfl ?_ | refine runL_q (qt_callF rfl (fun _ => refNum_ok _ _ (rest1 s))) rfl rfl rfl ?_)
    refine run_cond rfl (fun h3 => ?_) (fun h3 => ?_)
    · have h4 : (refNum (rest1 s)).2.2 = 0 ∧ 32 < (refNum (rest1 s)).1 := by simpa using h3
      repeat (first | with_reducible (first | refine zS ?_ | refine zR ?_ | refine zN ?_ | refine zK ?_ | refine zB ?_ | refine zI ?_) | refine zE rfl ?_ | refine wq ?_ | refine wg ?_ | refine ws ?_ | refine wb fun _ => ?_ | refine wa fun _ => ?_ | refine wl fun _ => ?_)
      exact run_ret hC (rs := [.tmp 2, .tmp 3, .tmp 4]) rfl (resT rfl (resT rfl (resT rfl resN))) (fun _ h => h) ⟨by rw [headR, if_neg h, if_neg hb1, if_neg hb2, if_pos hb3, if_pos h4]; rfl, rfl, rfl⟩
    · have h4 : ¬ ((refNum (rest1 s)).2.2 = 0 ∧ 32 < (refNum (rest1 s)).1) := by simpa using h3
      repeat (first | with_reducible (first | refine zS ?_ | refine zR ?_ | refine zN ?_ | refine zK ?_ | refine zB ?_ | refine zI ?_) | refine zE rfl ?_ | refine wq ?_ | refine wg ?_ | refine ws ?_ | refine wb fun _ => ?_ | refine wa fun _ => ?_ | refine wl fun _ => ?_)
      exact run_ret hC (rs := [.tmp 2, .tmp 3, .tmp 4]) rfl (resT rfl (resT rfl (resT rfl resN))) (fun _ h => h) ⟨by rw [headR, if_neg h, if_neg hb1, if_neg hb2, if_pos hb3, if_neg h4]; rfl, rfl, rfl⟩
  have hb3 : byte s 0 ≠ 114 := byte_eq hb0' h1
  repeat (first | with_reducible (first | refine zS ?_ | refine zR ?_ | refine zN ?_ | refine zK ?_ | refine zB ?_ | refine zI ?_) | refine zE rfl ?_ | refine wq ?_ | refine wg ?_ | refine ws ?_ | refine wb fun _ => ?_ | refine wa fun _ => ?_ | refine wl fun _ => ?_)
  refine run_cond rfl (fun h1 => ?_) (fun h1 => ?_)
  · have hb4 : byte s 0 = 104 := byte_eq hb0' h1
    repeat (first | with_reducible (first | refine zS ?_ | refine zR ?_ | refine zN ?_ | refine zK ?_ | refine zB ?_ | refine zI ?_) | refine zE rfl ?_ | refine wq ?_ | refine wg ?_ | refine ws ?_ | refine wb fun _ => ?_ | refine wa fun _ => ?_ | refine wl fun _ => ?_)
    exact run_ret hC (rs := [.tmp 2, .tmp 3, .tmp 4]) rfl (resT rfl (resT rfl (resT rfl resN))) (fun _ h => h) ⟨by rw [headR, if_neg h, if_neg hb1, if_neg hb2, if_neg hb3, if_pos hb4]; rfl, rfl, rfl⟩
  have hb4 : byte s 0 ≠ 104 := byte_eq hb0' h1
  repeat (first | with_reducible (first | refine zS ?_ | refine zR ?_ | refine zN ?_ | refine zK ?_ | refine zB ?_ | refine zI ?_) | refine zE rfl ?_ | refine wq ?_ | refine wg ?_ | refine ws ?_ | refine wb fun _ => ?_ | refine wa fun _ => ?_ | refine wl fun _ => ?_)
  refine run_cond rfl (fun h1 => ?_) (fun h1 => ?_)
  · have hb5 : byte s 0 = 109 := byte_eq hb0' h1
    repeat (first | with_reducible (first | refine zS ?_ | refine zR ?_ | refine zN ?_ | refine zK ?_ | refine zB ?_ | refine zI ?_) | refine zE rfl ?_ | refine wq ?_ | refine wg ?_ | refine ws ?_ | refine wb fun _ => ?_ | refine wa fun _ => ?_ | refine wl fun _ => ?_)
    exact run_ret hC (rs := [.tmp 2, .tmp 3, .tmp 4]) rfl (resT rfl (resT rfl (resT rfl resN))) (fun _ h => h) ⟨by rw [headR, if_neg h, if_neg hb1, if_neg hb2, if_neg hb3, if_neg hb4, if_pos hb5]; rfl, rfl, rfl⟩
  have hb5 : byte s 0 ≠ 109 := byte_eq hb0' h1
  repeat (first | with_reducible (first | refine zS ?_ | refine zR ?_ | refine zN ?_ | refine zK ?_ | refine zB ?_ | refine zI ?_) | refine zE rfl ?_ | refine wq ?_ | refine wg ?_ | refine ws ?_ | refine wb fun _ => ?_ | refine wa fun _ => ?_ | refine wl fun _ => ?_)
  refine run_cond rfl (fun h1 => ?_) (fun h1 => ?_)
  · have hb6 : byte s 0 = 115 := byte_eq hb0' h1
    repeat (first | with_reducible (first | refine zS ?_ | refine zR ?_ | refine zN ?_ | refine zK ?_ | refine zB ?_ | refine zI ?_) | refine zE rfl ?_ | refine wq ?_ | refine wg ?_ | refine ws ?_ | refine wb fun _ => ?_ | refine wa fun _ => ?_ | refine wl fun _ => ?_)
    exact run_ret hC (rs := [.tmp 2, .tmp 3, .tmp 4]) rfl (resT rfl (resT rfl (resT rfl resN))) (fun _ h => h) ⟨by rw [headR, if_neg h, if_neg hb1, if_neg hb2, if_neg hb3, if_neg hb4, if_neg hb5, if_pos hb6]; rfl, rfl, rfl⟩
  have hb6 : byte s 0 ≠ 115 := byte_eq hb0' h1
  repeat (first | with_reducible (first | refine zS ?_ | refine zR ?_ | refine zN ?_ | refine zK ?_ | refine zB ?_ | refine zI ?_) | refine zE rfl ?_ | refine wq ?_ | refine wg ?_ | refine ws ?_ | refine wb fun _ => ?_ | refine wa fun _ => ?_ | refine wl fun _ => ?_)
  exact run_ret hC (rs := [.tmp 2, .tmp 3, .tmp 4]) rfl (resT rfl (resT rfl (resT rfl resN))) (fun _ h => h) ⟨by rw [headR, if_neg h, if_neg hb1, if_neg hb2, if_neg hb3, if_neg hb4, if_neg hb5, if_neg hb6]; rfl, rfl, rfl⟩
end Go.Proofs.YtkjljcgbnikmkaaGreatDoor
namespace Go.Proofs.YtkjljcgbnikmkaaGreatDoor
open Go.Chi
set_option maxRecDepth 10000

def rloop (f : ByteArray → Int × Int) (s : ByteArray) : Nat → Int → Int → Int × Int
  | 0, n, e => (n, e)
  | i + 1, n, e => if e ≠ 0 then (n, e) else rloop f s i (IntKind.i64.wrap (n + (f (s.extract n.toNat s.size)).1)) (f (s.extract n.toNat s.size)).2
def finR (r : Int × Int) : Int × Int := if r.2 ≠ 0 then (0, r.2) else (r.1, 0)
def refRead : Nat → ByteArray → Int × Int
  | 0, _ => (0, 60)
  | k + 1, s => finR (rloop (refRead k) s (headR s).2.1.toNat (headR s).1 (headR s).2.2)
theorem rloop_err (f : ByteArray → Int × Int) (s : ByteArray) {e : Int} (he : e ≠ 0) : ∀ i n, rloop f s i n e = (n, e)
  | 0, _ => rfl
  | i + 1, n => by rw [rloop, if_pos he]
theorem ext_ext (w : ByteArray) {a n : Nat} (_ha : a ≤ w.size) (_hn : a + n ≤ w.size) : (w.extract a w.size).extract n (w.extract a w.size).size = w.extract (a + n) w.size := by
  have hz : (w.extract a w.size).size = w.size - a := by simp
  rw [hz]
  apply ByteArray.ext
  apply Array.ext'
  simp only [ByteArray.data_extract, Array.toList_extract, List.extract_eq_take_drop]
  have hl : w.data.toList.length = w.size := by simp
  generalize w.data.toList = l at *
  rw [← hl] at _ha _hn ⊢
  rw [List.take_of_length_le (l := l.drop a) (by simp), List.drop_drop, Nat.sub_sub]
theorem refNum_err {s : ByteArray} (h : (refNum s).2.2 ≠ 0) : (refNum s).1 = 0 := by
  unfold refNum at h ⊢
  repeat' split
  all_goals first | rfl | (rename_i h1 h2 h3 h4; simp [h1, h2, h3, h4] at h) | (rename_i h1 h2; simp [h1, h2] at h)
theorem headR_p32 (s : ByteArray) : (headR s).2.1 ≤ 32 := by
  unfold headR
  repeat' split
  all_goals try (simp; done)
  rename_i h1
  simp only
  by_cases he : (refNum (rest1 s)).2.2 = 0
  · have hv0 := numR_pos (rest1 s)
    rw [refNum_imp he] at hv0
    have h5 : ¬ 32 < (refNum (rest1 s)).1 := fun h5 => h1 ⟨he, h5⟩
    obtain ⟨v, hv⟩ : ∃ v : Nat, (refNum (rest1 s)).1 = v := ⟨(refNum (rest1 s)).1.toNat, by omega⟩
    rw [hv, wrap64_nat (by omega)]
    omega
  · rw [refNum_err he]; decide
theorem refRead_imp : ∀ (k : Nat) (s : ByteArray), s.size < 4611686018427387904 → (refRead k s).2 = 0 → ∃ n : Nat, (refRead k s).1 = n ∧ n ≤ s.size ∧ ∀ (w : ByteArray) (a : Nat), a ≤ w.size → w.extract a w.size = s → walkR w k a = .ok (a + n)
  | 0, s, _, h => by cases h
  | k + 1, s, hs, h => by
    rw [refRead] at h ⊢
    have h1 : (headR s).2.2 = 0 := by
      apply Classical.byContradiction
      intro h1
      rw [rloop_err _ _ h1, finR, if_pos h1] at h
      exact h1 h
    obtain ⟨n0, p0, hh, hf⟩ := headR_imp hs h1
    have hfl := frontR_len hf
    rw [hh] at h ⊢
    simp only [Int.toNat_natCast] at h ⊢
    have key : ∀ (i n : Nat), n ≤ s.size → (rloop (refRead k) s i (n : Int) 0).2 = 0 → ∃ m : Nat, (rloop (refRead k) s i (n : Int) 0).1 = m ∧ m ≤ s.size ∧ ∀ (w : ByteArray) (a : Nat), a ≤ w.size → w.extract a w.size = s → iter (walkR w k) i (a + n) = .ok (a + m) := by
      intro i
      induction i with
      | zero => intro n hn _; exact ⟨n, rfl, hn, fun w a _ _ => rfl⟩
      | succ i ih =>
        intro n hn hr
        rw [rloop, if_neg (by simp), Int.toNat_natCast] at hr ⊢
        have he : (refRead k (s.extract n s.size)).2 = 0 := by
          apply Classical.byContradiction
          intro he
          rw [rloop_err _ _ he] at hr
          exact he hr
        have hz : (s.extract n s.size).size = s.size - n := by simp
        obtain ⟨m, hm, hml, hmw⟩ := refRead_imp k (s.extract n s.size) (by omega) he
        rw [he, hm, show (n : Int) + (m : Int) = ((n + m : Nat) : Int) by omega, wrap64_nat (by omega)] at hr ⊢
        obtain ⟨m2, hm2, hm2l, hm2w⟩ := ih (n + m) (by omega) hr
        refine ⟨m2, hm2, hm2l, fun w a ha hw => ?_⟩
        have hws : w.size - a = s.size := by rw [← hw]; simp
        have h5 := hmw w (a + n) (by omega) (by rw [← hw, ext_ext w ha (by omega)])
        rw [iter, h5]
        have h6 := hm2w w a ha hw
        rw [← h6]
        simp only [Nat.add_assoc]
    have h2 : (rloop (refRead k) s p0 (n0 : Int) 0).2 = 0 := by
      apply Classical.byContradiction
      intro h2
      rw [finR, if_pos h2] at h
      exact h2 h
    obtain ⟨m, hm, hml, hmw⟩ := key p0 n0 hfl.2.1 h2
    refine ⟨m, by rw [finR, if_neg (by simp [h2])]; exact hm, hml, fun w a ha hw => ?_⟩
    rw [walkR, hw, hf]
    exact hmw w a ha hw
set_option maxRecDepth 10000 in
set_option maxHeartbeats 8000000 in
theorem refread_ok (M : Mem) (k : Nat) : k ≤ 16 → ∀ (L : HL) (s : ByteArray), s.size < 4611686018427387904 → TrQ Tryz.prog 141 [.string s, .int .i64 ((17 - k : Nat) : Int)] M L (.tuple ⟨[.int .i64 (refRead k s).1, .int .i64 (refRead k s).2]⟩) := by
  induction k with
  | zero =>
    intro _ L s hs
    refine Tr.intro 44 Tryz.func141 rfl rfl Tryz.call141 rfl ?_
    intro C hC hro
    repeat (first | with_reducible (first | refine zS ?_ | refine zR ?_ | refine zN ?_ | refine zK ?_ | refine zB ?_ | refine zI ?_) | refine zE rfl ?_ | refine wq ?_ | refine wg ?_ | refine ws ?_ | refine wb fun _ => ?_ | refine wa fun _ => ?_ | refine wl fun _ => ?_)
    refine run_cond rfl (fun h => ?_) (fun h => by cases h)
    repeat (first | with_reducible (first | refine zS ?_ | refine zR ?_ | refine zN ?_ | refine zK ?_ | refine zB ?_ | refine zI ?_) | refine zE rfl ?_ | refine wq ?_ | refine wg ?_ | refine ws ?_ | refine wb fun _ => ?_ | refine wa fun _ => ?_ | refine wl fun _ => ?_)
    exact run_ret hC (rs := [.tmp 4, .tmp 5]) rfl (resT rfl (resT rfl resN)) (fun _ h => h) ⟨rfl, rfl, rfl⟩
  | succ k ih =>
    intro hk L s hs
    refine Tr.intro 44 Tryz.func141 rfl rfl Tryz.call141 rfl ?_
    intro C hC hro
    repeat (first | with_reducible (first | refine zS ?_ | refine zR ?_ | refine zN ?_ | refine zK ?_ | refine zB ?_ | refine zI ?_) | refine zE rfl ?_ | refine wq ?_ | refine wg ?_ | refine ws ?_ | refine wb fun _ => ?_ | refine wa fun _ => ?_ | refine wl fun _ => ?_)
    refine run_cond rfl (fun h => ?_) (fun h => ?_)
    · exfalso
      have : (16 : Int) < ((17 - (k + 1) : Nat) : Int) := by simpa using h
      omega
    repeat (first | with_reducible (first | refine zS ?_ | refine zR ?_ | refine zN ?_ | refine zK ?_ | refine zB ?_ | refine zI ?_) | refine zE rfl ?_ | refine wq ?_ | refine wg ?_ | refine ws ?_ | refine wb fun _ => ?_ | refine wa fun _ => ?_ | refine wl fun _ => ?_ | refine runL_q (qt_callF rfl (fun _ => head_ok _ _ s hs)) rfl rfl rfl ?_)
    have hdef : refRead (k + 1) s = finR (rloop (refRead k) s (headR s).2.1.toNat (headR s).1 (headR s).2.2) := rfl
    have hini : (headR s).2.2 = 0 → ∃ m : Nat, (headR s).1 = m ∧ m ≤ s.size := fun h1 => by
      obtain ⟨n0, p0, hh, hf⟩ := headR_imp hs h1
      exact ⟨n0, by rw [hh], (frontR_len hf).2.1⟩
    obtain ⟨pt, hpt⟩ : ∃ p : Nat, (headR s).2.1.toNat = p := ⟨_, rfl⟩
    have hpt' : (headR s).2.1 ≤ (pt : Int) := by omega
    have h32 := headR_p32 s
    rw [hpt] at hdef
    generalize (headR s).2.1 = Z at *
    generalize (headR s).2.2 = e0 at *
    generalize (headR s).1 = n0 at *
    refine run_loopN (fun i σ1 M1 L1 => i ≤ pt ∧ ∃ n e : Int, (e = 0 → ∃ m : Nat, n = m ∧ m ≤ s.size) ∧ rloop (refRead k) s (pt - i) n e = rloop (refRead k) s pt n0 e0 ∧ σ1 = [(0, .string s), (1, .int .i64 ((17 - (k + 1) : Nat) : Int)), (6, .int .i64 n), (7, .int .i64 Z), (8, .int .i64 e), (9, .int .i64 (i : Int))] ∧ M = M1 ∧ L = L1) pt [(0, .string s), (1, .int .i64 ((17 - (k + 1) : Nat) : Int)), (6, .int .i64 n0), (7, .int .i64 Z), (8, .int .i64 e0), (9, .int .i64 ((0 : Nat) : Int))] ?_ ⟨Nat.zero_le _, n0, e0, hini, rfl, rfl, rfl, rfl⟩ (fun j _ _ _ h => h.1) ?_
    · exact ⟨rfl, rfl, rfl, rfl, rfl, rfl, trivial⟩
    rintro i _ _ _ ⟨hi, n, e, hne, hit, rfl, rfl, rfl⟩ hnext
    have hfin : ∀ σ' : Env, (i = pt ∨ e ≠ 0) → lks σ' 6 = some (.int .i64 n) → lks σ' 8 = some (.int .i64 e) → rloop (refRead k) s pt n0 e0 = (n, e) := by
      intro σ' h1 _ _
      rw [← hit]
      rcases h1 with h1 | h1
      · rw [h1, Nat.sub_self]; rfl
      · exact rloop_err _ _ h1 _ _
    repeat (first | with_reducible (first | refine zS ?_ | refine zR ?_ | refine zN ?_ | refine zK ?_ | refine zB ?_ | refine zI ?_) | refine zE rfl ?_ | refine wq ?_ | refine wg ?_ | refine ws ?_ | refine wb fun _ => ?_ | refine wa fun _ => ?_ | refine wl fun _ => ?_)
    refine run_cond rfl (fun h5 => ?_) (fun h5 => ?_)
    · have h6 : (i : Int) < Z ∧ e = 0 := by simpa using h5
      obtain ⟨hiz, rfl⟩ := h6
      have hik : i < pt := by omega
      obtain ⟨m, rfl, hm⟩ := hne rfl
      have hz : (s.extract m s.size).size = s.size - m := by simp
      repeat (first | with_reducible (first | refine zS ?_ | refine zR ?_ | refine zN ?_ | refine zK ?_ | refine zB ?_ | refine zI ?_) | refine zE rfl ?_ | refine wq ?_ | refine wg ?_ | refine ws ?_ | refine wb fun _ => ?_ | refine wa fun _ => ?_ | refine wl fun _ => ?_ | refine runL_q (qt_strLo (n := m) tok rfl rfl rfl (fun _ => hm)) rfl rfl rfl ?_)
      refine runL_as 33 (.int .i64 ((17 - k : Nat) : Int)) rfl (by rw [wrap64_succ (by omega), show 17 - (k + 1) + 1 = 17 - k by omega]) ?_
      repeat (first | with_reducible (first | refine zS ?_ | refine zR ?_ | refine zN ?_ | refine zK ?_ | refine zB ?_ | refine zI ?_) | refine zE rfl ?_ | refine wq ?_ | refine wg ?_ | refine ws ?_ | refine wb fun _ => ?_ | refine wa fun _ => ?_ | refine wl fun _ => ?_ | refine runL_q (qt_callF rfl (fun _ => ih (by omega) _ (s.extract m s.size) (by omega))) rfl rfl rfl ?_)
      refine run_sub' (hnext _ _ _ ⟨hik, IntKind.i64.wrap ((m : Int) + (refRead k (s.extract m s.size)).1), (refRead k (s.extract m s.size)).2, fun he => ?_, ?_, rfl, rfl, rfl⟩) ⟨rfl, rfl, rfl, rfl, rfl, lk_succ rfl (by omega), trivial⟩
      · obtain ⟨m2, hm2, hm2l, _⟩ := refRead_imp k (s.extract m s.size) (by omega) he
        exact ⟨m + m2, by rw [hm2, show (m : Int) + (m2 : Int) = ((m + m2 : Nat) : Int) by omega, wrap64_nat (by omega)], by omega⟩
      · rw [← hit, show pt - i = (pt - (i + 1)) + 1 by omega, rloop, if_neg (by simp), Int.toNat_natCast]
    · have h6 : i = pt ∨ e ≠ 0 := by
        by_cases he : e = 0
        · left
          subst he
          have : Z ≤ (i : Int) := by simpa using h5
          omega
        · exact .inr he
      have hr := hfin [(6, .int .i64 n), (8, .int .i64 e)] h6 rfl rfl
      repeat (first | with_reducible (first | refine zS ?_ | refine zR ?_ | refine zN ?_ | refine zK ?_ | refine zB ?_ | refine zI ?_) | refine zE rfl ?_ | refine wq ?_ | refine wg ?_ | refine ws ?_ | refine wb fun _ => ?_ | refine wa fun _ => ?_ | refine wl fun _ => ?_)
      refine run_cond rfl (fun h7 => ?_) (fun h7 => ?_)
      · have h8 : e ≠ 0 := by simpa using h7
        repeat (first | with_reducible (first | refine zS ?_ | refine zR ?_ | refine zN ?_ | refine zK ?_ | refine zB ?_ | refine zI ?_) | refine zE rfl ?_ | refine wq ?_ | refine wg ?_ | refine ws ?_ | refine wb fun _ => ?_ | refine wa fun _ => ?_ | refine wl fun _ => ?_)
        exact run_ret hC (rs := [.tmp 4, .tmp 5]) rfl (resT rfl (resT rfl resN)) (fun _ h => h) ⟨by rw [hdef, hr, finR, if_pos h8]; rfl, rfl, rfl⟩
      · have h8 : e = 0 := by simpa using h7
        subst h8
        repeat (first | with_reducible (first | refine zS ?_ | refine zR ?_ | refine zN ?_ | refine zK ?_ | refine zB ?_ | refine zI ?_) | refine zE rfl ?_ | refine wq ?_ | refine wg ?_ | refine ws ?_ | refine wb fun _ => ?_ | refine wa fun _ => ?_ | refine wl fun _ => ?_)
        exact run_ret hC (rs := [.tmp 4, .tmp 5]) rfl (resT rfl (resT rfl resN)) (fun _ h => h) ⟨by rw [hdef, hr, finR, if_neg (by simp)]; rfl, rfl, rfl⟩
def topR (s : ByteArray) : Int × Int := if (refRead 16 s).2 ≠ 0 then (0, (refRead 16 s).2) else if 16384 < (refRead 16 s).1 then (0, 5) else ((refRead 16 s).1, 0)
theorem refRd_ok (M : Mem) (L : HL) (s : ByteArray) (hs : s.size < 4611686018427387904) : TrQ Tryz.prog 131 [.string s] M L (.tuple ⟨[.int .i64 (topR s).1, .int .i64 (topR s).2]⟩) := by
  refine Tr.intro 17 Tryz.func131 rfl rfl Tryz.call131 rfl ?_
  intro C hC hro
  repeat (first | with_reducible (first | refine zS ?_ | refine zR ?_ | refine zN ?_ | refine zK ?_ | refine zB ?_ | refine zI ?_) | refine zE rfl ?_ | refine wq ?_ | refine wg ?_ | refine ws ?_ | refine wb fun _ => ?_ | refine wa fun _ => ?_ | refine wl fun _ => ?_ | refine runL_q (qt_callF rfl (fun _ => refread_ok _ 16 (by omega) _ s hs)) rfl rfl rfl ?_)
  refine run_cond rfl (fun h => ?_) (fun h => ?_)
  · have h1 : (refRead 16 s).2 ≠ 0 := by simpa using h
    repeat (first | with_reducible (first | refine zS ?_ | refine zR ?_ | refine zN ?_ | refine zK ?_ | refine zB ?_ | refine zI ?_) | refine zE rfl ?_ | refine wq ?_ | refine wg ?_ | refine ws ?_ | refine wb fun _ => ?_ | refine wa fun _ => ?_ | refine wl fun _ => ?_)
    exact run_ret hC (rs := [.tmp 2, .tmp 3]) rfl (resT rfl (resT rfl resN)) (fun _ h => h) ⟨by rw [topR, if_pos h1]; rfl, rfl, rfl⟩
  have h1 : ¬ (refRead 16 s).2 ≠ 0 := by simpa using h
  repeat (first | with_reducible (first | refine zS ?_ | refine zR ?_ | refine zN ?_ | refine zK ?_ | refine zB ?_ | refine zI ?_) | refine zE rfl ?_ | refine wq ?_ | refine wg ?_ | refine ws ?_ | refine wb fun _ => ?_ | refine wa fun _ => ?_ | refine wl fun _ => ?_)
  refine run_cond rfl (fun h => ?_) (fun h => ?_)
  · have h2 : 16384 < (refRead 16 s).1 := by simpa using h
    repeat (first | with_reducible (first | refine zS ?_ | refine zR ?_ | refine zN ?_ | refine zK ?_ | refine zB ?_ | refine zI ?_) | refine zE rfl ?_ | refine wq ?_ | refine wg ?_ | refine ws ?_ | refine wb fun _ => ?_ | refine wa fun _ => ?_ | refine wl fun _ => ?_)
    exact run_ret hC (rs := [.tmp 2, .tmp 3]) rfl (resT rfl (resT rfl resN)) (fun _ h => h) ⟨by rw [topR, if_neg h1, if_pos h2]; rfl, rfl, rfl⟩
  · have h2 : ¬ 16384 < (refRead 16 s).1 := by simpa using h
    repeat (first | with_reducible (first | refine zS ?_ | refine zR ?_ | refine zN ?_ | refine zK ?_ | refine zB ?_ | refine zI ?_) | refine zE rfl ?_ | refine wq ?_ | refine wg ?_ | refine ws ?_ | refine wb fun _ => ?_ | refine wa fun _ => ?_ | refine wl fun _ => ?_)
    exact run_ret hC (rs := [.tmp 2, .tmp 3]) rfl (resT rfl (resT rfl resN)) (fun _ h => h) ⟨by rw [topR, if_neg h1, if_neg h2]; rfl, rfl, rfl⟩
def refCheck (s : ByteArray) : Int := if (topR s).2 ≠ 0 then (topR s).2 else if (topR s).1 ≠ (s.size : Int) then 7 else 0
theorem refCheck_ok (M : Mem) (L : HL) (s : ByteArray) (hs : s.size < 4611686018427387904) : TrQ Tryz.prog 125 [.string s] M L (.int .i64 (refCheck s)) := by
  refine Tr.intro 17 Tryz.func125 rfl rfl Tryz.call125 rfl ?_
  intro C hC hro
  repeat (first | with_reducible (first | refine zS ?_ | refine zR ?_ | refine zN ?_ | refine zK ?_ | refine zB ?_ | refine zI ?_) | refine zE rfl ?_ | refine wq ?_ | refine wg ?_ | refine ws ?_ | refine wb fun _ => ?_ | refine wa fun _ => ?_ | refine wl fun _ => ?_ | refine runL_q (qt_callF rfl (fun _ => refRd_ok _ _ s hs)) rfl rfl rfl ?_)
  refine run_cond rfl (fun h => ?_) (fun h => ?_)
  · have h1 : (topR s).2 ≠ 0 := by simpa using h
    repeat (first | with_reducible (first | refine zS ?_ | refine zR ?_ | refine zN ?_ | refine zK ?_ | refine zB ?_ | refine zI ?_) | refine zE rfl ?_ | refine wq ?_ | refine wg ?_ | refine ws ?_ | refine wb fun _ => ?_ | refine wa fun _ => ?_ | refine wl fun _ => ?_)
    exact run_ret hC (rs := [.tmp 2]) rfl (resT rfl resN) (fun _ h => h) ⟨by rw [refCheck, if_pos h1]; rfl, rfl, rfl⟩
  have h1 : ¬ (topR s).2 ≠ 0 := by simpa using h
  repeat (first | with_reducible (first | refine zS ?_ | refine zR ?_ | refine zN ?_ | refine zK ?_ | refine zB ?_ | refine zI ?_) | refine zE rfl ?_ | refine wq ?_ | refine wg ?_ | refine ws ?_ | refine wb fun _ => ?_ | refine wa fun _ => ?_ | refine wl fun _ => ?_)
  refine run_cond rfl (fun h => ?_) (fun h => ?_)
  · have h2 : (topR s).1 ≠ (s.size : Int) := by simpa using h
    repeat (first | with_reducible (first | refine zS ?_ | refine zR ?_ | refine zN ?_ | refine zK ?_ | refine zB ?_ | refine zI ?_) | refine zE rfl ?_ | refine wq ?_ | refine wg ?_ | refine ws ?_ | refine wb fun _ => ?_ | refine wa fun _ => ?_ | refine wl fun _ => ?_)
    exact run_ret hC (rs := [.tmp 2]) rfl (resT rfl resN) (fun _ h => h) ⟨by rw [refCheck, if_neg h1, if_pos h2]; rfl, rfl, rfl⟩
  · have h2 : ¬ (topR s).1 ≠ (s.size : Int) := by simpa using h
    repeat (first | with_reducible (first | refine zS ?_ | refine zR ?_ | refine zN ?_ | refine zK ?_ | refine zB ?_ | refine zI ?_) | refine zE rfl ?_ | refine wq ?_ | refine wg ?_ | refine ws ?_ | refine wb fun _ => ?_ | refine wa fun _ => ?_ | refine wl fun _ => ?_)
    exact run_ret hC (rs := [.tmp 2]) rfl (resT rfl resN) (fun _ h => h) ⟨by rw [refCheck, if_neg h1, if_neg h2]; rfl, rfl, rfl⟩
theorem ext_all (s : ByteArray) : s.extract 0 s.size = s := by
  apply ByteArray.ext
  simp
theorem refCheck_imp {s : ByteArray} (hs : s.size < 4611686018427387904) (h : refCheck s = 0) : checkR s = 0 := by
  have h1 : ¬ (topR s).2 ≠ 0 := fun h1 => by rw [refCheck, if_pos h1] at h; exact h1 h
  have h2 : ¬ (topR s).1 ≠ (s.size : Int) := fun h2 => by rw [refCheck, if_neg h1, if_pos h2] at h; cases h
  have h3 : (refRead 16 s).2 = 0 := by
    apply Classical.byContradiction
    intro h3
    rw [topR, if_pos h3] at h1
    exact h1 h3
  have h4 : ¬ 16384 < (refRead 16 s).1 := fun h4 => by rw [topR, if_neg (by simp [h3]), if_pos h4] at h1; exact h1 (by decide)
  obtain ⟨n, hn, _, hw⟩ := refRead_imp 16 s hs h3
  have h5 := hw s 0 (Nat.zero_le _) (ext_all s)
  rw [topR, if_neg (by simp [h3]), if_neg h4] at h2
  have h6 : n = s.size := by
    have : (refRead 16 s).1 = (s.size : Int) := by simpa using h2
    omega
  have hrr : readR (walkR s 16 0) = ((n : Int), 0) := by
    rw [h5, readR]
    simp only [Nat.zero_add]
    rw [if_neg (by omega)]
  rw [checkR, hrr, if_neg (by simp [h6])]
end Go.Proofs.YtkjljcgbnikmkaaGreatDoor
namespace Go.Proofs.YtkjljcgbnikmkaaGreatDoor
open Go.Chi

/-! ### the document's readers answer as the program's -/
def rawV (s : ByteArray) : Nat → Nat
  | 0 => 0
  | i + 1 => rawV s i * 256 + (byte s (i + 1)).toNat
theorem rawV_lt (s : ByteArray) : ∀ i, rawV s i < 256 ^ i
  | 0 => show (0 : Nat) < 1 by decide
  | i + 1 => by
    have := rawV_lt s i
    have hb := byte_pos s (i + 1)
    rw [rawV, Nat.pow_succ]
    omega
theorem refV_raw (s : ByteArray) : ∀ i, i ≤ 8 → refV s i = (rawV s i : Int)
  | 0, _ => rfl
  | i + 1, h => by
    have ih := refV_raw s i (by omega)
    have hb := byte_pos s (i + 1)
    have hlt := rawV_lt s i
    have h7 : 256 ^ i ≤ 256 ^ 7 := Nat.pow_le_pow_right (by decide) (by omega)
    have h7' : rawV s i < 72057594037927936 := by
      have : (256 : Nat) ^ 7 = 72057594037927936 := by decide
      omega
    rw [refV, ih, rawV, u64_wrap, u64_wrap, u64_wrap]
    omega
theorem raw_one (s : ByteArray) : rawV s 1 = (byte s 1).toNat := by simp [rawV]
theorem raw_pos {s : ByteArray} (h : byte s 1 ≠ 0) : ∀ i, rawV s (i + 1) ≠ 0
  | 0 => by
    have hb := byte_pos s 1
    show rawV s 1 ≠ 0
    rw [raw_one]
    omega
  | i + 1 => by
    have := raw_pos h i
    rw [rawV]
    omega
theorem ext_snoc (s : ByteArray) {i : Nat} (h : i + 1 < s.size) : s.extract 1 (i + 2) = s.extract 1 (i + 1) ++ bytesI [byte s (i + 1)] := by
  have hb : bytesI [byte s (i + 1)] = ⟨#[s[i + 1]'h]⟩ := by
    have hx : byte s (i + 1) = ((s[i + 1]'h).toNat : Int) := by rw [byte, getElem?_pos s (i + 1) h]; rfl
    rw [hx]
    simp [bytesI]
    rfl
  rw [hb]
  apply ByteArray.ext
  apply Array.ext'
  simp only [ByteArray.data_append, ByteArray.data_extract, Array.toList_append, Array.toList_extract, List.extract_eq_take_drop]
  have hl : s.data.toList.length = s.size := by simp
  have hg : (s[i + 1]'h) = s.data.toList[i + 1]'(by omega) := rfl
  rw [hg]
  have h1 : i + 2 - 1 = i + 1 := by omega
  have h2 : i + 1 - 1 = i := by omega
  rw [h1, h2, List.take_add_one, List.getElem?_drop, show 1 + i = i + 1 by omega, List.getElem?_eq_getElem (by omega)]
  rfl
theorem dig_raw {s : ByteArray} (h : byte s 1 ≠ 0) : ∀ i, i + 1 < s.size → digN (rawV s (i + 1)) = s.extract 1 (i + 2)
  | 0, hs => by
    have hb := byte_pos s 1
    have h0 : rawV s 1 ≠ 0 := raw_pos h 0
    have hd : digN (rawV s 1) = digN (rawV s 1 / 256) ++ bytesI [((rawV s 1 % 256 : Nat) : Int)] := by rw [digN, if_neg h0]
    rw [hd, ext_snoc s hs]
    have e1 : rawV s 1 / 256 = 0 := by rw [raw_one]; omega
    have e2 : ((rawV s 1 % 256 : Nat) : Int) = byte s 1 := by rw [raw_one]; omega
    rw [e1, e2, digN_zero]
    congr 1
    apply ByteArray.ext
    simp
  | i + 1, hs => by
    have ih := dig_raw h i (by omega)
    have hb := byte_pos s (i + 2)
    have h0 : rawV s (i + 2) ≠ 0 := raw_pos h (i + 1)
    have hd : digN (rawV s (i + 2)) = digN (rawV s (i + 2) / 256) ++ bytesI [((rawV s (i + 2) % 256 : Nat) : Int)] := by rw [digN, if_neg h0]
    have e0 : rawV s (i + 2) = rawV s (i + 1) * 256 + (byte s (i + 2)).toNat := rfl
    have e1 : rawV s (i + 2) / 256 = rawV s (i + 1) := by omega
    have e2 : ((rawV s (i + 2) % 256 : Nat) : Int) = byte s (i + 2) := by omega
    rw [show i + 1 + 1 = i + 2 by omega, hd, e1, e2, ih, ext_snoc s hs]
theorem ext_head (s : ByteArray) {n : Nat} (h : 0 < s.size) (hn : 1 ≤ n) : s.extract 0 n = bytesI [byte s 0] ++ s.extract 1 n := by
  have hb : bytesI [byte s 0] = ⟨#[s[0]'h]⟩ := by
    have hx : byte s 0 = ((s[0]'h).toNat : Int) := by rw [byte, getElem?_pos s 0 h]; rfl
    rw [hx]
    simp [bytesI]
    rfl
  rw [hb]
  apply ByteArray.ext
  apply Array.ext'
  simp only [ByteArray.data_append, ByteArray.data_extract, Array.toList_append, Array.toList_extract, List.extract_eq_take_drop]
  have hl : s.data.toList.length = s.size := by simp
  have hg : s.data.toList[0]? = some (s[0]'h) := by rw [List.getElem?_eq_getElem (by omega)]; rfl
  generalize (s[0]'h) = y at hg ⊢
  cases hd : s.data.toList with
  | nil => rw [hd] at hl; simp at hl; omega
  | cons x l =>
    rw [hd] at hg
    simp at hg
    obtain ⟨m, rfl⟩ : ∃ m, n = m + 1 := ⟨n - 1, by omega⟩
    simp [hg]
theorem refNum_eq (s : ByteArray) : refNum s = numR s := by
  by_cases he : (refNum s).2.2 = 0
  · exact (refNum_imp he).symm
  have hb := byte_pos s 0
  have hr := rest1_size (s := s)
  unfold refNum at he ⊢
  unfold numR
  by_cases h0 : s.size = 0
  · rw [if_pos h0, if_pos h0]
  rw [if_neg h0] at he ⊢
  rw [if_neg h0]
  by_cases h1 : byte s 0 < 248
  · rw [if_pos h1] at he; exact absurd rfl he
  rw [if_neg h1] at he ⊢
  rw [if_neg (show ¬ byte s 0 ≤ 247 by omega)]
  have hk : (refK s : Int) = byte s 0 - 247 := by unfold refK; omega
  by_cases h2 : s.size < refK s + 1
  · rw [if_pos h2, if_pos (show ((rest1 s).size : Int) < byte s 0 - 247 by omega)]
  rw [if_neg h2] at he ⊢
  rw [if_neg (show ¬ ((rest1 s).size : Int) < byte s 0 - 247 by omega)]
  by_cases h3 : numB (refV s (refK s)).toNat ≠ s.extract 0 (refK s + 1)
  · rw [if_pos h3]
    have hz : (byte s 0 - 247).toNat = refK s := rfl
    rw [hz, ← refV_eq s (refK s), byte_rest]
    by_cases h4 : byte s (0 + 1) = 0 ∨ refV s (refK s) ≤ 247
    · rw [if_pos h4]
    · exfalso
      apply h3
      have h5 : byte s 1 ≠ 0 := fun e => h4 (.inl e)
      have h6 : ¬ refV s (refK s) ≤ 247 := fun e => h4 (.inr e)
      have hk8 : refK s ≤ 8 := by omega
      have hraw := refV_raw s (refK s) hk8
      obtain ⟨m, hm⟩ : ∃ m, refK s = m + 1 := ⟨refK s - 1, by omega⟩
      have hd := dig_raw h5 m (by omega)
      rw [hraw, Int.toNat_natCast, numB, if_neg (by omega), hm, hd, show m + 1 + 1 = m + 2 by omega, ext_head s (n := m + 2) (by omega) (by omega)]
      congr 2
      have hsz : (s.extract 1 (m + 2)).size = m + 1 := by simp; omega
      rw [hsz]
      have e1 : IntKind.i64.wrap (247 + ((m + 1 : Nat) : Int)) = ((248 + m : Nat) : Int) := by
        rw [show (247 : Int) + ((m + 1 : Nat) : Int) = ((248 + m : Nat) : Int) by omega, wrap64_nat (by omega)]
      rw [e1, u8_nat (by omega)]
      congr 1
      omega
  · rw [if_neg h3] at he
    exact absurd rfl he
theorem refText_eq (s : ByteArray) (most : Nat) : refText s most = textR s most := by
  rw [refText, textR, refNum_eq]
theorem abc_all' : ∀ n : Fin 128, inAbc ((n.val : Nat) : Int) = true → nameB ((n.val : Nat) : Int) = true := by decide +kernel
theorem named_imp {s : ByteArray} : ∀ f p, s.size < p + f → namedAt s f p = true → ∀ i, p ≤ i → i < s.size → nameB (byte s i) = true
  | 0, p, hf, _, i, hi, hs => by omega
  | f + 1, p, hf, h, i, hi, hs => by
    have hp : p < s.size := by omega
    rw [namedAt, if_pos hp, Bool.and_eq_true] at h
    have hlow : (s[p]'hp).toNat < 128 := by
      apply Classical.byContradiction
      intro hn
      have := (decode_high s p hp (by omega)).1
      have h1 := h.1
      rw [inAbc, decide_eq_true_eq, runeIx, if_neg (by omega)] at h1
      omega
    rw [decode_ascii s p hp hlow] at h
    by_cases e : i = p
    · subst e
      have hx : byte s i = ((s[i]'hp).toNat : Int) := by rw [byte, getElem?_pos s i hp]; rfl
      rw [hx]
      exact abc_all' ⟨_, hlow⟩ h.1
    · exact named_imp f (p + 1) (by omega) h.2 i (by omega) hs
theorem name_eq (s : ByteArray) : nameR s = namedR s := by
  rw [Bool.eq_iff_iff]
  constructor
  · exact nameR_imp
  · intro h
    rw [namedR, Bool.and_eq_true] at h
    rw [nameR, h.2, Bool.and_true, List.all_eq_true]
    intro i hi
    exact named_imp _ 0 (by omega) h.1 i (Nat.zero_le _) (List.mem_range.1 hi)
end Go.Proofs.YtkjljcgbnikmkaaGreatDoor
namespace Go.Proofs.YtkjljcgbnikmkaaGreatDoor
open Go.Chi

/-! ### numbers and texts as bytes: the plain law -/
theorem ba_ext {a b : ByteArray} (h : a.data.toList = b.data.toList) : a = b := ByteArray.ext (Array.ext' h)
theorem ba_app (a b : ByteArray) : (a ++ b).data.toList = a.data.toList ++ b.data.toList := by
  simp [ByteArray.data_append]
theorem ba_extract (a : ByteArray) (i j : Nat) : (a.extract i j).data.toList = (a.data.toList.take j).drop i := by
  simp [ByteArray.data_extract, List.extract_eq_take_drop, List.drop_take]
theorem ba_len (a : ByteArray) : a.data.toList.length = a.size := by simp
theorem ext_left (a b : ByteArray) : (a ++ b).extract 0 a.size = a := by
  apply ba_ext
  rw [ba_extract, ba_app, ← ba_len, List.take_left' rfl, List.drop_zero]
theorem ext_right (a b : ByteArray) : (a ++ b).extract a.size (a ++ b).size = b := by
  apply ba_ext
  rw [ba_extract, ← ba_len, ← ba_len, ba_app, List.take_of_length_le (Nat.le_refl _), List.drop_left' rfl]
theorem ext_split (s : ByteArray) {n : Nat} (_h : n ≤ s.size) : s = s.extract 0 n ++ s.extract n s.size := by
  apply ba_ext
  rw [ba_app, ba_extract, ba_extract, List.drop_zero, ← ba_len, List.take_of_length_le (l := s.data.toList) (Nat.le_refl _), List.take_append_drop]
theorem app_assoc (a b c : ByteArray) : a ++ b ++ c = a ++ (b ++ c) := by
  apply ba_ext
  simp only [ba_app, List.append_assoc]
theorem app_nil (a : ByteArray) : a ++ ⟨#[]⟩ = a := by
  apply ba_ext
  rw [ba_app]
  simp
theorem nil_app (a : ByteArray) : (⟨#[]⟩ : ByteArray) ++ a = a := by
  apply ba_ext
  rw [ba_app]
  simp
theorem app_left_inj {a b c : ByteArray} (h : a ++ b = a ++ c) : b = c := by
  apply ba_ext
  have := congrArg (fun x : ByteArray => x.data.toList) h
  simp only [ba_app] at this
  exact List.append_cancel_left this
theorem byte_left {a b : ByteArray} {i : Nat} (h : i < a.size) : byte (a ++ b) i = byte a i := by
  unfold byte
  rw [getElem?_pos (a ++ b) i (by rw [app_size]; omega), getElem?_pos a i h, ByteArray.getElem_append_left h]
theorem byte_right (a b : ByteArray) (i : Nat) : byte (a ++ b) (a.size + i) = byte b i := by
  unfold byte
  by_cases h : i < b.size
  · rw [getElem?_pos (a ++ b) _ (by rw [app_size]; omega), getElem?_pos b i h, ByteArray.getElem_append_right (by omega)]
    simp
  · rw [getElem?_neg (a ++ b) _ (by rw [app_size]; omega), getElem?_neg b i h]
theorem byte_one (x : Int) (h0 : 0 ≤ x) (h : x < 256) : byte (bytesI [x]) 0 = x := by
  have e : (bytesI [x])[0]? = some (UInt8.ofNat x.toNat) := rfl
  unfold byte
  rw [e]
  simp
  omega
theorem ext_one {s : ByteArray} (h : 0 < s.size) : s.extract 0 1 = bytesI [byte s 0] := by
  have e : byte s 0 = ((s[0]'h).toNat : Int) := by unfold byte; rw [getElem?_pos s 0 h]; rfl
  apply ba_ext
  rw [ba_extract, List.drop_zero, e]
  have hl : 0 < s.data.toList.length := by rw [ba_len]; exact h
  have hg : (s[0]'h) = s.data.toList[0]'hl := rfl
  rw [hg]
  obtain ⟨b, l, hbl⟩ : ∃ b l, s.data.toList = b :: l := by
    cases hs : s.data.toList with
    | nil => rw [hs] at hl; simp at hl
    | cons b l => exact ⟨b, l, rfl⟩
  have hb : s.data.toList[0]'hl = b := by simp only [hbl, List.getElem_cons_zero]
  rw [hb, hbl]
  show [b] = [UInt8.ofNat ((b.toNat : Int)).toNat]
  simp
theorem raw_ext {s t : ByteArray} : ∀ {n : Nat}, (∀ i, i < n → byte s (i + 1) = byte t (i + 1)) → rawV s n = rawV t n
  | 0, _ => rfl
  | n + 1, h => by rw [rawV, rawV, raw_ext (fun i hi => h i (by omega)), h n (by omega)]
/-- a number's digits, read -/
theorem raw_dig : ∀ (v : Nat) (x : Int) (rest : ByteArray), rawV (bytesI [x] ++ (digN v ++ rest)) (digN v).size = v := by
  intro v
  induction v using Nat.strongRecOn with
  | _ v ih =>
    intro x rest
    by_cases h0 : v = 0
    · subst h0
      rw [digN_zero]
      rfl
    · have hd : digN v = digN (v / 256) ++ bytesI [((v % 256 : Nat) : Int)] := by rw [digN, if_neg h0]
      have hs : (digN v).size = (digN (v / 256)).size + 1 := by rw [hd, app_size, bytesI_one]
      rw [hs, hd, rawV, app_assoc, ih (v / 256) (by omega) x (bytesI [((v % 256 : Nat) : Int)] ++ rest)]
      have e1 : (digN (v / 256)).size + 1 = (bytesI [x]).size + ((digN (v / 256)).size + 0) := by rw [bytesI_one]; omega
      rw [e1, byte_right, byte_right, byte_left (by rw [bytesI_one]; omega), byte_one _ (by omega) (by omega)]
      omega
theorem numB_size {v : Nat} (h : v < 18446744073709551616) : 1 ≤ (numB v).size ∧ (numB v).size ≤ 9 := by
  have := digN_len h
  unfold numB
  split
  · rw [bytesI_one]; omega
  · rw [app_size, bytesI_one]; omega
theorem numB_big {v : Nat} (h : ¬ v < 248) (hv : v < 18446744073709551616) : numB v = bytesI [((247 + (digN v).size : Nat) : Int)] ++ digN v ∧ 1 ≤ (digN v).size ∧ (digN v).size ≤ 8 := by
  have h8 := digN_len hv
  have h1 : 1 ≤ (digN v).size := by
    rw [digN, if_neg (by omega), app_size, bytesI_one]
    omega
  refine ⟨?_, h1, h8⟩
  rw [numB, if_neg h]
  congr 3
  rw [show (247 : Int) + ((digN v).size : Int) = ((247 + (digN v).size : Nat) : Int) by omega, wrap64_nat (by omega), u8_nat (by omega)]
/-- what was put as a number is read as it -/
theorem num_read {v : Nat} (hv : v < 18446744073709551616) (rest : ByteArray) : numR (numB v ++ rest) = ((v : Int), ((numB v).size : Int), 0) := by
  rw [← refNum_eq]
  by_cases h : v < 248
  · have hB : numB v = bytesI [(v : Int)] := by rw [numB, if_pos h, u8_nat (by omega)]
    have h0 : byte (numB v ++ rest) 0 = v := by rw [hB, byte_left (by rw [bytesI_one]; omega), byte_one _ (by omega) (by omega)]
    unfold refNum
    rw [if_neg (by rw [app_size, hB, bytesI_one]; omega), if_pos (by rw [h0]; omega), h0, hB, bytesI_one]
    rfl
  · obtain ⟨hB, h1, h8⟩ := numB_big h hv
    have h0 : byte (numB v ++ rest) 0 = ((247 + (digN v).size : Nat) : Int) := by
      rw [hB, app_assoc, byte_left (by rw [bytesI_one]; omega), byte_one _ (by omega) (by omega)]
    have hk : refK (numB v ++ rest) = (digN v).size := by
      unfold refK
      rw [h0]
      omega
    have hsz : (numB v).size = (digN v).size + 1 := by rw [hB, app_size, bytesI_one]; omega
    have hr : refV (numB v ++ rest) (digN v).size = (v : Int) := by
      rw [refV_raw _ _ h8, hB, app_assoc, raw_dig]
    unfold refNum
    rw [if_neg (by rw [app_size]; omega), if_neg (by rw [h0]; omega), hk, if_neg (by rw [app_size]; omega), hr, Int.toNat_natCast, ← hsz, ext_left, if_neg (by simp)]
/-- what is read as a number is the number's bytes -/
theorem num_back {s : ByteArray} (h : (numR s).2.2 = 0) : ∃ v : Nat, v < 18446744073709551616 ∧ numR s = ((v : Int), ((numB v).size : Int), 0) ∧ s = numB v ++ s.extract (numB v).size s.size := by
  rw [← refNum_eq] at h ⊢
  have hb := byte_pos s 0
  unfold refNum at h ⊢
  split at h
  · cases h
  rename_i h0
  rw [if_neg h0]
  split at h
  · rename_i h1
    rw [if_pos h1]
    have hB : numB (byte s 0).toNat = bytesI [byte s 0] := by
      rw [numB, if_pos (by omega), u8_nat (by omega), Int.toNat_of_nonneg hb.1]
    refine ⟨(byte s 0).toNat, by omega, ?_, ?_⟩
    · rw [hB, bytesI_one, Int.toNat_of_nonneg hb.1]; rfl
    · rw [hB, bytesI_one, ← ext_one (by omega)]
      exact ext_split s (by omega)
  rename_i h1
  rw [if_neg h1]
  split at h
  · cases h
  rename_i h2
  rw [if_neg h2]
  split at h
  · cases h
  rename_i h3
  rw [if_neg h3]
  have hv := refV_pos s (refK s)
  have h3' : numB (refV s (refK s)).toNat = s.extract 0 (refK s + 1) := by simpa using h3
  have hsz : (numB (refV s (refK s)).toNat).size = refK s + 1 := by rw [h3']; simp; omega
  refine ⟨(refV s (refK s)).toNat, by omega, ?_, ?_⟩
  · rw [hsz, Int.toNat_of_nonneg hv.1]
  · rw [hsz, h3']
    exact ext_split s (by omega)
/-! ### texts -/
def textB (t : ByteArray) : ByteArray := numB t.size ++ t
theorem ext_mid (a b c : ByteArray) : (a ++ (b ++ c)).extract a.size (a.size + b.size) = b := by
  apply ba_ext
  rw [ba_extract, ba_app, ba_app, ← ba_len, ← ba_len, ← List.append_assoc, List.take_left' (by rw [List.length_append]), List.drop_left' rfl]
theorem text_read {t : ByteArray} {most : Nat} (h : t.size ≤ most) (hm : most < 4611686018427387904) (rest : ByteArray) : textR (textB t ++ rest) most = (t, ((textB t).size : Int), 0) := by
  have hn := num_read (v := t.size) (by omega) (t ++ rest)
  have hT : textB t ++ rest = numB t.size ++ (t ++ rest) := by rw [textB, app_assoc]
  have hz : (textB t).size = (numB t.size).size + t.size := app_size _ _
  unfold textR
  rw [hT, hn]
  simp only [ne_eq, not_true_eq_false, if_false]
  rw [if_neg (by omega), if_neg (by rw [app_size, app_size]; omega)]
  rw [Int.toNat_natCast, show (((numB t.size).size : Int) + (t.size : Int)).toNat = (numB t.size).size + t.size by omega, ext_mid, hz]
  congr 2
theorem text_back {s : ByteArray} {most : Nat} (h : (textR s most).2.2 = 0) : ∃ t : ByteArray, t.size ≤ most ∧ textR s most = (t, ((textB t).size : Int), 0) ∧ s = textB t ++ s.extract (textB t).size s.size := by
  unfold textR at h ⊢
  split at h
  · rename_i h1; exact absurd h h1
  rename_i h1
  have h1 : (numR s).2.2 = 0 := by simpa using h1
  obtain ⟨v, hv, hn, hs⟩ := num_back h1
  rw [hn] at h ⊢
  simp only [ne_eq, not_true_eq_false, if_false] at h ⊢
  split at h
  · cases h
  rename_i h2
  rw [if_neg h2]
  split at h
  · cases h
  rename_i h3
  rw [if_neg h3]
  have hsz := congrArg ByteArray.size hs
  rw [app_size] at hsz
  obtain ⟨r, hr⟩ : ∃ r, r = s.extract (numB v).size s.size := ⟨_, rfl⟩
  rw [← hr] at hs hsz
  have hrv : v ≤ r.size := by omega
  have hr2 := ext_split r hrv
  obtain ⟨t, ht⟩ : ∃ t, t = r.extract 0 v := ⟨_, rfl⟩
  have htz : t.size = v := by rw [ht]; simp; omega
  have hT : textB t = numB v ++ t := by rw [textB, htz]
  have hTz : (textB t).size = (numB v).size + v := by rw [hT, app_size, htz]
  have hall : s = textB t ++ r.extract v r.size := by
    rw [hT, app_assoc, ht, ← hr2]; exact hs
  refine ⟨t, by omega, ?_, ?_⟩
  · rw [Int.toNat_natCast, show (((numB v).size : Int) + (v : Int)).toNat = (numB v).size + v by omega, hTz]
    have : s.extract (numB v).size ((numB v).size + v) = t := by
      have e := ext_mid (numB v) t (r.extract v r.size)
      rw [htz] at e
      rw [← e, ← app_assoc, ← hT, ← hall]
    rw [this]
    congr 2
  · have e := ext_right (textB t) (r.extract v r.size)
    rw [← hall] at e
    rw [e]
    exact hall
end Go.Proofs.YtkjljcgbnikmkaaGreatDoor
namespace Go.Proofs.YtkjljcgbnikmkaaGreatDoor
open Go.Chi

/-! ### what a sum is -/
theorem wrdN_congr {m m' : Nat → UInt8} {t : Nat} : ∀ {i : Nat}, (∀ x, x < 4 * t + i → m x = m' x) → wrdN m t i = wrdN m' t i
  | 0, _ => rfl
  | i + 1, h => by rw [wrdN, wrdN, wrdN_congr (fun x hx => h x (by omega)), h (4 * t + i) (by omega)]
theorem Wd_congr {x y : Nat → B32} (h : ∀ t, t < 16 → x t = y t) : ∀ t, Wd x t = Wd y t := by
  intro t
  induction t using Nat.strongRecOn with
  | _ t ih =>
    rw [Wd, Wd.eq_1 y]
    split
    · rename_i ht; exact h t ht
    · rename_i ht
      rw [ih (t - 16) (by omega), ih (t - 15) (by omega), ih (t - 7) (by omega), ih (t - 2) (by omega)]
theorem rnds_congr {K W W' : Nat → B32} (h : ∀ t, W t = W' t) (s : S8) : ∀ n, rnds K W n s = rnds K W' n s
  | 0 => rfl
  | n + 1 => by rw [rnds, rnds, rnds_congr h s n, h n]
theorem takeS_congr {m m' : Nat → UInt8} (s : S8) (h : ∀ i, i < 64 → m i = m' i) : takeS s m = takeS s m' := by
  unfold takeS
  rw [rnds_congr (Wd_congr (x := wrd m) (y := wrd m') fun t ht => wrdN_congr fun x hx => h x (by omega)) s 64]
def iv8 : S8 := ⟨0x6a09e667, 0xbb67ae85, 0x3c6ef372, 0xa54ff53a, 0x510e527f, 0x9b05688c, 0x1f83d9ab, 0x5be0cd19⟩
/-- the state behind k blocks of a message -/
def foldB (T : List UInt8) : Nat → S8
  | 0 => iv8
  | k + 1 => takeS (foldB T k) (fun i => T.getD (64 * k + i) 0)
theorem getD_app {T x : List UInt8} {i : Nat} (h : i < T.length) : (T ++ x).getD i 0 = T.getD i 0 := by
  rw [List.getD_eq_getElem?_getD, List.getD_eq_getElem?_getD, List.getElem?_append_left h]
theorem foldB_app (T x : List UInt8) : ∀ k, 64 * k ≤ T.length → foldB (T ++ x) k = foldB T k
  | 0, _ => rfl
  | k + 1, h => by
    rw [foldB, foldB, foldB_app T x k (by omega)]
    exact takeS_congr _ fun i hi => getD_app (by omega)
/-- what a hash holds when the first n bytes of T were written -/
structure ShOk (T : List UInt8) (s : S8) (m : Nat → UInt8) (n : Nat) : Prop where
  le : n ≤ T.length
  st : s = foldB T (n / 64)
  wait : ∀ i, i < n % 64 → m i = T.getD (64 * (n / 64) + i) 0
theorem ShOk.app {T : List UInt8} {s : S8} {m : Nat → UInt8} {n : Nat} (h : ShOk T s m n) (x : List UInt8) : ShOk (T ++ x) s m n := by
  have := h.le
  refine ⟨by rw [List.length_append]; omega, ?_, fun i hi => ?_⟩
  · rw [foldB_app T x _ (by omega)]; exact h.st
  · rw [getD_app (by omega)]; exact h.wait i hi
def putW (T : List UInt8) (n c : Nat) (m : Nat → UInt8) : Nat → UInt8 := fun i => if n % 64 ≤ i ∧ i < n % 64 + c then T.getD (64 * (n / 64) + i) 0 else m i
theorem ShOk.part {T : List UInt8} {s : S8} {m : Nat → UInt8} {n c : Nat} (h : ShOk T s m n) (hc : n + c ≤ T.length) (hlt : n % 64 + c < 64) : ShOk T s (putW T n c m) (n + c) := by
  have e1 : (n + c) / 64 = n / 64 := by omega
  have e2 : (n + c) % 64 = n % 64 + c := by omega
  refine ⟨hc, by rw [e1]; exact h.st, fun i hi => ?_⟩
  rw [e2] at hi
  rw [e1]
  unfold putW
  split
  · rfl
  · rename_i hn; exact h.wait i (by omega)
theorem ShOk.full {T : List UInt8} {s : S8} {m : Nat → UInt8} {n c : Nat} (h : ShOk T s m n) (hc : n + c ≤ T.length) (heq : n % 64 + c = 64) : ShOk T (takeS s (putW T n c m)) (putW T n c m) (n + c) := by
  have e1 : (n + c) / 64 = n / 64 + 1 := by omega
  have e2 : (n + c) % 64 = 0 := by omega
  refine ⟨hc, ?_, fun i hi => by rw [e2] at hi; exact absurd hi (Nat.not_lt_zero _)⟩
  rw [e1, foldB, h.st]
  refine takeS_congr _ fun i hi => ?_
  unfold putW
  split
  · rfl
  · rename_i hn; exact h.wait i (by omega)
/-- the bytes that are put into the block that waits -/
theorem sh_fill (s : S8) (m : Nat → UInt8) {n N c : Nat} {T l : List UInt8} (ha : n % 64 + c ≤ 64) (hl : l.length = c) (h : ∀ i, i < c → l[i]? = some (T.getD (64 * (n / 64) + (n % 64 + i)) 0)) :
    setSeg (shC s m N) (0 + 8 + n % 64 * 1) (bC l) = shC s (putW T n c m) N := by
  apply List.ext_getElem?
  intro j
  have hbl : (bC l).length = c := by rw [bC_len, hl]
  have hlen := sh_len s m N
  unfold setSeg
  rw [List.append_assoc, hbl]
  have e8 : 0 + 8 + n % 64 * 1 = 8 + n % 64 := by omega
  rw [e8]
  by_cases c1 : j < 8 + n % 64
  · rw [List.getElem?_append_left (by rw [List.length_take]; omega), List.getElem?_take, if_pos c1]
    by_cases c0 : j < 8
    · unfold shC
      rw [List.getElem?_append_left (by simpa [S8.cells] using c0), List.getElem?_append_left (by simpa [S8.cells] using c0)]
    · rw [sh_wait s m N (i := j - 8) (by omega) (by omega), sh_wait s _ N (i := j - 8) (by omega) (by omega)]
      unfold putW
      rw [if_neg (by omega)]
  · rw [List.getElem?_append_right (by rw [List.length_take]; omega), List.length_take, Nat.min_eq_left (by omega)]
    by_cases c2 : j < 8 + n % 64 + c
    · rw [List.getElem?_append_left (by omega), sh_wait s _ N (i := j - 8) (by omega) (by omega)]
      unfold bC putW
      rw [List.getElem?_map, h _ (by omega), if_pos (by omega), Option.map_some, show n % 64 + (j - (8 + n % 64)) = j - 8 by omega]
      rfl
    · rw [List.getElem?_append_right (by omega), hbl, List.getElem?_drop, show 8 + n % 64 + c + (j - (8 + n % 64) - c) = j by omega]
      by_cases c3 : j < 72
      · rw [sh_wait s m N (i := j - 8) (by omega) (by omega), sh_wait s _ N (i := j - 8) (by omega) (by omega)]
        unfold putW
        rw [if_neg (by omega)]
      · by_cases c4 : j = 72
        · subst c4; rw [sh_n, sh_n]
        · rw [List.getElem?_eq_none (by rw [sh_len]; omega), List.getElem?_eq_none (by rw [sh_len]; omega)]
/-! ### the padding -/
def lenB (n : Nat) : Nat → List UInt8
  | 0 => []
  | j + 1 => lenB n j ++ [UInt8.ofNat (IntKind.u8.wrap (ishr .u64 ((8 * n : Nat) : Int) ((56 - 8 * j : Nat) : Int))).toNat]
def padZ (n : Nat) : Nat := (119 - n % 64) % 64
def padL (T : List UInt8) : List UInt8 := T ++ ([128] ++ (List.replicate (padZ T.length) 0 ++ lenB T.length 8))
theorem lenB_length (n : Nat) : ∀ j, (lenB n j).length = j
  | 0 => rfl
  | j + 1 => by rw [lenB, List.length_append, lenB_length n j]; rfl
theorem padL_length (T : List UInt8) : (padL T).length % 64 = 0 := by
  unfold padL padZ
  simp only [List.length_append, List.length_replicate, lenB_length, List.length_cons, List.length_nil]
  omega
def wbI (v : B32) : List Int := [IntKind.u8.wrap (ishr .u32 (U v) 24), IntKind.u8.wrap (ishr .u32 (U v) 16), IntKind.u8.wrap (ishr .u32 (U v) 8), IntKind.u8.wrap (U v)]
def outI (s : S8) : Nat → List Int
  | 0 => []
  | j + 1 => outI s j ++ wbI (s.get j)
theorem outI_length (s : S8) : ∀ j, (outI s j).length = 4 * j
  | 0 => rfl
  | j + 1 => by rw [outI, List.length_append, outI_length s j]; show 4 * j + 4 = _; omega
def sumB (T : List UInt8) : ByteArray := bytesI (outI (foldB (padL T) ((padL T).length / 64)) 8)
theorem sumB_size (T : List UInt8) : (sumB T).size = 32 := by
  unfold sumB
  rw [← ba_len, bytesI_list, List.length_map, outI_length]
attribute [irreducible] sumB
end Go.Proofs.YtkjljcgbnikmkaaGreatDoor
namespace Go.Proofs.YtkjljcgbnikmkaaGreatDoor
open Go.Chi
set_option maxRecDepth 10000

/-! ### sha.New, Write, Copy -/
theorem ldE_all {T : TT} {t : TypeId} {cs : List Value} (ha : aggT T t = some true) (hi : sizeT T t = some cs.length) : ldE T t cs 0 = some (.agg ⟨cs⟩) := by
  have hs : segE cs 0 cs.length = some cs := by simp [segE]
  unfold ldE partL
  rw [ha]
  simp only [hi, hs]
theorem setE_all {cs cs' : List Value} (h : cs'.length = cs.length) : setE cs 0 cs' = some cs' := by
  rw [setE_of (by omega), setSeg_all h.symm]
set_option maxHeartbeats 4000000 in
theorem shNew_ok (M : Mem) (L : HL) : Tr Tryz.prog 92 [] M L (fun v M' L' => ∃ b, v = pt b ∧ M = M' ∧ L' = shB b iv8 (fun _ => 0) 0 :: L) := by
  refine Tr.intro 4 Tryz.func92 rfl rfl Tryz.call92 rfl ?_
  intro C hC hro
  repeat (first | with_reducible (first | refine zS ?_ | refine zR ?_ | refine zN ?_ | refine zK ?_ | refine zB ?_ | refine zI ?_) | refine zE rfl ?_ | refine wq ?_ | refine wg ?_ | refine ws ?_ | refine wb fun _ => ?_ | refine wa fun _ => ?_ | refine wl fun _ => ?_ | refine rq (Qt.as (v' := .agg ⟨iv8.cells⟩) (qt_buildArr tok rfl rfl rfl rfl rfl rfl) rfl) ?_)
  rename_i b
  exact run_ret hC (rs := [.tmp 0]) rfl (resT rfl resN) (fun _ h => h) ⟨b, rfl, rfl, rfl⟩
theorem shCopy_ok (M : Mem) (L : HL) (b : Nat) (s : S8) (m : Nat → UInt8) (n : Nat) : Tr Tryz.prog 121 [pt b] M (shB b s m n :: L) (fun v M' L' => ∃ c, v = pt c ∧ M = M' ∧ L' = shB c s m n :: shB b s m n :: L) := by
  refine Tr.intro 9 Tryz.func121 rfl rfl Tryz.call121 rfl ?_
  intro C hC hro
  repeat (first | with_reducible (first | refine zS ?_ | refine zR ?_ | refine zN ?_ | refine zK ?_ | refine zB ?_ | refine zI ?_) | refine zE rfl ?_ | refine wq ?_ | refine wg ?_ | refine ws ?_ | refine wb fun _ => ?_ | refine wa fun _ => ?_ | refine wl fun _ => ?_)
  refine run_cond rfl (fun h => by cases h) (fun _ => ?_)
  refine run_skip ?_
  repeat (first | with_reducible (first | refine zS ?_ | refine zR ?_ | refine zN ?_ | refine zK ?_ | refine zB ?_ | refine zI ?_) | refine zE rfl ?_ | refine wq ?_ | refine wg ?_ | refine ws ?_ | refine wb fun _ => ?_ | refine wa fun _ => ?_ | refine wl fun _ => ?_ | refine rq (qt_ld tok rfl (by (repeat (first | with_reducible apply List.mem_cons_self | with_reducible assumption | with_reducible apply List.mem_cons_of_mem | with_reducible apply List.mem_append_right))) (ldE_all rfl (by rw [sh_len]; rfl))) ?_ | refine ws ?_ rfl rfl rfl (sh_len s m n) (by exact rfl) (by (repeat (first | with_reducible apply Upd.here | with_reducible apply Upd.there | with_reducible apply Upd.append_left))) (setE_all (sh_len s m n)))
  rename_i c
  exact run_ret hC (rs := [.tmp 2]) rfl (resT rfl resN) (fun _ h => h) ⟨c, rfl, rfl, rfl⟩
theorem tmod64 (n : Nat) : ((n : Int)).tmod 64 = ((n % 64 : Nat) : Int) := by
  rw [Int.tmod_eq_emod_of_nonneg (by omega)]; omega
theorem sh_ldn {s : S8} {m : Nat → UInt8} {n : Nat} : ldE tt 3 (shC s m n) (0 + 72) = some (iv n) := ldE_at rfl (sh_n s m n)
theorem sh_stn {s : S8} {m : Nat → UInt8} {n : Nat} {z : Int} (n' : Nat) (hz : z = (n' : Int)) : setE (shC s m n) (0 + 72) (cellsL (.int .i64 z)) = some (shC s m n') := by
  subst hz
  rw [setE_of (by rw [sh_len]; show 0 + 72 + 1 ≤ 73; omega)]
  show some (setSeg (shC s m n) 72 [iv n']) = _
  rw [setSeg_one (by rw [sh_len]; omega)]
  unfold shC
  rw [List.set_append_right _ _ (by simp [S8.cells]), List.set_append_right _ _ (by rw [fc_len]; simp [S8.cells])]
  simp [S8.cells, fc_len]
set_option maxHeartbeats 8000000 in
theorem shWrite_ok (M : Mem) (L : HL) (b : Nat) (s : S8) (m : Nat → UInt8) (n : Nat) (T : List UInt8) (t : ByteArray) (hk : KM M) (hok : ShOk T s m n) (hn : n = T.length) (hsz : n + t.size < 4611686018427387904) :
    Tr Tryz.prog 93 [pt b, .string t] M (shB b s m n :: L) (fun _ M' L' => M = M' ∧ ∃ s' m', L' = shB b s' m' (n + t.size) :: L ∧ ShOk (T ++ t.data.toList) s' m' (n + t.size)) := by
  have hlen : t.data.toList.length = t.size := ba_len t
  refine Tr.intro 42 Tryz.func93 rfl rfl Tryz.call93 rfl ?_
  intro C hC hro
  repeat (first | with_reducible (first | refine zS ?_ | refine zR ?_ | refine zN ?_ | refine zK ?_ | refine zB ?_ | refine zI ?_) | refine zE rfl ?_ | refine wq ?_ | refine wg ?_ | refine ws ?_ | refine wb fun _ => ?_ | refine wa fun _ => ?_ | refine wl fun _ => ?_)
  refine run_cond rfl (fun h => by cases h) (fun _ => ?_)
  refine run_skip ?_
  repeat (first | with_reducible (first | refine zS ?_ | refine zR ?_ | refine zN ?_ | refine zK ?_ | refine zB ?_ | refine zI ?_) | refine zE rfl ?_ | refine wq ?_ | refine wg ?_ | refine ws ?_ | refine wb fun _ => ?_ | refine wa fun _ => ?_ | refine wl fun _ => ?_)
  refine run_loopN (fun j σ1 M1 L1 => j ≤ t.size ∧ M = M1 ∧ ∃ (q : Nat) (u : ByteArray) (s' : S8) (m' : Nat → UInt8), j ≤ q ∧ q ≤ t.size ∧ u.data.toList = t.data.toList.drop q ∧ ShOk (T ++ t.data.toList) s' m' (n + q) ∧ L1 = shB b s' m' (n + q) :: L ∧ σ1 = [(1, .string u), (0, pt b)]) t.size [(1, .string t), (0, pt b)] ?_ ⟨Nat.zero_le _, rfl, 0, t, s, m, Nat.le_refl _, Nat.zero_le _, rfl, hok.app _, rfl, rfl⟩ (fun j _ _ _ h => h.1) ?_
  · exact ⟨rfl, rfl, trivial⟩
  rintro j _ _ _ ⟨hj, rfl, q, u, s', m', hjq, hq, hu, hok', rfl, rfl⟩ hnext
  have hus : u.size = t.size - q := by rw [← ba_len u, hu, List.length_drop, hlen]
  refine run_seq ?_
  refine run_seq ?_
  (refine run_region ?_; (repeat (first | refine wq ?_ | refine wg ?_ | refine ws ?_ | refine wb fun _ => ?_ | refine wa fun _ => ?_ | refine wl fun _ => ?_)); refine runL_nil ?_)
  refine run_cond (t := !(u.toList == (⟨#[]⟩ : ByteArray).toList)) rfl (fun h => ?_) (fun h => ?_)
  · rw [empty_beq] at h
    have hne : u.size ≠ 0 := by simpa using h
    generalize hc : min u.size (64 - (n + q) % 64) = c
    have hc1 : 1 ≤ c := by omega
    refine run_skip ?_
    refine run_block ?_
    refine run_seq ?_
    refine run_region ?_
    repeat (first | refine wq ?_ | refine wg ?_)
    refine rq (Qt.as (v' := iv ((n + q) % 64)) (qt_rem rfl rfl (fun _ => by decide)) (congrArg (Value.int .i64) (tmod64 _))) ?_
    repeat (first | with_reducible (first | refine zS ?_ | refine zR ?_ | refine zN ?_ | refine zK ?_ | refine zB ?_ | refine zI ?_) | refine zE rfl ?_ | refine wq ?_ | refine wg ?_ | refine ws ?_ | refine wb fun _ => ?_ | refine wa fun _ => ?_ | refine wl fun _ => ?_)
    refine rq (qt_sliceArr tok rfl rfl rfl rfl (fun _ => by omega)) ?_
    repeat (first | refine wq ?_ | refine wg ?_ | refine ws ?_ | refine wb fun _ => ?_ | refine wa fun _ => ?_ | refine wl fun _ => ?_)
    have hfill := sh_fill s' m' (n := n + q) (N := n + q) (c := c) (T := T ++ t.data.toList) (l := u.data.toList.take (min u.size (64 - (n + q) % 64))) (by omega) (by rw [List.length_take, ba_len, hc]; omega) (fun i hi => by
      rw [hc, List.getElem?_take, if_pos hi, hu, List.getElem?_drop]
      have e1 : 64 * ((n + q) / 64) + ((n + q) % 64 + i) = T.length + (q + i) := by omega
      rw [e1, List.getD_eq_getElem?_getD, List.getElem?_append_right (by omega), show T.length + (q + i) - T.length = q + i by omega]
      have hlt : q + i < t.data.toList.length := by omega
      rw [List.getElem?_eq_getElem hlt]; rfl)
    refine ro (st_copyStr (cs := shC s' m' (n + q)) tok rfl rfl rfl rfl (by rw [sh_len]; omega) (by (repeat (first | with_reducible apply Upd.here | with_reducible apply Upd.there | with_reducible apply Upd.append_left)))) ?_
    rintro _ _ _ ⟨rfl, rfl, rfl⟩
    rw [hfill, hc]
    repeat (first | with_reducible (first | refine zS ?_ | refine zR ?_ | refine zN ?_ | refine zK ?_ | refine zB ?_ | refine zI ?_) | refine zE rfl ?_ | refine wq ?_ | refine wg ?_ | refine ws ?_ | refine wb fun _ => ?_ | refine wa fun _ => ?_ | refine wl fun _ => ?_)
    refine prn_start mixed ?_
    repeat (first | refine dq ?_ | refine dg ?_)
    refine pq rfl (qt_strLo (n := c) tok rfl rfl rfl (fun _ => by omega)) ?_
    repeat (first | refine dq ?_ | refine dg ?_)
    have hw : IntKind.i64.wrap (((n + q : Nat) : Int) + (c : Int)) = ((n + q + c : Nat) : Int) := by
      have : ((n + q : Nat) : Int) + (c : Int) = ((n + q + c : Nat) : Int) := by omega
      rw [this]; exact wrap64_nat (by omega)
    refine po rfl (qt_pev tok rfl) ?_
    rintro _ _ _ ⟨rfl, rfl, rfl⟩
    refine ⟨by (repeat (first | exact trivial | refine And.intro (pend_q rfl rfl rfl (qt_pev tok rfl)) ?_ | refine And.intro (pend_q rfl rfl rfl (ql tok rfl)) ?_)), ?_⟩
    repeat (first | refine dq ?_ | refine dg ?_)
    refine prn_o0 rfl (sst tok rfl rfl rfl rfl rfl (by (repeat (first | with_reducible apply Upd.here | with_reducible apply Upd.there | with_reducible apply Upd.append_left))) (sh_stn (n + q + c) hw)) (by decide +kernel) ?_
    rintro _ _ _ ⟨rfl, rfl, rfl⟩
    refine ⟨by (repeat (first | exact trivial | refine And.intro (pend_q rfl rfl rfl (qt_pev tok rfl)) ?_ | refine And.intro (pend_q rfl rfl rfl (ql tok rfl)) ?_ | refine And.intro (pend_q rfl rfl rfl (qt_strLo (n := c) tok rfl rfl rfl (fun _ => by omega))) ?_)), ?_⟩
    refine prn_end (by decide +kernel) ?_
    refine run_seq ?_
    refine run_region ?_
    repeat (first | refine wq ?_ | refine wg ?_)
    refine rq (Qt.as (v' := iv ((n + q + c) % 64)) (qt_rem rfl rfl (fun _ => by decide)) (congrArg (Value.int .i64) (tmod64 _))) ?_
    repeat (first | with_reducible (first | refine zS ?_ | refine zR ?_ | refine zN ?_ | refine zK ?_ | refine zB ?_ | refine zI ?_) | refine zE rfl ?_ | refine wq ?_ | refine wg ?_ | refine ws ?_ | refine wb fun _ => ?_ | refine wa fun _ => ?_ | refine wl fun _ => ?_)
    have hue : (u.extract c u.size).data.toList = t.data.toList.drop (q + c) := by
      rw [ba_extract, List.take_of_length_le (by rw [ba_len]; omega), hu, List.drop_drop]
    have hle := hok'.le
    rw [List.length_append, hlen] at hle
    have hTl : (T ++ t.data.toList).length = n + t.size := by rw [List.length_append, hlen, hn]
    refine run_cond rfl (fun h2 => ?_) (fun h2 => ?_)
    · have h0 : (n + q + c) % 64 = 0 := by simp at h2; omega
      repeat (first | with_reducible (first | refine zS ?_ | refine zR ?_ | refine zN ?_ | refine zK ?_ | refine zB ?_ | refine zI ?_) | refine zE rfl ?_ | refine wq ?_ | refine wg ?_ | refine ws ?_ | refine wb fun _ => ?_ | refine wa fun _ => ?_ | refine wl fun _ => ?_ | refine ro (st_callF rfl (fun _ => take_ok _ _ b _ _ _ hk)) ?_; rintro _ _ _ ⟨rfl, rfl⟩)
      refine run_sub' (hnext _ _ _ ⟨by omega, rfl, q + c, u.extract c u.size, _, _, by omega, by omega, hue, ?_, by rw [← Nat.add_assoc], rfl⟩) ⟨rfl, rfl, trivial⟩
      rw [← Nat.add_assoc]
      exact hok'.full (by rw [hTl]; omega) (by omega)
    · have h0 : (n + q + c) % 64 ≠ 0 := by simp at h2; omega
      repeat (first | with_reducible (first | refine zS ?_ | refine zR ?_ | refine zN ?_ | refine zK ?_ | refine zB ?_ | refine zI ?_) | refine zE rfl ?_ | refine wq ?_ | refine wg ?_ | refine ws ?_ | refine wb fun _ => ?_ | refine wa fun _ => ?_ | refine wl fun _ => ?_)
      refine run_sub' (hnext _ _ _ ⟨by omega, rfl, q + c, u.extract c u.size, _, _, by omega, by omega, hue, ?_, by rw [← Nat.add_assoc], rfl⟩) ⟨rfl, rfl, trivial⟩
      rw [← Nat.add_assoc]
      exact hok'.part (by rw [hTl]; omega) (by omega)
  · rw [empty_beq] at h
    have hne : u.size = 0 := by simpa using h
    have hqt : q = t.size := by omega
    subst hqt
    repeat (first | with_reducible (first | refine zS ?_ | refine zR ?_ | refine zN ?_ | refine zK ?_ | refine zB ?_ | refine zI ?_) | refine zE rfl ?_ | refine wq ?_ | refine wg ?_ | refine ws ?_ | refine wb fun _ => ?_ | refine wa fun _ => ?_ | refine wl fun _ => ?_)
    exact run_end hC rfl (vs := []) trivial (fun _ h => h) ⟨rfl, s', m', rfl, hok'⟩
end Go.Proofs.YtkjljcgbnikmkaaGreatDoor
namespace Go.Proofs.YtkjljcgbnikmkaaGreatDoor
open Go.Chi
set_option maxRecDepth 10000

/-! ### the sum of a hash -/
theorem hex80 : (⟨#[128]⟩ : ByteArray).data.toList = [128] := rfl
theorem hex00 : (⟨#[0]⟩ : ByteArray).data.toList = [0] := rfl
theorem rep_snoc {α : Type} (x : α) (j : Nat) : List.replicate (j + 1) x = List.replicate j x ++ [x] := List.replicate_succ'
theorem pt_ne (b : Nat) : True := trivial
set_option maxHeartbeats 16000000 in
theorem shSum_ok (M : Mem) (L : HL) (b : Nat) (s : S8) (m : Nat → UInt8) (n : Nat) (T : List UInt8) (hk : KM M) (hok : ShOk T s m n) (hn : n = T.length) (hsz : n < 1000000000000) :
    Tr Tryz.prog 94 [pt b] M (shB b s m n :: L) (fun v M' L' => v = .string (sumB T) ∧ M = M' ∧ L' = shB b s m n :: L) := by
  refine Tr.intro 66 Tryz.func94 rfl rfl Tryz.call94 rfl ?_
  intro C hC hro
  repeat (first | with_reducible (first | refine zS ?_ | refine zR ?_ | refine zN ?_ | refine zK ?_ | refine zB ?_ | refine zI ?_) | refine zE rfl ?_ | refine wq ?_ | refine wg ?_ | refine ws ?_ | refine wb fun _ => ?_ | refine wa fun _ => ?_ | refine wl fun _ => ?_)
  refine run_cond rfl (fun h => by cases h) (fun _ => ?_)
  refine run_skip ?_
  repeat (first | with_reducible (first | refine zS ?_ | refine zR ?_ | refine zN ?_ | refine zK ?_ | refine zB ?_ | refine zI ?_) | refine zE rfl ?_ | refine wq ?_ | refine wg ?_ | refine ws ?_ | refine wb fun _ => ?_ | refine wa fun _ => ?_ | refine wl fun _ => ?_ | refine ro (st_callF rfl (fun _ => shCopy_ok _ _ b s m n)) ?_; rintro _ _ _ ⟨c, rfl, rfl, rfl⟩)
  rename_i c
  refine ro (st_callF rfl (fun _ => shWrite_ok _ _ c s m n T ⟨#[128]⟩ hk hok hn (by show n + 1 < _; omega))) ?_
  rintro _ _ _ ⟨rfl, s1, m1, rfl, hok1⟩
  rw [hex80] at hok1
  repeat (first | with_reducible (first | refine zS ?_ | refine zR ?_ | refine zN ?_ | refine zK ?_ | refine zB ?_ | refine zI ?_) | refine zE rfl ?_ | refine wq ?_ | refine wg ?_ | refine ws ?_ | refine wb fun _ => ?_ | refine wa fun _ => ?_ | refine wl fun _ => ?_)
  refine run_loopN (fun j σ1 M1 L1 => j ≤ padZ n ∧ M = M1 ∧ ∃ s' m', ShOk (T ++ ([128] ++ List.replicate j 0)) s' m' (n + 1 + j) ∧ L1 = shB c s' m' (n + 1 + j) :: shB b s m n :: L ∧ σ1 = [(3, pt c), (0, pt b)]) (padZ n) [(3, pt c), (0, pt b)] ?_ ⟨Nat.zero_le _, rfl, s1, m1, hok1, rfl, rfl⟩ (fun j _ _ _ h => h.1) ?_
  · exact ⟨rfl, rfl, trivial⟩
  rintro j _ _ _ ⟨hj, rfl, s2, m2, hok2, rfl, rfl⟩ hnext
  have hpz : padZ n ≤ 63 ∧ (n + 1 + padZ n) % 64 = 56 ∧ (j < padZ n → (n + 1 + j) % 64 ≠ 56) := by unfold padZ at hj ⊢; omega
  refine run_seq ?_
  refine run_seq ?_
  refine run_region ?_
  repeat (first | refine wq ?_ | refine wg ?_)
  refine rq (Qt.as (v' := iv ((n + 1 + j) % 64)) (qt_rem rfl rfl (fun _ => by decide)) (congrArg (Value.int .i64) (tmod64 _))) ?_
  repeat (first | refine wq ?_ | refine wg ?_)
  refine runL_nil ?_
  refine run_cond rfl (fun h => ?_) (fun h => ?_)
  · have hne : (n + 1 + j) % 64 ≠ 56 := by simp at h; omega
    have hlt : j < padZ n := by
      refine Nat.lt_of_le_of_ne hj (fun e => ?_)
      rw [e] at hne; exact hne hpz.2.1
    repeat (first | with_reducible (first | refine zS ?_ | refine zR ?_ | refine zN ?_ | refine zK ?_ | refine zB ?_ | refine zI ?_) | refine zE rfl ?_ | refine wq ?_ | refine wg ?_ | refine ws ?_ | refine wb fun _ => ?_ | refine wa fun _ => ?_ | refine wl fun _ => ?_ | refine ro (st_callF rfl (fun _ => shWrite_ok _ _ c s2 m2 (n + 1 + j) _ ⟨#[0]⟩ hk hok2 (by simp [hn]; omega) (by show n + 1 + j + 1 < _; omega))) ?_; rintro _ _ _ ⟨rfl, s3, m3, rfl, hok3⟩)
    refine run_sub' (hnext _ _ _ ⟨hlt, rfl, _, _, ?_, rfl, rfl⟩) ⟨rfl, rfl, trivial⟩
    rw [hex00] at hok3
    rw [rep_snoc, ← List.append_assoc, ← List.append_assoc]
    rw [← List.append_assoc] at hok3
    exact hok3
  have hje : j = padZ n := by
    have : (n + 1 + j) % 64 = 56 := by simp at h; omega
    by_cases hlt : j < padZ n
    · exact absurd this (hpz.2.2 hlt)
    · omega
  subst hje
  clear hnext
  repeat (first | with_reducible (first | refine zS ?_ | refine zR ?_ | refine zN ?_ | refine zK ?_ | refine zB ?_ | refine zI ?_) | refine zE rfl ?_ | refine wq ?_ | refine wg ?_ | refine ws ?_ | refine wb fun _ => ?_ | refine wa fun _ => ?_ | refine wl fun _ => ?_)
  refine rq (qt_shl rfl rfl (fun _ => by decide)) ?_
  have hlong : ishl .u64 (IntKind.u64.wrap (n : Int)) 3 = ((8 * n : Nat) : Int) := by
    have e : IntKind.u64.wrap (n : Int) = (n : Int) := by rw [u64_wrap]; omega
    rw [e]
    show IntKind.u64.wrap ((n : Int) * 2 ^ 3) = _
    rw [u64_wrap]; omega
  refine runL_as 28 (.int .u64 ((8 * n : Nat) : Int)) rfl (congrArg (Value.int .u64) hlong) ?_
  repeat (first | with_reducible (first | refine zS ?_ | refine zR ?_ | refine zN ?_ | refine zK ?_ | refine zB ?_ | refine zI ?_) | refine zE rfl ?_ | refine wq ?_ | refine wg ?_ | refine ws ?_ | refine wb fun _ => ?_ | refine wa fun _ => ?_ | refine wl fun _ => ?_)
  refine run_loopN (fun j σ1 M1 L1 => j ≤ 8 ∧ M = M1 ∧ ∃ s' m', ShOk (T ++ ([128] ++ (List.replicate (padZ n) 0 ++ lenB n j))) s' m' (n + 1 + padZ n + j) ∧ L1 = shB c s' m' (n + 1 + padZ n + j) :: shB b s m n :: L ∧ σ1 = [(5, .int .i64 (56 - 8 * (j : Int))), (4, .int .u64 ((8 * n : Nat) : Int)), (3, pt c), (0, pt b)]) 8 [(5, .int .i64 56), (4, .int .u64 ((8 * n : Nat) : Int)), (3, pt c), (0, pt b)] ?_ ⟨Nat.zero_le _, rfl, s2, m2, by simpa [lenB] using hok2, rfl, rfl⟩ (fun j _ _ _ h => h.1) ?_
  · exact ⟨rfl, rfl, rfl, rfl, trivial⟩
  rintro j _ _ _ ⟨hj, rfl, s4, m4, hok4, rfl, rfl⟩ hnext
  refine run_seq ?_
  refine run_seq ?_
  (refine run_region ?_; (repeat (first | refine wq ?_ | refine wg ?_ | refine ws ?_ | refine wb fun _ => ?_ | refine wa fun _ => ?_ | refine wl fun _ => ?_)); refine runL_nil ?_)
  refine run_cond rfl (fun h => ?_) (fun h => ?_)
  · have hlt : j < 8 := by simp at h; omega
    refine run_skip ?_
    repeat (first | with_reducible (first | refine zS ?_ | refine zR ?_ | refine zN ?_ | refine zK ?_ | refine zB ?_ | refine zI ?_) | refine zE rfl ?_ | refine wq ?_ | refine wg ?_ | refine ws ?_ | refine wb fun _ => ?_ | refine wa fun _ => ?_ | refine wl fun _ => ?_ | refine rq (qt_shr rfl rfl (fun _ => by omega)) ?_)
    rename_i b4
    refine rq (qt_bytesStr tok [IntKind.u8.wrap (ishr .u64 ((8 * n : Nat) : Int) (56 - 8 * (j : Int)))] rfl rfl rfl rfl (cellsAll List.mem_cons_self) rfl) ?_
    refine runL_mem (fun _ h => h.drop) ?_
    refine ro (st_callF rfl (fun _ => shWrite_ok _ _ c s4 m4 (n + 1 + padZ n + j) _ _ hk hok4 (by simp [hn, lenB_length]; omega) (by show n + 1 + padZ n + j + 1 < _; omega))) ?_
    rintro _ _ _ ⟨rfl, s5, m5, rfl, hok5⟩
    repeat (first | with_reducible (first | refine zS ?_ | refine zR ?_ | refine zN ?_ | refine zK ?_ | refine zB ?_ | refine zI ?_) | refine zE rfl ?_ | refine wq ?_ | refine wg ?_ | refine ws ?_ | refine wb fun _ => ?_ | refine wa fun _ => ?_ | refine wl fun _ => ?_)
    refine run_as 5 (.int .i64 (56 - 8 * ((j + 1 : Nat) : Int))) rfl (congrArg (Value.int .i64) ?_) ?_
    · rw [IntWalk.i64_in _ (by omega)]; omega
    refine run_sub' (hnext _ _ _ ⟨hlt, rfl, _, _, ?_, rfl, rfl⟩) ⟨rfl, rfl, rfl, rfl, trivial⟩
    have e56 : (56 - 8 * (j : Int)) = ((56 - 8 * j : Nat) : Int) := by omega
    rw [bytesI_list, e56] at hok5
    rw [lenB, ← List.append_assoc, ← List.append_assoc, ← List.append_assoc]
    rw [← List.append_assoc, ← List.append_assoc] at hok5
    exact hok5
  have hj8 : j = 8 := by simp at h; omega
  subst hj8
  clear hnext hok1 hok2
  have hpad : T ++ ([128] ++ (List.replicate (padZ n) 0 ++ lenB n 8)) = padL T := by rw [hn]; rfl
  rw [hpad] at hok4
  have hplen : (padL T).length = n + 1 + padZ n + 8 := by
    rw [← hpad]; simp [lenB_length, hn]; omega
  have hst : s4 = foldB (padL T) ((padL T).length / 64) := by rw [hplen]; exact hok4.st
  repeat (first | with_reducible (first | refine zS ?_ | refine zR ?_ | refine zN ?_ | refine zK ?_ | refine zB ?_ | refine zI ?_) | refine zE rfl ?_ | refine wq ?_ | refine wg ?_ | refine ws ?_ | refine wb fun _ => ?_ | refine wa fun _ => ?_ | refine wl fun _ => ?_)
  refine ro (st_makeRoom (n := 32) tok rfl rfl rfl rfl rfl rfl rfl (by decide) (by decide)) ?_
  rintro v _ _ ⟨N, rfl, rfl, hO⟩
  repeat (first | with_reducible (first | refine zS ?_ | refine zR ?_ | refine zN ?_ | refine zK ?_ | refine zB ?_ | refine zI ?_) | refine zE rfl ?_ | refine wq ?_ | refine wg ?_ | refine ws ?_ | refine wb fun _ => ?_ | refine wa fun _ => ?_ | refine wl fun _ => ?_)
  refine run_loopN (fun j σ1 M1 L1 => j ≤ 8 ∧ M = M1 ∧ ∃ v N, OS 5 1 v (4 * j) ((outI s4 j).map (Value.int .u8)) N ∧ L1 = N ++ (shB c s4 m4 (n + 1 + padZ n + 8) :: shB b s m n :: L) ∧ σ1 = [(46, iv j), (45, .agg ⟨s4.cells⟩), (6, v)]) 8 [(46, iv 0), (45, .agg ⟨s4.cells⟩), (6, v)] ?_ ⟨Nat.zero_le _, rfl, v, N, hO, rfl, rfl⟩ (fun j _ _ _ h => h.1) ?_
  · exact ⟨rfl, rfl, rfl, trivial⟩
  rintro j _ _ _ ⟨hj, rfl, v, N, hO, rfl, rfl⟩ hnext
  repeat (first | with_reducible (first | refine zS ?_ | refine zR ?_ | refine zN ?_ | refine zK ?_ | refine zB ?_ | refine zI ?_) | refine zE rfl ?_ | refine wq ?_ | refine wg ?_ | refine ws ?_ | refine wb fun _ => ?_ | refine wa fun _ => ?_ | refine wl fun _ => ?_)
  refine run_cond rfl (fun h => ?_) (fun h => ?_)
  · have hlt : j < 8 := by simp at h; omega
    repeat (first | with_reducible (first | refine zS ?_ | refine zR ?_ | refine zN ?_ | refine zK ?_ | refine zB ?_ | refine zI ?_) | refine zE rfl ?_ | refine wq ?_ | refine wg ?_ | refine ws ?_ | refine wb fun _ => ?_ | refine wa fun _ => ?_ | refine wl fun _ => ?_)
    refine rq (qt_indexV (v := wU (s4.get j)) tok rfl rfl rfl rfl (fun _ => ⟨hlt, ldE_at rfl (by show s4.cells[j]? = _; rw [S8.cells_fc]; exact fc_get hlt)⟩)) ?_
    repeat (first | with_reducible (first | refine zS ?_ | refine zR ?_ | refine zN ?_ | refine zK ?_ | refine zB ?_ | refine zI ?_) | refine zE rfl ?_ | refine wq ?_ | refine wg ?_ | refine ws ?_ | refine wb fun _ => ?_ | refine wa fun _ => ?_ | refine wl fun _ => ?_ | refine rq (qt_shr rfl rfl (fun _ => by decide)) ?_)
    rename_i b5
    refine ro (st_append (N := N) (L0 := _ :: (shB c s4 m4 (n + 1 + padZ n + 8) :: shB b s m n :: L)) tok rfl rfl rfl rfl rfl rfl rfl rfl (pm1 _ N _) hO (.inr ⟨b5, 0, 4, rfl, cellsAll List.mem_cons_self, rfl⟩) (by intro u hu; exact oneL_ok (vs := _) (by rfl) u hu) (by omega) (by omega)) ?_
    rintro v' _ _ ⟨N', rfl, rfl, hO'⟩
    refine runL_mem (fun _ h => (h.perm (List.perm_middle)).drop) ?_
    repeat (first | with_reducible (first | refine zS ?_ | refine zR ?_ | refine zN ?_ | refine zK ?_ | refine zB ?_ | refine zI ?_) | refine zE rfl ?_ | refine wq ?_ | refine wg ?_ | refine ws ?_ | refine wb fun _ => ?_ | refine wa fun _ => ?_ | refine wl fun _ => ?_)
    refine run_sub' (hnext _ _ _ ⟨hlt, rfl, v', N', ?_, rfl, rfl⟩) ⟨lk_succ rfl (by omega), rfl, rfl, trivial⟩
    rw [outI, List.map_append]
    exact hO'
  have hj8 : j = 8 := by simp at h; omega
  subst hj8
  rcases hO with ⟨_, h0, _, _⟩ | ⟨bo, cap, cs, rfl, rfl, hcap, hcl, htk⟩
  · omega
  have hcells : ∀ Lx : HL, (bo, Obj.cells ⟨cs⟩ 5 (0, 0)) ∈ Lx → Cells M Lx bo 0 ((outI s4 8).map (Value.int .u8)) := fun Lx hm => ⟨⟨cs⟩, _, _, .inl hm, fun i u hu => by
    rw [← htk, List.getElem?_take] at hu
    split at hu
    · simpa using hu
    · cases hu⟩
  repeat (first | with_reducible (first | refine zS ?_ | refine zR ?_ | refine zN ?_ | refine zK ?_ | refine zB ?_ | refine zI ?_) | refine zE rfl ?_ | refine wq ?_ | refine wg ?_ | refine ws ?_ | refine wb fun _ => ?_ | refine wa fun _ => ?_ | refine wl fun _ => ?_ | refine rq (qt_bytesStr tok (outI s4 8) rfl rfl rfl rfl (hcells _ List.mem_cons_self) (outI_length s4 8)) ?_)
  refine run_ret hC (rs := [.tmp 2]) rfl (resT rfl resN) (fun _ h => h.drop.drop) ⟨?_, rfl, rfl⟩
  show Value.string (bytesI (outI s4 8)) = _
  rw [hst, sumB]
end Go.Proofs.YtkjljcgbnikmkaaGreatDoor
namespace Go.Proofs.YtkjljcgbnikmkaaGreatDoor
open Go.Chi
set_option maxRecDepth 10000

theorem take_snoc {α : Type} {l : List α} {j : Nat} {x : α} (h : l[j]? = some x) : l.take (j + 1) = l.take j ++ [x] := by rw [List.take_add_one, h]; rfl
theorem any_snoc {α : Type} {xs : List α} {j : Nat} {x : α} (p : α → Bool) (hx : xs[j]? = some x) (hp : (xs.take j).any p = false) : (xs.take (j + 1)).any p = p x := by rw [take_snoc hx, List.any_append, hp]; simp
theorem any_true {α : Type} {xs : List α} {j : Nat} {x : α} (p : α → Bool) (hx : xs[j]? = some x) (hp : p x = true) : xs.any p = true := List.any_eq_true.2 ⟨x, List.mem_of_getElem? hx, hp⟩
theorem SMb.at_ {M : Mem} {a : Option Addr} {len : Nat} {xs : List Mb} (h : SlM M 2 a len (xs.map mbC)) {j : Nat} (hj : j < len) : ∃ b off m, a = some ⟨b, off, none⟩ ∧ xs[j]? = some m ∧ Cells M [] b (off + j * 2) (mbC m) := by
  obtain ⟨b, off, c, ha, hc, _, hcells⟩ := h.at_ hj
  obtain ⟨m, hm, rfl⟩ : ∃ m, xs[j]? = some m ∧ mbC m = c := by simpa using hc
  exact ⟨b, off, m, ha, hm, hcells⟩
def stC (x : ByteArray) : List Value := [.string x]
theorem SStr.at_ {M : Mem} {a : Option Addr} {len : Nat} {xs : List ByteArray} (h : SlM M 1 a len (xs.map stC)) {j : Nat} (hj : j < len) : ∃ b off m, a = some ⟨b, off, none⟩ ∧ xs[j]? = some m ∧ Cells M [] b (off + j * 1) (stC m) := by
  obtain ⟨b, off, c, ha, hc, _, hcells⟩ := h.at_ hj
  obtain ⟨m, hm, rfl⟩ : ∃ m, xs[j]? = some m ∧ stC m = c := by simpa using hc
  exact ⟨b, off, m, ha, hm, hcells⟩
def MbOk (M : Mem) (s : SMb) : Prop := s.Ok M ∧ s.len < 1000000
def StOk (M : Mem) (s : SStr) : Prop := s.Ok M ∧ s.len < 1000000
theorem MbOk.le {M M' : Mem} {s : SMb} (hm : M.le M') (h : MbOk M s) : MbOk M' s := ⟨h.1.le hm, h.2⟩
theorem StOk.le {M M' : Mem} {s : SStr} (hm : M.le M') (h : StOk M s) : StOk M' s := ⟨h.1.le hm, h.2⟩
theorem MbOk.nil (M : Mem) : MbOk M ⟨none, 0, 0, []⟩ := ⟨SlM.nil _ _ _, by decide⟩
theorem StOk.nil (M : Mem) : StOk M ⟨none, 0, 0, []⟩ := ⟨SlM.nil _ _ _, by decide⟩
theorem MbOk.len {M : Mem} {s : SMb} (h : MbOk M s) : s.xs.length = s.len := by have := h.1.1; simpa using this
theorem StOk.len {M : Mem} {s : SStr} (h : StOk M s) : s.xs.length = s.len := by have := h.1.1; simpa using this

/-! ### names that may be -/
def orgW (n : Int) : Bool := decide (n ≥ 0) && decide (n < 8)
theorem worg_ok (M : Mem) (L : HL) (n : Int) : TrQ Tryz.prog 117 [.int .i64 n] M L (.bool (orgW n)) := by
  refine Tr.intro 9 Tryz.func117 rfl rfl Tryz.call117 rfl ?_
  intro C hC hro
  repeat (first | with_reducible (first | refine zS ?_ | refine zR ?_ | refine zN ?_ | refine zK ?_ | refine zB ?_ | refine zI ?_) | refine zE rfl ?_ | refine wq ?_ | refine wg ?_ | refine ws ?_ | refine wb fun _ => ?_ | refine wa fun _ => ?_ | refine wl fun _ => ?_)
  exact run_ret hC (rs := [.tmp 2]) rfl (resT rfl resN) (fun _ h => h) ⟨rfl, rfl, rfl⟩
def mayTx (t : Tx) : Bool := (((orgW t.coord && decide (t.epoch ≥ 1)) && decide (t.epoch ≤ 255)) && decide (t.seq ≥ 1)) && decide (t.seq ≤ 65535)
theorem mayTx_ok (M : Mem) (L : HL) (t : Tx) : TrQ Tryz.prog 85 [.agg ⟨txC t⟩] M L (.bool (mayTx t)) := by
  refine Tr.intro 26 Tryz.func85 rfl rfl Tryz.call85 rfl ?_
  intro C hC hro
  repeat (first | with_reducible (first | refine zS ?_ | refine zR ?_ | refine zN ?_ | refine zK ?_ | refine zB ?_ | refine zI ?_) | refine zE rfl ?_ | refine wq ?_ | refine wg ?_ | refine ws ?_ | refine wb fun _ => ?_ | refine wa fun _ => ?_ | refine wl fun _ => ?_ | refine runL_q (qt_callF rfl (fun _ => worg_ok _ _ _)) rfl rfl rfl ?_)
  exact run_ret hC (rs := [.tmp 2]) rfl (resT rfl resN) (fun _ h => h.drop) ⟨rfl, rfl, rfl⟩
/-! ### members that may be -/
def badM (t : Tx) (last : Int) (x : Mb) : Bool := (((!orgW x.org) || (x.org == t.coord)) || decide (x.org ≤ last)) || (checkR x.digest != 0)
def memGo (t : Tx) : Int → List Mb → Bool
  | _, [] => true
  | last, x :: l => if badM t last x = true then false else memGo t x.org l
def mayMb (t : Tx) (l : List Mb) : Bool := memGo t (-1) l && (decide ((l.length : Int) ≥ 1) && decide ((l.length : Int) ≤ 6))
end Go.Proofs.YtkjljcgbnikmkaaGreatDoor
namespace Go.Proofs.YtkjljcgbnikmkaaGreatDoor
open Go.Chi
set_option maxRecDepth 10000

theorem u8_mod (w : Nat) : IntKind.u8.wrap (w : Int) = ((w % 256 : Nat) : Int) := by
  simp only [IntKind.wrap, IntKind.signed, IntKind.bits]
  simp
theorem shr8 (w : Nat) : ishr .u64 (w : Int) 8 = ((w / 256 : Nat) : Int) := by
  have : ishr .u64 (w : Int) 8 = (w : Int).fdiv 256 := rfl
  rw [this]
  exact Int.ofNat_fdiv w 256 |>.symm
set_option maxRecDepth 10000 in
set_option maxHeartbeats 4000000 in
theorem onum_ok (M : Mem) (L : HL) (v : Nat) (hv : v < 18446744073709551616) : TrQ Tryz.prog 95 [.int .u64 (v : Int)] M L (.string (numB v)) := by
  have hlen := digN_len hv
  refine Tr.intro 31 Tryz.func95 rfl rfl Tryz.call95 rfl ?_
  intro C hC hro
  repeat (first | with_reducible (first | refine zS ?_ | refine zR ?_ | refine zN ?_ | refine zK ?_ | refine zB ?_ | refine zI ?_) | refine zE rfl ?_ | refine wq ?_ | refine wg ?_ | refine ws ?_ | refine wb fun _ => ?_ | refine wa fun _ => ?_ | refine wl fun _ => ?_)
  refine run_cond rfl (fun h => ?_) (fun h => ?_)
  · have h0 : v < 248 := by simp at h; omega
    repeat (first | with_reducible (first | refine zS ?_ | refine zR ?_ | refine zN ?_ | refine zK ?_ | refine zB ?_ | refine zI ?_) | refine zE rfl ?_ | refine wq ?_ | refine wg ?_ | refine ws ?_ | refine wb fun _ => ?_ | refine wa fun _ => ?_ | refine wl fun _ => ?_ | refine runL_q (qt_bytesStr tok [IntKind.u8.wrap (v : Int)] rfl rfl rfl rfl (cellsAll List.mem_cons_self) rfl) rfl rfl rfl ?_)
    exact run_ret hC (rs := [.tmp 2]) rfl (resT rfl resN) (fun _ h => h.drop) ⟨by rw [numB, if_pos h0]; rfl, rfl, rfl⟩
  · have h0 : ¬ v < 248 := by simp at h; omega
    repeat (first | with_reducible (first | refine zS ?_ | refine zR ?_ | refine zN ?_ | refine zK ?_ | refine zB ?_ | refine zI ?_) | refine zE rfl ?_ | refine wq ?_ | refine wg ?_ | refine ws ?_ | refine wb fun _ => ?_ | refine wa fun _ => ?_ | refine wl fun _ => ?_)
    rename_i b
    refine run_loopN (fun i σ1 M1 L1 => i ≤ 8 ∧ ∃ (w : Nat) (ns : List Int) (cs : List Value), digN v = digN w ++ bytesI ns ∧ ns.length = i ∧ w < 18446744073709551616 ∧ cs.length = 9 ∧ cs.drop (9 - i) = ns.map (Value.int .u8) ∧ σ1 = [(4, .int .i64 ((9 - i : Nat) : Int)), (3, .pointer (some ⟨b, 0, none⟩)), (2, .string ⟨#[]⟩), (0, .int .u64 (w : Int))] ∧ M = M1 ∧ L1 = (b, Obj.cells ⟨cs⟩ 159 (0, 0)) :: L) 8 [(4, .int .i64 ((9 - 0 : Nat) : Int)), (3, .pointer (some ⟨b, 0, none⟩)), (2, .string ⟨#[]⟩), (0, .int .u64 (v : Int))] ?_ ⟨Nat.zero_le _, v, [], _, (app_nil _).symm, rfl, hv, rfl, rfl, rfl, rfl, rfl⟩ (fun j _ _ _ h => h.1) ?_
    · exact ⟨rfl, rfl, rfl, rfl, trivial⟩
    rintro i _ _ _ ⟨hi, w, ns, cs, hd, hns, hw, hcs, hdr, rfl, rfl, rfl⟩ hnext
    have hsz := congrArg ByteArray.size hd
    rw [app_size] at hsz
    have hbn : (bytesI ns).size = i := by
      rw [← ba_len, bytesI_list, List.length_map, hns]
    repeat (first | with_reducible (first | refine zS ?_ | refine zR ?_ | refine zN ?_ | refine zK ?_ | refine zB ?_ | refine zI ?_) | refine zE rfl ?_ | refine wq ?_ | refine wg ?_ | refine ws ?_ | refine wb fun _ => ?_ | refine wa fun _ => ?_ | refine wl fun _ => ?_)
    refine run_cond rfl (fun h5 => ?_) (fun h5 => ?_)
    · have hw0 : w ≠ 0 := by simp at h5; omega
      have hdw : digN w = digN (w / 256) ++ bytesI [((w % 256 : Nat) : Int)] := by rw [digN, if_neg hw0]
      have hsw := congrArg ByteArray.size hdw
      rw [app_size, bytesI_one] at hsw
      have hi8 : i < 8 := by omega
      have e1 : IntKind.i64.wrap (((9 - i : Nat) : Int) - 1) = ((9 - (i + 1) : Nat) : Int) := by
        rw [show ((9 - i : Nat) : Int) - 1 = ((9 - (i + 1) : Nat) : Int) by omega, wrap64_nat (by omega)]
      repeat (first | with_reducible (first | refine zS ?_ | refine zR ?_ | refine zN ?_ | refine zK ?_ | refine zB ?_ | refine zI ?_) | refine zE rfl ?_ | refine wq ?_ | refine wg ?_ | refine ws ?_ | refine wb fun _ => ?_ | refine wa fun _ => ?_ | refine wl fun _ => ?_)
      refine runL_as 4 (.int .i64 ((9 - (i + 1) : Nat) : Int)) rfl (by rw [e1]) ?_
      refine runL_as 17 (.int .i64 ((9 - (i + 1) : Nat) : Int)) rfl (by rw [e1]) ?_
      refine runL_as 19 (.int .u8 ((w % 256 : Nat) : Int)) rfl (by rw [u8_mod]) ?_
      repeat (first | with_reducible (first | refine zS ?_ | refine zR ?_ | refine zN ?_ | refine zK ?_ | refine zB ?_ | refine zI ?_) | refine zE rfl ?_ | refine wq ?_ | refine wg ?_ | refine ws ?_ | refine wb fun _ => ?_ | refine wa fun _ => ?_ | refine wl fun _ => ?_ | refine runL_q (qt_indexA (n := 9 - (i + 1)) tok rfl rfl rfl rfl (fun _ => by omega)) rfl rfl rfl ?_)
      refine runL_op0 (st_store tok rfl rfl rfl rfl rfl (Upd.here _ _ _ _) (setE_of (cs := cs) (off := 0 + (9 - (i + 1)) * 1) (vs := [.int .u8 ((w % 256 : Nat) : Int)]) (by rw [List.length_singleton]; omega))) ?_
      rintro _ _ _ ⟨rfl, rfl, rfl⟩
      repeat (first | with_reducible (first | refine zS ?_ | refine zR ?_ | refine zN ?_ | refine zK ?_ | refine zB ?_ | refine zI ?_) | refine zE rfl ?_ | refine wq ?_ | refine wg ?_ | refine ws ?_ | refine wb fun _ => ?_ | refine wa fun _ => ?_ | refine wl fun _ => ?_ | refine runL_q (qt_shr rfl rfl (fun _ => by decide)) rfl rfl rfl ?_)
      refine run_as 0 (.int .u64 ((w / 256 : Nat) : Int)) rfl (by rw [shr8]) ?_
      have hk : 9 - (i + 1) + 1 ≤ cs.length := by omega
      obtain ⟨h6, h7⟩ := setSeg_tail (cs := cs) (.int .u8 ((w % 256 : Nat) : Int)) hk
      refine run_sub' (hnext _ _ _ ⟨by omega, w / 256, ((w % 256 : Nat) : Int) :: ns, _, ?_, by simp [hns], by omega, ?_, ?_, rfl, rfl, rfl⟩) ⟨rfl, rfl, rfl, rfl, trivial⟩
      · rw [hd, hdw, app_assoc, ← bytesI_app]; rfl
      · simp only [Nat.mul_one, Nat.zero_add]
        exact h6.trans hcs
      · simp only [Nat.mul_one, Nat.zero_add]
        refine h7.trans ?_
        rw [show 9 - (i + 1) + 1 = 9 - i by omega, hdr]
        rfl
    · have hw0 : w = 0 := by simp at h5; omega
      subst hw0
      rw [digN_zero, nil_app] at hd
      have hik : i = (digN v).size := by rw [hd]; omega
      have e1 : IntKind.i64.wrap (((9 - i : Nat) : Int) - 1) = ((8 - i : Nat) : Int) := by
        rw [show ((9 - i : Nat) : Int) - 1 = ((8 - i : Nat) : Int) by omega, wrap64_nat (by omega)]
      have e2 : IntKind.u8.wrap (IntKind.i64.wrap (255 - ((8 - i : Nat) : Int))) = ((247 + i : Nat) : Int) := by
        rw [show 255 - ((8 - i : Nat) : Int) = ((247 + i : Nat) : Int) by omega, wrap64_nat (by omega), u8_nat (by omega)]
      repeat (first | with_reducible (first | refine zS ?_ | refine zR ?_ | refine zN ?_ | refine zK ?_ | refine zB ?_ | refine zI ?_) | refine zE rfl ?_ | refine wq ?_ | refine wg ?_ | refine ws ?_ | refine wb fun _ => ?_ | refine wa fun _ => ?_ | refine wl fun _ => ?_)
      refine runL_as 4 (.int .i64 ((8 - i : Nat) : Int)) rfl (by rw [e1]) ?_
      refine runL_as 23 (.int .i64 ((8 - i : Nat) : Int)) rfl (by rw [e1]) ?_
      refine runL_as 26 (.int .u8 ((247 + i : Nat) : Int)) rfl (by rw [e1, e2]) ?_
      repeat (first | with_reducible (first | refine zS ?_ | refine zR ?_ | refine zN ?_ | refine zK ?_ | refine zB ?_ | refine zI ?_) | refine zE rfl ?_ | refine wq ?_ | refine wg ?_ | refine ws ?_ | refine wb fun _ => ?_ | refine wa fun _ => ?_ | refine wl fun _ => ?_ | refine runL_q (qt_indexA (n := 8 - i) tok rfl rfl rfl rfl (fun _ => by omega)) rfl rfl rfl ?_)
      refine runL_op0 (st_store tok rfl rfl rfl rfl rfl (Upd.here _ _ _ _) (setE_of (cs := cs) (off := 0 + (8 - i) * 1) (vs := [.int .u8 ((247 + i : Nat) : Int)]) (by rw [List.length_singleton]; omega))) ?_
      rintro _ _ _ ⟨rfl, rfl, rfl⟩
      obtain ⟨h6, h7⟩ := setSeg_tail (cs := cs) (k := 8 - i) (.int .u8 ((247 + i : Nat) : Int)) (by omega)
      repeat (first | with_reducible (first | refine zS ?_ | refine zR ?_ | refine zN ?_ | refine zK ?_ | refine zB ?_ | refine zI ?_) | refine zE rfl ?_ | refine wq ?_ | refine wg ?_ | refine ws ?_ | refine wb fun _ => ?_ | refine wa fun _ => ?_ | refine wl fun _ => ?_ | refine runL_q (qt_sliceArr (n := 8 - i) tok rfl rfl rfl rfl (fun _ => by omega)) rfl rfl rfl ?_ | refine runL_q (qt_bytesStrO tok (((247 + i : Nat) : Int) :: ns) rfl rfl rfl rfl (Cells.tail (cs := setSeg cs (0 + (8 - i) * 1) [.int .u8 ((247 + i : Nat) : Int)]) List.mem_cons_self (by simp only [Nat.mul_one, Nat.zero_add]; rw [h7, show 8 - i + 1 = 9 - i by omega, hdr]; rfl)) (by rw [List.length_cons]; omega)) rfl rfl rfl ?_)
      refine run_ret hC (rs := [.tmp 2]) rfl (resT rfl resN) (fun _ h => h.drop) ⟨?_, rfl, rfl⟩
      rw [(numB_big h0 hv).1, ← hik, show ((247 + i : Nat) : Int) :: ns = [((247 + i : Nat) : Int)] ++ ns from rfl, bytesI_app, ← hd]
      rfl
set_option maxRecDepth 10000 in
set_option maxHeartbeats 4000000 in
theorem otext_ok (M : Mem) (L : HL) (s : ByteArray) (hs : s.size < 2305843009213693952) : TrQ Tryz.prog 64 [.string s] M L (.string (textB s)) := by
  have hz := numB_size (v := s.size) (by omega)
  have e1 : IntKind.u64.wrap (s.size : Int) = (s.size : Int) := u64_nat (by omega)
  refine Tr.intro 9 Tryz.func64 rfl rfl Tryz.call64 rfl ?_
  intro C hC hro
  repeat (first | with_reducible (first | refine zS ?_ | refine zR ?_ | refine zN ?_ | refine zK ?_ | refine zB ?_ | refine zI ?_) | refine zE rfl ?_ | refine wq ?_ | refine wg ?_ | refine ws ?_ | refine wb fun _ => ?_ | refine wa fun _ => ?_ | refine wl fun _ => ?_)
  refine runL_as 5 (.int .u64 (s.size : Int)) rfl (by rw [e1]) ?_
  repeat (first | with_reducible (first | refine zS ?_ | refine zR ?_ | refine zN ?_ | refine zK ?_ | refine zB ?_ | refine zI ?_) | refine zE rfl ?_ | refine wq ?_ | refine wg ?_ | refine ws ?_ | refine wb fun _ => ?_ | refine wa fun _ => ?_ | refine wl fun _ => ?_ | refine runL_q (qt_callF rfl (fun _ => onum_ok _ _ s.size (by omega))) rfl rfl rfl ?_ | refine runL_q (qt_concat rfl rfl (by omega)) rfl rfl rfl ?_)
  exact run_ret hC (rs := [.tmp 2]) rfl (resT rfl resN) (fun _ h => h) ⟨rfl, rfl, rfl⟩
end Go.Proofs.YtkjljcgbnikmkaaGreatDoor
namespace Go.Proofs.YtkjljcgbnikmkaaGreatDoor
open Go.Chi
set_option maxRecDepth 10000

/-! ### links -/
theorem bI_of (l : ByteArray) : bytesI (l.data.toList.map fun b => (b.toNat : Int)) = l := by
  apply ba_ext
  rw [bytesI_list, List.map_map]
  conv => rhs; rw [← List.map_id l.data.toList]
  apply List.map_congr_left
  intro b _
  simp
theorem bC_map (l : ByteArray) : (l.data.toList.map fun b => (b.toNat : Int)).map (Value.int .u8) = bC l.data.toList := by
  unfold bC; rw [List.map_map]; rfl
/-- a text's bytes, as a text again -/
theorem qt_bytesT {ro : Option Nat} {σ : Env} {δ : Den} {cur : Path} {M : Mem} {L : HL} {d : Option Nat} {ty : TypeId} {pos : String} {aft : Array Edge} {g : Option (Nat × Bool)} {s t e : TypeId} {x : Operand} {b o n c : Nat} (l : ByteArray) (hs' : und tt s = some (.slice e)) (he : und tt e = some (.int .u8)) (hu : und tt t = some .string) (hx : ev σ δ cur x = some (.slice (some ⟨b, o, none⟩) n c)) (hc : Cells M L b o (bC l.data.toList)) (hl : l.size = n) :
    Qt Tryz.prog ro ⟨d, .convert s t x, ty, pos, aft, g⟩ σ δ cur M L (.string l) :=
  Qt.as (qt_bytesStrO tok (l.data.toList.map fun b => (b.toNat : Int)) hs' he hu hx (by rw [bC_map]; exact hc) (by rw [List.length_map, ba_len]; exact hl)) (congrArg Value.string (bI_of l))
def lkC (l : ByteArray) : List Value := bC l.data.toList
theorem lkC_len (l : ByteArray) : (lkC l).length = l.size := by rw [lkC, bC_len, ba_len]
def nextB (l r : ByteArray) : ByteArray := sumB (l.data.toList ++ r.data.toList)
theorem nextB_size (l r : ByteArray) : (nextB l r).size = 32 := sumB_size _
def firstB : ByteArray := ⟨Array.replicate 32 0⟩
theorem firstB_size : firstB.size = 32 := rfl
theorem zlink : zeroT tt 107 = some (.agg ⟨lkC firstB⟩) := by rfl
theorem chOf_ok (M : Mem) (L : HL) (s : ByteArray) (hs : s.size = 32) : TrQ Tryz.prog 62 [.string s] M L (.agg ⟨lkC s⟩) := by
  refine Tr.intro 7 Tryz.func62 rfl rfl Tryz.call62 rfl ?_
  intro C hC hro
  repeat (first | with_reducible (first | refine zS ?_ | refine zR ?_ | refine zN ?_ | refine zK ?_ | refine zB ?_ | refine zI ?_) | refine zE rfl ?_ | refine wq ?_ | refine wg ?_ | refine ws ?_ | refine wb fun _ => ?_ | refine wa fun _ => ?_ | refine wl fun _ => ?_ | refine rq (qt_sliceAll tok rfl rfl rfl) ?_)
  rename_i b
  have hz : (lkC firstB).length = 32 := rfl
  have hset : setSeg (lkC firstB) 0 (bC (s.data.toList.take (min s.size 32))) = lkC s := by
    rw [hs, List.take_of_length_le (by rw [ba_len, hs]; exact Nat.le_refl _)]
    exact setSeg_all (by rw [hz, bC_len, ba_len, hs])
  refine ro (st_copyStr (cs := lkC firstB) tok rfl rfl rfl rfl (by rw [hz, hs]; decide) (Upd.here _ _ _ _)) ?_
  rintro _ _ _ ⟨rfl, rfl, rfl⟩
  rw [hset]
  have hl : ldE tt 107 (lkC s) 0 = some (.agg ⟨lkC s⟩) := ldE_all rfl (by rw [lkC_len, hs]; rfl)
  repeat (first | with_reducible (first | refine zS ?_ | refine zR ?_ | refine zN ?_ | refine zK ?_ | refine zB ?_ | refine zI ?_) | refine zE rfl ?_ | refine wq ?_ | refine wg ?_ | refine ws ?_ | refine wb fun _ => ?_ | refine wa fun _ => ?_ | refine wl fun _ => ?_ | refine rq (qt_ld tok rfl List.mem_cons_self hl) ?_ | refine ws ?_ rfl rfl rfl (by show (lkC s).length = 32; rw [lkC_len, hs]) (bC_one _) (Upd.here _ _ _ _) (setE_all rfl))
  exact run_ret hC (rs := [.cell 2 107]) rfl (resL tok rfl List.mem_cons_self hl resN) (fun _ h => h.drop) ⟨rfl, rfl, rfl⟩
set_option maxHeartbeats 4000000 in
theorem chNext_ok (M : Mem) (L : HL) (l r : ByteArray) (hk : KM M) (hl : l.size = 32) (hr : r.size < 100000000000) : TrQ Tryz.prog 63 [.agg ⟨lkC l⟩, .string r] M L (.agg ⟨lkC (nextB l r)⟩) := by
  refine Tr.intro 17 Tryz.func63 rfl rfl Tryz.call63 rfl ?_
  intro C hC hro
  repeat (first | with_reducible (first | refine zS ?_ | refine zR ?_ | refine zN ?_ | refine zK ?_ | refine zB ?_ | refine zI ?_) | refine zE rfl ?_ | refine wq ?_ | refine wg ?_ | refine ws ?_ | refine wb fun _ => ?_ | refine wa fun _ => ?_ | refine wl fun _ => ?_ | refine ro (st_callF rfl (fun _ => shNew_ok _ _)) ?_; rintro _ _ _ ⟨b, rfl, rfl, rfl⟩ | refine rq (qt_sliceAll tok rfl rfl rfl) ?_ | refine rq (qt_bytesT l rfl rfl rfl rfl (cellsAll (List.mem_cons_of_mem _ (List.mem_cons_of_mem _ List.mem_cons_self))) hl) ?_)
  rename_i b1 b2
  have ok0 : ShOk [] iv8 (fun _ => 0) 0 := ⟨Nat.le_refl _, rfl, fun i hi => absurd hi (Nat.not_lt_zero _)⟩
  refine ro (st_callF rfl (fun _ => shWrite_ok _ _ b _ _ 0 [] l hk ok0 rfl (by omega))) ?_
  rintro _ _ _ ⟨rfl, s1, m1, rfl, ok1⟩
  rw [List.nil_append] at ok1
  repeat (first | with_reducible (first | refine zS ?_ | refine zR ?_ | refine zN ?_ | refine zK ?_ | refine zB ?_ | refine zI ?_) | refine zE rfl ?_ | refine wq ?_ | refine wg ?_ | refine ws ?_ | refine wb fun _ => ?_ | refine wa fun _ => ?_ | refine wl fun _ => ?_ | refine ro (st_callF rfl (fun _ => shWrite_ok _ _ b _ _ _ _ r hk ok1 (by rw [ba_len]; omega) (by omega))) ?_; rintro _ _ _ ⟨rfl, s2, m2, rfl, ok2⟩)
  refine ro (st_callF rfl (fun _ => shSum_ok _ _ b _ _ _ _ hk ok2 (by rw [List.length_append, ba_len, ba_len]; omega) (by omega))) ?_
  rintro _ _ _ ⟨rfl, rfl, rfl⟩
  have hn : (nextB l r).size = 32 := nextB_size l r
  have hld : ldE tt 107 (lkC (nextB l r)) 0 = some (.agg ⟨lkC (nextB l r)⟩) := ldE_all rfl (by rw [lkC_len, hn]; rfl)
  repeat (first | refine wq ?_ | refine wg ?_ | refine rq (qt_callF rfl (fun _ => chOf_ok _ _ (nextB l r) hn)) ?_)
  refine ws ?_ rfl rfl rfl (by show (lkC (nextB l r)).length = 32; rw [lkC_len, hn]) (bC_one _) (by (repeat (first | with_reducible apply Upd.here | with_reducible apply Upd.there | with_reducible apply Upd.append_left))) (setE_all (by show (lkC (nextB l r)).length = 32; rw [lkC_len, hn]))
  refine runL_nil ?_
  exact run_ret hC (rs := [.cell 4 107]) rfl (resL tok rfl (List.mem_cons_of_mem _ List.mem_cons_self) hld resN) (fun _ h => h.drop.drop.drop) ⟨rfl, rfl, rfl⟩
theorem chFirst_ok (M : Mem) (L : HL) : TrQ Tryz.prog 67 [] M L (.string firstB) := by
  refine Tr.intro 4 Tryz.func67 rfl rfl Tryz.call67 rfl ?_
  intro C hC hro
  repeat (first | with_reducible (first | refine zS ?_ | refine zR ?_ | refine zN ?_ | refine zK ?_ | refine zB ?_ | refine zI ?_) | refine zE rfl ?_ | refine wq ?_ | refine wg ?_ | refine ws ?_ | refine wb fun _ => ?_ | refine wa fun _ => ?_ | refine wl fun _ => ?_ | refine rq (qt_sliceAll tok rfl rfl rfl) ?_ | refine rq (qt_bytesT firstB rfl rfl rfl rfl (cellsAll List.mem_cons_self) rfl) ?_)
  exact run_ret hC (rs := [.tmp 0]) rfl (resT rfl resN) (fun _ h => h.drop) ⟨rfl, rfl, rfl⟩
end Go.Proofs.YtkjljcgbnikmkaaGreatDoor
namespace Go.Proofs.YtkjljcgbnikmkaaGreatDoor
open Go.Chi
set_option maxRecDepth 10000

/-! ### frames -/
def chkF (first : ByteArray) (l : List ByteArray) : Int := if first.size ≠ 32 then 2 else if l.any (fun t => decide ((t.size : Int) > 8192)) = true then 5 else 0
set_option maxHeartbeats 4000000 in
theorem chCheck_ok (M : Mem) (L : HL) (first : ByteArray) (s : SStr) (hs : StOk M s) : TrQ Tryz.prog 61 [.string first, s.v] M L (.int .i64 (chkF first s.xs)) := by
  obtain ⟨⟨hlen, hsz, hcells⟩, hlt6⟩ := hs
  have hl := StOk.len ⟨⟨hlen, hsz, hcells⟩, hlt6⟩
  obtain ⟨a, len, cap, xs⟩ := s
  simp only at hlen hsz hcells hlt6 hl
  refine Tr.intro 20 Tryz.func61 rfl rfl Tryz.call61 rfl ?_
  intro C hC hro
  repeat (first | with_reducible (first | refine zS ?_ | refine zR ?_ | refine zN ?_ | refine zK ?_ | refine zB ?_ | refine zI ?_) | refine zE rfl ?_ | refine wq ?_ | refine wg ?_ | refine ws ?_ | refine wb fun _ => ?_ | refine wa fun _ => ?_ | refine wl fun _ => ?_)
  refine run_cond rfl (fun h => ?_) (fun h => ?_)
  · have h32 : first.size ≠ 32 := by simp at h; omega
    repeat (first | with_reducible (first | refine zS ?_ | refine zR ?_ | refine zN ?_ | refine zK ?_ | refine zB ?_ | refine zI ?_) | refine zE rfl ?_ | refine wq ?_ | refine wg ?_ | refine ws ?_ | refine wb fun _ => ?_ | refine wa fun _ => ?_ | refine wl fun _ => ?_)
    exact run_ret hC (rs := [.tmp 4]) rfl (resT rfl resN) (fun _ h => h) ⟨by rw [chkF, if_pos h32]; rfl, rfl, rfl⟩
  have h32 : ¬ first.size ≠ 32 := by simp at h; omega
  repeat (first | with_reducible (first | refine zS ?_ | refine zR ?_ | refine zN ?_ | refine zK ?_ | refine zB ?_ | refine zI ?_) | refine zE rfl ?_ | refine wq ?_ | refine wg ?_ | refine ws ?_ | refine wb fun _ => ?_ | refine wa fun _ => ?_ | refine wl fun _ => ?_)
  refine run_loopN (fun j σ1 M1 L1 => j ≤ len ∧ M = M1 ∧ L = L1 ∧ (xs.take j).any (fun t => decide ((t.size : Int) > 8192)) = false ∧ σ1 = [(12, iv j), (11, iv len), (10, .slice a len cap)]) len [(12, iv 0), (11, iv len), (10, .slice a len cap)] ?_ ⟨Nat.zero_le _, rfl, rfl, rfl, rfl⟩ (fun j _ _ _ h => h.1) ?_
  · exact ⟨rfl, rfl, rfl, trivial⟩
  rintro j _ _ _ ⟨hj, rfl, rfl, hany, rfl⟩ hnext
  repeat (first | with_reducible (first | refine zS ?_ | refine zR ?_ | refine zN ?_ | refine zK ?_ | refine zB ?_ | refine zI ?_) | refine zE rfl ?_ | refine wq ?_ | refine wg ?_ | refine ws ?_ | refine wb fun _ => ?_ | refine wa fun _ => ?_ | refine wl fun _ => ?_)
  refine run_cond rfl (fun h => ?_) (fun h => ?_)
  · have hlt : j < len := by simp at h; omega
    obtain ⟨b, off, x, rfl, hx, hc⟩ := SStr.at_ ⟨hlen, hsz, hcells⟩ hlt
    repeat (first | with_reducible (first | refine zS ?_ | refine zR ?_ | refine zN ?_ | refine zK ?_ | refine zB ?_ | refine zI ?_) | refine zE rfl ?_ | refine wq ?_ | refine wg ?_ | refine ws ?_ | refine wb fun _ => ?_ | refine wa fun _ => ?_ | refine wl fun _ => ?_ | refine runL_q (qt_indexN tok rfl rfl rfl rfl (fun _ => by omega)) rfl rfl rfl ?_ | refine runL_g rfl rfl (qt_indexN tok rfl rfl rfl rfl (fun _ => by omega)) rfl rfl rfl rfl rfl ?_ | refine runL_q (qt_ldM tok rfl hc rfl) rfl rfl rfl ?_ | refine runL_g rfl rfl (qt_ldM tok rfl hc rfl) rfl rfl rfl rfl rfl ?_ | refine runL_q (qt_ldM0 tok rfl hc rfl) rfl rfl rfl ?_ | refine runL_g rfl rfl (qt_ldM0 tok rfl hc rfl) rfl rfl rfl rfl rfl ?_)
    refine run_cond rfl (fun h1 => ?_) (fun h1 => ?_)
    · repeat (first | with_reducible (first | refine zS ?_ | refine zR ?_ | refine zN ?_ | refine zK ?_ | refine zB ?_ | refine zI ?_) | refine zE rfl ?_ | refine wq ?_ | refine wg ?_ | refine ws ?_ | refine wb fun _ => ?_ | refine wa fun _ => ?_ | refine wl fun _ => ?_)
      have h5 : xs.any (fun t => decide ((t.size : Int) > 8192)) = true := any_true _ hx h1
      exact run_ret hC (rs := [.tmp 4]) rfl (resT rfl resN) (fun _ h => h) ⟨by rw [chkF, if_neg h32, if_pos h5]; rfl, rfl, rfl⟩
    · repeat (first | with_reducible (first | refine zS ?_ | refine zR ?_ | refine zN ?_ | refine zK ?_ | refine zB ?_ | refine zI ?_) | refine zE rfl ?_ | refine wq ?_ | refine wg ?_ | refine ws ?_ | refine wb fun _ => ?_ | refine wa fun _ => ?_ | refine wl fun _ => ?_)
      exact run_sub' (hnext _ _ _ ⟨hlt, rfl, rfl, by rw [any_snoc _ hx hany]; exact h1, rfl⟩) ⟨lk_succ rfl (by omega), rfl, rfl, trivial⟩
  have hje : j = len := by simp at h; omega
  subst hje
  rw [List.take_of_length_le (by omega)] at hany
  repeat (first | with_reducible (first | refine zS ?_ | refine zR ?_ | refine zN ?_ | refine zK ?_ | refine zB ?_ | refine zI ?_) | refine zE rfl ?_ | refine wq ?_ | refine wg ?_ | refine ws ?_ | refine wb fun _ => ?_ | refine wa fun _ => ?_ | refine wl fun _ => ?_)
  exact run_ret hC (rs := [.tmp 4]) rfl (resT rfl resN) (fun _ h => h) ⟨by rw [chkF, if_neg h32, if_neg (by rw [hany]; simp)]; rfl, rfl, rfl⟩
def frB (l t : ByteArray) : ByteArray := textB t ++ nextB l t
theorem frB_size (l t : ByteArray) : (frB l t).size = (textB t).size + 32 := by rw [frB, app_size, nextB_size]
set_option maxHeartbeats 4000000 in
theorem chFrame_ok (M : Mem) (L : HL) (l t : ByteArray) (hk : KM M) (hl : l.size = 32) (ht : t.size ≤ 8192) : TrQ Tryz.prog 35 [.string l, .string t] M L (.tuple ⟨[.string (frB l t), .string (nextB l t), .int .i64 0]⟩) := by
  have hn := nextB_size l t
  generalize hnx : nextB l t = nx at hn
  have hfr : frB l t = textB t ++ nx := by rw [frB, hnx]
  rw [hfr]
  have hts : (textB t).size + nx.size < 4611686018427387904 := by
    have := numB_size (v := t.size) (by omega)
    rw [textB, app_size, hn]; omega
  have hc0 : chkF l [t] = 0 := by
    rw [chkF, if_neg (by simp [hl]), if_neg]
    simp; omega
  refine Tr.intro 27 Tryz.func35 rfl rfl Tryz.call35 rfl ?_
  intro C hC hro
  repeat (first | with_reducible (first | refine zS ?_ | refine zR ?_ | refine zN ?_ | refine zK ?_ | refine zB ?_ | refine zI ?_) | refine zE rfl ?_ | refine wq ?_ | refine wg ?_ | refine ws ?_ | refine wb fun _ => ?_ | refine wa fun _ => ?_ | refine wl fun _ => ?_)
  rename_i b1
  refine rq (Qt.as (v' := .int .i64 0) (qt_callF rfl (fun _ => TrQ.lend (fun w => Tryz.call61 _ w) fun M' _ hb => chCheck_ok M' [] l ⟨some ⟨b1, 0, none⟩, 1, 1, [t]⟩ ⟨SlM.ofBlk (hb _ _ List.mem_cons_self) rfl (fun c hc => by simp at hc; subst hc; rfl), (by show 1 < 1000000; decide)⟩)) (by rw [hc0])) ?_
  repeat (first | with_reducible (first | refine zS ?_ | refine zR ?_ | refine zN ?_ | refine zK ?_ | refine zB ?_ | refine zI ?_) | refine zE rfl ?_ | refine wq ?_ | refine wg ?_ | refine ws ?_ | refine wb fun _ => ?_ | refine wa fun _ => ?_ | refine wl fun _ => ?_)
  refine run_cond rfl (fun h => by cases h) (fun _ => ?_)
  refine run_skip ?_
  repeat (first | with_reducible (first | refine zS ?_ | refine zR ?_ | refine zN ?_ | refine zK ?_ | refine zB ?_ | refine zI ?_) | refine zE rfl ?_ | refine wq ?_ | refine wg ?_ | refine ws ?_ | refine wb fun _ => ?_ | refine wa fun _ => ?_ | refine wl fun _ => ?_ | refine rq (qt_callF rfl (fun _ => chOf_ok _ _ l hl)) ?_ | refine rq (Qt.as (v' := .agg ⟨lkC nx⟩) (qt_callF rfl (fun _ => chNext_ok _ _ l t hk hl (by omega))) (by rw [hnx])) ?_)
  refine ws ?_ rfl rfl rfl (by show (lkC nx).length = 32; rw [lkC_len, hn]) (bC_one _) (by (repeat (first | with_reducible apply Upd.here | with_reducible apply Upd.there | with_reducible apply Upd.append_left))) (setE_all (by show (lkC nx).length = 32; rw [lkC_len, hn]))
  repeat (first | refine wq ?_ | refine wg ?_)
  refine runL_nil ?_
  refine run_seq ?_
  refine run_region ?_
  refine rq (qt_sliceAll tok rfl rfl rfl) ?_
  refine rq (qt_bytesT nx rfl rfl rfl rfl (cellsAll List.mem_cons_self) hn) ?_
  repeat (first | with_reducible (first | refine zS ?_ | refine zR ?_ | refine zN ?_ | refine zK ?_ | refine zB ?_ | refine zI ?_) | refine zE rfl ?_ | refine wq ?_ | refine wg ?_ | refine ws ?_ | refine wb fun _ => ?_ | refine wa fun _ => ?_ | refine wl fun _ => ?_ | refine rq (qt_callF rfl (fun _ => otext_ok _ _ t (by omega))) ?_ | refine rq (qt_concat rfl rfl hts) ?_)
  exact run_ret hC (rs := [.tmp 4, .tmp 5, .tmp 6]) rfl (resT rfl (resT rfl (resT rfl resN))) (fun _ h => h.drop.drop) ⟨rfl, rfl, rfl⟩
end Go.Proofs.YtkjljcgbnikmkaaGreatDoor
namespace Go.Proofs.YtkjljcgbnikmkaaGreatDoor
open Go.Chi
set_option maxRecDepth 10000

/-! ### two links, held against each other -/
theorem mapM_all {α β : Type} {f : α → Option β} {g : α → β} : ∀ {l : List α}, (∀ i ∈ l, f i = some (g i)) → l.mapM f = some (l.map g)
  | [], _ => rfl
  | a :: l, h => by
    rw [List.mapM_cons, h a List.mem_cons_self, mapM_all (fun i hi => h i (List.mem_cons_of_mem _ hi))]
    rfl
def bLit (b : UInt8) : Lit := .int .u8 (b.toNat : Int)
theorem bLit_wf (b : UInt8) : (Lit.int .u8 (b.toNat : Int)).wf = true := by
  have := b.toNat_lt
  have e1 : IntKind.min .u8 = 0 := by kernel_rfl
  have e2 : IntKind.max .u8 = 255 := by kernel_rfl
  show (decide (IntKind.min .u8 ≤ (b.toNat : Int)) && decide ((b.toNat : Int) ≤ IntKind.max .u8)) = true
  rw [e1, e2]
  simp; omega
theorem flatOne1 {α β : Type} (f : α → β) : ∀ l : List α, (l.map fun x => [f x]).flatten = l.map f
  | [] => rfl
  | a :: l => by rw [List.map_cons, List.flatten_cons, flatOne1 f l]; rfl
theorem lk_lits (l : ByteArray) (h : l.size = 32) : Tryz.prog.keyLits 2 107 (lkC l) = some (l.data.toList.map bLit) := by
  have hu : Tryz.prog.underlying 107 = some (.array 32 5) := und_ok tok rfl
  have he : Tryz.prog.underlying 5 = some (.int .u8) := und_ok tok rfl
  have hc : Tryz.prog.cellsOf 107 = 32 := by kernel_rfl
  have hce : Tryz.prog.cellsOf 5 = 1 := by kernel_rfl
  have hl : l.data.toList.length = 32 := by rw [ba_len]; exact h
  unfold Program.keyLits
  rw [hu]
  simp only
  rw [if_pos (by rw [lkC_len, h, hc]), hce]
  rw [mapM_all (g := fun i => [bLit (l.data.toList.getD i 0)]) (fun i hi => ?_)]
  · rw [Option.map_some, flatOne1]
    congr 1
    apply List.ext_getElem?
    intro i
    rw [List.getElem?_map, List.getElem?_map]
    by_cases hi : i < 32
    · have h1 : i < l.data.toList.length := by rw [hl]; exact hi
      rw [List.getElem?_range hi, List.getElem?_eq_getElem h1, Option.map_some, Option.map_some, List.getD_eq_getElem?_getD, List.getElem?_eq_getElem h1]
      rfl
    · have h1 : l.data.toList[i]? = none := List.getElem?_eq_none (by rw [hl]; omega)
      have h2 : (List.range 32)[i]? = none := List.getElem?_eq_none (by simp; omega)
      rw [h1, h2]; rfl
  · have hi := List.mem_range.1 hi
    have e1 : ((lkC l).drop (i * 1)).take 1 = [.int .u8 ((l.data.toList.getD i 0).toNat : Int)] := by
      rw [Nat.mul_one]
      unfold lkC bC
      rw [← List.map_drop, ← List.map_take]
      have hlt : i < l.data.toList.length := by rw [hl]; exact hi
      rw [List.drop_eq_getElem_cons hlt, List.take_succ_cons, List.take_zero, List.map_cons, List.map_nil, List.getD_eq_getElem?_getD, List.getElem?_eq_getElem hlt]
      rfl
    rw [e1]
    unfold Program.keyLits
    rw [he]
    simp only
    rw [if_pos (by simpa using bLit_wf _)]
    rfl
theorem lk_guard : Tryz.prog.eqGuardType Tryz.prog.depth 107 = false := by kernel_rfl
theorem qt_eqLink {ro : Option Nat} {σ : Env} {δ : Den} {cur : Path} {M : Mem} {L : HL} {d : Option Nat} {ty u : TypeId} {pos : String} {aft : Array Edge} {g : Option (Nat × Bool)} {x y : Operand} (a b : ByteArray) (ha : a.size = 32) (hb : b.size = 32) (hx : ev σ δ cur x = some (.agg ⟨lkC a⟩)) (hy : ev σ δ cur y = some (.agg ⟨lkC b⟩)) :
    Qt Tryz.prog ro ⟨d, .binOp .eql 107 x y u, ty, pos, aft, g⟩ σ δ cur M L (.bool (decide (a = b))) :=
  qt_of_run (semAt_of (by intro c e; cases e)) fun act w hs hcur hp => by
    have hform : ∀ c : ByteArray, c.size = 32 → (Value.agg ⟨lkC c⟩).formed Tryz.prog 107 = true := fun c hc => by
      have hu : Tryz.prog.underlying 107 = some (.array 32 5) := und_ok tok rfl
      have hcc : Tryz.prog.cellsOf 107 = 32 := by kernel_rfl
      unfold Value.formed
      rw [hu]
      simp only [hcc]
      have : (⟨lkC c⟩ : Array Value).size = 32 := by show (lkC c).length = 32; rw [lkC_len, hc]
      rw [this]; rfl
    obtain ⟨r, hr, hiff⟩ := run_equalIn_deep (P := Tryz.prog) 9990 10 107 (by kernel_rfl) w 2 2 (.agg ⟨lkC a⟩) (.agg ⟨lkC b⟩) _ _ (hform a ha) (hform b hb) (lk_lits a ha) (lk_lits b hb)
    have hd : r = decide (a = b) := by
      rw [Bool.eq_iff_iff, hiff, decide_eq_true_eq]
      constructor
      · intro e
        apply ba_ext
        have e' : (a.data.toList.map bLit).map (fun z : Lit => match z with | .int _ n => n | _ => 0) = (b.data.toList.map bLit).map (fun z : Lit => match z with | .int _ n => n | _ => 0) := by rw [e]
        simp only [List.map_map] at e'
        have inj : ∀ p q : List UInt8, p.map (fun b => (b.toNat : Int)) = q.map (fun b => (b.toNat : Int)) → p = q := by
          intro p
          induction p with
          | nil => intro q h; cases q with
            | nil => rfl
            | cons => simp at h
          | cons c p ih => intro q h; cases q with
            | nil => simp at h
            | cons c' q =>
              simp only [List.map_cons, List.cons.injEq] at h
              obtain ⟨h1, h2⟩ := h
              have h3 : c = c' := UInt8.toNat_inj.1 (by omega)
              rw [ih q h2, h3]
        exact inj _ _ e'
      · rintro rfl; rfl
    subst hd
    have hg : (eqGuard .eql 107 x y (.agg ⟨lkC a⟩) (.agg ⟨lkC b⟩)).run Tryz.prog w = .ok () w := by
      unfold eqGuard
      simp [lk_guard]
    have hb2 := run_eql_struct (P := Tryz.prog) w 107 ⟨lkC a⟩ ⟨lkC b⟩
    rw [hr] at hb2
    simp only [execOp, ev_sound hs hcur hx, ev_sound hs hcur hy, Sem.run_bind, hg, Result.andThen_ok, hb2]
    rfl
end Go.Proofs.YtkjljcgbnikmkaaGreatDoor
namespace Go.Proofs.YtkjljcgbnikmkaaGreatDoor
open Go.Chi

/-! ### records as bytes: the plain law -/
/-- what a record says, wherever its lists lie -/
structure Re where
  kind : Int
  epoch : Int
  txn : Tx
  yes : Bool
  auditor : Int
  mem : List Mb
  tags : List ByteArray
  body : ByteArray
def bz : ByteArray := ⟨#[]⟩
inductive RecP : Re → Prop
  | epoch (e : Int) : 1 ≤ e → e ≤ 255 → RecP ⟨1, e, ⟨0, 0, 0⟩, false, 0, [], [], bz⟩
  | vote (t : Tx) (y : Bool) (a : Int) (m : List Mb) (b : ByteArray) : mayTx t = true → orgW a = true → mayMb t m = true → checkR b = 0 → RecP ⟨2, 0, t, y, a, m, [], b⟩
  | commit (t : Tx) (a : Int) (m : List Mb) (g : List ByteArray) : mayTx t = true → orgW a = true → mayMb t m = true → g.length = m.length → (∀ x ∈ g, checkR x = 0) → RecP ⟨3, 0, t, true, a, m, g, bz⟩
  | abort (t : Tx) : mayTx t = true → RecP ⟨3, 0, t, false, 0, [], [], bz⟩
  | learn (t : Tx) (y : Bool) : mayTx t = true → RecP ⟨4, 0, t, y, 0, [], [], bz⟩
def nB (n : Int) : ByteArray := numB n.toNat
def txB (t : Tx) : ByteArray := nB t.coord ++ (nB t.epoch ++ nB t.seq)
def yB (y : Bool) : ByteArray := if y = true then nB 1 else nB 0
def mbB : List Mb → ByteArray
  | [] => bz
  | m :: l => nB m.org ++ (textB m.digest ++ mbB l)
def msB (l : List Mb) : ByteArray := nB (l.length : Int) ++ mbB l
def tsB : List ByteArray → ByteArray
  | [] => bz
  | t :: l => textB t ++ tsB l
def bodyB (r : Re) : ByteArray :=
  if r.kind = 1 then nB r.epoch else
  if r.kind = 2 then txB r.txn ++ (yB r.yes ++ (nB r.auditor ++ (msB r.mem ++ textB r.body))) else
  if r.kind = 3 then txB r.txn ++ (yB r.yes ++ (if r.yes = true then nB r.auditor ++ (msB r.mem ++ tsB r.tags) else bz)) else
  if r.kind = 4 then txB r.txn ++ yB r.yes else bz
def recB (r : Re) : ByteArray := bytesI [r.kind] ++ bodyB r

/-! ### what reads it -/
def pN (most : Nat) (s : ByteArray) : Option (Int × ByteArray) := if (numR s).2.2 = 0 ∧ (numR s).1 ≤ (most : Int) then some ((numR s).1, s.extract (numR s).2.1.toNat s.size) else none
def pT (s : ByteArray) : Option (ByteArray × ByteArray) := if (textR s 8192).2.2 = 0 then some ((textR s 8192).1, s.extract (textR s 8192).2.1.toNat s.size) else none
def pMb : Nat → ByteArray → Option (List Mb × ByteArray)
  | 0, s => some ([], s)
  | n + 1, s => (pN 7 s).bind fun x => (pT x.2).bind fun y => (pMb n y.2).bind fun z => some (⟨x.1, y.1⟩ :: z.1, z.2)
def pTs : Nat → ByteArray → Option (List ByteArray × ByteArray)
  | 0, s => some ([], s)
  | n + 1, s => (pT s).bind fun y => (pTs n y.2).bind fun z => some (y.1 :: z.1, z.2)
def pMs (s : ByteArray) : Option (List Mb × ByteArray) := (pN 6 s).bind fun x => pMb x.1.toNat x.2
def pTx (s : ByteArray) : Option (Tx × ByteArray) := (pN 7 s).bind fun x => (pN 255 x.2).bind fun y => (pN 65535 y.2).bind fun z => some (⟨x.1, y.1, z.1⟩, z.2)
def pY (s : ByteArray) : Option (Bool × ByteArray) := (pN 1 s).bind fun x => some (x.1 == 1, x.2)
def pAM (s : ByteArray) : Option ((Int × List Mb) × ByteArray) := (pN 7 s).bind fun x => (pMs x.2).bind fun y => some ((x.1, y.1), y.2)
def pRec (k : Int) (s : ByteArray) : Option (Re × ByteArray) :=
  if k = 1 then (pN 255 s).bind fun x => some (⟨1, x.1, ⟨0, 0, 0⟩, false, 0, [], [], bz⟩, x.2) else
  if k = 2 then (pTx s).bind fun x => (pY x.2).bind fun y => (pAM y.2).bind fun z => (pT z.2).bind fun u => some (⟨2, 0, x.1, y.1, z.1.1, z.1.2, [], u.1⟩, u.2) else
  if k = 3 then (pTx s).bind fun x => (pY x.2).bind fun y => if y.1 = true then (pAM y.2).bind fun z => (pTs z.1.2.length z.2).bind fun u => some (⟨3, 0, x.1, true, z.1.1, z.1.2, u.1, bz⟩, u.2) else some (⟨3, 0, x.1, false, 0, [], [], bz⟩, y.2) else
  if k = 4 then (pTx s).bind fun x => (pY x.2).bind fun y => some (⟨4, 0, x.1, y.1, 0, [], [], bz⟩, y.2) else
  some (⟨k, 0, ⟨0, 0, 0⟩, false, 0, [], [], bz⟩, s)

theorem pN_ok {most : Nat} {v : Int} (h0 : 0 ≤ v) (h : v ≤ most) (hv : v < 4611686018427387904) (x : ByteArray) : pN most (nB v ++ x) = some (v, x) := by
  have hn := num_read (v := v.toNat) (by omega) x
  unfold pN nB
  rw [hn, if_pos (show (0 : Int) = 0 ∧ ((v.toNat : Nat) : Int) ≤ (most : Int) from ⟨rfl, by omega⟩)]
  show some (((v.toNat : Nat) : Int), (numB v.toNat ++ x).extract (((numB v.toNat).size : Int)).toNat (numB v.toNat ++ x).size) = _
  rw [Int.toNat_natCast, ext_right, Int.toNat_of_nonneg h0]
theorem pN_back {most : Nat} {s x : ByteArray} {v : Int} (h : pN most s = some (v, x)) : 0 ≤ v ∧ v ≤ most ∧ s = nB v ++ x := by
  unfold pN at h
  split at h
  · rename_i h1
    obtain ⟨n, hn, hr, hs⟩ := num_back h1.1
    rw [hr] at h h1
    simp only [Int.toNat_natCast, Option.some.injEq, Prod.mk.injEq] at h h1
    obtain ⟨rfl, rfl⟩ := h
    exact ⟨by omega, h1.2, by unfold nB; rw [Int.toNat_natCast]; exact hs⟩
  · cases h
theorem pT_ok {t : ByteArray} (h : t.size ≤ 8192) (x : ByteArray) : pT (textB t ++ x) = some (t, x) := by
  have hn := text_read h (by omega) x
  unfold pT
  rw [hn, if_pos rfl]
  show some (t, (textB t ++ x).extract (((textB t).size : Int)).toNat (textB t ++ x).size) = _
  rw [Int.toNat_natCast, ext_right]
theorem pT_back {s x t : ByteArray} (h : pT s = some (t, x)) : t.size ≤ 8192 ∧ s = textB t ++ x := by
  unfold pT at h
  split at h
  · rename_i h1
    obtain ⟨n, hn, hr, hs⟩ := text_back h1
    rw [hr] at h
    simp only [Int.toNat_natCast, Option.some.injEq, Prod.mk.injEq] at h
    obtain ⟨rfl, rfl⟩ := h
    exact ⟨hn, hs⟩
  · cases h
theorem pMb_ok : ∀ (l : List Mb), (∀ m ∈ l, 0 ≤ m.org ∧ m.org ≤ 7 ∧ m.digest.size ≤ 8192) → ∀ x, pMb l.length (mbB l ++ x) = some (l, x)
  | [], _, x => by rw [mbB, List.length_nil, pMb]; exact congrArg (fun y => some ([], y)) (nil_app x)
  | m :: l, h, x => by
    obtain ⟨h1, h2, h3⟩ := h m List.mem_cons_self
    rw [mbB, List.length_cons, pMb, app_assoc, app_assoc, pN_ok h1 h2 (by omega), Option.bind_some, pT_ok h3, Option.bind_some, pMb_ok l (fun m hm => h m (List.mem_cons_of_mem _ hm)) x]
    rfl
theorem pMb_back : ∀ (n : Nat) {s x : ByteArray} {l : List Mb}, pMb n s = some (l, x) → l.length = n ∧ s = mbB l ++ x ∧ ∀ m ∈ l, 0 ≤ m.org ∧ m.org ≤ 7 ∧ m.digest.size ≤ 8192
  | 0, s, x, l, h => by
    rw [pMb] at h
    cases h
    exact ⟨rfl, (nil_app _).symm, fun m hm => by cases hm⟩
  | n + 1, s, x, l, h => by
    rw [pMb] at h
    obtain ⟨⟨a, s1⟩, h1, h⟩ := Option.bind_eq_some_iff.1 h
    obtain ⟨⟨d, s2⟩, h2, h⟩ := Option.bind_eq_some_iff.1 h
    obtain ⟨⟨l', s3⟩, h3, h⟩ := Option.bind_eq_some_iff.1 h
    cases h
    obtain ⟨a0, a1, ha⟩ := pN_back h1
    obtain ⟨d1, hd⟩ := pT_back h2
    obtain ⟨r1, r2, r3⟩ := pMb_back n h3
    refine ⟨by rw [List.length_cons, r1], ?_, fun m hm => ?_⟩
    · rw [mbB, app_assoc, app_assoc, ← r2, ← hd]; exact ha
    · rcases List.mem_cons.1 hm with rfl | hm
      · exact ⟨a0, a1, d1⟩
      · exact r3 m hm
theorem pTs_ok : ∀ (l : List ByteArray), (∀ t ∈ l, t.size ≤ 8192) → ∀ x, pTs l.length (tsB l ++ x) = some (l, x)
  | [], _, x => by rw [tsB, List.length_nil, pTs]; exact congrArg (fun y => some ([], y)) (nil_app x)
  | t :: l, h, x => by
    rw [tsB, List.length_cons, pTs, app_assoc, pT_ok (h t List.mem_cons_self), Option.bind_some, pTs_ok l (fun m hm => h m (List.mem_cons_of_mem _ hm)) x]
    rfl
theorem pTs_back : ∀ (n : Nat) {s x : ByteArray} {l : List ByteArray}, pTs n s = some (l, x) → l.length = n ∧ s = tsB l ++ x
  | 0, s, x, l, h => by
    rw [pTs] at h
    cases h
    exact ⟨rfl, (nil_app _).symm⟩
  | n + 1, s, x, l, h => by
    rw [pTs] at h
    obtain ⟨⟨d, s2⟩, h2, h⟩ := Option.bind_eq_some_iff.1 h
    obtain ⟨⟨l', s3⟩, h3, h⟩ := Option.bind_eq_some_iff.1 h
    cases h
    obtain ⟨d1, hd⟩ := pT_back h2
    obtain ⟨r1, r2⟩ := pTs_back n h3
    exact ⟨by rw [List.length_cons, r1], by rw [tsB, app_assoc, ← r2]; exact hd⟩
theorem pMs_ok {l : List Mb} (hl : l.length ≤ 6) (h : ∀ m ∈ l, 0 ≤ m.org ∧ m.org ≤ 7 ∧ m.digest.size ≤ 8192) (x : ByteArray) : pMs (msB l ++ x) = some (l, x) := by
  rw [msB, pMs, app_assoc, pN_ok (by omega) (by omega) (by omega), Option.bind_some]
  simp only [Int.toNat_natCast]
  exact pMb_ok l h x
theorem pMs_back {s x : ByteArray} {l : List Mb} (h : pMs s = some (l, x)) : s = msB l ++ x := by
  rw [pMs] at h
  obtain ⟨⟨a, s1⟩, h1, h⟩ := Option.bind_eq_some_iff.1 h
  obtain ⟨a0, a1, ha⟩ := pN_back h1
  obtain ⟨r1, r2, _⟩ := pMb_back _ h
  rw [msB, app_assoc, ← r2, r1, Int.toNat_of_nonneg a0]
  exact ha
theorem mayTx_r {t : Tx} (h : mayTx t = true) : (0 ≤ t.coord ∧ t.coord ≤ 7) ∧ (0 ≤ t.epoch ∧ t.epoch ≤ 255) ∧ (0 ≤ t.seq ∧ t.seq ≤ 65535) := by
  simp [mayTx, orgW] at h
  omega
theorem pTx_ok {t : Tx} (h : mayTx t = true) (x : ByteArray) : pTx (txB t ++ x) = some (t, x) := by
  obtain ⟨h1, h2, h3⟩ := mayTx_r h
  rw [txB, pTx, app_assoc, app_assoc, pN_ok h1.1 h1.2 (by omega), Option.bind_some, pN_ok h2.1 h2.2 (by omega), Option.bind_some, pN_ok h3.1 h3.2 (by omega)]
  rfl
theorem pTx_back {s x : ByteArray} {t : Tx} (h : pTx s = some (t, x)) : s = txB t ++ x := by
  rw [pTx] at h
  obtain ⟨⟨a, s1⟩, h1, h⟩ := Option.bind_eq_some_iff.1 h
  obtain ⟨⟨b, s2⟩, h2, h⟩ := Option.bind_eq_some_iff.1 h
  obtain ⟨⟨c, s3⟩, h3, h⟩ := Option.bind_eq_some_iff.1 h
  cases h
  rw [txB, app_assoc, app_assoc, ← (pN_back h3).2.2, ← (pN_back h2).2.2]
  exact (pN_back h1).2.2
theorem pY_ok (y : Bool) (x : ByteArray) : pY (yB y ++ x) = some (y, x) := by
  cases y
  · rw [yB, if_neg (by simp), pY, pN_ok (by omega) (by decide) (by omega)]; rfl
  · rw [yB, if_pos rfl, pY, pN_ok (by omega) (by decide) (by omega)]; rfl
theorem pY_back {s x : ByteArray} {y : Bool} (h : pY s = some (y, x)) : s = yB y ++ x := by
  rw [pY] at h
  obtain ⟨⟨a, s1⟩, h1, h⟩ := Option.bind_eq_some_iff.1 h
  cases h
  obtain ⟨a0, a1, ha⟩ := pN_back h1
  have : a = 0 ∨ a = 1 := by omega
  rcases this with rfl | rfl
  · exact ha
  · exact ha
theorem pAM_ok {a : Int} {l : List Mb} (ha : orgW a = true) (hl : l.length ≤ 6) (h : ∀ m ∈ l, 0 ≤ m.org ∧ m.org ≤ 7 ∧ m.digest.size ≤ 8192) (x : ByteArray) : pAM (nB a ++ (msB l ++ x)) = some ((a, l), x) := by
  have : 0 ≤ a ∧ a ≤ 7 := by simp [orgW] at ha; omega
  rw [pAM, pN_ok this.1 this.2 (by omega), Option.bind_some, pMs_ok hl h]
  rfl
theorem pAM_back {s x : ByteArray} {z : Int × List Mb} (h : pAM s = some (z, x)) : s = nB z.1 ++ (msB z.2 ++ x) := by
  rw [pAM] at h
  obtain ⟨⟨a, s1⟩, h1, h⟩ := Option.bind_eq_some_iff.1 h
  obtain ⟨⟨l, s2⟩, h2, h⟩ := Option.bind_eq_some_iff.1 h
  cases h
  rw [← pMs_back h2]
  exact (pN_back h1).2.2
theorem memGo_org (t : Tx) : ∀ (l : List Mb) (last : Int), memGo t last l = true → ∀ m ∈ l, 0 ≤ m.org ∧ m.org ≤ 7
  | [], _, _, m, hm => by cases hm
  | x :: l, last, h, m, hm => by
    rw [memGo] at h
    split at h
    · cases h
    rename_i hb
    rcases List.mem_cons.1 hm with rfl | hm
    · simp [badM, orgW] at hb
      omega
    · exact memGo_org t l x.org h m hm
/-- every text of a record is short -/
def Short (r : Re) : Prop := (∀ m ∈ r.mem, m.digest.size ≤ 8192) ∧ (∀ t ∈ r.tags, t.size ≤ 8192) ∧ r.body.size ≤ 8192
theorem mayMb_r {t : Tx} {l : List Mb} (h : mayMb t l = true) : l.length ≤ 6 ∧ ∀ m ∈ l, 0 ≤ m.org ∧ m.org ≤ 7 := by
  simp only [mayMb, Bool.and_eq_true, decide_eq_true_eq] at h
  exact ⟨by omega, memGo_org t l _ h.1⟩
/-- a record's bytes, whatever stands behind, are read as it -/
theorem pRec_ok {r : Re} (h : RecP r) (hs : Short r) (x : ByteArray) : pRec r.kind (bodyB r ++ x) = some (r, x) := by
  cases h with
  | epoch e h1 h2 =>
    show (pN 255 (nB e ++ x)).bind _ = _
    rw [pN_ok (by omega) (by omega) (by omega)]; rfl
  | vote t y a m b h1 h2 h3 h4 =>
    obtain ⟨m1, m2⟩ := mayMb_r h3
    show (pTx ((txB t ++ (yB y ++ (nB a ++ (msB m ++ textB b)))) ++ x)).bind _ = _
    rw [app_assoc, app_assoc, app_assoc, app_assoc, pTx_ok h1, Option.bind_some, pY_ok, Option.bind_some, pAM_ok h2 m1 (fun u hu => ⟨(m2 u hu).1, (m2 u hu).2, hs.1 u hu⟩), Option.bind_some, pT_ok hs.2.2]
    rfl
  | commit t a m g h1 h2 h3 h4 h5 =>
    obtain ⟨m1, m2⟩ := mayMb_r h3
    show (pTx ((txB t ++ (yB true ++ (nB a ++ (msB m ++ tsB g)))) ++ x)).bind _ = _
    rw [app_assoc, app_assoc, app_assoc, app_assoc, pTx_ok h1, Option.bind_some, pY_ok, Option.bind_some]
    simp only [if_true]
    rw [pAM_ok h2 m1 (fun u hu => ⟨(m2 u hu).1, (m2 u hu).2, hs.1 u hu⟩), Option.bind_some]
    simp only
    rw [← h4, pTs_ok g hs.2.1]
    rfl
  | abort t h1 =>
    show (pTx ((txB t ++ (yB false ++ bz)) ++ x)).bind _ = _
    rw [app_assoc, app_assoc, pTx_ok h1, Option.bind_some, pY_ok, Option.bind_some]
    exact congrArg (fun y => some (_, y)) (nil_app x)
  | learn t y h1 =>
    show (pTx ((txB t ++ yB y) ++ x)).bind _ = _
    rw [app_assoc, pTx_ok h1, Option.bind_some, pY_ok]
    rfl
/-- what is read is the bytes of what was read -/
theorem pRec_back {k : Int} {s x : ByteArray} {r : Re} (h : pRec k s = some (r, x)) : r.kind = k ∧ s = bodyB r ++ x := by
  unfold pRec at h
  split at h
  · rename_i hk
    obtain ⟨⟨a, s1⟩, h1, h⟩ := Option.bind_eq_some_iff.1 h
    cases h
    exact ⟨hk.symm, (pN_back h1).2.2⟩
  split at h
  · rename_i hk
    obtain ⟨⟨t, s1⟩, h1, h⟩ := Option.bind_eq_some_iff.1 h
    obtain ⟨⟨y, s2⟩, h2, h⟩ := Option.bind_eq_some_iff.1 h
    obtain ⟨⟨z, s3⟩, h3, h⟩ := Option.bind_eq_some_iff.1 h
    obtain ⟨⟨u, s4⟩, h4, h⟩ := Option.bind_eq_some_iff.1 h
    cases h
    refine ⟨hk.symm, ?_⟩
    show s = (txB t ++ (yB y ++ (nB z.1 ++ (msB z.2 ++ textB u)))) ++ _
    rw [app_assoc, app_assoc, app_assoc, app_assoc, ← (pT_back h4).2, ← pAM_back h3, ← pY_back h2]
    exact pTx_back h1
  split at h
  · rename_i hk
    obtain ⟨⟨t, s1⟩, h1, h⟩ := Option.bind_eq_some_iff.1 h
    obtain ⟨⟨y, s2⟩, h2, h⟩ := Option.bind_eq_some_iff.1 h
    simp only at h
    split at h
    · rename_i hy
      subst hy
      obtain ⟨⟨z, s3⟩, h3, h⟩ := Option.bind_eq_some_iff.1 h
      obtain ⟨⟨u, s4⟩, h4, h⟩ := Option.bind_eq_some_iff.1 h
      cases h
      refine ⟨hk.symm, ?_⟩
      show s = (txB t ++ (yB true ++ (nB z.1 ++ (msB z.2 ++ tsB u)))) ++ _
      rw [app_assoc, app_assoc, app_assoc, app_assoc, ← (pTs_back _ h4).2, ← pAM_back h3, ← pY_back h2]
      exact pTx_back h1
    · rename_i hy
      have hy : y = false := by simpa using hy
      subst hy
      cases h
      refine ⟨hk.symm, ?_⟩
      show s = (txB t ++ (yB false ++ bz)) ++ _
      rw [app_assoc, app_assoc, show ∀ y : ByteArray, bz ++ y = y from nil_app, ← pY_back h2]
      exact pTx_back h1
  split at h
  · rename_i hk
    obtain ⟨⟨t, s1⟩, h1, h⟩ := Option.bind_eq_some_iff.1 h
    obtain ⟨⟨y, s2⟩, h2, h⟩ := Option.bind_eq_some_iff.1 h
    cases h
    refine ⟨hk.symm, ?_⟩
    show s = (txB t ++ yB y) ++ _
    rw [app_assoc, ← pY_back h2]
    exact pTx_back h1
  · rename_i h1 h2 h3 h4
    cases h
    refine ⟨rfl, ?_⟩
    have : bodyB ⟨k, 0, ⟨0, 0, 0⟩, false, 0, [], [], bz⟩ = bz := by
      unfold bodyB
      rw [if_neg h1, if_neg h2, if_neg h3, if_neg h4]
    rw [this]
    exact (nil_app _).symm
end Go.Proofs.YtkjljcgbnikmkaaGreatDoor
namespace Go.Proofs.YtkjljcgbnikmkaaGreatDoor
open Go.Chi

/-- s is the bytes of r -/
def Dec (s : ByteArray) (r : Re) : Prop := RecP r ∧ recB r = s ∧ s.size ≤ 8192
theorem RecP.kind {r : Re} (h : RecP r) : 1 ≤ r.kind ∧ r.kind ≤ 4 := by cases h <;> simp
theorem recB_size (r : Re) : (recB r).size = 1 + (bodyB r).size := by rw [recB, app_size, bytesI_one]
theorem recB_byte {r : Re} (h : RecP r) (x : ByteArray) : byte (recB r ++ x) 0 = r.kind := by
  have := h.kind
  rw [recB, app_assoc, byte_left (by rw [bytesI_one]; omega), byte_one _ (by omega) (by omega)]
theorem recB_rest (r : Re) (x : ByteArray) : rest1 (recB r ++ x) = bodyB r ++ x := by
  rw [recB, app_assoc]
  have := ext_right (bytesI [r.kind]) (bodyB r ++ x)
  rw [bytesI_one] at this
  exact this
theorem textB_size (t : ByteArray) : t.size ≤ (textB t).size := by rw [textB, app_size]; omega
theorem mbB_size : ∀ (l : List Mb), ∀ m ∈ l, m.digest.size ≤ (mbB l).size
  | [], m, hm => by cases hm
  | x :: l, m, hm => by
    rw [mbB, app_size, app_size]
    rcases List.mem_cons.1 hm with rfl | hm
    · have := textB_size m.digest; omega
    · have := mbB_size l m hm; omega
theorem tsB_size : ∀ (l : List ByteArray), ∀ t ∈ l, t.size ≤ (tsB l).size
  | [], m, hm => by cases hm
  | x :: l, m, hm => by
    rw [tsB, app_size]
    rcases List.mem_cons.1 hm with rfl | hm
    · have := textB_size m; omega
    · have := tsB_size l m hm; omega
theorem short_of {r : Re} (h : RecP r) (hs : (recB r).size ≤ 8192) : Short r := by
  rw [recB_size] at hs
  cases h with
  | epoch e h1 h2 => exact ⟨(fun m hm => by cases hm), (fun m hm => by cases hm), Nat.zero_le _⟩
  | vote t y a m b h1 h2 h3 h4 =>
    have e : bodyB ⟨2, 0, t, y, a, m, [], b⟩ = txB t ++ (yB y ++ (nB a ++ (msB m ++ textB b))) := rfl
    rw [e, app_size, app_size, app_size, app_size, msB, app_size] at hs
    have := textB_size b
    exact ⟨fun u hu => by have := mbB_size m u hu; omega, (fun m hm => by cases hm), by show b.size ≤ 8192; omega⟩
  | commit t a m g h1 h2 h3 h4 h5 =>
    have e : bodyB ⟨3, 0, t, true, a, m, g, bz⟩ = txB t ++ (yB true ++ (nB a ++ (msB m ++ tsB g))) := rfl
    rw [e, app_size, app_size, app_size, app_size, msB, app_size] at hs
    exact ⟨fun u hu => by have := mbB_size m u hu; omega, fun u hu => by have := tsB_size g u hu; omega, Nat.zero_le _⟩
  | abort t h1 => exact ⟨(fun m hm => by cases hm), (fun m hm => by cases hm), Nat.zero_le _⟩
  | learn t y h1 => exact ⟨(fun m hm => by cases hm), (fun m hm => by cases hm), Nat.zero_le _⟩
/-- a record's bytes, whatever stands behind, are read as it -/
theorem rec_read {r : Re} (h : RecP r) (hs : (recB r).size ≤ 8192) (x : ByteArray) : pRec (byte (recB r ++ x) 0) (rest1 (recB r ++ x)) = some (r, x) := by
  rw [recB_byte h, recB_rest, pRec_ok h (short_of h hs)]
theorem rec_prefix {a b : Re} (ha : RecP a) (hb : RecP b) (hsa : (recB a).size ≤ 8192) (hsb : (recB b).size ≤ 8192) {x y : ByteArray} (h : recB a ++ x = recB b ++ y) : a = b ∧ x = y := by
  have h1 := rec_read ha hsa x
  rw [h, rec_read hb hsb y] at h1
  cases h1
  exact ⟨rfl, rfl⟩
theorem Dec.uniq {s : ByteArray} {r r' : Re} (h : Dec s r) (h' : Dec s r') : r = r' := by
  have e : recB r ++ bz = recB r' ++ bz := by rw [h.2.1, h'.2.1]
  exact (rec_prefix h.1 h'.1 (by rw [h.2.1]; exact h.2.2) (by rw [h'.2.1]; exact h'.2.2) e).1
theorem size_zero {s : ByteArray} (h : s.size = 0) : s = bz := by
  apply ba_ext
  have : s.data.toList.length = 0 := by rw [ba_len]; exact h
  rw [List.length_eq_zero_iff.1 this]
  rfl
/-- what the program's reader finds -/
theorem dec_iff {s : ByteArray} {r : Re} : Dec s r ↔ s.size ≠ 0 ∧ s.size ≤ 8192 ∧ RecP r ∧ ∃ x, pRec (byte s 0) (rest1 s) = some (r, x) ∧ x.size = 0 := by
  constructor
  · rintro ⟨h1, rfl, h3⟩
    have := rec_read h1 h3 bz
    rw [show ∀ y : ByteArray, y ++ bz = y from app_nil] at this
    exact ⟨by rw [recB_size]; omega, h3, h1, bz, this, rfl⟩
  · rintro ⟨h1, h2, h3, x, h4, h5⟩
    obtain ⟨hk, hb⟩ := pRec_back h4
    refine ⟨h3, ?_, h2⟩
    rw [size_zero h5, show ∀ y : ByteArray, y ++ bz = y from app_nil] at hb
    rw [recB, hk, ← hb]
    have hp : 0 < s.size := by omega
    have := ext_split s (n := 1) (by omega)
    rw [ext_one hp] at this
    exact this.symm
end Go.Proofs.YtkjljcgbnikmkaaGreatDoor
namespace Go.Proofs.YtkjljcgbnikmkaaGreatDoor
open Go.Chi

/-! ### frames, one behind the other -/
def frsB (l : ByteArray) : List ByteArray → ByteArray
  | [] => bz
  | t :: ts => frB l t ++ frsB (nextB l t) ts
def headB (l : ByteArray) : List ByteArray → ByteArray
  | [] => l
  | t :: ts => headB (nextB l t) ts
theorem frsB_app : ∀ (l : ByteArray) (a b : List ByteArray), frsB l (a ++ b) = frsB l a ++ frsB (headB l a) b
  | l, [], b => (nil_app _).symm
  | l, t :: a, b => by rw [List.cons_append, frsB, frsB, headB, frsB_app, app_assoc]
theorem headB_app : ∀ (l : ByteArray) (a b : List ByteArray), headB l (a ++ b) = headB (headB l a) b
  | l, [], b => rfl
  | l, t :: a, b => by rw [List.cons_append, headB, headB, headB_app]
theorem headB_size : ∀ (l : ByteArray) (a : List ByteArray), l.size = 32 → (headB l a).size = 32
  | l, [], h => h
  | l, t :: a, _ => headB_size _ a (nextB_size l t)
theorem frsB_one (l t : ByteArray) : frsB l [t] = frB l t := app_nil _
/-- no frame stands at the front -/
def NoFr (l rest : ByteArray) : Prop := ∀ t y : ByteArray, t.size ≤ 8192 → rest ≠ frB l t ++ y
def AllSh (ts : List ByteArray) : Prop := ∀ t ∈ ts, t.size ≤ 8192
structure Scn (l s : ByteArray) (ts : List ByteArray) (rest : ByteArray) : Prop where
  eq : s = frsB l ts ++ rest
  sh : AllSh ts
  no : NoFr (headB l ts) rest
theorem scn_ex : ∀ (n : Nat) (l s : ByteArray), s.size ≤ n → ∃ ts rest, Scn l s ts rest := by
  intro n
  induction n with
  | zero =>
    intro l s hs
    refine ⟨[], s, (nil_app _).symm, (fun _ h => by cases h), fun t y _ e => ?_⟩
    have := congrArg ByteArray.size e
    rw [app_size, frB_size] at this
    omega
  | succ n ih =>
    intro l s hs
    by_cases h : ∃ t y : ByteArray, t.size ≤ 8192 ∧ s = frB l t ++ y
    · obtain ⟨t, y, ht, rfl⟩ := h
      rw [app_size, frB_size] at hs
      obtain ⟨ts, rest, h1, h2, h3⟩ := ih (nextB l t) y (by omega)
      refine ⟨t :: ts, rest, by rw [frsB, app_assoc, ← h1], fun x hx => ?_, h3⟩
      rcases List.mem_cons.1 hx with rfl | hx
      · exact ht
      · exact h2 x hx
    · exact ⟨[], s, (nil_app _).symm, (fun _ h => by cases h), fun t y ht e => h ⟨t, y, ht, e⟩⟩
theorem text_uniq {t u x y : ByteArray} (ht : t.size ≤ 8192) (hu : u.size ≤ 8192) (h : textB t ++ x = textB u ++ y) : t = u ∧ x = y := by
  have h1 := text_read ht (by omega) x
  rw [h, text_read hu (by omega) y] at h1
  have e : u = t := (Prod.mk.inj h1).1
  subst e
  exact ⟨rfl, app_left_inj h⟩
theorem fr_uniq {l t u x y : ByteArray} (ht : t.size ≤ 8192) (hu : u.size ≤ 8192) (h : frB l t ++ x = frB l u ++ y) : t = u ∧ x = y := by
  unfold frB at h
  rw [app_assoc, app_assoc] at h
  obtain ⟨rfl, h2⟩ := text_uniq ht hu h
  exact ⟨rfl, app_left_inj h2⟩
theorem Scn.uniq : ∀ {ts us : List ByteArray} {l s r r' : ByteArray}, Scn l s ts r → Scn l s us r' → ts = us ∧ r = r'
  | [], [], l, s, r, r', h, k => ⟨rfl, by have e := h.eq.symm.trans k.eq; exact app_left_inj e⟩
  | [], u :: us, l, s, r, r', h, k => by
    exfalso
    have e := h.eq.symm.trans k.eq
    rw [frsB, frsB, app_assoc, show bz ++ r = r from nil_app r] at e
    exact h.no u _ (k.sh u List.mem_cons_self) e
  | t :: ts, [], l, s, r, r', h, k => by
    exfalso
    have e := k.eq.symm.trans h.eq
    rw [frsB, frsB, app_assoc, show bz ++ r' = r' from nil_app r'] at e
    exact k.no t _ (h.sh t List.mem_cons_self) e
  | t :: ts, u :: us, l, s, r, r', h, k => by
    have e := h.eq.symm.trans k.eq
    rw [frsB, frsB, app_assoc, app_assoc] at e
    obtain ⟨rfl, e2⟩ := fr_uniq (h.sh t List.mem_cons_self) (k.sh u List.mem_cons_self) e
    obtain ⟨rfl, rfl⟩ := Scn.uniq (ts := ts) (us := us) (l := nextB l t) (s := frsB (nextB l t) ts ++ r) ⟨rfl, fun x hx => h.sh x (List.mem_cons_of_mem _ hx), h.no⟩ ⟨e2, fun x hx => k.sh x (List.mem_cons_of_mem _ hx), k.no⟩
    exact ⟨rfl, rfl⟩
/-! ### what the steps over frames are -/
structure Sp where
  t : ByteArray
  nx : ByteArray
  at_ : Nat
  is_ : Bool
def spC (s : Sp) : List Value := [.string s.t] ++ (lkC s.nx ++ [.int .i64 (s.at_ : Int), .bool s.is_])
def spV (s : Sp) : List Value := [.agg ⟨spC s⟩]
theorem spC_len {s : Sp} (h : s.nx.size = 32) : (spC s).length = 35 := by
  simp [spC, lkC_len, h]
/-- the step at a place -/
def stepF (l : ByteArray) (a : Nat) (s : ByteArray) : Sp :=
  if (textR s 8192).2.2 = 0 ∧ 32 ≤ s.size - (textR s 8192).2.1.toNat then
    ⟨(textR s 8192).1, nextB l (textR s 8192).1, a + (textR s 8192).2.1.toNat + 32, decide (s.extract (textR s 8192).2.1.toNat ((textR s 8192).2.1.toNat + 32) = nextB l (textR s 8192).1)⟩
  else ⟨bz, firstB, 0, false⟩
theorem stepF_go {l t y : ByteArray} {a : Nat} (ht : t.size ≤ 8192) (hy : 32 ≤ y.size) : stepF l a (textB t ++ y) = ⟨t, nextB l t, a + (textB t).size + 32, decide (y.extract 0 32 = nextB l t)⟩ := by
  unfold stepF
  rw [text_read ht (by omega) y]
  simp only [Int.toNat_natCast]
  rw [if_pos ⟨trivial, by rw [app_size]; omega⟩]
  have : (textB t ++ y).extract (textB t).size ((textB t).size + 32) = y.extract 0 32 := by
    apply ba_ext
    rw [ba_extract, ba_extract, ba_app, List.drop_take, ← ba_len (textB t), List.drop_left' rfl]
    simp
  simp only [this]
theorem stepF_nx (l : ByteArray) (a : Nat) (s : ByteArray) : (stepF l a s).nx.size = 32 := by
  unfold stepF
  split
  · exact nextB_size _ _
  · rfl
theorem stepF_no {l s : ByteArray} {a : Nat} (h : NoFr l s) : (stepF l a s).is_ = false := by
  unfold stepF
  split
  · rename_i hc
    obtain ⟨t, ht, hr, hs⟩ := text_back hc.1
    rw [hr]
    simp only [Int.toNat_natCast]
    rw [decide_eq_false_iff_not]
    intro e
    rw [hr] at hc
    have hc2 := hc.2
    simp only [Int.toNat_natCast] at hc2
    refine h t (s.extract ((textB t).size + 32) s.size) ht ?_
    rw [frB, ← e, app_assoc]
    apply ba_ext
    have hl := ba_len s
    have h1 := congrArg (fun x : ByteArray => x.data.toList) hs
    simp only [ba_app, ba_extract] at h1 ⊢
    rw [List.take_of_length_le (l := s.data.toList) (i := s.size) (by omega)] at h1 ⊢
    rw [List.drop_take, show (textB t).size + 32 - (textB t).size = 32 by omega, ← List.drop_drop, List.take_append_drop]
    exact h1
  · rfl
/-- all of them -/
def placeB (ts : List ByteArray) (j : Nat) : Nat := (frsB firstB (ts.take j)).size
def linkB (ts : List ByteArray) (j : Nat) : ByteArray := headB firstB (ts.take j)
def stepsL (s : ByteArray) (ts : List ByteArray) : List (List Value) := fc (fun j => spV (stepF (linkB ts j) (placeB ts j) (s.extract (placeB ts j) s.size))) (ts.length + 1)
theorem at_split {s rest : ByteArray} {ts : List ByteArray} (h : Scn firstB s ts rest) {j : Nat} {t : ByteArray} (hj : ts[j]? = some t) :
    ∃ y, s.extract (placeB ts j) s.size = textB t ++ (nextB (linkB ts j) t ++ y) ∧ placeB ts (j + 1) = placeB ts j + (textB t).size + 32 ∧ linkB ts (j + 1) = nextB (linkB ts j) t := by
  obtain ⟨hlt, he⟩ := List.getElem?_eq_some_iff.1 hj
  have hsp : ts = ts.take j ++ t :: ts.drop (j + 1) := by rw [← he, List.getElem_cons_drop, List.take_append_drop]
  have hs : s = frsB firstB (ts.take j) ++ (textB t ++ (nextB (linkB ts j) t ++ (frsB (nextB (linkB ts j) t) (ts.drop (j + 1)) ++ rest))) := by
    conv => lhs; rw [h.eq, hsp]
    rw [frsB_app, frsB, frB, app_assoc, app_assoc, app_assoc]
    rfl
  refine ⟨frsB (nextB (linkB ts j) t) (ts.drop (j + 1)) ++ rest, ?_, ?_, ?_⟩
  · conv => lhs; rw [hs]
    exact ext_right _ _
  · unfold placeB
    rw [take_snoc hj, frsB_app, app_size, frsB_one, frB_size]
    omega
  · unfold linkB
    rw [take_snoc hj, headB_app]; rfl
theorem at_end {s rest : ByteArray} {ts : List ByteArray} (h : Scn firstB s ts rest) : s.extract (placeB ts ts.length) s.size = rest ∧ linkB ts ts.length = headB firstB ts := by
  unfold placeB linkB
  rw [List.take_of_length_le (Nat.le_refl _)]
  refine ⟨?_, rfl⟩
  conv => lhs; rw [h.eq]
  exact ext_right _ _
theorem place_le {s rest : ByteArray} {ts : List ByteArray} (h : Scn firstB s ts rest) (j : Nat) : placeB ts j ≤ s.size := by
  have : s = frsB firstB (ts.take j) ++ (frsB (linkB ts j) (ts.drop j) ++ rest) := by
    conv => lhs; rw [h.eq, ← List.take_append_drop j ts]
    rw [frsB_app, app_assoc]; rfl
  rw [this, app_size]
  unfold placeB
  omega
end Go.Proofs.YtkjljcgbnikmkaaGreatDoor
namespace Go.Proofs.YtkjljcgbnikmkaaGreatDoor
open Go.Chi
set_option maxRecDepth 10000

/-! ### the steps over frames -/
theorem fillL_cons {T : TT} {fs : List Field} {zs zs' : List Value} {i o j : Nat} {v : Value} {r : List (Nat × Value)} {nm : String} {ft : TypeId} {e1 e2 e3 : _} {tg : _} (hf : fs[i]? = some ⟨nm, ft, o, e1, e2, e3, tg⟩) (hs : sizeT T ft = some j) (hl : (cellsL v).length = j) (hz : setE zs o (cellsL v) = some zs') : fillL T fs zs ((i, v) :: r) = fillL T fs zs' r := by
  have hb : Nat.beq (cellsL v).length j = true := by rw [hl]; exact Nat.beq_refl j
  simp only [fillL, hf, hs, hb, hz]
def spz : List Value := .string bz :: ((lkC firstB) ++ [.int .i64 0, .bool false])
theorem sp_set (t nx : ByteArray) (h : nx.size = 32) : setE (.string t :: ((lkC firstB) ++ [.int .i64 0, .bool false])) 1 (lkC nx) = some (.string t :: (lkC nx ++ [.int .i64 0, .bool false])) := by
  have h1 : (lkC nx).length = 32 := by rw [lkC_len, h]
  have h2 : (lkC firstB).length = 32 := rfl
  rw [setE_of (by rw [List.length_cons, List.length_append, h1, h2]; decide)]
  unfold setSeg
  rw [h1]
  rfl
theorem sp_set2 (t nx : ByteArray) (n : Nat) (b : Bool) (h : nx.size = 32) : setE (.string t :: (lkC nx ++ [.int .i64 0, .bool false])) 33 [iv n] = some (.string t :: (lkC nx ++ [iv n, .bool false])) ∧ setE (.string t :: (lkC nx ++ [iv n, .bool false])) 34 [.bool b] = some (.string t :: (lkC nx ++ [iv n, .bool b])) := by
  have h1 : (lkC nx).length = 32 := by rw [lkC_len, h]
  generalize lkC nx = l at h1
  constructor
  · rw [setE_of (by simp; omega), setSeg_one (by simp; omega), List.set_cons_succ, List.set_append_right _ _ (by omega), h1]
    rfl
  · rw [setE_of (by simp; omega), setSeg_one (by simp; omega), List.set_cons_succ, List.set_append_right _ _ (by omega), h1]
    rfl
theorem sp_build (t nx : ByteArray) (n : Nat) (b : Bool) (h : nx.size = 32) {σ : Env} {δ : Den} {cur : Path} {parts : Array (Nat × Operand)} (hp : evParts σ δ cur parts.toList = some [(0, .string t), (1, .agg ⟨lkC nx⟩), (2, iv n), (3, .bool b)]) :
    pev tt σ δ cur (.build 115 parts) = some (.agg ⟨spC ⟨t, nx, n, b⟩⟩) := by
  have h1 : (lkC nx).length = 32 := by rw [lkC_len, h]
  obtain ⟨s2, s3⟩ := sp_set2 t nx n b h
  have key : ∀ fs : Array Field, und tt 115 = some (.struct fs) → fillL tt fs.toList spz [(0, .string t), (1, .agg ⟨lkC nx⟩), (2, iv n), (3, .bool b)] = some (spC ⟨t, nx, n, b⟩) ∧ fieldsKnown tt fs.toList = true := by
    intro fs hfs
    have hu : und tt 115 = some (.struct fs) := hfs
    cases hu
    constructor
    · rw [fillL_cons (v := .string t) (zs' := .string t :: ((lkC firstB) ++ [.int .i64 0, .bool false])) rfl rfl rfl rfl]
      rw [fillL_cons (v := .agg ⟨lkC nx⟩) rfl rfl h1 (sp_set t nx h)]
      rw [fillL_cons (v := iv n) rfl rfl rfl s2]
      rw [fillL_cons (v := .bool b) rfl rfl rfl s3]
      rfl
    · rfl
  obtain ⟨fs, hfs⟩ : ∃ fs, und tt 115 = some (.struct fs) := ⟨_, rfl⟩
  obtain ⟨k1, k2⟩ := key fs hfs
  have hz : zeroT tt 115 = some (.agg ⟨spz⟩) := by rfl
  simp only [pev, hfs, hz, hp, k1, k2]
theorem steps_ok (M : Mem) (L : HL) (s : ByteArray) : Tr Tryz.prog 68 [.string s] M L (fun v M' L' => M.le M' ∧ L' = L ∧ ∃ bs, v = .func (.func 96) #[] ⟨[pt bs]⟩ ∧ Cells M' [] bs 0 [.string s]) := by
  refine Tr.intro 4 Tryz.func68 rfl rfl Tryz.call68 rfl ?_
  intro C hC hro
  repeat (first | with_reducible (first | refine zS ?_ | refine zR ?_ | refine zN ?_ | refine zK ?_ | refine zB ?_ | refine zI ?_) | refine zE rfl ?_ | refine wq ?_ | refine wg ?_ | refine ws ?_ | refine wb fun _ => ?_ | refine wa fun _ => ?_ | refine wl fun _ => ?_)
  rename_i b
  refine run_frz 0 rfl ?_
  intro M1 hM1 hb
  exact run_ret hC (rs := [.tmp 2]) rfl (resT rfl resN) (fun _ h => h) ⟨hM1, rfl, b, rfl, Cells.ofBlk hb⟩
set_option maxHeartbeats 8000000 in
theorem steps1_ok (M : Mem) (bs : Nat) (s rest : ByteArray) (ts : List ByteArray) (hk : KM M) (hb : Cells M [] bs 0 [.string s]) (h : Scn firstB s ts rest) (hs : s.size < 10000000) :
    IterOk Tryz.prog 96 [pt bs] M (stepsL s ts) := by
  intro lp I X M0 L0 hle hyield hI
  have hk0 := hk.le hle
  have hb0 := hb.le hle
  have hlen : (stepsL s ts).length = ts.length + 1 := fc_len _ _
  refine Tr.intro 57 Tryz.func96 rfl rfl Tryz.call96 rfl ?_
  intro C hC hro
  repeat (first | with_reducible (first | refine zS ?_ | refine zR ?_ | refine zN ?_ | refine zK ?_ | refine zB ?_ | refine zI ?_) | refine zE rfl ?_ | refine wq ?_ | refine wg ?_ | refine ws ?_ | refine wb fun _ => ?_ | refine wa fun _ => ?_ | refine wl fun _ => ?_)
  rename_i bl
  refine run_mem (L' := (bl, .cells ⟨lkC firstB⟩ 107 (0, 0)) :: L0) (fun _ h => h) ?_
  refine run_loopN (fun j σ1 M1 L1 => j ≤ ts.length ∧ M0.le M1 ∧ ∃ L2, I j M1 L2 ∧ L1 = (bl, .cells ⟨lkC (linkB ts j)⟩ 107 (0, 0)) :: L2 ∧ σ1 = [(4, iv (placeB ts j)), (3, pt bl), (1, pt bs), (0, yv lp)]) ts.length [(4, iv 0), (3, pt bl), (1, pt bs), (0, yv lp)] ?_ ⟨Nat.zero_le _, Mem.le_refl _, L0, hI, rfl, rfl⟩ (fun j _ _ _ h => h.1) ?_
  · exact ⟨rfl, rfl, rfl, rfl, trivial⟩
  rintro j _ M1 _ ⟨hj, hM1, L2, hI2, rfl, rfl⟩ hnext
  have hb1 := hb0.le hM1
  have hk1 := hk0.le hM1
  have hpl := place_le h j
  have hlk : (linkB ts j).size = 32 := headB_size _ _ rfl
  generalize hsj : s.extract (placeB ts j) s.size = sj
  have hsz : sj.size = s.size - placeB ts j := by rw [← hsj, ← ba_len, ba_extract, List.length_drop, List.length_take, ba_len]; omega
  have hget : (stepsL s ts)[j]? = some (spV (stepF (linkB ts j) (placeB ts j) sj)) := by
    rw [stepsL, fc_get (by omega), hsj]
  by_cases hgo : (textR sj 8192).2.2 = 0 ∧ 32 ≤ sj.size - (textR sj 8192).2.1.toNat
  · obtain ⟨t, ht, hr, hst⟩ := text_back hgo.1
    generalize hy : sj.extract (textB t).size sj.size = y at hst
    generalize hk' : (textB t).size = k at *
    have hy32 : 32 ≤ y.size := by
      have h2 := hgo.2
      rw [hr] at h2
      simp only [Int.toNat_natCast] at h2
      rw [hst, app_size, hk'] at h2
      omega
    have hsy : sj.size = k + y.size := by rw [hst, app_size, hk']
    have hnx32 := nextB_size (linkB ts j) t
    rw [hst, stepF_go ht hy32, hk'] at hget
    generalize hnx : nextB (linkB ts j) t = nx at hget hnx32
    have e1 : IntKind.i64.wrap (((placeB ts j : Nat) : Int) + (k : Int)) = ((placeB ts j + k : Nat) : Int) := wrap64_nat (n := placeB ts j + k) (by omega)
    have e2 : IntKind.i64.wrap ((s.size : Int) - ((placeB ts j + k : Nat) : Int)) = ((s.size - (placeB ts j + k) : Nat) : Int) := by
      rw [show (s.size : Int) - ((placeB ts j + k : Nat) : Int) = ((s.size - (placeB ts j + k) : Nat) : Int) by omega]
      exact wrap64_nat (by omega)
    have e3 : IntKind.i64.wrap (((placeB ts j + k : Nat) : Int) + 32) = ((placeB ts j + k + 32 : Nat) : Int) := wrap64_nat (n := placeB ts j + k + 32) (by omega)
    have hmid : s.extract (placeB ts j + k) (placeB ts j + k + 32) = y.extract 0 32 := by
      have h1 : sj.extract k (k + 32) = y.extract 0 32 := by
        rw [hst]
        apply ba_ext
        rw [ba_extract, ba_extract, ba_app, List.drop_take, ← hk', ← ba_len (textB t), List.drop_left' rfl]
        simp
      rw [← h1, ← hsj]
      apply ba_ext
      simp only [ba_extract]
      rw [List.take_of_length_le (l := s.data.toList) (i := s.size) (by rw [ba_len]; exact Nat.le_refl _), List.drop_take, List.drop_take, List.drop_drop]
      congr 1
      omega
    have h0 : (y.extract 0 32).size = 32 := by rw [← ba_len, ba_extract, List.drop_zero, List.length_take, ba_len]; omega
    repeat (first | with_reducible (first | refine zS ?_ | refine zR ?_ | refine zN ?_ | refine zK ?_ | refine zB ?_ | refine zI ?_) | refine zE rfl ?_ | refine wq ?_ | refine wg ?_ | refine ws ?_ | refine wb fun _ => ?_ | refine wa fun _ => ?_ | refine wl fun _ => ?_ | refine runL_q (qt_indexN tok rfl rfl rfl rfl (fun _ => by omega)) rfl rfl rfl ?_ | refine runL_g rfl rfl (qt_indexN tok rfl rfl rfl rfl (fun _ => by omega)) rfl rfl rfl rfl rfl ?_ | refine runL_q (qt_ldM tok rfl hb1 rfl) rfl rfl rfl ?_ | refine runL_g rfl rfl (qt_ldM tok rfl hb1 rfl) rfl rfl rfl rfl rfl ?_ | refine runL_q (qt_ldM0 tok rfl hb1 rfl) rfl rfl rfl ?_ | refine runL_g rfl rfl (qt_ldM0 tok rfl hb1 rfl) rfl rfl rfl rfl rfl ?_ | refine rq (Qt.as (v' := .string sj) (qt_strLo (n := placeB ts j) tok rfl rfl rfl (fun _ => hpl)) (congrArg Value.string hsj)) ?_ | refine rq (Qt.as (v' := .tuple ⟨[.string t, iv k, .int .i64 0]⟩) (qt_callF rfl (fun _ => readText_ok _ _ sj 8192 (by omega) (by decide))) (by rw [hr])) ?_)
    refine run_cond rfl (fun hc => ?_) (fun _ => ?_)
    · exfalso
      rw [e1, e2] at hc
      simp at hc
      omega
    refine run_skip ?_
    refine run_as 4 (iv (placeB ts j + k)) rfl (congrArg (Value.int .i64) e1) ?_
    refine run_seq ?_
    refine run_region ?_
    refine rq (qt_ld tok rfl List.mem_cons_self (ldE_all rfl (by rw [lkC_len, hlk]; rfl))) ?_
    repeat (first | refine wq ?_ | refine wg ?_)
    refine rq (Qt.as (v' := .agg ⟨lkC nx⟩) (qt_callF rfl (fun _ => chNext_ok _ _ (linkB ts j) t hk1 hlk (by omega))) (by rw [hnx])) ?_
    refine ws ?_ rfl rfl rfl (by show (lkC nx).length = 32; rw [lkC_len, hnx32]) (bC_one _) (by (repeat (first | with_reducible apply Upd.here | with_reducible apply Upd.there | with_reducible apply Upd.append_left))) (setE_all (by show (lkC nx).length = (lkC (linkB ts j)).length; rw [lkC_len, lkC_len, hnx32, hlk]))
    refine runL_nil ?_
    refine run_seq ?_
    refine prn_start mixed ?_
    repeat (first | refine dq ?_ | refine dg ?_ | refine prn_q rfl (qt_indexN tok rfl rfl rfl rfl (fun _ => by omega)) (by decide +kernel) rfl rfl rfl ?_ | refine prn_g rfl rfl rfl (qt_indexN tok rfl rfl rfl rfl (fun _ => by omega)) (by decide +kernel) rfl rfl rfl rfl rfl ?_ | refine prn_q rfl (qt_ldM tok rfl hb1 rfl) (by decide +kernel) rfl rfl rfl ?_ | refine prn_g rfl rfl rfl (qt_ldM tok rfl hb1 rfl) (by decide +kernel) rfl rfl rfl rfl rfl ?_ | refine prn_q rfl (qt_ldM0 tok rfl hb1 rfl) (by decide +kernel) rfl rfl rfl ?_ | refine prn_g rfl rfl rfl (qt_ldM0 tok rfl hb1 rfl) (by decide +kernel) rfl rfl rfl rfl rfl ?_)
    refine pr_as 38 (iv (placeB ts j + k + 32)) rfl (congrArg (Value.int .i64) e3) ?_
    refine pq rfl (Qt.as (v' := .string (y.extract 0 32)) (qt_strMid (m := placeB ts j + k) (n := placeB ts j + k + 32) tok rfl rfl rfl rfl (fun _ => ⟨by omega, by omega⟩)) (congrArg Value.string hmid)) ?_
    refine pq rfl (qt_callF rfl (fun _ => chOf_ok _ _ _ h0)) ?_
    have hldx : ldE tt 107 (lkC nx) 0 = some (.agg ⟨lkC nx⟩) := ldE_all rfl (by rw [lkC_len, hnx32]; rfl)
    refine pq rfl (qt_ld tok rfl List.mem_cons_self hldx) ?_
    refine pq rfl (qt_eqLink _ _ h0 hnx32 rfl rfl) ?_
    generalize hisv : decide (y.extract 0 32 = nx) = isv at hget
    repeat (first | refine dq ?_ | refine dg ?_)
    refine prn_end (by decide +kernel) ?_
    refine run_seq ?_
    (refine run_region ?_; (repeat (first | refine wq ?_ | refine wg ?_ | refine ws ?_ | refine wb fun _ => ?_ | refine wa fun _ => ?_ | refine wl fun _ => ?_)); refine runL_nil ?_)
    refine run_as 4 (iv (placeB ts j + k + 32)) rfl (congrArg (Value.int .i64) e3) ?_
    refine run_seq ?_
    refine run_region ?_
    repeat (first | refine wq ?_ | refine wg ?_)
    refine rq (qt_ld tok rfl List.mem_cons_self hldx) ?_
    repeat (first | refine wq ?_ | refine wg ?_)
    refine rq (qt_pev tok (sp_build t nx (placeB ts j + k + 32) isv hnx32 rfl)) ?_
    refine ro (st_yield rfl rfl (fun _ => hyield j _ M1 L2 [(bl, .cells ⟨lkC nx⟩ 107 (0, 0))] hget hM1 hI2)) ?_
    rintro v M2 _ ⟨L3, rfl, hM2, hv⟩
    have hM02 := Mem.le_trans hM1 hM2
    rcases hv with ⟨rfl, hI3⟩ | ⟨rfl, hX⟩
    · repeat (first | with_reducible (first | refine zS ?_ | refine zR ?_ | refine zN ?_ | refine zK ?_ | refine zB ?_ | refine zI ?_) | refine zE rfl ?_ | refine wq ?_ | refine wgK ?_ | refine wgF ?_ | refine wg ?_ | refine ws ?_ | refine wb fun _ => ?_ | refine wa fun _ => ?_ | refine wl fun _ => ?_)
      refine run_cond rfl (fun hc => ?_) (fun hc => ?_)
      · have hisf : isv = false := by simpa using hc
        have hjl : j = ts.length := by
          by_cases hlt : j < ts.length
          · exfalso
            obtain ⟨y', hy', hp', hl'⟩ := at_split h (List.getElem?_eq_getElem hlt)
            rw [hsj, hst] at hy'
            obtain ⟨rfl, hyy⟩ := text_uniq ht (h.sh _ (List.getElem_mem hlt)) hy'
            rw [hnx] at hyy
            have : y.extract 0 32 = nx := by rw [hyy, ← hnx32]; exact ext_left _ _
            rw [this] at hisv
            simp at hisv
            rw [hisv] at hisf
            cases hisf
          · omega
        subst hjl
        exact run_ret hC (rs := []) rfl resN (fun _ h => h.drop) ⟨hM02, .inl (by rw [hlen]; exact hI3)⟩
      · have hist : isv = true := by simpa using hc
        have hye : y.extract 0 32 = nx := by rw [hist] at hisv; exact of_decide_eq_true hisv
        have hjl : j < ts.length := by
          refine Nat.lt_of_le_of_ne hj fun e => ?_
          subst e
          obtain ⟨h1, h2⟩ := at_end h
          rw [hsj] at h1
          refine h.no t (y.extract 32 y.size) ht ?_
          rw [← h1, hst, frB, app_assoc, ← h2, hnx, ← hye]
          congr 1
          exact ext_split y hy32
        obtain ⟨y', hy', hp', hl'⟩ := at_split h (List.getElem?_eq_getElem hjl)
        rw [hsj, hst] at hy'
        obtain ⟨hte, _⟩ := text_uniq ht (h.sh _ (List.getElem_mem hjl)) hy'
        rw [← hte, hk'] at hp'
        rw [← hte, hnx] at hl'
        repeat (first | with_reducible (first | refine zS ?_ | refine zR ?_ | refine zN ?_ | refine zK ?_ | refine zB ?_ | refine zI ?_) | refine zE rfl ?_ | refine wq ?_ | refine wg ?_ | refine ws ?_ | refine wb fun _ => ?_ | refine wa fun _ => ?_ | refine wl fun _ => ?_)
        refine run_sub' (hnext _ _ _ ⟨hjl, hM02, L3, hI3, by rw [hl']; rfl, rfl⟩) ⟨by rw [hp']; rfl, rfl, rfl, rfl, trivial⟩
    · repeat (first | with_reducible (first | refine zS ?_ | refine zR ?_ | refine zN ?_ | refine zK ?_ | refine zB ?_ | refine zI ?_) | refine zE rfl ?_ | refine wq ?_ | refine wgK ?_ | refine wgF ?_ | refine wg ?_ | refine ws ?_ | refine wb fun _ => ?_ | refine wa fun _ => ?_ | refine wl fun _ => ?_)
      refine run_cond rfl (fun _ => ?_) (fun hc => by cases hc)
      exact run_ret hC (rs := []) rfl resN (fun _ h => h.drop) ⟨hM02, .inr ⟨_, hX⟩⟩
  have hjl : j = ts.length := by
    by_cases hlt : j < ts.length
    · exfalso
      obtain ⟨y', hy', _, _⟩ := at_split h (List.getElem?_eq_getElem hlt)
      rw [hsj] at hy'
      have h1 := text_read (h.sh _ (List.getElem_mem hlt)) (by decide) (nextB (linkB ts j) ts[j] ++ y')
      rw [← hy'] at h1
      refine hgo ⟨by rw [h1], ?_⟩
      rw [h1]
      simp only [Int.toNat_natCast]
      have := congrArg ByteArray.size hy'
      rw [app_size, app_size, nextB_size] at this
      omega
    · omega
  have hsf : stepF (linkB ts j) (placeB ts j) sj = ⟨bz, firstB, 0, false⟩ := by unfold stepF; rw [if_neg hgo]
  rw [hsf] at hget
  have hstop : ((textR sj 8192).2.2 != 0 || decide (IntKind.i64.wrap ((s.size : Int) - IntKind.i64.wrap (((placeB ts j : Nat) : Int) + (textR sj 8192).2.1)) < 32)) = true := by
    by_cases h0 : (textR sj 8192).2.2 = 0
    · obtain ⟨t, ht, hr, hst⟩ := text_back h0
      have h2 := congrArg ByteArray.size hst
      rw [app_size] at h2
      rw [hr] at hgo ⊢
      simp only [Int.toNat_natCast, true_and] at hgo
      have e1 : IntKind.i64.wrap (((placeB ts j : Nat) : Int) + ((textB t).size : Int)) = ((placeB ts j + (textB t).size : Nat) : Int) := wrap64_nat (n := placeB ts j + (textB t).size) (by omega)
      have e2 : IntKind.i64.wrap ((s.size : Int) - ((placeB ts j + (textB t).size : Nat) : Int)) = ((s.size - (placeB ts j + (textB t).size) : Nat) : Int) := by
        rw [show (s.size : Int) - ((placeB ts j + (textB t).size : Nat) : Int) = ((s.size - (placeB ts j + (textB t).size) : Nat) : Int) by omega]
        exact wrap64_nat (by omega)
      simp only [e1, e2]
      simp
      omega
    · simp [h0]
  repeat (first | with_reducible (first | refine zS ?_ | refine zR ?_ | refine zN ?_ | refine zK ?_ | refine zB ?_ | refine zI ?_) | refine zE rfl ?_ | refine wq ?_ | refine wg ?_ | refine ws ?_ | refine wb fun _ => ?_ | refine wa fun _ => ?_ | refine wl fun _ => ?_ | refine runL_q (qt_indexN tok rfl rfl rfl rfl (fun _ => by omega)) rfl rfl rfl ?_ | refine runL_g rfl rfl (qt_indexN tok rfl rfl rfl rfl (fun _ => by omega)) rfl rfl rfl rfl rfl ?_ | refine runL_q (qt_ldM tok rfl hb1 rfl) rfl rfl rfl ?_ | refine runL_g rfl rfl (qt_ldM tok rfl hb1 rfl) rfl rfl rfl rfl rfl ?_ | refine runL_q (qt_ldM0 tok rfl hb1 rfl) rfl rfl rfl ?_ | refine runL_g rfl rfl (qt_ldM0 tok rfl hb1 rfl) rfl rfl rfl rfl rfl ?_ | refine rq (Qt.as (v' := .string sj) (qt_strLo (n := placeB ts j) tok rfl rfl rfl (fun _ => hpl)) (congrArg Value.string hsj)) ?_ | refine rq (qt_callF rfl (fun _ => readText_ok _ _ sj 8192 (by omega) (by decide))) ?_)
  refine run_cond rfl (fun _ => ?_) (fun hc => ?_)
  · repeat (first | with_reducible (first | refine zS ?_ | refine zR ?_ | refine zN ?_ | refine zK ?_ | refine zB ?_ | refine zI ?_) | refine zE rfl ?_ | refine wq ?_ | refine wg ?_ | refine ws ?_ | refine wb fun _ => ?_ | refine wa fun _ => ?_ | refine wl fun _ => ?_)
    refine ro (st_yield (vs := spV ⟨bz, firstB, 0, false⟩) rfl rfl (fun _ => hyield j _ M1 L2 [(bl, .cells ⟨lkC (linkB ts j)⟩ 107 (0, 0))] hget hM1 hI2)) ?_
    rintro v M2 _ ⟨L3, rfl, hM2, hv⟩
    have hM02 := Mem.le_trans hM1 hM2
    refine runL_nil ?_
    subst hjl
    refine run_ret hC (rs := []) rfl resN (fun _ h => h.drop) ⟨hM02, ?_⟩
    rcases hv with ⟨rfl, hI3⟩ | ⟨rfl, hX⟩
    · exact .inl (by rw [hlen]; exact hI3)
    · exact .inr ⟨_, hX⟩
  · exfalso
    have hc' : ((textR sj 8192).2.2 != 0 || decide (IntKind.i64.wrap ((s.size : Int) - IntKind.i64.wrap (((placeB ts j : Nat) : Int) + (textR sj 8192).2.1)) < 32)) = false := hc
    rw [hstop] at hc'
    cases hc'
end Go.Proofs.YtkjljcgbnikmkaaGreatDoor
namespace Go.Proofs.YtkjljcgbnikmkaaGreatDoor
open Go.Chi
set_option maxRecDepth 10000

/-! ### the records of right frames -/
theorem sp_is {s : Sp} (h : s.nx.size = 32) : (spC s)[34]? = some (.bool s.is_) := by
  have h1 : (lkC s.nx).length = 32 := by rw [lkC_len, h]
  unfold spC
  rw [List.getElem?_append_right (by simp), List.getElem?_append_right (by simp; omega)]
  simp [h1]
theorem sp_at {s : Sp} (h : s.nx.size = 32) : (spC s)[33]? = some (iv s.at_) := by
  have h1 : (lkC s.nx).length = 32 := by rw [lkC_len, h]
  unfold spC
  rw [List.getElem?_append_right (by simp), List.getElem?_append_right (by simp; omega)]
  simp [h1]
theorem sp_nx {M : Mem} {L : HL} {b : Nat} {s : Sp} {et : TypeId} {fz : Nat × Nat} (hm : (b, Obj.cells ⟨spC s⟩ et fz) ∈ L) : Cells M L b (0 + 1) (bC s.nx.data.toList) :=
  ⟨⟨spC s⟩, et, fz, .inl hm, fun i u hu => by
    have hi := (List.getElem?_eq_some_iff.1 hu).1
    have h2 : (spC s)[0 + 1 + i]? = some u := by
      unfold spC
      have e : 0 + 1 + i = [Value.string s.t].length + i := by simp
      rw [e, List.getElem?_append_right (by omega), Nat.add_sub_cancel_left, List.getElem?_append_left (by exact hi)]
      exact hu
    simpa using h2⟩
theorem oneL_bC (r : List Value) : ∀ l : List UInt8, oneL (bC l ++ r) = oneL r
  | [] => rfl
  | _ :: l => oneL_bC r l
theorem spC_one (z : Sp) : oneL (spC z) = true := oneL_bC [.int .i64 (z.at_ : Int), .bool z.is_] z.nx.data.toList
theorem osV {e size n : Nat} {v : Value} {xs : List Value} {N : HL} (h : OS e size v n xs N) : ∃ a cap, v = .slice a n cap := by
  rcases h with ⟨rfl, rfl, _, _⟩ | ⟨b, cap, cs, rfl, _⟩
  · exact ⟨none, 0, rfl⟩
  · exact ⟨_, cap, rfl⟩
theorem stC_flat (ts : List ByteArray) : ∀ u ∈ (ts.map stC).flatten, u.oneCell' = true := by
  intro u hu
  obtain ⟨x, hx, hu⟩ := List.mem_flatten.1 hu
  obtain ⟨y, _, rfl⟩ := List.mem_map.1 hx
  simp [stC] at hu
  subst hu; rfl
theorem frsB_len : ∀ (l : ByteArray) (ts : List ByteArray), ts.length ≤ (frsB l ts).size
  | _, [] => Nat.zero_le _
  | l, t :: ts => by
    have := frsB_len (nextB l t) ts
    rw [frsB, app_size, frB_size, List.length_cons]; omega
theorem Scn.len {l s rest : ByteArray} {ts : List ByteArray} (h : Scn l s ts rest) : ts.length ≤ s.size := by
  have := frsB_len l ts
  rw [h.eq, app_size]; omega
set_option maxHeartbeats 8000000 in
theorem chScan_ok (M : Mem) (L : HL) (s rest : ByteArray) (ts : List ByteArray) (hk : KM M) (h : Scn firstB s ts rest) (hs : s.size < 10000000) :
    Tr Tryz.prog 38 [.string s] M L (fun v M' L' => M.le M' ∧ ∃ lv N, v = .tuple ⟨[lv, .string (headB firstB ts), iv (frsB firstB ts).size]⟩ ∧ L' = N ++ L ∧ OS 9 1 lv ts.length (ts.map stC).flatten N) := by
  have hsl := h.len
  have hpl : placeB ts ts.length = (frsB firstB ts).size ∧ linkB ts ts.length = headB firstB ts := by
    unfold placeB linkB; rw [List.take_of_length_le (Nat.le_refl _)]; exact ⟨rfl, rfl⟩
  refine Tr.intro 26 Tryz.func38 rfl rfl Tryz.call38 rfl ?_
  intro C hC hro
  repeat (first | with_reducible (first | refine zS ?_ | refine zR ?_ | refine zN ?_ | refine zK ?_ | refine zB ?_ | refine zI ?_) | refine zE rfl ?_ | refine wq ?_ | refine wg ?_ | refine ws ?_ | refine wb fun _ => ?_ | refine wa fun _ => ?_ | refine wl fun _ => ?_ | refine run_scope ?_ | refine run_label ?_ | refine rq (qt_callF rfl (fun _ => chFirst_ok _ _)) ?_ | (refine ro (st_callF rfl (fun _ => steps_ok _ _ s)) ?_; rintro _ M1 _ ⟨hM1, rfl, bs, rfl, hbs⟩))
  rename_i b2 b3 b4
  have hit := steps1_ok M1 bs s rest ts (hk.le hM1) hbs h hs
  have hxs : ∀ x ∈ stepsL s ts, x.length = 1 := by
    intro x hx
    obtain ⟨p, _, rfl⟩ := List.mem_map.1 hx
    rfl
  have hgo : ∀ j t, ts[j]? = some t → stepF (linkB ts j) (placeB ts j) (s.extract (placeB ts j) s.size) = ⟨t, linkB ts (j + 1), placeB ts (j + 1), true⟩ := fun j t ht => by
    obtain ⟨y, h1, h2, h3⟩ := at_split h ht
    have hn := nextB_size (linkB ts j) t
    rw [h1, stepF_go (h.sh t (List.mem_of_getElem? ht)) (by rw [app_size, hn]; omega), ← h3, ← h2]
    congr 1
    rw [decide_eq_true_eq, h3, ← hn]
    exact ext_left _ _
  have hno : (stepF (linkB ts ts.length) (placeB ts ts.length) (s.extract (placeB ts ts.length) s.size)).is_ = false := by
    rw [(at_end h).1, (at_end h).2]; exact stepF_no h.no
  let LL := fun (va : Value) (k : Nat) (NA R : HL) => (b4, Obj.cells ⟨[iv (placeB ts k)]⟩ 3 (0, 0)) :: (b3, Obj.cells ⟨[.string (linkB ts k)]⟩ 9 (0, 0)) :: (b2, Obj.cells ⟨[va]⟩ 33 (0, 0)) :: (NA ++ R)
  refine run_range hro rfl hit rfl hxs
    (fun k M' L' => M1.le M' ∧ k ≤ ts.length ∧ ∃ va NA, OS 9 1 va k ((ts.take k).map stC).flatten NA ∧ L' = LL va k NA L)
    (fun c _ M' L' => c = .exit 0 ∧ M1.le M' ∧ ∃ va NA, OS 9 1 va ts.length (ts.map stC).flatten NA ∧ L' = LL va ts.length NA L) ?_ ?_ ?_ ?_
  · exact ⟨Mem.le_refl _, Nat.zero_le _, _, [], OS.nil _ _, rfl⟩
  · rintro j x M2 _ R R' C' hx hM2 ⟨hM2', hjl, va, NA, hO, rfl⟩ B
    have hj1 : j < (stepsL s ts).length := (List.getElem?_eq_some_iff.1 hx).1
    rw [stepsL, fc_len] at hj1
    rw [stepsL, fc_get hj1] at hx
    generalize hz : stepF (linkB ts j) (placeB ts j) (s.extract (placeB ts j) s.size) = z at hx
    have hz32 : z.nx.size = 32 := by rw [← hz]; exact stepF_nx _ _ _
    cases hx
    have hzl : (spC z).length = 35 := spC_len hz32
    simp only [LL, List.cons_append, List.append_assoc]
    refine run_region ?_
    refine wa (fun b5 => ?_)
    refine ws (cs' := spC z) ?_ rfl rfl rfl (by show (spC z).length = 35; exact hzl) (spC_one z) (Upd.here _ _ _ _) (setE_all (by show (spC z).length = 35; exact hzl))
    refine runL_nil ?_
    refine B.begin' ((b5, .cells ⟨spC z⟩ 115 (0, 0)) :: LL va j NA L) (by simp [LL]) ?_
    simp only [LL, List.cons_append, List.append_assoc]
    repeat (first | with_reducible (first | refine zS ?_ | refine zR ?_ | refine zN ?_ | refine zK ?_ | refine zB ?_ | refine zI ?_) | refine zE rfl ?_ | refine wq ?_ | refine wg ?_ | refine ws ?_ | refine wb fun _ => ?_ | refine wa fun _ => ?_ | refine wl fun _ => ?_ | refine rq (qt_ld tok rfl List.mem_cons_self (ldE_at rfl (sp_is hz32))) ?_)
    refine run_cond rfl (fun hc => ?_) (fun hc => ?_)
    · have hf : z.is_ = false := by simpa using hc
      have hje : j = ts.length := by
        by_cases hlt : j < ts.length
        · have := hgo j _ (List.getElem?_eq_getElem hlt)
          rw [hz] at this
          rw [this] at hf; cases hf
        · omega
      subst hje
      rw [List.take_of_length_le (Nat.le_refl _)] at hO
      exact run_mem (L' := LL va ts.length NA L ++ R') (fun w h => by simpa [LL] using h.drop) (B.exit 0 _ _ _ _ rfl (Mem.le_refl _) ⟨rfl, hM2', va, NA, hO, rfl⟩)
    · have ht : z.is_ = true := by simpa using hc
      have hlt : j < ts.length := by
        refine Nat.lt_of_le_of_ne hjl fun e => ?_
        subst e
        rw [hz, ht] at hno; cases hno
      have hzt := hgo j _ (List.getElem?_eq_getElem hlt)
      rw [hz] at hzt
      generalize hte : ts[j] = t at hzt
      have htj : ts[j]? = some t := by rw [← hte]; exact List.getElem?_eq_getElem hlt
      obtain ⟨aa, ca, rfl⟩ := osV hO
      have hnx : z.nx = linkB ts (j + 1) := by rw [hzt]
      have hat : z.at_ = placeB ts (j + 1) := by rw [hzt]
      have htt : z.t = t := by rw [hzt]
      clear hzt
      refine run_skip ?_
      refine prn_start mixed ?_
      refine pr_q 0 (by decide +kernel) rfl (ql tok rfl) rfl rfl rfl ?_
      refine pr_q 1 (by decide +kernel) rfl (qt_pev tok rfl) rfl rfl rfl ?_
      refine pr_q 2 (by decide +kernel) rfl (qt_ld (v := .string z.t) tok rfl List.mem_cons_self (ldE_at rfl rfl)) rfl rfl rfl ?_
      refine pr_q 5 (by decide +kernel) rfl (qt_pev tok rfl) rfl rfl rfl ?_
      refine pr_q 6 (by decide +kernel) rfl (qt_sliceAll tok rfl rfl rfl) rfl rfl rfl ?_
      refine pr_q 7 (by decide +kernel) rfl (qt_bytesT z.nx rfl rfl rfl rfl (sp_nx List.mem_cons_self) hz32) rfl rfl rfl ?_
      refine pr_q 8 (by decide +kernel) rfl (qt_pev tok rfl) rfl rfl rfl ?_
      refine pr_q 9 (by decide +kernel) rfl (qt_ld (v := iv z.at_) tok rfl List.mem_cons_self (ldE_at rfl (sp_at hz32))) rfl rfl rfl ?_
      refine pr_one 3 (by decide +kernel) (eff1 3 rfl (st_buildSlice tok rfl rfl rfl rfl rfl rfl rfl) (by decide +kernel) (qs := _) rfl rfl rfl rfl ?_)
      rintro _ _ _ ⟨b6, rfl, rfl, rfl⟩
      refine ⟨by (repeat (first | exact trivial | refine And.intro (pend_q rfl rfl rfl (qt_pev tok rfl)) ?_ | refine And.intro (pend_q rfl rfl rfl (ql tok rfl)) ?_ | refine And.intro (pend_q rfl rfl rfl (qt_ld tok rfl (by (repeat (first | with_reducible apply List.mem_cons_self | with_reducible assumption | with_reducible apply List.mem_cons_of_mem | with_reducible apply List.mem_append_right))) (ldE_at rfl (sp_at hz32)))) ?_ | refine And.intro (pend_q rfl rfl rfl (qt_sliceAll tok rfl rfl rfl)) ?_ | refine And.intro (pend_q rfl rfl rfl (qt_bytesT z.nx rfl rfl rfl rfl (sp_nx (by (repeat (first | with_reducible apply List.mem_cons_self | with_reducible assumption | with_reducible apply List.mem_cons_of_mem | with_reducible apply List.mem_append_right)))) hz32)) ?_)), ?_⟩
      refine pr_one 4 (by decide +kernel) (eff1 4 rfl (st_append (news := [.string z.t]) tok rfl rfl rfl rfl rfl rfl rfl rfl (pm5 _ _ _ _ _ NA _) hO (.inr ⟨b6, 0, 1, rfl, cellsAll List.mem_cons_self, rfl⟩) (by intro u hu; simp at hu; subst hu; rfl) (by omega) (by omega)) (by decide +kernel) (qs := _) rfl rfl rfl rfl ?_)
      rintro _ _ _ ⟨N', rfl, rfl, hO'⟩
      obtain ⟨aa', ca', rfl⟩ := osV hO'
      refine ⟨by (repeat (first | exact trivial | refine And.intro (pend_q rfl rfl rfl (qt_pev tok rfl)) ?_ | refine And.intro (pend_q rfl rfl rfl (ql tok rfl)) ?_ | refine And.intro (pend_q rfl rfl rfl (qt_ld tok rfl (by (repeat (first | with_reducible apply List.mem_cons_self | with_reducible assumption | with_reducible apply List.mem_cons_of_mem | with_reducible apply List.mem_append_right))) (ldE_at rfl (sp_at hz32)))) ?_ | refine And.intro (pend_q rfl rfl rfl (qt_sliceAll tok rfl rfl rfl)) ?_ | refine And.intro (pend_q rfl rfl rfl (qt_bytesT z.nx rfl rfl rfl rfl (sp_nx (by (repeat (first | with_reducible apply List.mem_cons_self | with_reducible assumption | with_reducible apply List.mem_cons_of_mem | with_reducible apply List.mem_append_right)))) hz32)) ?_)), ?_⟩
      refine pr_one 10 (by decide +kernel) (eff0 10 rfl (sst tok rfl rfl rfl rfl rfl) (by decide +kernel) (qs := _) rfl ?_)
      rintro _ _ _ ⟨rfl, rfl, rfl⟩
      refine ⟨by (repeat (first | exact trivial | refine And.intro (pend_q rfl rfl rfl (qt_pev tok rfl)) ?_ | refine And.intro (pend_q rfl rfl rfl (ql tok rfl)) ?_ | refine And.intro (pend_q rfl rfl rfl (qt_ld tok rfl (by (repeat (first | with_reducible apply List.mem_cons_self | with_reducible assumption | with_reducible apply List.mem_cons_of_mem | with_reducible apply List.mem_append_right))) (ldE_at rfl (sp_at hz32)))) ?_ | refine And.intro (pend_q rfl rfl rfl (qt_sliceAll tok rfl rfl rfl)) ?_ | refine And.intro (pend_q rfl rfl rfl (qt_bytesT z.nx rfl rfl rfl rfl (sp_nx (by (repeat (first | with_reducible apply List.mem_cons_self | with_reducible assumption | with_reducible apply List.mem_cons_of_mem | with_reducible apply List.mem_append_right)))) hz32)) ?_)), ?_⟩
      refine pr_one 11 (by decide +kernel) (eff0 11 rfl (sst tok rfl rfl rfl rfl rfl) (by decide +kernel) (qs := _) rfl ?_)
      rintro _ _ _ ⟨rfl, rfl, rfl⟩
      refine ⟨by (repeat (first | exact trivial | refine And.intro (pend_q rfl rfl rfl (qt_pev tok rfl)) ?_ | refine And.intro (pend_q rfl rfl rfl (ql tok rfl)) ?_ | refine And.intro (pend_q rfl rfl rfl (qt_ld tok rfl (by (repeat (first | with_reducible apply List.mem_cons_self | with_reducible assumption | with_reducible apply List.mem_cons_of_mem | with_reducible apply List.mem_append_right))) (ldE_at rfl (sp_at hz32)))) ?_ | refine And.intro (pend_q rfl rfl rfl (qt_sliceAll tok rfl rfl rfl)) ?_ | refine And.intro (pend_q rfl rfl rfl (qt_bytesT z.nx rfl rfl rfl rfl (sp_nx (by (repeat (first | with_reducible apply List.mem_cons_self | with_reducible assumption | with_reducible apply List.mem_cons_of_mem | with_reducible apply List.mem_append_right)))) hz32)) ?_)), ?_⟩
      refine pr_one 12 (by decide +kernel) (eff0 12 rfl (sst tok rfl rfl rfl rfl rfl) (by decide +kernel) (qs := _) rfl ?_)
      rintro _ _ _ ⟨rfl, rfl, rfl⟩
      refine ⟨by (repeat (first | exact trivial | refine And.intro (pend_q rfl rfl rfl (qt_pev tok rfl)) ?_ | refine And.intro (pend_q rfl rfl rfl (ql tok rfl)) ?_ | refine And.intro (pend_q rfl rfl rfl (qt_ld tok rfl (by (repeat (first | with_reducible apply List.mem_cons_self | with_reducible assumption | with_reducible apply List.mem_cons_of_mem | with_reducible apply List.mem_append_right))) (ldE_at rfl (sp_at hz32)))) ?_ | refine And.intro (pend_q rfl rfl rfl (qt_sliceAll tok rfl rfl rfl)) ?_ | refine And.intro (pend_q rfl rfl rfl (qt_bytesT z.nx rfl rfl rfl rfl (sp_nx (by (repeat (first | with_reducible apply List.mem_cons_self | with_reducible assumption | with_reducible apply List.mem_cons_of_mem | with_reducible apply List.mem_append_right)))) hz32)) ?_)), ?_⟩
      refine pr_end (by decide +kernel) (by decide +kernel) ?_
      refine run_inBlock ?_
      rw [hat, hnx, htt] at *
      refine B.fin' (L2 := LL (.slice aa' (j + 1) ca') (j + 1) N' L) (Mem.le_refl _) (fun w h => ?_) ⟨hM2', hlt, _, N', ?_, rfl⟩
      · have h2 := ((h.perm List.perm_middle).drop.perm List.perm_middle).drop.perm (pm3 _ _ _ N' _).symm
        simpa [LL, cellsL] using h2
      · rw [take_snoc htj, List.map_append, List.flatten_append]; exact hO'
  · rintro D M2 _ hM2 ⟨hM2', hk', _⟩
    exfalso
    rw [stepsL, fc_len] at hk'
    omega
  · rintro _ j D M2 _ hM2 ⟨rfl, hM2', va, NA, hO, rfl⟩
    obtain ⟨aa, ca, rfl⟩ := osV hO
    simp only [LL]
    refine run_exit rfl ?_
    repeat (first | with_reducible (first | refine zS ?_ | refine zR ?_ | refine zN ?_ | refine zK ?_ | refine zB ?_ | refine zI ?_) | refine zE rfl ?_ | refine wq ?_ | refine wg ?_ | refine ws ?_ | refine wb fun _ => ?_ | refine wa fun _ => ?_ | refine wl fun _ => ?_ | refine prn_start mixed ?_ | refine prn_end (by decide +kernel) ?_ | refine dq ?_ | refine dg ?_ | (refine prn_e0 rfl (sst tok rfl rfl rfl rfl rfl) (by decide +kernel) ?_; rintro _ _ _ ⟨rfl, rfl, rfl⟩) | ((first | refine pe rfl (st_box rfl) ?_ | refine pe rfl (st_alloc tok rfl) ?_ | refine pe rfl (st_buildSlice tok rfl rfl rfl rfl rfl rfl rfl) ?_); rintro _ _ _ ⟨_, rfl, rfl, rfl⟩) | (refine prn_o0 rfl (sst tok rfl rfl rfl rfl rfl) (by decide +kernel) ?_; rintro _ _ _ ⟨rfl, rfl, rfl⟩; refine ⟨by (repeat (first | exact trivial | refine And.intro (pend_q rfl rfl rfl (qt_pev tok rfl)) ?_ | refine And.intro (pend_q rfl rfl rfl (ql tok rfl)) ?_)), ?_⟩) | ((first | refine po rfl (st_box rfl) ?_ | refine po rfl (st_alloc tok rfl) ?_ | refine po rfl (st_buildSlice tok rfl rfl rfl rfl rfl rfl rfl) ?_); rintro _ _ _ ⟨_, rfl, rfl, rfl⟩; refine ⟨by (repeat (first | exact trivial | refine And.intro (pend_q rfl rfl rfl (qt_pev tok rfl)) ?_ | refine And.intro (pend_q rfl rfl rfl (ql tok rfl)) ?_)), ?_⟩) | (refine pe rfl (qt_pev tok rfl) ?_; rintro _ _ _ ⟨rfl, rfl, rfl⟩))
    refine run_ret1 hC (by (repeat (first | with_reducible apply Upd.here | with_reducible apply Upd.there | with_reducible apply Upd.append_left))) (rs := [.cell 2 33, .cell 3 9, .cell 4 3]) rfl (rl tok rfl (rl tok rfl (rl tok rfl resN))) (fun _ h => h.drop.drop.drop.drop) ⟨Mem.le_trans hM1 hM2, _, NA, ?_, rfl, hO⟩
    rw [hpl.1, hpl.2]; rfl
end Go.Proofs.YtkjljcgbnikmkaaGreatDoor
namespace Go.Chi
section
variable {P : Program} {T : TT} {ro : Option Nat} {σ : Env} {δ : Den} {cur : Path} {M : Mem} {L : HL} {d : Option Nat} {op : Op} {ty : TypeId} {pos : String} {aft : Array Edge} {g : Option (Nat × Bool)} {v : Value}
/-- nothing is copied -/
theorem qt_copy0 (hT : TOk P T) {x y : Operand} {t t' e : TypeId} {a a' : Option Addr} {dl dc sl sc : Nat} (hx : ev σ δ cur x = some (.slice a dl dc)) (hy : ev σ δ cur y = some (.slice a' sl sc)) (ht : und T t = some (.slice e)) (hi : sizeT T e = some 1) (h0 : Hy σ δ cur → Nat.min sl dl = 0) :
    Qt P ro ⟨d, .call ⟨.builtin .copy, #[x, y], #[t, t']⟩, ty, pos, aft, g⟩ σ δ cur M L (.int .i64 0) :=
  qt_of_run (semAt_of (by intro c e; cases e)) fun act w hse hcur hp => by
    obtain ⟨i, hi1, his⟩ := sizeT_ok hi
    have hrun := run_copy_none (P := P) w t t' ty e a a' dl dc sl sc (und_ok hT ht) (by rw [hT.info _ _ hi1]; simp [his]) (h0 (Hy_of hse hcur))
    simp only [execOp, resolve, Sem.run_bind, Sem.run_pure, Result.andThen_ok, invoke, builtin, List.map_toArray, List.map_cons, List.map_nil, ev_sound hse hcur hx, ev_sound hse hcur hy, hrun]
    rfl
/-- no bytes are a text -/
theorem qt_bytesNil (hT : TOk P T) {s t e : TypeId} {x : Operand} {c : Nat} (hs' : und T s = some (.slice e)) (he : und T e = some (.int .u8)) (hu : und T t = some .string) (hx : ev σ δ cur x = some (.slice none 0 c)) :
    Qt P ro ⟨d, .convert s t x, ty, pos, aft, g⟩ σ δ cur M L (.string ⟨#[]⟩) :=
  qt_of_run (semAt_of (by intro c e; cases e)) fun a w hs hcur hp => by
    have h4 := run_convert_bytes_string (P := P) w s t e none 0 c (und_ok hT hs') (und_ok hT he) (und_ok hT hu)
    simp only [execOp, ev_sound hs hcur hx, Sem.run_bind, h4]
    simp [Conv.bytesToString]
    rfl
end
end Go.Chi
namespace Go.Proofs.YtkjljcgbnikmkaaGreatDoor
open Go.Chi
set_option maxRecDepth 10000

/-! ### a disk -/
structure Ds where
  s : ByteArray
  syn : Nat
  armed : Bool
  down : Bool
  left : Nat
  room : Nat
structure DsOk (x : Ds) : Prop where
  syn : x.syn ≤ x.s.size
  fit : x.s.size ≤ x.room
  room : x.room ≤ 1048576
/-- the bytes of a disk lie in memory for good -/
structure BV (M : Mem) (a : Option Addr) (cap : Nat) (s : ByteArray) : Prop where
  le : s.size ≤ cap
  lt : cap < 10000000
  at_ : (a = none ∧ s.size = 0) ∨ ∃ b off, a = some ⟨b, off, none⟩ ∧ Cells M [] b off (bC s.data.toList)
theorem BV.mono {M M' : Mem} {a : Option Addr} {cap : Nat} {s : ByteArray} (hm : M.le M') (h : BV M a cap s) : BV M' a cap s :=
  ⟨h.le, h.lt, h.at_.imp id fun ⟨b, off, h1, h2⟩ => ⟨b, off, h1, h2.le hm⟩⟩
abbrev dkB (b : Nat) (x : Ds) (a : Option Addr) (cap : Nat) : Nat × Obj := (b, .cells ⟨[.slice a x.s.size cap, iv x.syn, .bool x.armed, .bool x.down, iv x.left, iv x.room]⟩ 81 (0, 0))
/-- what an act on a disk comes to -/
def DkK (r : Int × Ds) (M : Mem) (b : Nat) (L : HL) (v : Value) (M' : Mem) (L' : HL) : Prop :=
  M.le M' ∧ ∃ a' cap', v = .int .i64 r.1 ∧ L' = dkB b r.2 a' cap' :: L ∧ BV M' a' cap' r.2.s
def wr (x : Ds) (r : Int × Ds) : Int × Ds :=
  if x.armed = true ∧ x.left = 0 then (140, { x with down := true }) else if r.1 = 0 ∧ r.2.armed = true then (0, { r.2 with left := r.2.left - 1 }) else r
def dApp (x : Ds) (t : ByteArray) : Int × Ds := wr x (if x.room - x.s.size < t.size then (4, x) else (0, { x with s := x.s ++ t }))
def dCut (x : Ds) (n : Nat) : Int × Ds := wr x (if x.s.size < n then (2, x) else (0, { x with s := x.s.extract 0 n, syn := n }))
def dSync (x : Ds) : Int × Ds := wr x (0, { x with syn := x.s.size })
def dArm (x : Ds) (n : Int) : Ds := { x with armed := true, left := n.toNat }
def crashN (x : Ds) (keep : Int) : Nat := if keep.toNat < x.s.size - x.syn then x.syn + keep.toNat else x.s.size
def dCrash (x : Ds) (keep : Int) : Ds := ⟨x.s.extract 0 (crashN x keep), crashN x keep, false, false, 0, x.room⟩
theorem ds_bool_ne {n : Nat} : ((n : Int) == 0) = decide (n = 0) := by
  rw [Bool.eq_iff_iff]; simp
set_option maxHeartbeats 4000000 in
theorem dkWrite_ok (M : Mem) (L : HL) (b : Nat) (x : Ds) (a : Option Addr) (cap g : Nat) (caps : List Value) (r : Int × Ds) (hx : DsOk x) (hv : BV M a cap x.s) (hl : r.2.armed = x.armed ∧ r.2.left = x.left ∧ x.left < 9223372036854775808)
    (hg : Tr Tryz.prog g caps M (dkB b x a cap :: L) (DkK r M b L)) : Tr Tryz.prog 56 [pt b, .func (.func g) ⟨[]⟩ ⟨caps⟩] M (dkB b x a cap :: L) (DkK (wr x r) M b L) := by
  refine Tr.intro 48 Tryz.func56 rfl rfl Tryz.call56 rfl ?_
  intro C hC hro
  repeat (first | with_reducible (first | refine zS ?_ | refine zR ?_ | refine zN ?_ | refine zK ?_ | refine zB ?_ | refine zI ?_) | refine zE rfl ?_ | refine wq ?_ | refine wg ?_ | refine ws ?_ | refine wb fun _ => ?_ | refine wa fun _ => ?_ | refine wl fun _ => ?_)
  refine run_cond rfl (fun h => by cases h) (fun _ => ?_)
  repeat (first | with_reducible (first | refine zS ?_ | refine zR ?_ | refine zN ?_ | refine zK ?_ | refine zB ?_ | refine zI ?_) | refine zE rfl ?_ | refine wq ?_ | refine wg ?_ | refine ws ?_ | refine wb fun _ => ?_ | refine wa fun _ => ?_ | refine wl fun _ => ?_)
  refine run_cond (t := x.armed && ((x.left : Int) == 0)) rfl (fun h => ?_) (fun h => ?_)
  · rw [ds_bool_ne] at h
    have hs : x.armed = true ∧ x.left = 0 := by simpa using h
    repeat (first | with_reducible (first | refine zS ?_ | refine zR ?_ | refine zN ?_ | refine zK ?_ | refine zB ?_ | refine zI ?_) | refine zE rfl ?_ | refine wq ?_ | refine wg ?_ | refine ws ?_ | refine wb fun _ => ?_ | refine wa fun _ => ?_ | refine wl fun _ => ?_)
    exact run_ret hC (rs := [.tmp 4]) rfl (resT rfl resN) (fun _ h => h) ⟨Mem.le_refl _, a, cap, by rw [wr, if_pos hs]; rfl, by rw [wr, if_pos hs], by rw [wr, if_pos hs]; exact hv⟩
  rw [ds_bool_ne] at h
  have hs : ¬ (x.armed = true ∧ x.left = 0) := by simpa using h
  repeat (first | with_reducible (first | refine zS ?_ | refine zR ?_ | refine zN ?_ | refine zK ?_ | refine zB ?_ | refine zI ?_) | refine zE rfl ?_ | refine wq ?_ | refine wg ?_ | refine ws ?_ | refine wb fun _ => ?_ | refine wa fun _ => ?_ | refine wl fun _ => ?_)
  refine ro (st_callV rfl rfl (fun _ => hg)) ?_
  rintro _ M1 _ ⟨hM1, a1, c1, rfl, rfl, hv1⟩
  obtain ⟨e, x1⟩ := r
  simp only at hl hv1
  repeat (first | with_reducible (first | refine zS ?_ | refine zR ?_ | refine zN ?_ | refine zK ?_ | refine zB ?_ | refine zI ?_) | refine zE rfl ?_ | refine wq ?_ | refine wg ?_ | refine ws ?_ | refine wb fun _ => ?_ | refine wa fun _ => ?_ | refine wl fun _ => ?_)
  refine run_cond (t := (e == 0) && x1.armed) rfl (fun h => ?_) (fun h => ?_)
  · have h0 : e = 0 ∧ x1.armed = true := by simpa using h
    have hw : wr x (e, x1) = (0, { x1 with left := x1.left - 1 }) := by rw [wr, if_neg hs, if_pos h0]
    have hle : 1 ≤ x1.left := by
      rw [hl.2.1]
      rcases Nat.eq_zero_or_pos x.left with h1 | h1
      · exact absurd ⟨by rw [← hl.1]; exact h0.2, h1⟩ hs
      · exact h1
    have e1 : IntKind.i64.wrap ((x1.left : Int) - 1) = ((x1.left - 1 : Nat) : Int) := by
      rw [show (x1.left : Int) - 1 = ((x1.left - 1 : Nat) : Int) by omega]; exact wrap64_nat (by omega)
    repeat (first | with_reducible (first | refine zS ?_ | refine zR ?_ | refine zN ?_ | refine zK ?_ | refine zB ?_ | refine zI ?_) | refine zE rfl ?_ | refine wq ?_ | refine wg ?_ | refine ws ?_ | refine wb fun _ => ?_ | refine wa fun _ => ?_ | refine wl fun _ => ?_)
    refine run_ret hC (rs := [.tmp 4]) rfl (resT rfl resN) (fun _ h => h) ⟨hM1, a1, c1, by rw [hw, h0.1]; rfl, ?_, by rw [hw]; exact hv1⟩
    rw [hw]
    show (b, Obj.cells ⟨[.slice a1 x1.s.size c1, iv x1.syn, .bool x1.armed, .bool x1.down, .int .i64 (IntKind.i64.wrap ((x1.left : Int) - 1)), iv x1.room]⟩ _ _) :: L = _
    rw [e1]
  · have h0 : ¬ (e = 0 ∧ x1.armed = true) := by simpa using h
    have hw : wr x (e, x1) = (e, x1) := by rw [wr, if_neg hs, if_neg h0]
    repeat (first | with_reducible (first | refine zS ?_ | refine zR ?_ | refine zN ?_ | refine zK ?_ | refine zB ?_ | refine zI ?_) | refine zE rfl ?_ | refine wq ?_ | refine wg ?_ | refine ws ?_ | refine wb fun _ => ?_ | refine wa fun _ => ?_ | refine wl fun _ => ?_)
    exact run_ret hC (rs := [.tmp 4]) rfl (resT rfl resN) (fun _ h => h) ⟨hM1, a1, c1, by rw [hw]; rfl, by rw [hw], by rw [hw]; exact hv1⟩
theorem dkNew_ok (M : Mem) (L : HL) (room : Int) : Tr Tryz.prog 26 [.int .i64 room] M L (fun v M' L' => M = M' ∧ (((room < 0 ∨ room > 1048576) ∧ v = .tuple ⟨[.pointer none, .int .i64 2]⟩ ∧ L' = L) ∨ ((0 ≤ room ∧ room ≤ 1048576) ∧ ∃ b, v = .tuple ⟨[pt b, .int .i64 0]⟩ ∧ L' = dkB b ⟨bz, 0, false, false, 0, room.toNat⟩ none 0 :: L))) := by
  refine Tr.intro 13 Tryz.func26 rfl rfl Tryz.call26 rfl ?_
  intro C hC hro
  repeat (first | with_reducible (first | refine zS ?_ | refine zR ?_ | refine zN ?_ | refine zK ?_ | refine zB ?_ | refine zI ?_) | refine zE rfl ?_ | refine wq ?_ | refine wg ?_ | refine ws ?_ | refine wb fun _ => ?_ | refine wa fun _ => ?_ | refine wl fun _ => ?_)
  refine run_cond (t := decide (room < 0) || decide (room > 1048576)) rfl (fun h => ?_) (fun h => ?_)
  · have h0 : room < 0 ∨ room > 1048576 := by simpa using h
    repeat (first | with_reducible (first | refine zS ?_ | refine zR ?_ | refine zN ?_ | refine zK ?_ | refine zB ?_ | refine zI ?_) | refine zE rfl ?_ | refine wq ?_ | refine wg ?_ | refine ws ?_ | refine wb fun _ => ?_ | refine wa fun _ => ?_ | refine wl fun _ => ?_)
    exact run_ret hC (rs := [.tmp 2, .tmp 3]) rfl (resT rfl (resT rfl resN)) (fun _ h => h) ⟨rfl, .inl ⟨h0, rfl, rfl⟩⟩
  have h0 : 0 ≤ room ∧ room ≤ 1048576 := by simp at h; omega
  obtain ⟨n, rfl⟩ : ∃ n : Nat, room = (n : Int) := ⟨room.toNat, by omega⟩
  repeat (first | with_reducible (first | refine zS ?_ | refine zR ?_ | refine zN ?_ | refine zK ?_ | refine zB ?_ | refine zI ?_) | refine zE rfl ?_ | refine wq ?_ | refine wg ?_ | refine ws ?_ | refine wb fun _ => ?_ | refine wa fun _ => ?_ | refine wl fun _ => ?_)
  rename_i b
  exact run_ret hC (rs := [.tmp 2, .tmp 3]) rfl (resT rfl (resT rfl resN)) (fun _ h => h) ⟨rfl, .inr ⟨h0, b, rfl, rfl⟩⟩
theorem dkSync1_ok (M : Mem) (L : HL) (b bd : Nat) (x : Ds) (a : Option Addr) (cap : Nat) (hv : BV M a cap x.s) (hbd : Cells M [] bd 0 [pt b]) :
    Tr Tryz.prog 58 [pt bd] M (dkB b x a cap :: L) (DkK (0, { x with syn := x.s.size }) M b L) := by
  refine Tr.intro 12 Tryz.func58 rfl rfl Tryz.call58 rfl ?_
  intro C hC hro
  repeat (first | with_reducible (first | refine zS ?_ | refine zR ?_ | refine zN ?_ | refine zK ?_ | refine zB ?_ | refine zI ?_) | refine zE rfl ?_ | refine wq ?_ | refine wg ?_ | refine ws ?_ | refine wb fun _ => ?_ | refine wa fun _ => ?_ | refine wl fun _ => ?_ | refine prn_start mixed ?_ | refine prn_end (by decide +kernel) ?_ | refine dq ?_ | refine dg ?_ | (refine prn_e0 rfl (sst tok rfl rfl rfl rfl rfl) (by decide +kernel) ?_; rintro _ _ _ ⟨rfl, rfl, rfl⟩) | ((first | refine pe rfl (st_box rfl) ?_ | refine pe rfl (st_alloc tok rfl) ?_ | refine pe rfl (st_buildSlice tok rfl rfl rfl rfl rfl rfl rfl) ?_); rintro _ _ _ ⟨_, rfl, rfl, rfl⟩) | (refine prn_o0 rfl (sst tok rfl rfl rfl rfl rfl) (by decide +kernel) ?_; rintro _ _ _ ⟨rfl, rfl, rfl⟩; refine ⟨by (repeat (first | exact trivial | refine And.intro (pend_q rfl rfl rfl (qt_pev tok rfl)) ?_ | refine And.intro (pend_q rfl rfl rfl (ql tok rfl)) ?_)), ?_⟩) | ((first | refine po rfl (st_box rfl) ?_ | refine po rfl (st_alloc tok rfl) ?_ | refine po rfl (st_buildSlice tok rfl rfl rfl rfl rfl rfl rfl) ?_); rintro _ _ _ ⟨_, rfl, rfl, rfl⟩; refine ⟨by (repeat (first | exact trivial | refine And.intro (pend_q rfl rfl rfl (qt_pev tok rfl)) ?_ | refine And.intro (pend_q rfl rfl rfl (ql tok rfl)) ?_)), ?_⟩) | (refine pe rfl (qt_pev tok rfl) ?_; rintro _ _ _ ⟨rfl, rfl, rfl⟩) | refine prn_q rfl (qt_indexN tok rfl rfl rfl rfl (fun _ => by omega)) (by decide +kernel) rfl rfl rfl ?_ | refine prn_g rfl rfl rfl (qt_indexN tok rfl rfl rfl rfl (fun _ => by omega)) (by decide +kernel) rfl rfl rfl rfl rfl ?_ | refine prn_q rfl (qt_ldM tok rfl hbd rfl) (by decide +kernel) rfl rfl rfl ?_ | refine prn_g rfl rfl rfl (qt_ldM tok rfl hbd rfl) (by decide +kernel) rfl rfl rfl rfl rfl ?_ | refine prn_q rfl (qt_ldM0 tok rfl hbd rfl) (by decide +kernel) rfl rfl rfl ?_ | refine prn_g rfl rfl rfl (qt_ldM0 tok rfl hbd rfl) (by decide +kernel) rfl rfl rfl rfl rfl ?_)
  exact run_ret hC (rs := [.tmp 1]) rfl (resT rfl resN) (fun _ h => h) ⟨Mem.le_refl _, a, cap, rfl, rfl, hv⟩
theorem dkSync_ok (M : Mem) (L : HL) (b : Nat) (x : Ds) (a : Option Addr) (cap : Nat) (hx : DsOk x) (hv : BV M a cap x.s) (hl : x.left < 9223372036854775808) :
    Tr Tryz.prog 28 [pt b] M (dkB b x a cap :: L) (DkK (dSync x) M b L) := by
  refine Tr.intro 6 Tryz.func28 rfl rfl Tryz.call28 rfl ?_
  intro C hC hro
  refine run_seq ?_
  (refine run_region ?_; (repeat (first | refine wq ?_ | refine wg ?_ | refine ws ?_ | refine wb fun _ => ?_ | refine wa fun _ => ?_ | refine wl fun _ => ?_)); refine runL_nil ?_)
  refine run_frz 0 rfl ?_
  intro M1 hM1 hb1
  refine run_mem (L' := dkB b x a cap :: L) (fun _ h => h) ?_
  have hc1 := Cells.ofBlk hb1
  repeat (first | with_reducible (first | refine zS ?_ | refine zR ?_ | refine zN ?_ | refine zK ?_ | refine zB ?_ | refine zI ?_) | refine zE rfl ?_ | refine wq ?_ | refine wg ?_ | refine ws ?_ | refine wb fun _ => ?_ | refine wa fun _ => ?_ | refine wl fun _ => ?_ | refine runL_q (qt_indexN tok rfl rfl rfl rfl (fun _ => by omega)) rfl rfl rfl ?_ | refine runL_g rfl rfl (qt_indexN tok rfl rfl rfl rfl (fun _ => by omega)) rfl rfl rfl rfl rfl ?_ | refine runL_q (qt_ldM tok rfl hc1 rfl) rfl rfl rfl ?_ | refine runL_g rfl rfl (qt_ldM tok rfl hc1 rfl) rfl rfl rfl rfl rfl ?_ | refine runL_q (qt_ldM0 tok rfl hc1 rfl) rfl rfl rfl ?_ | refine runL_g rfl rfl (qt_ldM0 tok rfl hc1 rfl) rfl rfl rfl rfl rfl ?_)
  rename_i b1
  refine ro (st_callF rfl (fun _ => dkWrite_ok M1 L b x a cap _ _ (0, { x with syn := x.s.size }) hx (hv.mono hM1) ⟨rfl, rfl, hl⟩ (dkSync1_ok M1 L b b1 x a cap (hv.mono hM1) hc1))) ?_
  rintro _ M2 _ ⟨hM2, a2, c2, rfl, rfl, hv2⟩
  repeat (first | with_reducible (first | refine zS ?_ | refine zR ?_ | refine zN ?_ | refine zK ?_ | refine zB ?_ | refine zI ?_) | refine zE rfl ?_ | refine wq ?_ | refine wg ?_ | refine ws ?_ | refine wb fun _ => ?_ | refine wa fun _ => ?_ | refine wl fun _ => ?_)
  exact run_ret hC (rs := [.tmp 2]) rfl (resT rfl resN) (fun _ h => h) ⟨Mem.le_trans hM1 hM2, a2, c2, rfl, rfl, hv2⟩
theorem BV.take {M : Mem} {a : Option Addr} {cap : Nat} {s : ByteArray} (h : BV M a cap s) {n : Nat} (hn : n ≤ s.size) : BV M (subA 1 a n 0) n (s.extract 0 n) := by
  have hsz : (s.extract 0 n).size = n := by rw [← ba_len, ba_extract, List.drop_zero, List.length_take, ba_len]; omega
  refine ⟨by omega, by have := h.le; have := h.lt; omega, ?_⟩
  rcases h.at_ with ⟨rfl, h0⟩ | ⟨b, off, rfl, hc⟩
  · exact .inl ⟨by unfold subA; split <;> rfl, by omega⟩
  · refine .inr ⟨b, off, ?_, ?_⟩
    · unfold subA
      split
      · rfl
      · simp [add_none]
    · have := hc.sub (k := 0) (n := n)
      have e : bC (s.extract 0 n).data.toList = seg (bC s.data.toList) 0 n := by
        rw [ba_extract, seg, List.drop_zero, List.drop_zero]; unfold bC; rw [List.map_take]
      rw [e]; exact this
theorem ext0_size {s : ByteArray} {n : Nat} (hn : n ≤ s.size) : (s.extract 0 n).size = n := by rw [← ba_len, ba_extract, List.drop_zero, List.length_take, ba_len]; omega
set_option maxHeartbeats 4000000 in
theorem dkCut1_ok (M : Mem) (L : HL) (b bd bn n : Nat) (x : Ds) (a : Option Addr) (cap : Nat) (hv : BV M a cap x.s) (hbd : Cells M [] bd 0 [pt b]) (hbn : Cells M [] bn 0 [iv n]) :
    Tr Tryz.prog 71 [pt bn, pt bd] M (dkB b x a cap :: L) (DkK (if x.s.size < n then (2, x) else (0, { x with s := x.s.extract 0 n, syn := n })) M b L) := by
  have hle := hv.le
  refine Tr.intro 32 Tryz.func71 rfl rfl Tryz.call71 rfl ?_
  intro C hC hro
  repeat (first | with_reducible (first | refine zS ?_ | refine zR ?_ | refine zN ?_ | refine zK ?_ | refine zB ?_ | refine zI ?_) | refine zE rfl ?_ | refine wq ?_ | refine wg ?_ | refine ws ?_ | refine wb fun _ => ?_ | refine wa fun _ => ?_ | refine wl fun _ => ?_ | refine prn_start mixed ?_ | refine prn_end (by decide +kernel) ?_ | refine dq ?_ | refine dg ?_ | (refine prn_e0 rfl (sst tok rfl rfl rfl rfl rfl) (by decide +kernel) ?_; rintro _ _ _ ⟨rfl, rfl, rfl⟩) | ((first | refine pe rfl (st_box rfl) ?_ | refine pe rfl (st_alloc tok rfl) ?_ | refine pe rfl (st_buildSlice tok rfl rfl rfl rfl rfl rfl rfl) ?_); rintro _ _ _ ⟨_, rfl, rfl, rfl⟩) | (refine prn_o0 rfl (sst tok rfl rfl rfl rfl rfl) (by decide +kernel) ?_; rintro _ _ _ ⟨rfl, rfl, rfl⟩; refine ⟨by (repeat (first | exact trivial | refine And.intro (pend_q rfl rfl rfl (qt_pev tok rfl)) ?_ | refine And.intro (pend_q rfl rfl rfl (ql tok rfl)) ?_)), ?_⟩) | ((first | refine po rfl (st_box rfl) ?_ | refine po rfl (st_alloc tok rfl) ?_ | refine po rfl (st_buildSlice tok rfl rfl rfl rfl rfl rfl rfl) ?_); rintro _ _ _ ⟨_, rfl, rfl, rfl⟩; refine ⟨by (repeat (first | exact trivial | refine And.intro (pend_q rfl rfl rfl (qt_pev tok rfl)) ?_ | refine And.intro (pend_q rfl rfl rfl (ql tok rfl)) ?_)), ?_⟩) | (refine pe rfl (qt_pev tok rfl) ?_; rintro _ _ _ ⟨rfl, rfl, rfl⟩) | refine prn_q rfl (qt_indexN tok rfl rfl rfl rfl (fun _ => by omega)) (by decide +kernel) rfl rfl rfl ?_ | refine prn_g rfl rfl rfl (qt_indexN tok rfl rfl rfl rfl (fun _ => by omega)) (by decide +kernel) rfl rfl rfl rfl rfl ?_ | refine prn_q rfl (qt_ldM tok rfl hbd rfl) (by decide +kernel) rfl rfl rfl ?_ | refine prn_g rfl rfl rfl (qt_ldM tok rfl hbd rfl) (by decide +kernel) rfl rfl rfl rfl rfl ?_ | refine prn_q rfl (qt_ldM0 tok rfl hbd rfl) (by decide +kernel) rfl rfl rfl ?_ | refine prn_g rfl rfl rfl (qt_ldM0 tok rfl hbd rfl) (by decide +kernel) rfl rfl rfl rfl rfl ?_ | refine prn_q rfl (qt_ldM tok rfl hbn rfl) (by decide +kernel) rfl rfl rfl ?_ | refine prn_g rfl rfl rfl (qt_ldM tok rfl hbn rfl) (by decide +kernel) rfl rfl rfl rfl rfl ?_ | refine prn_q rfl (qt_ldM0 tok rfl hbn rfl) (by decide +kernel) rfl rfl rfl ?_ | refine prn_g rfl rfl rfl (qt_ldM0 tok rfl hbn rfl) (by decide +kernel) rfl rfl rfl rfl rfl ?_)
  refine run_cond (t := decide ((n : Int) < 0) || decide ((n : Int) > (x.s.size : Int))) rfl (fun h => ?_) (fun h => ?_)
  · have h0 : x.s.size < n := by simp at h; omega
    rw [if_pos h0] at hC
    repeat (first | with_reducible (first | refine zS ?_ | refine zR ?_ | refine zN ?_ | refine zK ?_ | refine zB ?_ | refine zI ?_) | refine zE rfl ?_ | refine wq ?_ | refine wg ?_ | refine ws ?_ | refine wb fun _ => ?_ | refine wa fun _ => ?_ | refine wl fun _ => ?_)
    exact run_ret hC (rs := [.tmp 2]) rfl (resT rfl resN) (fun _ h => h) ⟨Mem.le_refl _, a, cap, rfl, rfl, hv⟩
  · have h0 : ¬ x.s.size < n := by simp at h; omega
    rw [if_neg h0] at hC
    refine run_skip ?_
    refine run_seq ?_
    refine prn_start mixed ?_
    repeat (first | refine dq ?_ | refine dg ?_ | refine prn_q rfl (qt_indexN tok rfl rfl rfl rfl (fun _ => by omega)) (by decide +kernel) rfl rfl rfl ?_ | refine prn_g rfl rfl rfl (qt_indexN tok rfl rfl rfl rfl (fun _ => by omega)) (by decide +kernel) rfl rfl rfl rfl rfl ?_ | refine prn_q rfl (qt_ldM tok rfl hbd rfl) (by decide +kernel) rfl rfl rfl ?_ | refine prn_g rfl rfl rfl (qt_ldM tok rfl hbd rfl) (by decide +kernel) rfl rfl rfl rfl rfl ?_ | refine prn_q rfl (qt_ldM0 tok rfl hbd rfl) (by decide +kernel) rfl rfl rfl ?_ | refine prn_g rfl rfl rfl (qt_ldM0 tok rfl hbd rfl) (by decide +kernel) rfl rfl rfl rfl rfl ?_ | refine prn_q rfl (qt_ldM tok rfl hbn rfl) (by decide +kernel) rfl rfl rfl ?_ | refine prn_g rfl rfl rfl (qt_ldM tok rfl hbn rfl) (by decide +kernel) rfl rfl rfl rfl rfl ?_ | refine prn_q rfl (qt_ldM0 tok rfl hbn rfl) (by decide +kernel) rfl rfl rfl ?_ | refine prn_g rfl rfl rfl (qt_ldM0 tok rfl hbn rfl) (by decide +kernel) rfl rfl rfl rfl rfl ?_ | refine pq rfl (qt_slice3 (n := n) tok rfl rfl rfl rfl rfl (fun _ => by omega)) ?_)
    refine prn_o0 rfl (sst tok rfl rfl rfl rfl rfl) (by decide +kernel) ?_
    rintro _ _ _ ⟨rfl, rfl, rfl⟩
    refine ⟨by (repeat (first | exact trivial | refine And.intro (pend_q rfl rfl rfl (qt_pev tok rfl)) ?_ | refine And.intro (pend_q rfl rfl rfl (ql tok rfl)) ?_ | refine And.intro (pend_q rfl rfl rfl (qt_ldM (k := 0) tok rfl hbd rfl)) ?_ | refine And.intro (pend_q rfl rfl rfl (qt_ldM (k := 0) tok rfl hbn rfl)) ?_)), ?_⟩
    repeat (first | refine dq ?_ | refine dg ?_ | (refine prn_e0 rfl (sst tok rfl rfl rfl rfl rfl) (by decide +kernel) ?_; rintro _ _ _ ⟨rfl, rfl, rfl⟩) | ((first | refine pe rfl (st_box rfl) ?_ | refine pe rfl (st_alloc tok rfl) ?_ | refine pe rfl (st_buildSlice tok rfl rfl rfl rfl rfl rfl rfl) ?_); rintro _ _ _ ⟨_, rfl, rfl, rfl⟩) | (refine prn_o0 rfl (sst tok rfl rfl rfl rfl rfl) (by decide +kernel) ?_; rintro _ _ _ ⟨rfl, rfl, rfl⟩; refine ⟨by (repeat (first | exact trivial | refine And.intro (pend_q rfl rfl rfl (qt_pev tok rfl)) ?_ | refine And.intro (pend_q rfl rfl rfl (ql tok rfl)) ?_)), ?_⟩) | ((first | refine po rfl (st_box rfl) ?_ | refine po rfl (st_alloc tok rfl) ?_ | refine po rfl (st_buildSlice tok rfl rfl rfl rfl rfl rfl rfl) ?_); rintro _ _ _ ⟨_, rfl, rfl, rfl⟩; refine ⟨by (repeat (first | exact trivial | refine And.intro (pend_q rfl rfl rfl (qt_pev tok rfl)) ?_ | refine And.intro (pend_q rfl rfl rfl (ql tok rfl)) ?_)), ?_⟩) | (refine pe rfl (qt_pev tok rfl) ?_; rintro _ _ _ ⟨rfl, rfl, rfl⟩))
    refine prn_end (by decide +kernel) ?_
    repeat (first | with_reducible (first | refine zS ?_ | refine zR ?_ | refine zN ?_ | refine zK ?_ | refine zB ?_ | refine zI ?_) | refine zE rfl ?_ | refine wq ?_ | refine wg ?_ | refine ws ?_ | refine wb fun _ => ?_ | refine wa fun _ => ?_ | refine wl fun _ => ?_)
    have hsz := ext0_size (s := x.s) (n := n) (by omega)
    refine run_ret hC (rs := [.tmp 2]) rfl (resT rfl resN) (fun _ h => h) ⟨Mem.le_refl _, subA 1 a n 0, n, rfl, ?_, hv.take (by omega)⟩
    show _ = (b, Obj.cells ⟨[.slice (subA 1 a n 0) (x.s.extract 0 n).size n, iv n, .bool x.armed, .bool x.down, iv x.left, iv x.room]⟩ _ _) :: L
    rw [hsz]
theorem dkCut_ok (M : Mem) (L : HL) (b n : Nat) (x : Ds) (a : Option Addr) (cap : Nat) (hx : DsOk x) (hv : BV M a cap x.s) (hl : x.left < 9223372036854775808) :
    Tr Tryz.prog 40 [pt b, iv n] M (dkB b x a cap :: L) (DkK (dCut x n) M b L) := by
  refine Tr.intro 8 Tryz.func40 rfl rfl Tryz.call40 rfl ?_
  intro C hC hro
  refine run_seq ?_
  (refine run_region ?_; (repeat (first | refine wq ?_ | refine wg ?_ | refine ws ?_ | refine wb fun _ => ?_ | refine wa fun _ => ?_ | refine wl fun _ => ?_)); refine runL_nil ?_)
  rename_i bd bn
  refine run_frz 1 rfl ?_
  intro M1 hM1 hb1
  refine run_frz 0 rfl ?_
  intro M2 hM2 hb2
  refine run_mem (L' := dkB b x a cap :: L) (fun _ h => h) ?_
  have hc1 := (Cells.ofBlk hb1).le hM2
  have hc2 := Cells.ofBlk hb2
  have hv2 := hv.mono (Mem.le_trans hM1 hM2)
  repeat (first | with_reducible (first | refine zS ?_ | refine zR ?_ | refine zN ?_ | refine zK ?_ | refine zB ?_ | refine zI ?_) | refine zE rfl ?_ | refine wq ?_ | refine wg ?_ | refine ws ?_ | refine wb fun _ => ?_ | refine wa fun _ => ?_ | refine wl fun _ => ?_ | refine runL_q (qt_indexN tok rfl rfl rfl rfl (fun _ => by omega)) rfl rfl rfl ?_ | refine runL_g rfl rfl (qt_indexN tok rfl rfl rfl rfl (fun _ => by omega)) rfl rfl rfl rfl rfl ?_ | refine runL_q (qt_ldM tok rfl hc1 rfl) rfl rfl rfl ?_ | refine runL_g rfl rfl (qt_ldM tok rfl hc1 rfl) rfl rfl rfl rfl rfl ?_ | refine runL_q (qt_ldM0 tok rfl hc1 rfl) rfl rfl rfl ?_ | refine runL_g rfl rfl (qt_ldM0 tok rfl hc1 rfl) rfl rfl rfl rfl rfl ?_)
  refine ro (st_callF rfl (fun _ => dkWrite_ok M2 L b x a cap _ _ (if x.s.size < n then (2, x) else (0, { x with s := x.s.extract 0 n, syn := n })) hx hv2 (by split <;> exact ⟨rfl, rfl, hl⟩) (dkCut1_ok M2 L b bd bn n x a cap hv2 hc1 hc2))) ?_
  rintro _ M3 _ ⟨hM3, a3, c3, rfl, rfl, hv3⟩
  repeat (first | with_reducible (first | refine zS ?_ | refine zR ?_ | refine zN ?_ | refine zK ?_ | refine zB ?_ | refine zI ?_) | refine zE rfl ?_ | refine wq ?_ | refine wg ?_ | refine ws ?_ | refine wb fun _ => ?_ | refine wa fun _ => ?_ | refine wl fun _ => ?_)
  exact run_ret hC (rs := [.tmp 4]) rfl (resT rfl resN) (fun _ h => h) ⟨Mem.le_trans hM1 (Mem.le_trans hM2 hM3), a3, c3, rfl, rfl, hv3⟩
end Go.Proofs.YtkjljcgbnikmkaaGreatDoor
namespace Go.Proofs.YtkjljcgbnikmkaaGreatDoor
open Go.Chi
set_option maxRecDepth 10000

/-! ### a disk: writing behind its end, crashes, what it tells -/
theorem bC_app (a b : ByteArray) : bC (a ++ b).data.toList = bC a.data.toList ++ bC b.data.toList := by
  unfold bC; rw [ba_app, List.map_append]
theorem upd_same {L L' : HL} {b : Nat} {o : Obj} (h : Upd L b o o L') : L' = L := by
  obtain ⟨A, B, rfl, rfl⟩ := h; rfl
/-- bytes that lie for good are copied into a block of ours -/
theorem st_copyBV {ro : Option Nat} {σ : Env} {δ : Den} {cur : Path} {M : Mem} {L L' : HL} {d : Option Nat} {ty : TypeId} {pos : String} {aft : Array Edge} {g : Option (Nat × Bool)} {x y : Operand} {a : Option Addr} {cap bn n : Nat} {s : ByteArray} {cs : List Value} {et : TypeId}
    (hx : ev σ δ cur x = some (.slice (some ⟨bn, 0, none⟩) n n)) (hy : ev σ δ cur y = some (.slice a s.size cap)) (hv : BV M a cap s) (hn : s.size ≤ n) (hl : cs.length = n) (hu : Upd L bn (.cells ⟨cs⟩ et (0, 0)) (.cells ⟨setSeg cs 0 (bC s.data.toList)⟩ et (0, 0)) L') :
    St Tryz.prog ro ⟨d, .call ⟨.builtin .copy, #[x, y], #[75, 75]⟩, ty, pos, aft, g⟩ σ δ cur M L (fun v' M' L'' => v' = iv s.size ∧ M = M' ∧ L'' = L') := by
  have hbl : (bC s.data.toList).length = s.size := by rw [bC_len, ba_len]
  rcases hv.at_ with ⟨rfl, h0⟩ | ⟨b, off, rfl, hc⟩
  · have hnil : bC s.data.toList = [] := List.length_eq_zero_iff.1 (by rw [hbl, h0])
    rw [hnil] at hu
    have hss : setSeg cs 0 [] = cs := by simp [setSeg]
    rw [hss] at hu
    have := upd_same hu
    subst this
    refine (qt_copy0 tok hx hy rfl rfl (fun _ => by rw [h0]; exact Nat.zero_min _)).mono ?_
    rintro _ _ _ ⟨rfl, rfl, rfl⟩
    exact ⟨by rw [h0]; rfl, rfl, rfl⟩
  · refine (st_copy tok hx hy rfl rfl (Cells.ofM hc) (by rw [hbl]; exact (Nat.min_eq_left hn).symm) (by rw [hbl]; omega) (bC_one _) hu).mono ?_
    rintro _ _ _ ⟨rfl, rfl, rfl⟩
    exact ⟨by rw [hbl], rfl, rfl⟩
theorem app_cells {cs0 : List Value} (s t : ByteArray) (hl : cs0.length = s.size + t.size) : setSeg (setSeg cs0 0 (bC s.data.toList)) (if t.size = 0 then 0 else s.size * 1) (bC (t.data.toList.take (min t.size (s.size + t.size - s.size)))) = bC (s ++ t).data.toList := by
  have hb : (bC s.data.toList).length = s.size := by rw [bC_len, ba_len]
  have ht : (bC t.data.toList).length = t.size := by rw [bC_len, ba_len]
  have e1 : setSeg cs0 0 (bC s.data.toList) = bC s.data.toList ++ cs0.drop s.size := by simp [setSeg, hb]
  rw [e1, List.take_of_length_le (by rw [ba_len]; omega), bC_app]
  split
  · rename_i h0
    have hn : bC t.data.toList = [] := List.length_eq_zero_iff.1 (by rw [ht, h0])
    rw [hn, List.drop_eq_nil_of_le (by omega)]
    simp [setSeg]
  · unfold setSeg
    rw [Nat.mul_one, ht, List.take_left' hb, List.drop_append, hb, List.drop_eq_nil_of_le (by rw [hb]; omega), List.drop_drop, show cs0.drop (s.size + (s.size + t.size - s.size)) = [] from List.drop_eq_nil_of_le (by omega)]
    simp
set_option maxHeartbeats 8000000 in
theorem dkApp1_ok (M : Mem) (L : HL) (b bd bs : Nat) (t : ByteArray) (x : Ds) (a : Option Addr) (cap : Nat) (hx : DsOk x) (hv : BV M a cap x.s) (ht : t.size < 1000000000) (hbd : Cells M [] bd 0 [pt b]) (hbs : Cells M [] bs 0 [.string t]) :
    Tr Tryz.prog 57 [pt bs, pt bd] M (dkB b x a cap :: L) (DkK (if x.room - x.s.size < t.size then (4, x) else (0, { x with s := x.s ++ t })) M b L) := by
  have h1 := hx.fit
  have h2 := hx.room
  have e1 : IntKind.i64.wrap ((x.room : Int) - (x.s.size : Int)) = ((x.room - x.s.size : Nat) : Int) := by
    rw [show (x.room : Int) - (x.s.size : Int) = ((x.room - x.s.size : Nat) : Int) by omega]; exact wrap64_nat (by omega)
  have e2 : IntKind.i64.wrap ((x.s.size : Int) + (t.size : Int)) = ((x.s.size + t.size : Nat) : Int) := by
    rw [show (x.s.size : Int) + (t.size : Int) = ((x.s.size + t.size : Nat) : Int) by omega]; exact wrap64_nat (by omega)
  have htl : t.data.toList.length = t.size := ba_len t
  have hsl : x.s.data.toList.length = x.s.size := ba_len x.s
  refine Tr.intro 50 Tryz.func57 rfl rfl Tryz.call57 rfl ?_
  intro C hC hro
  repeat (first | with_reducible (first | refine zS ?_ | refine zR ?_ | refine zN ?_ | refine zK ?_ | refine zB ?_ | refine zI ?_) | refine zE rfl ?_ | refine wq ?_ | refine wg ?_ | refine ws ?_ | refine wb fun _ => ?_ | refine wa fun _ => ?_ | refine wl fun _ => ?_ | refine prn_start mixed ?_ | refine prn_end (by decide +kernel) ?_ | refine dq ?_ | refine dg ?_ | (refine prn_e0 rfl (sst tok rfl rfl rfl rfl rfl) (by decide +kernel) ?_; rintro _ _ _ ⟨rfl, rfl, rfl⟩) | ((first | refine pe rfl (st_box rfl) ?_ | refine pe rfl (st_alloc tok rfl) ?_ | refine pe rfl (st_buildSlice tok rfl rfl rfl rfl rfl rfl rfl) ?_); rintro _ _ _ ⟨_, rfl, rfl, rfl⟩) | (refine prn_o0 rfl (sst tok rfl rfl rfl rfl rfl) (by decide +kernel) ?_; rintro _ _ _ ⟨rfl, rfl, rfl⟩; refine ⟨by (repeat (first | exact trivial | refine And.intro (pend_q rfl rfl rfl (qt_pev tok rfl)) ?_ | refine And.intro (pend_q rfl rfl rfl (ql tok rfl)) ?_)), ?_⟩) | ((first | refine po rfl (st_box rfl) ?_ | refine po rfl (st_alloc tok rfl) ?_ | refine po rfl (st_buildSlice tok rfl rfl rfl rfl rfl rfl rfl) ?_); rintro _ _ _ ⟨_, rfl, rfl, rfl⟩; refine ⟨by (repeat (first | exact trivial | refine And.intro (pend_q rfl rfl rfl (qt_pev tok rfl)) ?_ | refine And.intro (pend_q rfl rfl rfl (ql tok rfl)) ?_)), ?_⟩) | (refine pe rfl (qt_pev tok rfl) ?_; rintro _ _ _ ⟨rfl, rfl, rfl⟩) | refine prn_q rfl (qt_indexN tok rfl rfl rfl rfl (fun _ => by omega)) (by decide +kernel) rfl rfl rfl ?_ | refine prn_g rfl rfl rfl (qt_indexN tok rfl rfl rfl rfl (fun _ => by omega)) (by decide +kernel) rfl rfl rfl rfl rfl ?_ | refine prn_q rfl (qt_ldM tok rfl hbd rfl) (by decide +kernel) rfl rfl rfl ?_ | refine prn_g rfl rfl rfl (qt_ldM tok rfl hbd rfl) (by decide +kernel) rfl rfl rfl rfl rfl ?_ | refine prn_q rfl (qt_ldM0 tok rfl hbd rfl) (by decide +kernel) rfl rfl rfl ?_ | refine prn_g rfl rfl rfl (qt_ldM0 tok rfl hbd rfl) (by decide +kernel) rfl rfl rfl rfl rfl ?_ | refine prn_q rfl (qt_ldM tok rfl hbs rfl) (by decide +kernel) rfl rfl rfl ?_ | refine prn_g rfl rfl rfl (qt_ldM tok rfl hbs rfl) (by decide +kernel) rfl rfl rfl rfl rfl ?_ | refine prn_q rfl (qt_ldM0 tok rfl hbs rfl) (by decide +kernel) rfl rfl rfl ?_ | refine prn_g rfl rfl rfl (qt_ldM0 tok rfl hbs rfl) (by decide +kernel) rfl rfl rfl rfl rfl ?_)
  refine run_cond (t := decide ((t.size : Int) > IntKind.i64.wrap ((x.room : Int) - (x.s.size : Int)))) rfl (fun h => ?_) (fun h => ?_)
  · rw [e1] at h
    have h0 : x.room - x.s.size < t.size := by simp at h; omega
    rw [if_pos h0] at hC
    repeat (first | with_reducible (first | refine zS ?_ | refine zR ?_ | refine zN ?_ | refine zK ?_ | refine zB ?_ | refine zI ?_) | refine zE rfl ?_ | refine wq ?_ | refine wg ?_ | refine ws ?_ | refine wb fun _ => ?_ | refine wa fun _ => ?_ | refine wl fun _ => ?_)
    exact run_ret hC (rs := [.tmp 2]) rfl (resT rfl resN) (fun _ h => h) ⟨Mem.le_refl _, a, cap, rfl, rfl, hv⟩
  rw [e1] at h
  have h0 : ¬ x.room - x.s.size < t.size := by simp at h; omega
  rw [if_neg h0] at hC
  refine run_skip ?_
  refine run_seq ?_
  refine prn_start mixed ?_
  repeat (first | refine dq ?_ | refine dg ?_ | refine prn_q rfl (qt_indexN tok rfl rfl rfl rfl (fun _ => by omega)) (by decide +kernel) rfl rfl rfl ?_ | refine prn_g rfl rfl rfl (qt_indexN tok rfl rfl rfl rfl (fun _ => by omega)) (by decide +kernel) rfl rfl rfl rfl rfl ?_ | refine prn_q rfl (qt_ldM tok rfl hbd rfl) (by decide +kernel) rfl rfl rfl ?_ | refine prn_g rfl rfl rfl (qt_ldM tok rfl hbd rfl) (by decide +kernel) rfl rfl rfl rfl rfl ?_ | refine prn_q rfl (qt_ldM0 tok rfl hbd rfl) (by decide +kernel) rfl rfl rfl ?_ | refine prn_g rfl rfl rfl (qt_ldM0 tok rfl hbd rfl) (by decide +kernel) rfl rfl rfl rfl rfl ?_ | refine prn_q rfl (qt_ldM tok rfl hbs rfl) (by decide +kernel) rfl rfl rfl ?_ | refine prn_g rfl rfl rfl (qt_ldM tok rfl hbs rfl) (by decide +kernel) rfl rfl rfl rfl rfl ?_ | refine prn_q rfl (qt_ldM0 tok rfl hbs rfl) (by decide +kernel) rfl rfl rfl ?_ | refine prn_g rfl rfl rfl (qt_ldM0 tok rfl hbs rfl) (by decide +kernel) rfl rfl rfl rfl rfl ?_)
  refine pr_as 26 (iv (x.s.size + t.size)) rfl (congrArg (Value.int .i64) e2) ?_
  refine pe rfl (st_makeSlice (n := x.s.size + t.size) tok rfl rfl rfl rfl rfl rfl rfl (by omega) (by omega)) ?_
  rintro _ _ _ ⟨bn, rfl, rfl, rfl⟩
  refine dq ?_
  refine prn_end (by decide +kernel) ?_
  generalize hcs : List.replicate (x.s.size + t.size) (Value.int .u8 0) = cs0
  have hl0 : cs0.length = x.s.size + t.size := by rw [← hcs]; simp
  -- the old bytes
  refine run_seq ?_
  refine run_region ?_
  repeat (first | refine wq ?_ | refine wg ?_ | refine runL_q (qt_indexN tok rfl rfl rfl rfl (fun _ => by omega)) rfl rfl rfl ?_ | refine runL_g rfl rfl (qt_indexN tok rfl rfl rfl rfl (fun _ => by omega)) rfl rfl rfl rfl rfl ?_ | refine runL_q (qt_ldM tok rfl hbd rfl) rfl rfl rfl ?_ | refine runL_g rfl rfl (qt_ldM tok rfl hbd rfl) rfl rfl rfl rfl rfl ?_ | refine runL_q (qt_ldM0 tok rfl hbd rfl) rfl rfl rfl ?_ | refine runL_g rfl rfl (qt_ldM0 tok rfl hbd rfl) rfl rfl rfl rfl rfl ?_)
  refine ro (st_copyBV rfl rfl hv (by omega) hl0 (Upd.here _ _ _ _)) ?_
  rintro _ _ _ ⟨rfl, rfl, rfl⟩
  refine runL_nil ?_
  have hsub : subA 1 (some ⟨bn, 0, none⟩) (x.s.size + t.size) x.s.size = some ⟨bn, if t.size = 0 then 0 else x.s.size * 1, none⟩ := by
    unfold subA
    by_cases h3 : t.size = 0
    · rw [if_pos (by omega), if_pos h3]
    · rw [if_neg (by omega), if_neg h3]; simp [add_none]
  have hfin := app_cells x.s t hl0
  have hl2 : (setSeg cs0 0 (bC x.s.data.toList)).length = x.s.size + t.size := by
    simp [setSeg, bC_len, hsl, hl0]
  refine run_seq ?_
  refine prn_start mixed ?_
  repeat (first | refine dq ?_ | refine dg ?_ | refine prn_q rfl (qt_indexN tok rfl rfl rfl rfl (fun _ => by omega)) (by decide +kernel) rfl rfl rfl ?_ | refine prn_g rfl rfl rfl (qt_indexN tok rfl rfl rfl rfl (fun _ => by omega)) (by decide +kernel) rfl rfl rfl rfl rfl ?_ | refine prn_q rfl (qt_ldM tok rfl hbd rfl) (by decide +kernel) rfl rfl rfl ?_ | refine prn_g rfl rfl rfl (qt_ldM tok rfl hbd rfl) (by decide +kernel) rfl rfl rfl rfl rfl ?_ | refine prn_q rfl (qt_ldM0 tok rfl hbd rfl) (by decide +kernel) rfl rfl rfl ?_ | refine prn_g rfl rfl rfl (qt_ldM0 tok rfl hbd rfl) (by decide +kernel) rfl rfl rfl rfl rfl ?_ | refine prn_q rfl (qt_ldM tok rfl hbs rfl) (by decide +kernel) rfl rfl rfl ?_ | refine prn_g rfl rfl rfl (qt_ldM tok rfl hbs rfl) (by decide +kernel) rfl rfl rfl rfl rfl ?_ | refine prn_q rfl (qt_ldM0 tok rfl hbs rfl) (by decide +kernel) rfl rfl rfl ?_ | refine prn_g rfl rfl rfl (qt_ldM0 tok rfl hbs rfl) (by decide +kernel) rfl rfl rfl rfl rfl ?_ | refine pq rfl (Qt.as (v' := .slice (some ⟨bn, if t.size = 0 then 0 else x.s.size * 1, none⟩) (x.s.size + t.size - x.s.size) (x.s.size + t.size - x.s.size)) (qt_sliceLo (n := x.s.size) tok rfl rfl rfl rfl (fun _ => by omega)) (by rw [hsub])) ?_)
  refine pe rfl (st_copyStr (cs := setSeg cs0 0 (bC x.s.data.toList)) tok rfl rfl rfl rfl (by rw [hl2]; split <;> omega) (Upd.here _ _ _ _)) ?_
  rintro _ _ _ ⟨rfl, rfl, rfl⟩
  rw [hfin]
  refine prn_end (by decide +kernel) ?_
  repeat (first | with_reducible (first | refine zS ?_ | refine zR ?_ | refine zN ?_ | refine zK ?_ | refine zB ?_ | refine zI ?_) | refine zE rfl ?_ | refine wq ?_ | refine wg ?_ | refine ws ?_ | refine wb fun _ => ?_ | refine wa fun _ => ?_ | refine wl fun _ => ?_ | refine runL_q (qt_indexN tok rfl rfl rfl rfl (fun _ => by omega)) rfl rfl rfl ?_ | refine runL_g rfl rfl (qt_indexN tok rfl rfl rfl rfl (fun _ => by omega)) rfl rfl rfl rfl rfl ?_ | refine runL_q (qt_ldM tok rfl hbd rfl) rfl rfl rfl ?_ | refine runL_g rfl rfl (qt_ldM tok rfl hbd rfl) rfl rfl rfl rfl rfl ?_ | refine runL_q (qt_ldM0 tok rfl hbd rfl) rfl rfl rfl ?_ | refine runL_g rfl rfl (qt_ldM0 tok rfl hbd rfl) rfl rfl rfl rfl rfl ?_)
  refine run_frz 0 rfl ?_
  intro M1 hM1 hbn
  refine run_ret hC (rs := [.tmp 2]) rfl (resT rfl resN) (fun _ h => h) ⟨hM1, some ⟨bn, 0, none⟩, x.s.size + t.size, rfl, ?_, by show (x.s ++ t).size ≤ _; rw [app_size]; exact Nat.le_refl _, by omega, .inr ⟨bn, 0, rfl, Cells.ofBlk hbn⟩⟩
  show _ = (b, Obj.cells ⟨[.slice (some ⟨bn, 0, none⟩) (x.s ++ t).size (x.s.size + t.size), iv x.syn, .bool x.armed, .bool x.down, iv x.left, iv x.room]⟩ _ _) :: L
  rw [app_size]
  rfl
theorem dkApp_ok (M : Mem) (L : HL) (b : Nat) (t : ByteArray) (x : Ds) (a : Option Addr) (cap : Nat) (hx : DsOk x) (hv : BV M a cap x.s) (ht : t.size < 1000000000) (hl : x.left < 9223372036854775808) :
    Tr Tryz.prog 27 [pt b, .string t] M (dkB b x a cap :: L) (DkK (dApp x t) M b L) := by
  refine Tr.intro 8 Tryz.func27 rfl rfl Tryz.call27 rfl ?_
  intro C hC hro
  refine run_seq ?_
  (refine run_region ?_; (repeat (first | refine wq ?_ | refine wg ?_ | refine ws ?_ | refine wb fun _ => ?_ | refine wa fun _ => ?_ | refine wl fun _ => ?_)); refine runL_nil ?_)
  rename_i bd bs
  refine run_frz 1 rfl ?_
  intro M1 hM1 hb1
  refine run_frz 0 rfl ?_
  intro M2 hM2 hb2
  refine run_mem (L' := dkB b x a cap :: L) (fun _ h => h) ?_
  have hc1 := (Cells.ofBlk hb1).le hM2
  have hc2 := Cells.ofBlk hb2
  have hv2 := hv.mono (Mem.le_trans hM1 hM2)
  repeat (first | with_reducible (first | refine zS ?_ | refine zR ?_ | refine zN ?_ | refine zK ?_ | refine zB ?_ | refine zI ?_) | refine zE rfl ?_ | refine wq ?_ | refine wg ?_ | refine ws ?_ | refine wb fun _ => ?_ | refine wa fun _ => ?_ | refine wl fun _ => ?_ | refine runL_q (qt_indexN tok rfl rfl rfl rfl (fun _ => by omega)) rfl rfl rfl ?_ | refine runL_g rfl rfl (qt_indexN tok rfl rfl rfl rfl (fun _ => by omega)) rfl rfl rfl rfl rfl ?_ | refine runL_q (qt_ldM tok rfl hc1 rfl) rfl rfl rfl ?_ | refine runL_g rfl rfl (qt_ldM tok rfl hc1 rfl) rfl rfl rfl rfl rfl ?_ | refine runL_q (qt_ldM0 tok rfl hc1 rfl) rfl rfl rfl ?_ | refine runL_g rfl rfl (qt_ldM0 tok rfl hc1 rfl) rfl rfl rfl rfl rfl ?_)
  refine ro (st_callF rfl (fun _ => dkWrite_ok M2 L b x a cap _ _ (if x.room - x.s.size < t.size then (4, x) else (0, { x with s := x.s ++ t })) hx hv2 (by split <;> exact ⟨rfl, rfl, hl⟩) (dkApp1_ok M2 L b bd bs t x a cap hx hv2 ht hc1 hc2))) ?_
  rintro _ M3 _ ⟨hM3, a3, c3, rfl, rfl, hv3⟩
  repeat (first | with_reducible (first | refine zS ?_ | refine zR ?_ | refine zN ?_ | refine zK ?_ | refine zB ?_ | refine zI ?_) | refine zE rfl ?_ | refine wq ?_ | refine wg ?_ | refine ws ?_ | refine wb fun _ => ?_ | refine wa fun _ => ?_ | refine wl fun _ => ?_)
  exact run_ret hC (rs := [.tmp 4]) rfl (resT rfl resN) (fun _ h => h) ⟨Mem.le_trans hM1 (Mem.le_trans hM2 hM3), a3, c3, rfl, rfl, hv3⟩
end Go.Proofs.YtkjljcgbnikmkaaGreatDoor
namespace Go.Proofs.YtkjljcgbnikmkaaGreatDoor
open Go.Chi
set_option maxRecDepth 10000

/-! ### a disk: what it tells, and what stops it -/
theorem max0 (n : Int) : (if (0 : Int) > n then 0 else n) = (n.toNat : Int) := by split <;> omega
theorem dkArm_ok (M : Mem) (L : HL) (b : Nat) (n : Int) (x : Ds) (a : Option Addr) (cap : Nat) : Tr Tryz.prog 12 [pt b, .int .i64 n] M (dkB b x a cap :: L) (fun _ M' L' => M = M' ∧ L' = dkB b (dArm x n) a cap :: L) := by
  refine Tr.intro 16 Tryz.func12 rfl rfl Tryz.call12 rfl ?_
  intro C hC hro
  repeat (first | with_reducible (first | refine zS ?_ | refine zR ?_ | refine zN ?_ | refine zK ?_ | refine zB ?_ | refine zI ?_) | refine zE rfl ?_ | refine wq ?_ | refine wg ?_ | refine ws ?_ | refine wb fun _ => ?_ | refine wa fun _ => ?_ | refine wl fun _ => ?_)
  refine run_cond rfl (fun _ => ?_) (fun h => by cases h)
  repeat (first | with_reducible (first | refine zS ?_ | refine zR ?_ | refine zN ?_ | refine zK ?_ | refine zB ?_ | refine zI ?_) | refine zE rfl ?_ | refine wq ?_ | refine wg ?_ | refine ws ?_ | refine wb fun _ => ?_ | refine wa fun _ => ?_ | refine wl fun _ => ?_ | refine rq (Qt.as (v' := iv n.toNat) (qt_max2 rfl rfl) (congrArg (Value.int .i64) (max0 n))) ?_)
  exact run_end hC rfl (vs := []) trivial (fun _ h => h) ⟨rfl, rfl⟩
theorem dkDown_ok (M : Mem) (L : HL) (b : Nat) (x : Ds) (a : Option Addr) (cap : Nat) : TrQ Tryz.prog 32 [pt b] M (dkB b x a cap :: L) (.bool x.down) := by
  refine Tr.intro 12 Tryz.func32 rfl rfl Tryz.call32 rfl ?_
  intro C hC hro
  repeat (first | with_reducible (first | refine zS ?_ | refine zR ?_ | refine zN ?_ | refine zK ?_ | refine zB ?_ | refine zI ?_) | refine zE rfl ?_ | refine wq ?_ | refine wg ?_ | refine ws ?_ | refine wb fun _ => ?_ | refine wa fun _ => ?_ | refine wl fun _ => ?_)
  exact run_ret hC (rs := [.tmp 2]) rfl (resT rfl resN) (fun _ h => h) ⟨by simp [resVal], rfl, rfl⟩
theorem dkSynced_ok (M : Mem) (L : HL) (b : Nat) (x : Ds) (a : Option Addr) (cap : Nat) : TrQ Tryz.prog 31 [pt b] M (dkB b x a cap :: L) (iv x.syn) := by
  refine Tr.intro 10 Tryz.func31 rfl rfl Tryz.call31 rfl ?_
  intro C hC hro
  repeat (first | with_reducible (first | refine zS ?_ | refine zR ?_ | refine zN ?_ | refine zK ?_ | refine zB ?_ | refine zI ?_) | refine zE rfl ?_ | refine wq ?_ | refine wg ?_ | refine ws ?_ | refine wb fun _ => ?_ | refine wa fun _ => ?_ | refine wl fun _ => ?_)
  refine run_cond rfl (fun h => by cases h) (fun _ => ?_)
  repeat (first | with_reducible (first | refine zS ?_ | refine zR ?_ | refine zN ?_ | refine zK ?_ | refine zB ?_ | refine zI ?_) | refine zE rfl ?_ | refine wq ?_ | refine wg ?_ | refine ws ?_ | refine wb fun _ => ?_ | refine wa fun _ => ?_ | refine wl fun _ => ?_)
  exact run_ret hC (rs := [.tmp 2]) rfl (resT rfl resN) (fun _ h => h) ⟨rfl, rfl, rfl⟩
theorem dkLen_ok (M : Mem) (L : HL) (b : Nat) (x : Ds) (a : Option Addr) (cap : Nat) : TrQ Tryz.prog 37 [pt b] M (dkB b x a cap :: L) (iv x.s.size) := by
  refine Tr.intro 11 Tryz.func37 rfl rfl Tryz.call37 rfl ?_
  intro C hC hro
  repeat (first | with_reducible (first | refine zS ?_ | refine zR ?_ | refine zN ?_ | refine zK ?_ | refine zB ?_ | refine zI ?_) | refine zE rfl ?_ | refine wq ?_ | refine wg ?_ | refine ws ?_ | refine wb fun _ => ?_ | refine wa fun _ => ?_ | refine wl fun _ => ?_)
  refine run_cond rfl (fun h => by cases h) (fun _ => ?_)
  repeat (first | with_reducible (first | refine zS ?_ | refine zR ?_ | refine zN ?_ | refine zK ?_ | refine zB ?_ | refine zI ?_) | refine zE rfl ?_ | refine wq ?_ | refine wg ?_ | refine ws ?_ | refine wb fun _ => ?_ | refine wa fun _ => ?_ | refine wl fun _ => ?_)
  exact run_ret hC (rs := [.tmp 2]) rfl (resT rfl resN) (fun _ h => h) ⟨rfl, rfl, rfl⟩
theorem dkRoom_ok (M : Mem) (L : HL) (b : Nat) (x : Ds) (a : Option Addr) (cap : Nat) (hx : DsOk x) : TrQ Tryz.prog 51 [pt b] M (dkB b x a cap :: L) (iv (x.room - x.s.size)) := by
  have h1 := hx.fit
  have h2 := hx.room
  have e1 : IntKind.i64.wrap ((x.room : Int) - (x.s.size : Int)) = ((x.room - x.s.size : Nat) : Int) := by
    rw [show (x.room : Int) - (x.s.size : Int) = ((x.room - x.s.size : Nat) : Int) by omega]; exact wrap64_nat (by omega)
  refine Tr.intro 16 Tryz.func51 rfl rfl Tryz.call51 rfl ?_
  intro C hC hro
  repeat (first | with_reducible (first | refine zS ?_ | refine zR ?_ | refine zN ?_ | refine zK ?_ | refine zB ?_ | refine zI ?_) | refine zE rfl ?_ | refine wq ?_ | refine wg ?_ | refine ws ?_ | refine wb fun _ => ?_ | refine wa fun _ => ?_ | refine wl fun _ => ?_)
  refine run_cond rfl (fun h => by cases h) (fun _ => ?_)
  repeat (first | with_reducible (first | refine zS ?_ | refine zR ?_ | refine zN ?_ | refine zK ?_ | refine zB ?_ | refine zI ?_) | refine zE rfl ?_ | refine wq ?_ | refine wg ?_ | refine ws ?_ | refine wb fun _ => ?_ | refine wa fun _ => ?_ | refine wl fun _ => ?_ | refine prn_start mixed ?_ | refine prn_end (by decide +kernel) ?_ | refine dq ?_ | refine dg ?_ | (refine prn_e0 rfl (sst tok rfl rfl rfl rfl rfl) (by decide +kernel) ?_; rintro _ _ _ ⟨rfl, rfl, rfl⟩) | ((first | refine pe rfl (st_box rfl) ?_ | refine pe rfl (st_alloc tok rfl) ?_ | refine pe rfl (st_buildSlice tok rfl rfl rfl rfl rfl rfl rfl) ?_); rintro _ _ _ ⟨_, rfl, rfl, rfl⟩) | (refine prn_o0 rfl (sst tok rfl rfl rfl rfl rfl) (by decide +kernel) ?_; rintro _ _ _ ⟨rfl, rfl, rfl⟩; refine ⟨by (repeat (first | exact trivial | refine And.intro (pend_q rfl rfl rfl (qt_pev tok rfl)) ?_ | refine And.intro (pend_q rfl rfl rfl (ql tok rfl)) ?_)), ?_⟩) | ((first | refine po rfl (st_box rfl) ?_ | refine po rfl (st_alloc tok rfl) ?_ | refine po rfl (st_buildSlice tok rfl rfl rfl rfl rfl rfl rfl) ?_); rintro _ _ _ ⟨_, rfl, rfl, rfl⟩; refine ⟨by (repeat (first | exact trivial | refine And.intro (pend_q rfl rfl rfl (qt_pev tok rfl)) ?_ | refine And.intro (pend_q rfl rfl rfl (ql tok rfl)) ?_)), ?_⟩) | (refine pe rfl (qt_pev tok rfl) ?_; rintro _ _ _ ⟨rfl, rfl, rfl⟩))
  exact run_ret hC (rs := [.tmp 2]) rfl (resT rfl resN) (fun _ h => h) ⟨congrArg (Value.int .i64) e1, rfl, rfl⟩
theorem dkBytes_ok (M : Mem) (L : HL) (b : Nat) (x : Ds) (a : Option Addr) (cap : Nat) (hv : BV M a cap x.s) : TrQ Tryz.prog 30 [pt b] M (dkB b x a cap :: L) (.string x.s) := by
  refine Tr.intro 11 Tryz.func30 rfl rfl Tryz.call30 rfl ?_
  intro C hC hro
  repeat (first | with_reducible (first | refine zS ?_ | refine zR ?_ | refine zN ?_ | refine zK ?_ | refine zB ?_ | refine zI ?_) | refine zE rfl ?_ | refine wq ?_ | refine wg ?_ | refine ws ?_ | refine wb fun _ => ?_ | refine wa fun _ => ?_ | refine wl fun _ => ?_)
  refine run_cond rfl (fun h => by cases h) (fun _ => ?_)
  rcases hv.at_ with ⟨rfl, h0⟩ | ⟨bb, off, rfl, hc⟩
  · have e : x.s = ⟨#[]⟩ := size_zero h0
    repeat (first | with_reducible (first | refine zS ?_ | refine zR ?_ | refine zN ?_ | refine zK ?_ | refine zB ?_ | refine zI ?_) | refine zE rfl ?_ | refine wq ?_ | refine wg ?_ | refine ws ?_ | refine wb fun _ => ?_ | refine wa fun _ => ?_ | refine wl fun _ => ?_)
    refine runL_as 9 (.slice none 0 cap) rfl (by rw [h0]) ?_
    repeat (first | with_reducible (first | refine zS ?_ | refine zR ?_ | refine zN ?_ | refine zK ?_ | refine zB ?_ | refine zI ?_) | refine zE rfl ?_ | refine wq ?_ | refine wg ?_ | refine ws ?_ | refine wb fun _ => ?_ | refine wa fun _ => ?_ | refine wl fun _ => ?_ | refine rq (qt_bytesNil tok rfl rfl rfl rfl) ?_)
    exact run_ret hC (rs := [.tmp 2]) rfl (resT rfl resN) (fun _ h => h) ⟨by rw [e]; rfl, rfl, rfl⟩
  · repeat (first | with_reducible (first | refine zS ?_ | refine zR ?_ | refine zN ?_ | refine zK ?_ | refine zB ?_ | refine zI ?_) | refine zE rfl ?_ | refine wq ?_ | refine wg ?_ | refine ws ?_ | refine wb fun _ => ?_ | refine wa fun _ => ?_ | refine wl fun _ => ?_ | refine rq (qt_bytesT x.s rfl rfl rfl rfl (Cells.ofM hc) rfl) ?_)
    exact run_ret hC (rs := [.tmp 2]) rfl (resT rfl resN) (fun _ h => h) ⟨rfl, rfl, rfl⟩
theorem crashN_le {x : Ds} (hx : DsOk x) (keep : Int) : crashN x keep ≤ x.s.size := by
  have := hx.syn
  unfold crashN; split <;> omega
set_option maxHeartbeats 4000000 in
theorem dkCrash_ok (M : Mem) (L : HL) (b : Nat) (keep : Int) (x : Ds) (a : Option Addr) (cap : Nat) (hx : DsOk x) (hv : BV M a cap x.s) : Tr Tryz.prog 13 [pt b, .int .i64 keep] M (dkB b x a cap :: L) (fun _ M' L' => M = M' ∧ ∃ a' cap', L' = dkB b (dCrash x keep) a' cap' :: L ∧ BV M' a' cap' (dCrash x keep).s) := by
  have h1 := hx.syn
  have h2 := hx.fit
  have h3 := hx.room
  have hle := hv.le
  have hcn := crashN_le hx keep
  have e1 : IntKind.i64.wrap ((x.s.size : Int) - (x.syn : Int)) = ((x.s.size - x.syn : Nat) : Int) := by
    rw [show (x.s.size : Int) - (x.syn : Int) = ((x.s.size - x.syn : Nat) : Int) by omega]; exact wrap64_nat (by omega)
  refine Tr.intro 48 Tryz.func13 rfl rfl Tryz.call13 rfl ?_
  intro C hC hro
  repeat (first | with_reducible (first | refine zS ?_ | refine zR ?_ | refine zN ?_ | refine zK ?_ | refine zB ?_ | refine zI ?_) | refine zE rfl ?_ | refine wq ?_ | refine wg ?_ | refine ws ?_ | refine wb fun _ => ?_ | refine wa fun _ => ?_ | refine wl fun _ => ?_)
  refine run_cond rfl (fun h => by cases h) (fun _ => ?_)
  repeat (first | with_reducible (first | refine zS ?_ | refine zR ?_ | refine zN ?_ | refine zK ?_ | refine zB ?_ | refine zI ?_) | refine zE rfl ?_ | refine wq ?_ | refine wg ?_ | refine ws ?_ | refine wb fun _ => ?_ | refine wa fun _ => ?_ | refine wl fun _ => ?_ | refine rq (Qt.as (v' := iv keep.toNat) (qt_max2 rfl rfl) (congrArg (Value.int .i64) (max0 keep))) ?_)
  refine run_cut (fun σ' M' L' => M = M' ∧ L' = dkB b x a cap :: L ∧ σ' = [(4, iv (crashN x keep)), (0, pt b)]) ?_ ?_
  rotate_left
  · intro hmid
    refine run_cond (t := decide ((keep.toNat : Int) < IntKind.i64.wrap ((x.s.size : Int) - (x.syn : Int)))) rfl (fun h => ?_) (fun h => ?_)
    · rw [e1] at h
      have h0 : keep.toNat < x.s.size - x.syn := by simp at h; omega
      have e2 : IntKind.i64.wrap ((x.syn : Int) + (keep.toNat : Int)) = ((x.syn + keep.toNat : Nat) : Int) := wrap64_nat (n := x.syn + keep.toNat) (by omega)
      (refine run_region ?_; (repeat (first | refine wq ?_ | refine wg ?_ | refine ws ?_ | refine wb fun _ => ?_ | refine wa fun _ => ?_ | refine wl fun _ => ?_)); refine runL_nil ?_)
      exact run_sub' (hmid _ _ _ ⟨rfl, rfl, rfl⟩) ⟨by rw [crashN, if_pos h0]; exact congrArg (fun z => some (Value.int .i64 z)) e2, rfl, trivial⟩
    · rw [e1] at h
      have h0 : ¬ keep.toNat < x.s.size - x.syn := by simp at h; omega
      refine run_skip ?_
      exact run_sub' (hmid _ _ _ ⟨rfl, rfl, rfl⟩) ⟨by rw [crashN, if_neg h0]; rfl, rfl, trivial⟩
  rintro _ _ _ ⟨rfl, rfl, rfl⟩
  have hsz := ext0_size (s := x.s) (n := crashN x keep) hcn
  repeat (first | with_reducible (first | refine zS ?_ | refine zR ?_ | refine zN ?_ | refine zK ?_ | refine zB ?_ | refine zI ?_) | refine zE rfl ?_ | refine wq ?_ | refine wg ?_ | refine ws ?_ | refine wb fun _ => ?_ | refine wa fun _ => ?_ | refine wl fun _ => ?_ | refine rq (qt_slice3 (n := crashN x keep) tok rfl rfl rfl rfl rfl (fun _ => by omega)) ?_)
  refine run_end hC rfl (vs := []) trivial (fun _ h => h) ⟨rfl, subA 1 a (crashN x keep) 0, crashN x keep, ?_, hv.take hcn⟩
  show _ = (b, Obj.cells ⟨[.slice (subA 1 a (crashN x keep) 0) (x.s.extract 0 (crashN x keep)).size (crashN x keep), iv (crashN x keep), .bool false, .bool false, iv 0, iv x.room]⟩ _ _) :: L
  rw [hsz]
  rfl
end Go.Proofs.YtkjljcgbnikmkaaGreatDoor
namespace Go.Proofs.YtkjljcgbnikmkaaGreatDoor
open Go.Chi
set_option maxRecDepth 10000

set_option maxHeartbeats 4000000 in
theorem mayMb_ok (M : Mem) (L : HL) (t : Tx) (s : SMb) (hs : MbOk M s) (hd : ∀ m ∈ s.xs, m.digest.size < 4611686018427387904) : TrQ Tryz.prog 88 [.agg ⟨txC t⟩, s.v] M L (.bool (mayMb t s.xs)) := by
  have hx1 := hs.len
  have hlt6 := hs.2
  refine Tr.intro 48 Tryz.func88 rfl rfl Tryz.call88 rfl ?_
  intro C hC hro
  repeat (first | with_reducible (first | refine zS ?_ | refine zR ?_ | refine zN ?_ | refine zK ?_ | refine zB ?_ | refine zI ?_) | refine zE rfl ?_ | refine wq ?_ | refine wg ?_ | refine ws ?_ | refine wb fun _ => ?_ | refine wa fun _ => ?_ | refine wl fun _ => ?_)
  rename_i b2
  refine run_loopN (fun j σ1 M1 L1 => j ≤ s.len ∧ ∃ last, memGo t last (s.xs.drop j) = memGo t (-1) s.xs ∧ M = M1 ∧ L1 = (b2, .cells ⟨txC t⟩ 31 (0, 0)) :: L ∧ σ1 = [(10, .int .i64 (j : Int)), (9, .int .i64 (s.len : Int)), (8, s.v), (5, .int .i64 last), (1, s.v), (2, .pointer (some ⟨b2, 0, none⟩))]) s.len [(10, .int .i64 ((0 : Nat) : Int)), (9, .int .i64 (s.len : Int)), (8, s.v), (5, .int .i64 (-1)), (1, s.v), (2, .pointer (some ⟨b2, 0, none⟩))] ?_ ⟨Nat.zero_le _, -1, rfl, rfl, rfl, rfl⟩ (fun j _ _ _ h => h.1) ?_
  · exact ⟨rfl, rfl, rfl, rfl, rfl, rfl, trivial⟩
  rintro j _ _ _ ⟨hj, last, hgo, rfl, rfl, rfl⟩ hnext
  repeat (first | with_reducible (first | refine zS ?_ | refine zR ?_ | refine zN ?_ | refine zK ?_ | refine zB ?_ | refine zI ?_) | refine zE rfl ?_ | refine wq ?_ | refine wg ?_ | refine ws ?_ | refine wb fun _ => ?_ | refine wa fun _ => ?_ | refine wl fun _ => ?_)
  refine run_cond rfl (fun h => ?_) (fun h => ?_)
  · have hlt : j < s.len := by simpa using h
    obtain ⟨b, off, m, hma, hm, hc⟩ := SMb.at_ hs.1 hlt
    have hv : s.v = .slice (some ⟨b, off, none⟩) s.len s.cap := by rw [← hma]; rfl
    have hdr : s.xs.drop j = m :: s.xs.drop (j + 1) := by
      obtain ⟨hl, he⟩ := List.getElem?_eq_some_iff.1 hm
      rw [← he]; exact (List.getElem_cons_drop (h := hl)).symm
    rw [hdr, memGo] at hgo
    have hmd := hd m (List.mem_of_getElem? hm)
    refine run_as 8 (.slice (some ⟨b, off, none⟩) s.len s.cap) rfl hv ?_
    repeat (first | with_reducible (first | refine zS ?_ | refine zR ?_ | refine zN ?_ | refine zK ?_ | refine zB ?_ | refine zI ?_) | refine zE rfl ?_ | refine wq ?_ | refine wg ?_ | refine ws ?_ | refine wb fun _ => ?_ | refine wa fun _ => ?_ | refine wl fun _ => ?_ | refine runL_q (qt_indexN tok rfl rfl rfl rfl (fun _ => by omega)) rfl rfl rfl ?_ | refine runL_g rfl rfl (qt_indexN tok rfl rfl rfl rfl (fun _ => by omega)) rfl rfl rfl rfl rfl ?_ | refine runL_q (qt_ldM tok rfl hc rfl) rfl rfl rfl ?_ | refine runL_g rfl rfl (qt_ldM tok rfl hc rfl) rfl rfl rfl rfl rfl ?_ | refine runL_q (qt_ldM0 tok rfl hc rfl) rfl rfl rfl ?_ | refine runL_g rfl rfl (qt_ldM0 tok rfl hc rfl) rfl rfl rfl rfl rfl ?_ | refine runL_q (qt_callF rfl (fun _ => worg_ok _ _ _)) rfl rfl rfl ?_ | refine runL_g rfl rfl (qt_callF rfl (fun _ => check_ok _ _ _ hmd)) rfl rfl rfl rfl rfl ?_)
    refine run_cond rfl (fun h => ?_) (fun h => ?_)
    · repeat (first | with_reducible (first | refine zS ?_ | refine zR ?_ | refine zN ?_ | refine zK ?_ | refine zB ?_ | refine zI ?_) | refine zE rfl ?_ | refine wq ?_ | refine wg ?_ | refine ws ?_ | refine wb fun _ => ?_ | refine wa fun _ => ?_ | refine wl fun _ => ?_)
      refine run_ret hC (rs := [.tmp 4]) rfl (resT rfl resN) (fun _ h => h.drop.drop) ⟨?_, rfl, rfl⟩
      have hb : badM t last m = true := h
      rw [if_pos hb] at hgo
      rw [mayMb, ← hgo]; rfl
    · have hb : ¬ badM t last m = true := fun e => by rw [show badM t last m = false from h] at e; cases e
      rw [if_neg hb] at hgo
      repeat (first | with_reducible (first | refine zS ?_ | refine zR ?_ | refine zN ?_ | refine zK ?_ | refine zB ?_ | refine zI ?_) | refine zE rfl ?_ | refine wq ?_ | refine wg ?_ | refine ws ?_ | refine wb fun _ => ?_ | refine wa fun _ => ?_ | refine wl fun _ => ?_)
      exact run_mem (fun _ h => h.drop) (run_sub' (hnext _ _ _ ⟨hlt, m.org, hgo, rfl, rfl, rfl⟩) ⟨lk_succ rfl (by omega), rfl, by rw [hv]; rfl, rfl, rfl, rfl, trivial⟩)
  · have hge : j = s.len := by simp at h; omega
    rw [hge, List.drop_eq_nil_of_le (by omega)] at hgo
    repeat (first | with_reducible (first | refine zS ?_ | refine zR ?_ | refine zN ?_ | refine zK ?_ | refine zB ?_ | refine zI ?_) | refine zE rfl ?_ | refine wq ?_ | refine wg ?_ | refine ws ?_ | refine wb fun _ => ?_ | refine wa fun _ => ?_ | refine wl fun _ => ?_)
    refine run_ret hC (rs := [.tmp 4]) rfl (resT rfl resN) (fun _ h => h.drop) ⟨?_, rfl, rfl⟩
    rw [mayMb, ← hgo, hx1]; rfl
end Go.Proofs.YtkjljcgbnikmkaaGreatDoor
namespace Go.Proofs.YtkjljcgbnikmkaaGreatDoor
open Go.Chi
set_option maxRecDepth 10000

structure RcOk (M : Mem) (r : Rc) : Prop where
  mem : MbOk M r.mem
  tags : StOk M r.tags
  dig : ∀ m ∈ r.mem.xs, m.digest.size < 4611686018427387904
  tag : ∀ t ∈ r.tags.xs, t.size < 4611686018427387904
  body : r.body.size < 4611686018427387904

/-! ### small functions -/
theorem rorg_ok (M : Mem) (L : HL) (n : Int) : TrQ Tryz.prog 87 [.int .i64 n] M L (.bool (orgW n)) := by
  refine Tr.intro 9 Tryz.func87 rfl rfl Tryz.call87 rfl ?_
  intro C hC hro
  repeat (first | with_reducible (first | refine zS ?_ | refine zR ?_ | refine zN ?_ | refine zK ?_ | refine zB ?_ | refine zI ?_) | refine zE rfl ?_ | refine wq ?_ | refine wg ?_ | refine ws ?_ | refine wb fun _ => ?_ | refine wa fun _ => ?_ | refine wl fun _ => ?_)
  exact run_ret hC (rs := [.tmp 2]) rfl (resT rfl resN) (fun _ h => h) ⟨rfl, rfl, rfl⟩
def fullR (r : Rc) : Bool := (r.kind == 2) || ((r.kind == 3) && r.yes)
theorem full_ok (M : Mem) (L : HL) (r : Rc) : TrQ Tryz.prog 86 [.agg ⟨rcC r⟩] M L (.bool (fullR r)) := by
  refine Tr.intro 15 Tryz.func86 rfl rfl Tryz.call86 rfl ?_
  intro C hC hro
  repeat (first | with_reducible (first | refine zS ?_ | refine zR ?_ | refine zN ?_ | refine zK ?_ | refine zB ?_ | refine zI ?_) | refine zE rfl ?_ | refine wq ?_ | refine wg ?_ | refine ws ?_ | refine wb fun _ => ?_ | refine wa fun _ => ?_ | refine wl fun _ => ?_)
  exact run_ret hC (rs := [.tmp 2]) rfl (resT rfl resN) (fun _ h => h.drop) ⟨rfl, rfl, rfl⟩
def isT (t : ByteArray) : Bool := checkR t == 0
theorem isTerm_ok (M : Mem) (L : HL) (t : ByteArray) (ht : t.size < 4611686018427387904) : TrQ Tryz.prog 91 [.string t] M L (.bool (isT t)) := by
  refine Tr.intro 6 Tryz.func91 rfl rfl Tryz.call91 rfl ?_
  intro C hC hro
  repeat (first | with_reducible (first | refine zS ?_ | refine zR ?_ | refine zN ?_ | refine zK ?_ | refine zB ?_ | refine zI ?_) | refine zE rfl ?_ | refine wq ?_ | refine wg ?_ | refine ws ?_ | refine wb fun _ => ?_ | refine wa fun _ => ?_ | refine wl fun _ => ?_ | refine runL_q (qt_callF rfl (fun _ => check_ok _ _ t ht)) rfl rfl rfl ?_)
  exact run_ret hC (rs := [.tmp 2]) rfl (resT rfl resN) (fun _ h => h) ⟨rfl, rfl, rfl⟩
theorem check1_ok (M : Mem) (L : HL) (t : ByteArray) (ht : t.size < 4611686018427387904) : TrQ Tryz.prog 90 [.string t] M L (.bool (!isT t)) := by
  refine Tr.intro 6 Tryz.func90 rfl rfl Tryz.call90 rfl ?_
  intro C hC hro
  repeat (first | with_reducible (first | refine zS ?_ | refine zR ?_ | refine zN ?_ | refine zK ?_ | refine zB ?_ | refine zI ?_) | refine zE rfl ?_ | refine wq ?_ | refine wg ?_ | refine ws ?_ | refine wb fun _ => ?_ | refine wa fun _ => ?_ | refine wl fun _ => ?_ | refine runL_q (qt_callF rfl (fun _ => isTerm_ok _ _ t ht)) rfl rfl rfl ?_)
  exact run_ret hC (rs := [.tmp 2]) rfl (resT rfl resN) (fun _ h => h) ⟨rfl, rfl, rfl⟩
set_option maxHeartbeats 4000000 in
theorem indexF_ok (M : Mem) (L : HL) (s : SStr) (hs : StOk M s) (f : Nat) (p : ByteArray → Bool) (hf : ∀ m ∈ s.xs, TrQ Tryz.prog f [.string m] M L (.bool (p m))) :
    Tr Tryz.prog 119 [s.v, fv f] M L (fun v M' L' => ∃ n : Int, v = .int .i64 n ∧ decide (n ≥ 0) = s.xs.any p ∧ M' = M ∧ L' = L) := by
  have hx1 := hs.len
  have hlt6 := hs.2
  refine Tr.intro 19 Tryz.func119 rfl rfl Tryz.call119 rfl ?_
  intro C hC hro
  repeat (first | with_reducible (first | refine zS ?_ | refine zR ?_ | refine zN ?_ | refine zK ?_ | refine zB ?_ | refine zI ?_) | refine zE rfl ?_ | refine wq ?_ | refine wg ?_ | refine ws ?_ | refine wb fun _ => ?_ | refine wa fun _ => ?_ | refine wl fun _ => ?_)
  refine run_loopN (fun j σ1 M1 L1 => j ≤ s.len ∧ M = M1 ∧ L = L1 ∧ ((s.xs.take j).any p) = false ∧ σ1 = [(8, .int .i64 (j : Int)), (7, .int .i64 (s.len : Int)), (0, s.v), (1, fv f)]) s.len [(8, .int .i64 ((0 : Nat) : Int)), (7, .int .i64 (s.len : Int)), (0, s.v), (1, fv f)] ?_ ⟨Nat.zero_le _, rfl, rfl, by simp, rfl⟩ (fun j _ _ _ h => h.1) ?_
  · exact ⟨rfl, rfl, rfl, rfl, trivial⟩
  rintro j _ _ _ ⟨hj, rfl, rfl, hpre, rfl⟩ hnext
  repeat (first | with_reducible (first | refine zS ?_ | refine zR ?_ | refine zN ?_ | refine zK ?_ | refine zB ?_ | refine zI ?_) | refine zE rfl ?_ | refine wq ?_ | refine wg ?_ | refine ws ?_ | refine wb fun _ => ?_ | refine wa fun _ => ?_ | refine wl fun _ => ?_)
  refine run_cond rfl (fun h => ?_) (fun h => ?_)
  · have hlt : j < s.len := by simpa using h
    obtain ⟨b, off, m, hma, hm, hc⟩ := SStr.at_ hs.1 hlt
    have hv : s.v = .slice (some ⟨b, off, none⟩) s.len s.cap := by rw [← hma]; rfl
    refine run_as 0 (.slice (some ⟨b, off, none⟩) s.len s.cap) rfl hv ?_
    repeat (first | with_reducible (first | refine zS ?_ | refine zR ?_ | refine zN ?_ | refine zK ?_ | refine zB ?_ | refine zI ?_) | refine zE rfl ?_ | refine wq ?_ | refine wg ?_ | refine ws ?_ | refine wb fun _ => ?_ | refine wa fun _ => ?_ | refine wl fun _ => ?_ | refine runL_q (qt_indexN tok rfl rfl rfl rfl (fun _ => by omega)) rfl rfl rfl ?_ | refine runL_g rfl rfl (qt_indexN tok rfl rfl rfl rfl (fun _ => by omega)) rfl rfl rfl rfl rfl ?_ | refine runL_q (qt_ldM tok rfl hc rfl) rfl rfl rfl ?_ | refine runL_g rfl rfl (qt_ldM tok rfl hc rfl) rfl rfl rfl rfl rfl ?_ | refine runL_q (qt_ldM0 tok rfl hc rfl) rfl rfl rfl ?_ | refine runL_g rfl rfl (qt_ldM0 tok rfl hc rfl) rfl rfl rfl rfl rfl ?_)
    refine runL_q (st_callV rfl rfl (fun _ => hf m (List.mem_of_getElem? hm))) rfl rfl rfl ?_
    repeat (first | with_reducible (first | refine zS ?_ | refine zR ?_ | refine zN ?_ | refine zK ?_ | refine zB ?_ | refine zI ?_) | refine zE rfl ?_ | refine wq ?_ | refine wg ?_ | refine ws ?_ | refine wb fun _ => ?_ | refine wa fun _ => ?_ | refine wl fun _ => ?_)
    refine run_cond rfl (fun h => ?_) (fun h => ?_)
    · repeat (first | with_reducible (first | refine zS ?_ | refine zR ?_ | refine zN ?_ | refine zK ?_ | refine zB ?_ | refine zI ?_) | refine zE rfl ?_ | refine wq ?_ | refine wg ?_ | refine ws ?_ | refine wb fun _ => ?_ | refine wa fun _ => ?_ | refine wl fun _ => ?_)
      exact run_ret hC (rs := [.tmp 4]) rfl (resT rfl resN) (fun _ h => h) ⟨j, rfl, by rw [any_true p hm h]; simp, rfl, rfl⟩
    · repeat (first | with_reducible (first | refine zS ?_ | refine zR ?_ | refine zN ?_ | refine zK ?_ | refine zB ?_ | refine zI ?_) | refine zE rfl ?_ | refine wq ?_ | refine wg ?_ | refine ws ?_ | refine wb fun _ => ?_ | refine wa fun _ => ?_ | refine wl fun _ => ?_)
      exact run_sub' (hnext _ _ _ ⟨hlt, rfl, rfl, by rw [any_snoc _ hm hpre]; exact h, rfl⟩) ⟨lk_succ rfl (by omega), rfl, by rw [hv]; rfl, rfl, trivial⟩
  · have hge : j = s.len := by simp at h; omega
    rw [hge, List.take_of_length_le (by omega)] at hpre
    repeat (first | with_reducible (first | refine zS ?_ | refine zR ?_ | refine zN ?_ | refine zK ?_ | refine zB ?_ | refine zI ?_) | refine zE rfl ?_ | refine wq ?_ | refine wg ?_ | refine ws ?_ | refine wb fun _ => ?_ | refine wa fun _ => ?_ | refine wl fun _ => ?_)
    exact run_ret hC (rs := [.tmp 4]) rfl (resT rfl resN) (fun _ h => h) ⟨-1, rfl, by rw [hpre]; rfl, rfl, rfl⟩
theorem containsF_ok (M : Mem) (L : HL) (s : SStr) (hs : StOk M s) (f : Nat) (p : ByteArray → Bool) (hf : ∀ m ∈ s.xs, TrQ Tryz.prog f [.string m] M L (.bool (p m))) :
    TrQ Tryz.prog 89 [s.v, fv f] M L (.bool (s.xs.any p)) := by
  refine Tr.intro 9 Tryz.func89 rfl rfl Tryz.call89 rfl ?_
  intro C hC hro
  repeat (first | with_reducible (first | refine zS ?_ | refine zR ?_ | refine zN ?_ | refine zK ?_ | refine zB ?_ | refine zI ?_) | refine zE rfl ?_ | refine wq ?_ | refine wg ?_ | refine ws ?_ | refine wb fun _ => ?_ | refine wa fun _ => ?_ | refine wl fun _ => ?_ | (refine runL_op (st_callF rfl (fun _ => indexF_ok _ _ s hs f p hf)) rfl rfl rfl ?_; rintro _ _ _ ⟨n, rfl, hn, rfl, rfl⟩))
  exact run_ret hC (rs := [.tmp 4]) rfl (resT rfl resN) (fun _ h => h) ⟨by rw [← hn]; rfl, rfl, rfl⟩

end Go.Proofs.YtkjljcgbnikmkaaGreatDoor
namespace Go.Proofs.YtkjljcgbnikmkaaGreatDoor
open Go.Chi
set_option maxRecDepth 10000

theorem mbEq_eq (m n : Mb) : (m.org == n.org && ((m.digest.toList == n.digest.toList) && true)) = decide (m = n) := by
  rw [bytes_beq, Bool.eq_iff_iff, decide_eq_true_eq, ← Mb.ext_iff']
  simp
set_option maxHeartbeats 4000000 in
theorem equal_ok (M : Mem) (L : HL) (s u : SMb) (hs : MbOk M s) (hu : MbOk M u) : TrQ Tryz.prog 115 [s.v, u.v] M L (.bool (decide (s.xs = u.xs))) := by
  have hx1 : s.xs.length = s.len := by have := hs.1.1; simpa using this
  have hy1 : u.xs.length = u.len := by have := hu.1.1; simpa using this
  have hlt6 := hs.2
  refine Tr.intro 26 Tryz.func115 rfl rfl Tryz.call115 rfl ?_
  intro C hC hro
  repeat (first | with_reducible (first | refine zS ?_ | refine zR ?_ | refine zN ?_ | refine zK ?_ | refine zB ?_ | refine zI ?_) | refine zE rfl ?_ | refine wq ?_ | refine wg ?_ | refine ws ?_ | refine wb fun _ => ?_ | refine wa fun _ => ?_ | refine wl fun _ => ?_)
  refine run_cond rfl (fun h => ?_) (fun h => ?_)
  · repeat (first | with_reducible (first | refine zS ?_ | refine zR ?_ | refine zN ?_ | refine zK ?_ | refine zB ?_ | refine zI ?_) | refine zE rfl ?_ | refine wq ?_ | refine wg ?_ | refine ws ?_ | refine wb fun _ => ?_ | refine wa fun _ => ?_ | refine wl fun _ => ?_)
    refine run_ret hC (rs := [.tmp 4]) rfl (resT rfl resN) (fun _ h => h) ⟨?_, rfl, rfl⟩
    rw [decide_eq_false (fun e => by
      have : s.len = u.len := by rw [← hx1, ← hy1, e]
      simp [this] at h)]
    rfl
  have hll : s.len = u.len := by simp at h; omega
  repeat (first | with_reducible (first | refine zS ?_ | refine zR ?_ | refine zN ?_ | refine zK ?_ | refine zB ?_ | refine zI ?_) | refine zE rfl ?_ | refine wq ?_ | refine wg ?_ | refine ws ?_ | refine wb fun _ => ?_ | refine wa fun _ => ?_ | refine wl fun _ => ?_)
  refine run_loopN (fun j σ1 M1 L1 => j ≤ s.len ∧ M = M1 ∧ L = L1 ∧ s.xs.take j = u.xs.take j ∧ σ1 = [(13, .int .i64 (j : Int)), (12, .int .i64 (s.len : Int)), (0, s.v), (1, u.v)]) s.len [(13, .int .i64 ((0 : Nat) : Int)), (12, .int .i64 (s.len : Int)), (0, s.v), (1, u.v)] ?_ ⟨Nat.zero_le _, rfl, rfl, by simp, rfl⟩ (fun j _ _ _ h => h.1) ?_
  · exact ⟨rfl, rfl, rfl, rfl, trivial⟩
  rintro j _ _ _ ⟨hj, rfl, rfl, hpre, rfl⟩ hnext
  repeat (first | with_reducible (first | refine zS ?_ | refine zR ?_ | refine zN ?_ | refine zK ?_ | refine zB ?_ | refine zI ?_) | refine zE rfl ?_ | refine wq ?_ | refine wg ?_ | refine ws ?_ | refine wb fun _ => ?_ | refine wa fun _ => ?_ | refine wl fun _ => ?_)
  refine run_cond rfl (fun h => ?_) (fun h => ?_)
  · have hlt : j < s.len := by simpa using h
    have hlt2 : j < u.len := by omega
    obtain ⟨b, off, m, ha, hm, hc⟩ := SMb.at_ hs.1 hlt
    obtain ⟨b2, off2, m2, ha2, hm2, hc2⟩ := SMb.at_ hu.1 hlt2
    have hv : s.v = .slice (some ⟨b, off, none⟩) s.len s.cap := by rw [← ha]; rfl
    have hv2 : u.v = .slice (some ⟨b2, off2, none⟩) u.len u.cap := by rw [← ha2]; rfl
    refine run_as 0 (.slice (some ⟨b, off, none⟩) s.len s.cap) rfl hv ?_
    refine run_as 1 (.slice (some ⟨b2, off2, none⟩) u.len u.cap) rfl hv2 ?_
    repeat (first | with_reducible (first | refine zS ?_ | refine zR ?_ | refine zN ?_ | refine zK ?_ | refine zB ?_ | refine zI ?_) | refine zE rfl ?_ | refine wq ?_ | refine wg ?_ | refine ws ?_ | refine wb fun _ => ?_ | refine wa fun _ => ?_ | refine wl fun _ => ?_ | refine prn_start mixed ?_ | refine prn_end (by decide +kernel) ?_ | refine dq ?_ | refine dg ?_ | (refine prn_e0 rfl (sst tok rfl rfl rfl rfl rfl) (by decide +kernel) ?_; rintro _ _ _ ⟨rfl, rfl, rfl⟩) | ((first | refine pe rfl (st_box rfl) ?_ | refine pe rfl (st_alloc tok rfl) ?_ | refine pe rfl (st_buildSlice tok rfl rfl rfl rfl rfl rfl rfl) ?_); rintro _ _ _ ⟨_, rfl, rfl, rfl⟩) | (refine prn_o0 rfl (sst tok rfl rfl rfl rfl rfl) (by decide +kernel) ?_; rintro _ _ _ ⟨rfl, rfl, rfl⟩; refine ⟨by (repeat (first | exact trivial | refine And.intro (pend_q rfl rfl rfl (qt_pev tok rfl)) ?_ | refine And.intro (pend_q rfl rfl rfl (ql tok rfl)) ?_)), ?_⟩) | ((first | refine po rfl (st_box rfl) ?_ | refine po rfl (st_alloc tok rfl) ?_ | refine po rfl (st_buildSlice tok rfl rfl rfl rfl rfl rfl rfl) ?_); rintro _ _ _ ⟨_, rfl, rfl, rfl⟩; refine ⟨by (repeat (first | exact trivial | refine And.intro (pend_q rfl rfl rfl (qt_pev tok rfl)) ?_ | refine And.intro (pend_q rfl rfl rfl (ql tok rfl)) ?_)), ?_⟩) | (refine pe rfl (qt_pev tok rfl) ?_; rintro _ _ _ ⟨rfl, rfl, rfl⟩) | refine prn_q rfl (qt_indexN tok rfl rfl rfl rfl (fun _ => by omega)) (by decide +kernel) rfl rfl rfl ?_ | refine prn_g rfl rfl rfl (qt_indexN tok rfl rfl rfl rfl (fun _ => by omega)) (by decide +kernel) rfl rfl rfl rfl rfl ?_ | refine prn_q rfl (qt_ldM tok rfl hc rfl) (by decide +kernel) rfl rfl rfl ?_ | refine prn_g rfl rfl rfl (qt_ldM tok rfl hc rfl) (by decide +kernel) rfl rfl rfl rfl rfl ?_ | refine prn_q rfl (qt_ldM0 tok rfl hc rfl) (by decide +kernel) rfl rfl rfl ?_ | refine prn_g rfl rfl rfl (qt_ldM0 tok rfl hc rfl) (by decide +kernel) rfl rfl rfl rfl rfl ?_ | refine prn_q rfl (qt_ldM tok rfl hc2 rfl) (by decide +kernel) rfl rfl rfl ?_ | refine prn_g rfl rfl rfl (qt_ldM tok rfl hc2 rfl) (by decide +kernel) rfl rfl rfl rfl rfl ?_ | refine prn_q rfl (qt_ldM0 tok rfl hc2 rfl) (by decide +kernel) rfl rfl rfl ?_ | refine prn_g rfl rfl rfl (qt_ldM0 tok rfl hc2 rfl) (by decide +kernel) rfl rfl rfl rfl rfl ?_)
    refine run_cond rfl (fun h => ?_) (fun h => ?_)
    · repeat (first | with_reducible (first | refine zS ?_ | refine zR ?_ | refine zN ?_ | refine zK ?_ | refine zB ?_ | refine zI ?_) | refine zE rfl ?_ | refine wq ?_ | refine wg ?_ | refine ws ?_ | refine wb fun _ => ?_ | refine wa fun _ => ?_ | refine wl fun _ => ?_)
      refine run_ret hC (rs := [.tmp 4]) rfl (resT rfl resN) (fun _ h => h) ⟨?_, rfl, rfl⟩
      rw [mbEq_eq] at h
      rw [decide_eq_false (fun e => by
        rw [e, hm2] at hm
        have := Option.some.inj hm
        simp [this] at h)]
      rfl
    · rw [mbEq_eq] at h
      have hmm : m = m2 := by simpa using h
      repeat (first | with_reducible (first | refine zS ?_ | refine zR ?_ | refine zN ?_ | refine zK ?_ | refine zB ?_ | refine zI ?_) | refine zE rfl ?_ | refine wq ?_ | refine wg ?_ | refine ws ?_ | refine wb fun _ => ?_ | refine wa fun _ => ?_ | refine wl fun _ => ?_)
      exact run_sub' (hnext _ _ _ ⟨hlt, rfl, rfl, by rw [take_snoc hm, take_snoc hm2, hpre, hmm], rfl⟩) ⟨lk_succ rfl (by omega), rfl, by rw [hv]; rfl, by rw [hv2]; rfl, trivial⟩
  · have hge : j = s.len := by simp at h; omega
    rw [hge, List.take_of_length_le (by omega), List.take_of_length_le (by omega)] at hpre
    repeat (first | with_reducible (first | refine zS ?_ | refine zR ?_ | refine zN ?_ | refine zK ?_ | refine zB ?_ | refine zI ?_) | refine zE rfl ?_ | refine wq ?_ | refine wg ?_ | refine ws ?_ | refine wb fun _ => ?_ | refine wa fun _ => ?_ | refine wl fun _ => ?_)
    refine run_ret hC (rs := [.tmp 4]) rfl (resT rfl resN) (fun _ h => h) ⟨?_, rfl, rfl⟩
    rw [decide_eq_true hpre]; rfl

theorem stEq_eq (m n : ByteArray) : (m.toList == n.toList) = decide (m = n) := bytes_beq m n
set_option maxHeartbeats 4000000 in
theorem equalS_ok (M : Mem) (L : HL) (s u : SStr) (hs : StOk M s) (hu : StOk M u) : TrQ Tryz.prog 116 [s.v, u.v] M L (.bool (decide (s.xs = u.xs))) := by
  have hx1 : s.xs.length = s.len := by have := hs.1.1; simpa using this
  have hy1 : u.xs.length = u.len := by have := hu.1.1; simpa using this
  have hlt6 := hs.2
  refine Tr.intro 26 Tryz.func116 rfl rfl Tryz.call116 rfl ?_
  intro C hC hro
  repeat (first | with_reducible (first | refine zS ?_ | refine zR ?_ | refine zN ?_ | refine zK ?_ | refine zB ?_ | refine zI ?_) | refine zE rfl ?_ | refine wq ?_ | refine wg ?_ | refine ws ?_ | refine wb fun _ => ?_ | refine wa fun _ => ?_ | refine wl fun _ => ?_)
  refine run_cond rfl (fun h => ?_) (fun h => ?_)
  · repeat (first | with_reducible (first | refine zS ?_ | refine zR ?_ | refine zN ?_ | refine zK ?_ | refine zB ?_ | refine zI ?_) | refine zE rfl ?_ | refine wq ?_ | refine wg ?_ | refine ws ?_ | refine wb fun _ => ?_ | refine wa fun _ => ?_ | refine wl fun _ => ?_)
    refine run_ret hC (rs := [.tmp 4]) rfl (resT rfl resN) (fun _ h => h) ⟨?_, rfl, rfl⟩
    rw [decide_eq_false (fun e => by
      have : s.len = u.len := by rw [← hx1, ← hy1, e]
      simp [this] at h)]
    rfl
  have hll : s.len = u.len := by simp at h; omega
  repeat (first | with_reducible (first | refine zS ?_ | refine zR ?_ | refine zN ?_ | refine zK ?_ | refine zB ?_ | refine zI ?_) | refine zE rfl ?_ | refine wq ?_ | refine wg ?_ | refine ws ?_ | refine wb fun _ => ?_ | refine wa fun _ => ?_ | refine wl fun _ => ?_)
  refine run_loopN (fun j σ1 M1 L1 => j ≤ s.len ∧ M = M1 ∧ L = L1 ∧ s.xs.take j = u.xs.take j ∧ σ1 = [(13, .int .i64 (j : Int)), (12, .int .i64 (s.len : Int)), (0, s.v), (1, u.v)]) s.len [(13, .int .i64 ((0 : Nat) : Int)), (12, .int .i64 (s.len : Int)), (0, s.v), (1, u.v)] ?_ ⟨Nat.zero_le _, rfl, rfl, by simp, rfl⟩ (fun j _ _ _ h => h.1) ?_
  · exact ⟨rfl, rfl, rfl, rfl, trivial⟩
  rintro j _ _ _ ⟨hj, rfl, rfl, hpre, rfl⟩ hnext
  repeat (first | with_reducible (first | refine zS ?_ | refine zR ?_ | refine zN ?_ | refine zK ?_ | refine zB ?_ | refine zI ?_) | refine zE rfl ?_ | refine wq ?_ | refine wg ?_ | refine ws ?_ | refine wb fun _ => ?_ | refine wa fun _ => ?_ | refine wl fun _ => ?_)
  refine run_cond rfl (fun h => ?_) (fun h => ?_)
  · have hlt : j < s.len := by simpa using h
    have hlt2 : j < u.len := by omega
    obtain ⟨b, off, m, ha, hm, hc⟩ := SStr.at_ hs.1 hlt
    obtain ⟨b2, off2, m2, ha2, hm2, hc2⟩ := SStr.at_ hu.1 hlt2
    have hv : s.v = .slice (some ⟨b, off, none⟩) s.len s.cap := by rw [← ha]; rfl
    have hv2 : u.v = .slice (some ⟨b2, off2, none⟩) u.len u.cap := by rw [← ha2]; rfl
    refine run_as 0 (.slice (some ⟨b, off, none⟩) s.len s.cap) rfl hv ?_
    refine run_as 1 (.slice (some ⟨b2, off2, none⟩) u.len u.cap) rfl hv2 ?_
    repeat (first | with_reducible (first | refine zS ?_ | refine zR ?_ | refine zN ?_ | refine zK ?_ | refine zB ?_ | refine zI ?_) | refine zE rfl ?_ | refine wq ?_ | refine wg ?_ | refine ws ?_ | refine wb fun _ => ?_ | refine wa fun _ => ?_ | refine wl fun _ => ?_ | refine prn_start mixed ?_ | refine prn_end (by decide +kernel) ?_ | refine dq ?_ | refine dg ?_ | (refine prn_e0 rfl (sst tok rfl rfl rfl rfl rfl) (by decide +kernel) ?_; rintro _ _ _ ⟨rfl, rfl, rfl⟩) | ((first | refine pe rfl (st_box rfl) ?_ | refine pe rfl (st_alloc tok rfl) ?_ | refine pe rfl (st_buildSlice tok rfl rfl rfl rfl rfl rfl rfl) ?_); rintro _ _ _ ⟨_, rfl, rfl, rfl⟩) | (refine prn_o0 rfl (sst tok rfl rfl rfl rfl rfl) (by decide +kernel) ?_; rintro _ _ _ ⟨rfl, rfl, rfl⟩; refine ⟨by (repeat (first | exact trivial | refine And.intro (pend_q rfl rfl rfl (qt_pev tok rfl)) ?_ | refine And.intro (pend_q rfl rfl rfl (ql tok rfl)) ?_)), ?_⟩) | ((first | refine po rfl (st_box rfl) ?_ | refine po rfl (st_alloc tok rfl) ?_ | refine po rfl (st_buildSlice tok rfl rfl rfl rfl rfl rfl rfl) ?_); rintro _ _ _ ⟨_, rfl, rfl, rfl⟩; refine ⟨by (repeat (first | exact trivial | refine And.intro (pend_q rfl rfl rfl (qt_pev tok rfl)) ?_ | refine And.intro (pend_q rfl rfl rfl (ql tok rfl)) ?_)), ?_⟩) | (refine pe rfl (qt_pev tok rfl) ?_; rintro _ _ _ ⟨rfl, rfl, rfl⟩) | refine prn_q rfl (qt_indexN tok rfl rfl rfl rfl (fun _ => by omega)) (by decide +kernel) rfl rfl rfl ?_ | refine prn_g rfl rfl rfl (qt_indexN tok rfl rfl rfl rfl (fun _ => by omega)) (by decide +kernel) rfl rfl rfl rfl rfl ?_ | refine prn_q rfl (qt_ldM tok rfl hc rfl) (by decide +kernel) rfl rfl rfl ?_ | refine prn_g rfl rfl rfl (qt_ldM tok rfl hc rfl) (by decide +kernel) rfl rfl rfl rfl rfl ?_ | refine prn_q rfl (qt_ldM0 tok rfl hc rfl) (by decide +kernel) rfl rfl rfl ?_ | refine prn_g rfl rfl rfl (qt_ldM0 tok rfl hc rfl) (by decide +kernel) rfl rfl rfl rfl rfl ?_ | refine prn_q rfl (qt_ldM tok rfl hc2 rfl) (by decide +kernel) rfl rfl rfl ?_ | refine prn_g rfl rfl rfl (qt_ldM tok rfl hc2 rfl) (by decide +kernel) rfl rfl rfl rfl rfl ?_ | refine prn_q rfl (qt_ldM0 tok rfl hc2 rfl) (by decide +kernel) rfl rfl rfl ?_ | refine prn_g rfl rfl rfl (qt_ldM0 tok rfl hc2 rfl) (by decide +kernel) rfl rfl rfl rfl rfl ?_)
    refine run_cond rfl (fun h => ?_) (fun h => ?_)
    · repeat (first | with_reducible (first | refine zS ?_ | refine zR ?_ | refine zN ?_ | refine zK ?_ | refine zB ?_ | refine zI ?_) | refine zE rfl ?_ | refine wq ?_ | refine wg ?_ | refine ws ?_ | refine wb fun _ => ?_ | refine wa fun _ => ?_ | refine wl fun _ => ?_)
      refine run_ret hC (rs := [.tmp 4]) rfl (resT rfl resN) (fun _ h => h) ⟨?_, rfl, rfl⟩
      rw [stEq_eq] at h
      rw [decide_eq_false (fun e => by
        rw [e, hm2] at hm
        have := Option.some.inj hm
        simp [this] at h)]
      rfl
    · rw [stEq_eq] at h
      have hmm : m = m2 := by simpa using h
      repeat (first | with_reducible (first | refine zS ?_ | refine zR ?_ | refine zN ?_ | refine zK ?_ | refine zB ?_ | refine zI ?_) | refine zE rfl ?_ | refine wq ?_ | refine wg ?_ | refine ws ?_ | refine wb fun _ => ?_ | refine wa fun _ => ?_ | refine wl fun _ => ?_)
      exact run_sub' (hnext _ _ _ ⟨hlt, rfl, rfl, by rw [take_snoc hm, take_snoc hm2, hpre, hmm], rfl⟩) ⟨lk_succ rfl (by omega), rfl, by rw [hv]; rfl, by rw [hv2]; rfl, trivial⟩
  · have hge : j = s.len := by simp at h; omega
    rw [hge, List.take_of_length_le (by omega), List.take_of_length_le (by omega)] at hpre
    repeat (first | with_reducible (first | refine zS ?_ | refine zR ?_ | refine zN ?_ | refine zK ?_ | refine zB ?_ | refine zI ?_) | refine zE rfl ?_ | refine wq ?_ | refine wg ?_ | refine ws ?_ | refine wb fun _ => ?_ | refine wa fun _ => ?_ | refine wl fun _ => ?_)
    refine run_ret hC (rs := [.tmp 4]) rfl (resT rfl resN) (fun _ h => h) ⟨?_, rfl, rfl⟩
    rw [decide_eq_true hpre]; rfl


/-! ### records -/
def txEq (a b : Tx) : Bool := a.coord == b.coord && (a.epoch == b.epoch && ((a.seq == b.seq) && true))
theorem txEq_eq (a b : Tx) : txEq a b = decide (a = b) := by
  rw [Bool.eq_iff_iff, decide_eq_true_eq, ← Tx.ext_iff']
  simp [txEq]
def sameRc (a b : Rc) : Bool := ((((((((a.kind == b.kind) && (a.epoch == b.epoch)) && txEq a.txn b.txn) && (a.yes == b.yes)) && (a.auditor == b.auditor)) && decide (a.mem.xs = b.mem.xs)) && decide (a.tags.xs = b.tags.xs)) && (a.body.toList == b.body.toList))
set_option maxHeartbeats 4000000 in
theorem same_ok (M : Mem) (L : HL) (a b : Rc) (ha : MbOk M a.mem) (hb : MbOk M b.mem) (ha2 : StOk M a.tags) (hb2 : StOk M b.tags) : TrQ Tryz.prog 83 [.agg ⟨rcC a⟩, .agg ⟨rcC b⟩] M L (.bool (sameRc a b)) := by
  refine Tr.intro 59 Tryz.func83 rfl rfl Tryz.call83 rfl ?_
  intro C hC hro
  repeat (first | with_reducible (first | refine zS ?_ | refine zR ?_ | refine zN ?_ | refine zK ?_ | refine zB ?_ | refine zI ?_) | refine zE rfl ?_ | refine wq ?_ | refine wg ?_ | refine ws ?_ | refine wb fun _ => ?_ | refine wa fun _ => ?_ | refine wl fun _ => ?_ | refine runL_g rfl rfl (qt_callF rfl (fun _ => equal_ok _ _ a.mem b.mem ha hb)) rfl rfl rfl rfl rfl ?_ | refine runL_g rfl rfl (qt_callF rfl (fun _ => equalS_ok _ _ a.tags b.tags ha2 hb2)) rfl rfl rfl rfl rfl ?_)
  exact run_ret hC (rs := [.tmp 4]) rfl (resT rfl resN) (fun _ h => h.drop.drop) ⟨rfl, rfl, rfl⟩
def nilM : SMb := ⟨none, 0, 0, []⟩
def nilS : SStr := ⟨none, 0, 0, []⟩
def bareR (r : Rc) : Rc :=
  if r.kind = 1 then ⟨r.kind, r.epoch, ⟨0, 0, 0⟩, false, 0, nilM, nilS, ⟨#[]⟩⟩ else
  ⟨r.kind, 0, r.txn, r.yes, if fullR r = true then r.auditor else 0, if fullR r = true then r.mem else nilM, if r.kind = 3 ∧ r.yes = true then r.tags else nilS, if r.kind = 2 then r.body else ⟨#[]⟩⟩
set_option maxHeartbeats 8000000 in
theorem bare_ok (M : Mem) (L : HL) (r : Rc) : TrQ Tryz.prog 84 [.agg ⟨rcC r⟩] M L (.agg ⟨rcC (bareR r)⟩) := by
  refine Tr.intro 42 Tryz.func84 rfl rfl Tryz.call84 rfl ?_
  intro C hC hro
  repeat (first | with_reducible (first | refine zS ?_ | refine zR ?_ | refine zN ?_ | refine zK ?_ | refine zB ?_ | refine zI ?_) | refine zE rfl ?_ | refine wq ?_ | refine wg ?_ | refine ws ?_ | refine wb fun _ => ?_ | refine wa fun _ => ?_ | refine wl fun _ => ?_)
  refine run_cond rfl (fun h => ?_) (fun h => ?_)
  · have h1 : r.kind = 1 := by simpa using h
    repeat (first | with_reducible (first | refine zS ?_ | refine zR ?_ | refine zN ?_ | refine zK ?_ | refine zB ?_ | refine zI ?_) | refine zE rfl ?_ | refine wq ?_ | refine wg ?_ | refine ws ?_ | refine wb fun _ => ?_ | refine wa fun _ => ?_ | refine wl fun _ => ?_)
    refine run_ret hC (rs := [.cell 2 35]) rfl (rl tok rfl resN) (fun _ h => h.drop.drop.drop) ⟨?_, rfl, rfl⟩
    rw [bareR, if_pos h1]; rfl
  have h1 : ¬ r.kind = 1 := by simpa using h
  repeat (first | with_reducible (first | refine zS ?_ | refine zR ?_ | refine zN ?_ | refine zK ?_ | refine zB ?_ | refine zI ?_) | refine zE rfl ?_ | refine wq ?_ | refine wg ?_ | refine ws ?_ | refine wb fun _ => ?_ | refine wa fun _ => ?_ | refine wl fun _ => ?_)
  refine run_cond rfl (fun h => ?_) (fun h => ?_)
  · have h2 : r.kind = 2 := by simpa using h
    have hf : fullR r = true := by rw [fullR, h2]; rfl
    have h3 : ¬ (r.kind = 3 ∧ r.yes = true) := by rw [h2]; simp
    repeat (first | with_reducible (first | refine zS ?_ | refine zR ?_ | refine zN ?_ | refine zK ?_ | refine zB ?_ | refine zI ?_) | refine zE rfl ?_ | refine wq ?_ | refine wg ?_ | refine ws ?_ | refine wb fun _ => ?_ | refine wa fun _ => ?_ | refine wl fun _ => ?_ | refine prn_start mixed ?_ | refine prn_end (by decide +kernel) ?_ | refine dq ?_ | refine dg ?_ | (refine prn_e0 rfl (sst tok rfl rfl rfl rfl rfl) (by decide +kernel) ?_; rintro _ _ _ ⟨rfl, rfl, rfl⟩) | ((first | refine pe rfl (st_box rfl) ?_ | refine pe rfl (st_alloc tok rfl) ?_ | refine pe rfl (st_buildSlice tok rfl rfl rfl rfl rfl rfl rfl) ?_); rintro _ _ _ ⟨_, rfl, rfl, rfl⟩) | (refine prn_o0 rfl (sst tok rfl rfl rfl rfl rfl) (by decide +kernel) ?_; rintro _ _ _ ⟨rfl, rfl, rfl⟩; refine ⟨by (repeat (first | exact trivial | refine And.intro (pend_q rfl rfl rfl (qt_pev tok rfl)) ?_ | refine And.intro (pend_q rfl rfl rfl (ql tok rfl)) ?_)), ?_⟩) | ((first | refine po rfl (st_box rfl) ?_ | refine po rfl (st_alloc tok rfl) ?_ | refine po rfl (st_buildSlice tok rfl rfl rfl rfl rfl rfl rfl) ?_); rintro _ _ _ ⟨_, rfl, rfl, rfl⟩; refine ⟨by (repeat (first | exact trivial | refine And.intro (pend_q rfl rfl rfl (qt_pev tok rfl)) ?_ | refine And.intro (pend_q rfl rfl rfl (ql tok rfl)) ?_)), ?_⟩) | (refine pe rfl (qt_pev tok rfl) ?_; rintro _ _ _ ⟨rfl, rfl, rfl⟩) | refine runL_q (qt_callF rfl (fun _ => full_ok _ _ r)) rfl rfl rfl ?_)
    refine run_cond rfl (fun _ => ?_) (fun h => by rw [hf] at h; cases h)
    repeat (first | with_reducible (first | refine zS ?_ | refine zR ?_ | refine zN ?_ | refine zK ?_ | refine zB ?_ | refine zI ?_) | refine zE rfl ?_ | refine wq ?_ | refine wg ?_ | refine ws ?_ | refine wb fun _ => ?_ | refine wa fun _ => ?_ | refine wl fun _ => ?_ | refine prn_start mixed ?_ | refine prn_end (by decide +kernel) ?_ | refine dq ?_ | refine dg ?_ | (refine prn_e0 rfl (sst tok rfl rfl rfl rfl rfl) (by decide +kernel) ?_; rintro _ _ _ ⟨rfl, rfl, rfl⟩) | ((first | refine pe rfl (st_box rfl) ?_ | refine pe rfl (st_alloc tok rfl) ?_ | refine pe rfl (st_buildSlice tok rfl rfl rfl rfl rfl rfl rfl) ?_); rintro _ _ _ ⟨_, rfl, rfl, rfl⟩) | (refine prn_o0 rfl (sst tok rfl rfl rfl rfl rfl) (by decide +kernel) ?_; rintro _ _ _ ⟨rfl, rfl, rfl⟩; refine ⟨by (repeat (first | exact trivial | refine And.intro (pend_q rfl rfl rfl (qt_pev tok rfl)) ?_ | refine And.intro (pend_q rfl rfl rfl (ql tok rfl)) ?_)), ?_⟩) | ((first | refine po rfl (st_box rfl) ?_ | refine po rfl (st_alloc tok rfl) ?_ | refine po rfl (st_buildSlice tok rfl rfl rfl rfl rfl rfl rfl) ?_); rintro _ _ _ ⟨_, rfl, rfl, rfl⟩; refine ⟨by (repeat (first | exact trivial | refine And.intro (pend_q rfl rfl rfl (qt_pev tok rfl)) ?_ | refine And.intro (pend_q rfl rfl rfl (ql tok rfl)) ?_)), ?_⟩) | (refine pe rfl (qt_pev tok rfl) ?_; rintro _ _ _ ⟨rfl, rfl, rfl⟩))
    refine run_ret hC (rs := [.cell 2 35]) rfl (rl tok rfl resN) (fun _ h => h.drop.drop.drop) ⟨?_, rfl, rfl⟩
    rw [bareR, if_neg h1, if_pos hf, if_pos hf, if_neg h3, if_pos h2]; rfl
  have h2 : ¬ r.kind = 2 := by simpa using h
  repeat (first | with_reducible (first | refine zS ?_ | refine zR ?_ | refine zN ?_ | refine zK ?_ | refine zB ?_ | refine zI ?_) | refine zE rfl ?_ | refine wq ?_ | refine wg ?_ | refine ws ?_ | refine wb fun _ => ?_ | refine wa fun _ => ?_ | refine wl fun _ => ?_)
  refine run_cond rfl (fun h => ?_) (fun h => ?_)
  · have h3 : r.kind = 3 := by simpa using h
    repeat (first | with_reducible (first | refine zS ?_ | refine zR ?_ | refine zN ?_ | refine zK ?_ | refine zB ?_ | refine zI ?_) | refine zE rfl ?_ | refine wq ?_ | refine wg ?_ | refine ws ?_ | refine wb fun _ => ?_ | refine wa fun _ => ?_ | refine wl fun _ => ?_)
    refine run_cond rfl (fun hy => ?_) (fun hy => ?_)
    · have hf : fullR r = true := by rw [fullR, h3, hy]; rfl
      repeat (first | with_reducible (first | refine zS ?_ | refine zR ?_ | refine zN ?_ | refine zK ?_ | refine zB ?_ | refine zI ?_) | refine zE rfl ?_ | refine wq ?_ | refine wg ?_ | refine ws ?_ | refine wb fun _ => ?_ | refine wa fun _ => ?_ | refine wl fun _ => ?_ | refine prn_start mixed ?_ | refine prn_end (by decide +kernel) ?_ | refine dq ?_ | refine dg ?_ | (refine prn_e0 rfl (sst tok rfl rfl rfl rfl rfl) (by decide +kernel) ?_; rintro _ _ _ ⟨rfl, rfl, rfl⟩) | ((first | refine pe rfl (st_box rfl) ?_ | refine pe rfl (st_alloc tok rfl) ?_ | refine pe rfl (st_buildSlice tok rfl rfl rfl rfl rfl rfl rfl) ?_); rintro _ _ _ ⟨_, rfl, rfl, rfl⟩) | (refine prn_o0 rfl (sst tok rfl rfl rfl rfl rfl) (by decide +kernel) ?_; rintro _ _ _ ⟨rfl, rfl, rfl⟩; refine ⟨by (repeat (first | exact trivial | refine And.intro (pend_q rfl rfl rfl (qt_pev tok rfl)) ?_ | refine And.intro (pend_q rfl rfl rfl (ql tok rfl)) ?_)), ?_⟩) | ((first | refine po rfl (st_box rfl) ?_ | refine po rfl (st_alloc tok rfl) ?_ | refine po rfl (st_buildSlice tok rfl rfl rfl rfl rfl rfl rfl) ?_); rintro _ _ _ ⟨_, rfl, rfl, rfl⟩; refine ⟨by (repeat (first | exact trivial | refine And.intro (pend_q rfl rfl rfl (qt_pev tok rfl)) ?_ | refine And.intro (pend_q rfl rfl rfl (ql tok rfl)) ?_)), ?_⟩) | (refine pe rfl (qt_pev tok rfl) ?_; rintro _ _ _ ⟨rfl, rfl, rfl⟩) | refine runL_q (qt_callF rfl (fun _ => full_ok _ _ r)) rfl rfl rfl ?_)
      refine run_cond rfl (fun _ => ?_) (fun h => by rw [hf] at h; cases h)
      repeat (first | with_reducible (first | refine zS ?_ | refine zR ?_ | refine zN ?_ | refine zK ?_ | refine zB ?_ | refine zI ?_) | refine zE rfl ?_ | refine wq ?_ | refine wg ?_ | refine ws ?_ | refine wb fun _ => ?_ | refine wa fun _ => ?_ | refine wl fun _ => ?_ | refine prn_start mixed ?_ | refine prn_end (by decide +kernel) ?_ | refine dq ?_ | refine dg ?_ | (refine prn_e0 rfl (sst tok rfl rfl rfl rfl rfl) (by decide +kernel) ?_; rintro _ _ _ ⟨rfl, rfl, rfl⟩) | ((first | refine pe rfl (st_box rfl) ?_ | refine pe rfl (st_alloc tok rfl) ?_ | refine pe rfl (st_buildSlice tok rfl rfl rfl rfl rfl rfl rfl) ?_); rintro _ _ _ ⟨_, rfl, rfl, rfl⟩) | (refine prn_o0 rfl (sst tok rfl rfl rfl rfl rfl) (by decide +kernel) ?_; rintro _ _ _ ⟨rfl, rfl, rfl⟩; refine ⟨by (repeat (first | exact trivial | refine And.intro (pend_q rfl rfl rfl (qt_pev tok rfl)) ?_ | refine And.intro (pend_q rfl rfl rfl (ql tok rfl)) ?_)), ?_⟩) | ((first | refine po rfl (st_box rfl) ?_ | refine po rfl (st_alloc tok rfl) ?_ | refine po rfl (st_buildSlice tok rfl rfl rfl rfl rfl rfl rfl) ?_); rintro _ _ _ ⟨_, rfl, rfl, rfl⟩; refine ⟨by (repeat (first | exact trivial | refine And.intro (pend_q rfl rfl rfl (qt_pev tok rfl)) ?_ | refine And.intro (pend_q rfl rfl rfl (ql tok rfl)) ?_)), ?_⟩) | (refine pe rfl (qt_pev tok rfl) ?_; rintro _ _ _ ⟨rfl, rfl, rfl⟩))
      refine run_ret hC (rs := [.cell 2 35]) rfl (rl tok rfl resN) (fun _ h => h.drop.drop.drop) ⟨?_, rfl, rfl⟩
      rw [bareR, if_neg h1, if_pos hf, if_pos hf, if_pos ⟨h3, hy⟩, if_neg h2]; rfl
    · have hf : fullR r = false := by rw [fullR, h3, hy]; rfl
      repeat (first | with_reducible (first | refine zS ?_ | refine zR ?_ | refine zN ?_ | refine zK ?_ | refine zB ?_ | refine zI ?_) | refine zE rfl ?_ | refine wq ?_ | refine wg ?_ | refine ws ?_ | refine wb fun _ => ?_ | refine wa fun _ => ?_ | refine wl fun _ => ?_ | refine prn_start mixed ?_ | refine prn_end (by decide +kernel) ?_ | refine dq ?_ | refine dg ?_ | (refine prn_e0 rfl (sst tok rfl rfl rfl rfl rfl) (by decide +kernel) ?_; rintro _ _ _ ⟨rfl, rfl, rfl⟩) | ((first | refine pe rfl (st_box rfl) ?_ | refine pe rfl (st_alloc tok rfl) ?_ | refine pe rfl (st_buildSlice tok rfl rfl rfl rfl rfl rfl rfl) ?_); rintro _ _ _ ⟨_, rfl, rfl, rfl⟩) | (refine prn_o0 rfl (sst tok rfl rfl rfl rfl rfl) (by decide +kernel) ?_; rintro _ _ _ ⟨rfl, rfl, rfl⟩; refine ⟨by (repeat (first | exact trivial | refine And.intro (pend_q rfl rfl rfl (qt_pev tok rfl)) ?_ | refine And.intro (pend_q rfl rfl rfl (ql tok rfl)) ?_)), ?_⟩) | ((first | refine po rfl (st_box rfl) ?_ | refine po rfl (st_alloc tok rfl) ?_ | refine po rfl (st_buildSlice tok rfl rfl rfl rfl rfl rfl rfl) ?_); rintro _ _ _ ⟨_, rfl, rfl, rfl⟩; refine ⟨by (repeat (first | exact trivial | refine And.intro (pend_q rfl rfl rfl (qt_pev tok rfl)) ?_ | refine And.intro (pend_q rfl rfl rfl (ql tok rfl)) ?_)), ?_⟩) | (refine pe rfl (qt_pev tok rfl) ?_; rintro _ _ _ ⟨rfl, rfl, rfl⟩) | refine runL_q (qt_callF rfl (fun _ => full_ok _ _ r)) rfl rfl rfl ?_)
      refine run_cond rfl (fun h => by rw [hf] at h; cases h) (fun _ => ?_)
      repeat (first | with_reducible (first | refine zS ?_ | refine zR ?_ | refine zN ?_ | refine zK ?_ | refine zB ?_ | refine zI ?_) | refine zE rfl ?_ | refine wq ?_ | refine wg ?_ | refine ws ?_ | refine wb fun _ => ?_ | refine wa fun _ => ?_ | refine wl fun _ => ?_ | refine prn_start mixed ?_ | refine prn_end (by decide +kernel) ?_ | refine dq ?_ | refine dg ?_ | (refine prn_e0 rfl (sst tok rfl rfl rfl rfl rfl) (by decide +kernel) ?_; rintro _ _ _ ⟨rfl, rfl, rfl⟩) | ((first | refine pe rfl (st_box rfl) ?_ | refine pe rfl (st_alloc tok rfl) ?_ | refine pe rfl (st_buildSlice tok rfl rfl rfl rfl rfl rfl rfl) ?_); rintro _ _ _ ⟨_, rfl, rfl, rfl⟩) | (refine prn_o0 rfl (sst tok rfl rfl rfl rfl rfl) (by decide +kernel) ?_; rintro _ _ _ ⟨rfl, rfl, rfl⟩; refine ⟨by (repeat (first | exact trivial | refine And.intro (pend_q rfl rfl rfl (qt_pev tok rfl)) ?_ | refine And.intro (pend_q rfl rfl rfl (ql tok rfl)) ?_)), ?_⟩) | ((first | refine po rfl (st_box rfl) ?_ | refine po rfl (st_alloc tok rfl) ?_ | refine po rfl (st_buildSlice tok rfl rfl rfl rfl rfl rfl rfl) ?_); rintro _ _ _ ⟨_, rfl, rfl, rfl⟩; refine ⟨by (repeat (first | exact trivial | refine And.intro (pend_q rfl rfl rfl (qt_pev tok rfl)) ?_ | refine And.intro (pend_q rfl rfl rfl (ql tok rfl)) ?_)), ?_⟩) | (refine pe rfl (qt_pev tok rfl) ?_; rintro _ _ _ ⟨rfl, rfl, rfl⟩))
      refine run_ret hC (rs := [.cell 2 35]) rfl (rl tok rfl resN) (fun _ h => h.drop.drop.drop) ⟨?_, rfl, rfl⟩
      rw [bareR, if_neg h1, if_neg (by simp [hf]), if_neg (by simp [hf]), if_neg (by simp [hy]), if_neg h2]; rfl
  · have h3 : ¬ r.kind = 3 := by simpa using h
    have hf : fullR r = false := by simp [fullR, h2, h3]
    repeat (first | with_reducible (first | refine zS ?_ | refine zR ?_ | refine zN ?_ | refine zK ?_ | refine zB ?_ | refine zI ?_) | refine zE rfl ?_ | refine wq ?_ | refine wg ?_ | refine ws ?_ | refine wb fun _ => ?_ | refine wa fun _ => ?_ | refine wl fun _ => ?_ | refine prn_start mixed ?_ | refine prn_end (by decide +kernel) ?_ | refine dq ?_ | refine dg ?_ | (refine prn_e0 rfl (sst tok rfl rfl rfl rfl rfl) (by decide +kernel) ?_; rintro _ _ _ ⟨rfl, rfl, rfl⟩) | ((first | refine pe rfl (st_box rfl) ?_ | refine pe rfl (st_alloc tok rfl) ?_ | refine pe rfl (st_buildSlice tok rfl rfl rfl rfl rfl rfl rfl) ?_); rintro _ _ _ ⟨_, rfl, rfl, rfl⟩) | (refine prn_o0 rfl (sst tok rfl rfl rfl rfl rfl) (by decide +kernel) ?_; rintro _ _ _ ⟨rfl, rfl, rfl⟩; refine ⟨by (repeat (first | exact trivial | refine And.intro (pend_q rfl rfl rfl (qt_pev tok rfl)) ?_ | refine And.intro (pend_q rfl rfl rfl (ql tok rfl)) ?_)), ?_⟩) | ((first | refine po rfl (st_box rfl) ?_ | refine po rfl (st_alloc tok rfl) ?_ | refine po rfl (st_buildSlice tok rfl rfl rfl rfl rfl rfl rfl) ?_); rintro _ _ _ ⟨_, rfl, rfl, rfl⟩; refine ⟨by (repeat (first | exact trivial | refine And.intro (pend_q rfl rfl rfl (qt_pev tok rfl)) ?_ | refine And.intro (pend_q rfl rfl rfl (ql tok rfl)) ?_)), ?_⟩) | (refine pe rfl (qt_pev tok rfl) ?_; rintro _ _ _ ⟨rfl, rfl, rfl⟩) | refine runL_q (qt_callF rfl (fun _ => full_ok _ _ r)) rfl rfl rfl ?_)
    refine run_cond rfl (fun h => by rw [hf] at h; cases h) (fun _ => ?_)
    repeat (first | with_reducible (first | refine zS ?_ | refine zR ?_ | refine zN ?_ | refine zK ?_ | refine zB ?_ | refine zI ?_) | refine zE rfl ?_ | refine wq ?_ | refine wg ?_ | refine ws ?_ | refine wb fun _ => ?_ | refine wa fun _ => ?_ | refine wl fun _ => ?_ | refine prn_start mixed ?_ | refine prn_end (by decide +kernel) ?_ | refine dq ?_ | refine dg ?_ | (refine prn_e0 rfl (sst tok rfl rfl rfl rfl rfl) (by decide +kernel) ?_; rintro _ _ _ ⟨rfl, rfl, rfl⟩) | ((first | refine pe rfl (st_box rfl) ?_ | refine pe rfl (st_alloc tok rfl) ?_ | refine pe rfl (st_buildSlice tok rfl rfl rfl rfl rfl rfl rfl) ?_); rintro _ _ _ ⟨_, rfl, rfl, rfl⟩) | (refine prn_o0 rfl (sst tok rfl rfl rfl rfl rfl) (by decide +kernel) ?_; rintro _ _ _ ⟨rfl, rfl, rfl⟩; refine ⟨by (repeat (first | exact trivial | refine And.intro (pend_q rfl rfl rfl (qt_pev tok rfl)) ?_ | refine And.intro (pend_q rfl rfl rfl (ql tok rfl)) ?_)), ?_⟩) | ((first | refine po rfl (st_box rfl) ?_ | refine po rfl (st_alloc tok rfl) ?_ | refine po rfl (st_buildSlice tok rfl rfl rfl rfl rfl rfl rfl) ?_); rintro _ _ _ ⟨_, rfl, rfl, rfl⟩; refine ⟨by (repeat (first | exact trivial | refine And.intro (pend_q rfl rfl rfl (qt_pev tok rfl)) ?_ | refine And.intro (pend_q rfl rfl rfl (ql tok rfl)) ?_)), ?_⟩) | (refine pe rfl (qt_pev tok rfl) ?_; rintro _ _ _ ⟨rfl, rfl, rfl⟩))
    refine run_ret hC (rs := [.cell 2 35]) rfl (rl tok rfl resN) (fun _ h => h.drop.drop.drop) ⟨?_, rfl, rfl⟩
    rw [bareR, if_neg h1, if_neg (by simp [hf]), if_neg (by simp [hf]), if_neg (by simp [h3]), if_neg h2]; rfl
theorem bareR_mem (M : Mem) (r : Rc) (h : MbOk M r.mem) : MbOk M (bareR r).mem := by
  unfold bareR
  repeat' split
  all_goals first | exact MbOk.nil M | exact h
theorem bareR_tags (M : Mem) (r : Rc) (h : StOk M r.tags) : StOk M (bareR r).tags := by
  unfold bareR
  repeat' split
  all_goals first | exact StOk.nil M | exact h
end Go.Proofs.YtkjljcgbnikmkaaGreatDoor
