import Derived.Test.YtcolmljidbbbbaaW17
namespace Go.Proofs.Ytcolmljidbbbbaa
open Go.Chi

/-! ### a row behind an action -/
theorem ixOf_app {t : Tx} : ∀ (l : List Lr) (i : Nat) (x : Lr), ixOf t (l ++ [x]) i = (match ixOf t l i with | some k => some k | none => if t = x.txn then some (i + l.length) else none)
  | [], i, x => by simp [ixOf]
  | r :: l, i, x => by
    simp only [List.cons_append, ixOf]
    split
    · rfl
    · rw [ixOf_app l (i + 1) x]
      cases ixOf t l (i + 1) with
      | some k => rfl
      | none => simp only [List.length_cons]; rw [show i + 1 + l.length = i + (l.length + 1) from by omega]
theorem ixOf_set {t : Tx} : ∀ (l : List Lr) (i k : Nat) (x y : Lr), l[k]? = some y → x.txn = y.txn → ixOf t (l.set k x) i = ixOf t l i
  | [], i, k, x, y, h, _ => by simp at h
  | r :: l, i, 0, x, y, h, e => by simp at h; subst h; simp [ixOf, e]
  | r :: l, i, k + 1, x, y, h, e => by
    simp only [List.set_cons_succ, ixOf]
    rw [ixOf_set l (i + 1) k x y (by simpa using h) e]
theorem rowOf_step (l : List Lr) (a : Ac) (t : Tx) : rowOf (stepR l a) t = if t = a.txn then doK (rowOf l a.txn) a else rowOf l t := by
  have hat := addRow_at l a.txn
  have hix : ixOf t (stepR l a) 0 = ixOf t (addRow l a.txn) 0 := ixOf_set _ _ _ _ _ hat (doK_txn _ _)
  have hlt := posOf_le l a.txn
  by_cases e : t = a.txn
  · subst e
    rw [if_pos rfl]
    have h2 : ixOf a.txn (addRow l a.txn) 0 = some (posOf l a.txn) := by
      unfold addRow posOf
      cases h : ixOf a.txn l 0 with
      | some k => simp [h]
      | none => simp [ixOf_app, h, lr0]
    rw [h2] at hix
    refine rowOf_some hix ?_
    simp [stepR, hlt]
  · rw [if_neg e]
    have h2 : ixOf t (addRow l a.txn) 0 = ixOf t l 0 := by
      unfold addRow
      cases h : ixOf a.txn l 0 with
      | some k => rfl
      | none =>
        simp only [ixOf_app]
        cases ixOf t l 0 with
        | some k => rfl
        | none => simp [lr0, e]
    rw [h2] at hix
    cases h : ixOf t l 0 with
    | none => rw [h] at hix; rw [rowOf_none hix, rowOf_none h]
    | some k =>
      rw [h] at hix
      obtain ⟨_, r, hr, he⟩ := ixOf_some h
      simp only [Nat.sub_zero] at hr
      rw [rowOf_some h hr]
      refine rowOf_some hix ?_
      have hne : posOf l a.txn ≠ k := by
        intro hk
        have hr2 : (addRow l a.txn)[k]? = some r := by
          unfold addRow
          cases h : ixOf a.txn l 0 with
          | some k => exact hr
          | none => simp only; rw [List.getElem?_append_left (List.getElem?_eq_some_iff.1 hr).1]; exact hr
        rw [hk, hr2] at hat
        have := rowOf_txn l a.txn
        have h3 := Option.some.inj hat
        rw [← h3, he] at this
        exact e this
      unfold stepR
      rw [List.getElem?_set_ne hne]
      unfold addRow
      cases h : ixOf a.txn l 0 with
      | some k => exact hr
      | none => simp only; rw [List.getElem?_append_left (List.getElem?_eq_some_iff.1 hr).1]; exact hr

/-! ### bits -/
theorem inP_or : ∀ (s : Fin 256) (j k : Fin 8), inP (ior .u8 ((s.val : Nat) : Int) (ishl .u8 1 ((k.val : Nat) : Int))) ((j.val : Nat) : Int) = (inP ((s.val : Nat) : Int) ((j.val : Nat) : Int) || decide (j = k)) := by decide +kernel
theorem inP_set {s j k : Int} (hs : 0 ≤ s ∧ s < 256) (hj : 0 ≤ j ∧ j < 8) (hk : 0 ≤ k ∧ k < 8) : inP (ior .u8 s (ishl .u8 1 k)) j = (inP s j || decide (j = k)) := by
  have := inP_or ⟨s.toNat, by omega⟩ ⟨j.toNat, by omega⟩ ⟨k.toNat, by omega⟩
  simp only [Int.toNat_of_nonneg hs.1, Int.toNat_of_nonneg hj.1, Int.toNat_of_nonneg hk.1, Fin.mk.injEq] at this
  rw [this]
  congr 1
  rw [decide_eq_decide]
  omega
theorem inP_tb : ∀ (s : Fin 256) (j : Fin 8), inP ((s.val : Nat) : Int) ((j.val : Nat) : Int) = s.val.testBit j.val := by decide +kernel
theorem ior_nat (s u : Nat) (hs : s < 256) (hu : u < 256) : ior .u8 (s : Int) (u : Int) = ((s ||| u : Nat) : Int) := by
  have h1 : (BitVec.ofInt 8 (s : Int)) = BitVec.ofNat 8 s := by rw [BitVec.ofInt_natCast]
  have h2 : (BitVec.ofInt 8 (u : Int)) = BitVec.ofNat 8 u := by rw [BitVec.ofInt_natCast]
  have h3 : s ||| u < 256 := Nat.or_lt_two_pow (n := 8) hs hu
  have h4 : (BitVec.ofNat 8 s ||| BitVec.ofNat 8 u).toNat = s ||| u := by
    rw [BitVec.toNat_or, BitVec.toNat_ofNat, BitVec.toNat_ofNat, Nat.mod_eq_of_lt hs, Nat.mod_eq_of_lt hu]
  show IntKind.u8.wrap ((BitVec.ofInt 8 (s : Int) ||| BitVec.ofInt 8 (u : Int)).toNat : Int) = _
  rw [h1, h2, h4]
  simp [IntKind.wrap, IntKind.signed, IntKind.bits]
  omega
theorem inP_or2 (s u : Fin 256) (j : Fin 8) : inP (ior .u8 ((s.val : Nat) : Int) ((u.val : Nat) : Int)) ((j.val : Nat) : Int) = (inP ((s.val : Nat) : Int) ((j.val : Nat) : Int) || inP ((u.val : Nat) : Int) ((j.val : Nat) : Int)) := by
  rw [ior_nat _ _ s.isLt u.isLt, inP_tb, inP_tb]
  have := inP_tb ⟨s.val ||| u.val, Nat.or_lt_two_pow (n := 8) s.isLt u.isLt⟩ j
  simp only at this
  rw [this, Nat.testBit_or]
theorem inP_un {s u j : Int} (hs : 0 ≤ s ∧ s < 256) (hu : 0 ≤ u ∧ u < 256) (hj : 0 ≤ j ∧ j < 8) : inP (ior .u8 s u) j = (inP s j || inP u j) := by
  have := inP_or2 ⟨s.toNat, by omega⟩ ⟨u.toNat, by omega⟩ ⟨j.toNat, by omega⟩
  simp only [Int.toNat_of_nonneg hs.1, Int.toNat_of_nonneg hj.1, Int.toNat_of_nonneg hu.1] at this
  exact this
theorem inP_zero {j : Int} (hj : 0 ≤ j ∧ j < 8) : inP 0 j = false := by
  have : ∀ j : Fin 8, inP 0 ((j.val : Nat) : Int) = false := by decide +kernel
  have := this ⟨j.toNat, by omega⟩
  simpa [Int.toNat_of_nonneg hj.1] using this
end Go.Proofs.Ytcolmljidbbbbaa
