import Derived.Test.YtcolmljidbbbbaaP2
import Derived.Test.YtcolmljidbbbbaaW23
namespace Go.Proofs.Ytcolmljidbbbbaa
open Go.Chi

/-! ### bits, as the document asks for them -/
theorem u64_in8 {k : Int} (h : 0 ≤ k ∧ k < 8) : IntKind.u64.wrap k = k := IntWalk.u64_in _ (by omega)
theorem inR_in {s k : Int} (h : 0 ≤ k ∧ k < 8) : inR s k = inP s k := by
  simp only [inR, inP, u64_in8 h]
  rw [decide_eq_true (show k ≥ 0 by omega), decide_eq_true (show k < 8 by omega)]
  rfl
theorem iand1 (x : Int) : iand .u8 x 1 = 0 ∨ iand .u8 x 1 = 1 := by
  have h1 : (BitVec.ofInt 8 x &&& BitVec.ofInt 8 1).toNat ≤ 1 := by
    rw [BitVec.toNat_and]
    have : (BitVec.ofInt 8 1).toNat = 1 := by decide
    rw [this, Nat.and_one_is_mod]
    omega
  have h2 : iand .u8 x 1 = IntKind.u8.wrap ((BitVec.ofInt 8 x &&& BitVec.ofInt 8 1).toNat : Int) := rfl
  rw [h2]
  generalize (BitVec.ofInt 8 x &&& BitVec.ofInt 8 1).toNat = n at h1
  have : n = 0 ∨ n = 1 := by omega
  rcases this with rfl | rfl
  · left; decide
  · right; decide
theorem hon_eq (bad : Int) : hon bad = honR bad := by
  funext k
  unfold hon honR
  by_cases h : 0 ≤ k ∧ k < 8
  · rw [inR_in h, decide_eq_true (show k ≥ 0 by omega), decide_eq_true (show k < 8 by omega)]
    simp only [Bool.true_and, inP]
    rcases iand1 (ishr .u8 bad k) with e | e <;> rw [e] <;> rfl
  · have : (decide (k ≥ 0) && decide (k < 8)) = false := by
      rw [Bool.and_eq_false_iff, decide_eq_false_iff_not, decide_eq_false_iff_not]; omega
    rw [this]; rfl
theorem ones_size : ∀ s : Fin 256, ones ((s.val : Nat) : Int) = ((sizeN ((s.val : Nat) : Int) 8 : Nat) : Int) := by decide +kernel
theorem ones_eq {s : Int} (h : 0 ≤ s ∧ s < 256) : ones s = (sizeN s 8 : Int) := by
  have := ones_size ⟨s.toNat, by omega⟩
  simpa [Int.toNat_of_nonneg h.1] using this
theorem ones_pos : ∀ s : Fin 256, decide (ones ((s.val : Nat) : Int) > 0) = !(decide (((s.val : Nat) : Int) = 0)) := by decide +kernel
theorem ones_pos' {s : Int} (h : 0 ≤ s ∧ s < 256) : decide (ones s > 0) = !decide (s = 0) := by
  have := ones_pos ⟨s.toNat, by omega⟩
  simpa [Int.toNat_of_nonneg h.1] using this
theorem iandn_nat (s u : Nat) (hs : s < 256) (hu : u < 256) : iandn .u8 (s : Int) (u : Int) = ((s &&& (255 - u) : Nat) : Int) := by
  have h1 : (BitVec.ofInt 8 (s : Int)) = BitVec.ofNat 8 s := by rw [BitVec.ofInt_natCast]
  have h2 : (BitVec.ofInt 8 (u : Int)) = BitVec.ofNat 8 u := by rw [BitVec.ofInt_natCast]
  have h3 : s &&& (255 - u) < 256 := Nat.and_lt_two_pow (n := 8) _ (by omega)
  have h4 : (BitVec.ofNat 8 s &&& ~~~ BitVec.ofNat 8 u).toNat = s &&& (255 - u) := by
    rw [BitVec.toNat_and, BitVec.toNat_not, BitVec.toNat_ofNat, BitVec.toNat_ofNat, Nat.mod_eq_of_lt hs, Nat.mod_eq_of_lt hu]
  show IntKind.u8.wrap ((BitVec.ofInt 8 (s : Int) &&& ~~~ BitVec.ofInt 8 (u : Int)).toNat : Int) = _
  rw [h1, h2, h4]
  simp [IntKind.wrap, IntKind.signed, IntKind.bits]
  omega
theorem not_tb : ∀ (u : Fin 256) (j : Fin 8), (255 - u.val).testBit j.val = !u.val.testBit j.val := by decide +kernel
theorem inP_andn {s u j : Int} (hs : 0 ≤ s ∧ s < 256) (hu : 0 ≤ u ∧ u < 256) (hj : 0 ≤ j ∧ j < 8) : inP (iandn .u8 s u) j = (inP s j && !inP u j) := by
  have e := iandn_nat s.toNat u.toNat (by omega) (by omega)
  simp only [Int.toNat_of_nonneg hs.1, Int.toNat_of_nonneg hu.1] at e
  have h3 : s.toNat &&& (255 - u.toNat) < 256 := Nat.and_lt_two_pow (n := 8) _ (by omega)
  have a1 := inP_tb ⟨_, h3⟩ ⟨j.toNat, by omega⟩
  have a2 := inP_tb ⟨s.toNat, by omega⟩ ⟨j.toNat, by omega⟩
  have a3 := inP_tb ⟨u.toNat, by omega⟩ ⟨j.toNat, by omega⟩
  have a4 := not_tb ⟨u.toNat, by omega⟩ ⟨j.toNat, by omega⟩
  simp only [Int.toNat_of_nonneg hs.1, Int.toNat_of_nonneg hu.1, Int.toNat_of_nonneg hj.1] at a1 a2 a3 a4
  rw [e, a1, Nat.testBit_and, a4, a2, a3]

/-! ### what may be -/
theorem acEq_iff (a b : Ac) : acEq a b = true ↔ a = b := by
  rw [← Ac.ext_iff', ← Tx.ext_iff']
  simp [acEq]
theorem lt1 (n : Int) : decide (n < 1) = !decide (n ≥ 1) := by
  rw [Bool.eq_iff_iff]; simp
theorem gt6 (n : Int) : decide (n > 6) = !decide (n ≤ 6) := by
  rw [Bool.eq_iff_iff]; simp
theorem ne0 (n : Int) : (n != 0) = !decide (n = 0) := by
  rw [Bool.eq_iff_iff]; simp
theorem mayBe_eq {bad : Int} {a : Ac} (ho : 0 ≤ a.orgs ∧ a.orgs < 256) : mayBeR bad a = (kdOk a.kind && mayP bad a) := by
  by_cases hk : kdOk a.kind = true
  · by_cases hm : mayTxn a.txn = true
    · have hco := mayTxn_coord hm
      have e1 : inR bad a.txn.coord = inP bad a.txn.coord := inR_in hco
      have e2 : inR a.orgs a.txn.coord = inP a.orgs a.txn.coord := inR_in hco
      have hlo : decide (a.kind < 1) = false := by simp [kdOk] at hk; simp; omega
      have hhi : decide (a.kind > 4) = false := by simp [kdOk] at hk; simp; omega
      have hq := ones_eq ho
      have hp := ones_pos' ho
      have h24 : acEq a (bareOf a) = decide (a.orgs = 0) → (a.kind = 2 ∨ a.kind = 4) → mayBeR bad a = mayP bad a := fun hb e => by
        by_cases hr : 0 ≤ a.org ∧ a.org < 8
        · have e3 : inR bad a.org = inP bad a.org := inR_in hr
          have e4 : orgOk a.org = true := by simp [orgOk]; omega
          have e5 : decide (a.org < 0) = false := by simp; omega
          have e6 : decide (a.org ≥ 8) = false := by simp; omega
          have e7 : (a.org != a.txn.coord) = !(a.org == a.txn.coord) := rfl
          rcases e with e | e <;> simp only [mayBeR, badR, mayP, mayBeP, hm, hlo, hhi, hb, e1, e2, e, kdO, kdG, kdY, hp, e3, e4, e5, e6, e7] <;>
            cases decide (a.orgs = 0) <;> cases a.yes <;> cases inP bad a.txn.coord <;> cases inP bad a.org <;> cases (a.org == a.txn.coord) <;> rfl
        · have e4 : orgOk a.org = false := by simp [orgOk]; omega
          have e5 : (decide (a.org < 0) || decide (a.org ≥ 8)) = true := by simp; omega
          rcases e with e | e <;> simp only [mayBeR, badR, mayP, mayBeP, hm, hlo, hhi, hb, e1, e2, e, kdO, kdG, kdY, hp, e4, e5] <;>
            cases decide (a.orgs = 0) <;> cases a.yes <;> cases inP bad a.txn.coord <;> rfl
      rw [hk, Bool.true_and]
      rcases kd_cases hk with e | e | e | e
      · have hb : acEq a (bareOf a) = (decide (a.org = 0) && !a.yes) := by
          rw [Bool.eq_iff_iff, acEq_iff, ← Ac.ext_iff']
          simp [bareOf, e]
        simp only [mayBeR, badR, mayP, mayBeP, hm, hlo, hhi, hb, e1, e2, e, kdO, kdG, kdY, hq, lt1, gt6, ne0]
        cases decide (a.org = 0) <;> cases a.yes <;> cases inP bad a.txn.coord <;> cases inP a.orgs a.txn.coord <;> cases decide ((sizeN a.orgs 8 : Int) ≥ 1) <;> cases decide ((sizeN a.orgs 8 : Int) ≤ 6) <;> rfl
      · exact h24 (by
          rw [Bool.eq_iff_iff, acEq_iff, ← Ac.ext_iff']
          simp [bareOf, e]) (.inl e)
      · have hb : acEq a (bareOf a) = (decide (a.org = 0) && decide (a.orgs = 0)) := by
          rw [Bool.eq_iff_iff, acEq_iff, ← Ac.ext_iff']
          simp [bareOf, e]
        simp only [mayBeR, badR, mayP, mayBeP, hm, hlo, hhi, hb, e1, e2, e, kdO, kdG, kdY, hp, ne0]
        cases decide (a.org = 0) <;> cases decide (a.orgs = 0) <;> cases a.yes <;> cases inP bad a.txn.coord <;> rfl
      · exact h24 (by
          rw [Bool.eq_iff_iff, acEq_iff, ← Ac.ext_iff']
          simp [bareOf, e]) (.inr e)
    · have hm' : mayTxn a.txn = false := by simpa using hm
      have h1 : badR bad a = true := by simp [badR, hm']
      have h2 : mayP bad a = false := by simp [mayP, mayBeP, hm']
      rw [h2, Bool.and_false, mayBeR, if_pos h1]
  · have hk' : kdOk a.kind = false := by simpa using hk
    have h1 : badR bad a = true := by
      have : (decide (a.kind < 1) || decide (a.kind > 4)) = true := by simp [kdOk] at hk'; simp; omega
      simp only [badR, this, Bool.true_or]
    rw [hk', Bool.false_and, mayBeR, if_pos h1]
end Go.Proofs.Ytcolmljidbbbbaa
