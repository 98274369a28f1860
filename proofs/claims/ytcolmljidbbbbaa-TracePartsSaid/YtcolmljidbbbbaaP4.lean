import Derived.Test.YtcolmljidbbbbaaP3
namespace Go.Proofs.Ytcolmljidbbbbaa
open Go.Chi

/-! ### a trace in parts -/
theorem trc_shift (h : Int → Bool) (j : Nat) : ∀ (l : List Ev) (i : Nat), trc h l (i + j) = (trc h l i).map fun p => (p.1 + j, p.2)
  | [], _ => rfl
  | x :: l, i => by
    have ih := trc_shift h j l (i + 1)
    rw [show i + 1 + j = i + j + 1 from by omega] at ih
    simp only [trc]
    cases oneOf h x <;> simp [ih]
theorem trc_parts (h : Int → Bool) (l : List Ev) {k : Nat} (hk : k ≤ l.length) : trc h l 0 = trc h (l.take k) 0 ++ (trc h (l.drop k) 0).map fun p => (p.1 + k, p.2) := by
  have h1 := trc_append h (l.take k) (l.drop k) 0
  rw [List.take_append_drop, List.length_take, Nat.min_eq_left hk] at h1
  rw [h1, ← trc_shift]
theorem trc_sorted (h : Int → Bool) : ∀ (l : List Ev) (i : Nat), (trc h l i).Pairwise fun p q => p.1 < q.1
  | [], _ => List.Pairwise.nil
  | x :: l, i => by
    have ih := trc_sorted h l (i + 1)
    simp only [trc]
    cases oneOf h x with
    | none => exact ih
    | some a => exact List.pairwise_cons.2 ⟨fun q hq => by have := (trc_mem h l (i + 1) q hq).1; simp only; omega, ih⟩
theorem trc_lt (h : Int → Bool) (l : List Ev) (i : Nat) {a b : Nat} {p q : Nat × Ac} (hp : (trc h l i)[a]? = some p) (hq : (trc h l i)[b]? = some q) (hab : a < b) : p.1 < q.1 := by
  have hs := trc_sorted h l i
  obtain ⟨ha, rfl⟩ := List.getElem?_eq_some_iff.1 hp
  obtain ⟨hb, rfl⟩ := List.getElem?_eq_some_iff.1 hq
  exact List.pairwise_iff_getElem.1 hs a b ha hb hab
theorem chk_pre (bad : Int) (l : SEv) (hl : l.xs.length = l.len) {k : Nat} (hk : k ≤ l.len) (a : Option Addr) (c : Nat) (h : ((chkOf bad l).2 == 0) = true) : chkOf bad ⟨a, k, c, l.xs.take k⟩ = ((k : Int), 0) := by
  unfold chkOf at h ⊢
  simp only
  cases hr : runR bad [] (trc (hon bad) l.xs 0) with
  | inl x =>
    obtain ⟨i, e⟩ := x
    rw [hr] at h
    have := (runR_inl hr).1
    simp at h
    exact absurd h this
  | inr r =>
    have h1 := trc_parts (hon bad) l.xs (k := k) (by omega)
    have h2 := runR_append bad (trc (hon bad) (l.xs.take k) 0) ((trc (hon bad) (l.xs.drop k) 0).map fun p => (p.1 + k, p.2)) []
    rw [← h1, hr] at h2
    cases h3 : runR bad [] (trc (hon bad) (l.xs.take k) 0) with
    | inl x => rw [h3] at h2; cases h2
    | inr r' => rfl
end Go.Proofs.Ytcolmljidbbbbaa
