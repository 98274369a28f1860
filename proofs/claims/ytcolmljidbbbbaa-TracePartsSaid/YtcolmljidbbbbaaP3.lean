import Derived.Test.YtcolmljidbbbbaaP2
namespace Go.Proofs.Ytcolmljidbbbbaa
open Go.Chi

/-! ### the places of a trace -/
theorem trc_mem (h : Int → Bool) : ∀ (l : List Ev) (i : Nat) (p : Nat × Ac), p ∈ trc h l i → i ≤ p.1 ∧ p.1 < i + l.length ∧ ∃ x, l[p.1 - i]? = some x ∧ oneOf h x = some p.2
  | [], i, p, hp => by cases hp
  | x :: l, i, p, hp => by
    simp only [trc] at hp
    have rest : p ∈ trc h l (i + 1) → i ≤ p.1 ∧ p.1 < i + (x :: l).length ∧ ∃ y, (x :: l)[p.1 - i]? = some y ∧ oneOf h y = some p.2 := fun hp => by
      obtain ⟨h1, h2, y, h3, h4⟩ := trc_mem h l (i + 1) p hp
      refine ⟨by omega, by simp; omega, y, ?_, h4⟩
      rw [show p.1 - i = (p.1 - (i + 1)) + 1 from by omega]; simpa using h3
    split at hp
    · rename_i a ha
      rcases List.mem_cons.1 hp with rfl | hp
      · exact ⟨Nat.le_refl _, by simp, x, by simp, ha⟩
      · exact rest hp
    · exact rest hp
theorem runR_inl {bad : Int} : ∀ {T : List (Nat × Ac)} {rows : List Lr} {i : Nat} {e : Int}, runR bad rows T = .inl (i, e) → e ≠ 0 ∧ ∃ a, (i, a) ∈ T
  | [], rows, i, e, h => by simp [runR] at h
  | p :: T, rows, i, e, h => by
    simp only [runR] at h
    split at h
    · obtain ⟨h1, a, h2⟩ := runR_inl h
      exact ⟨h1, a, List.mem_cons_of_mem _ h2⟩
    · rename_i hm
      simp only [Sum.inl.injEq, Prod.mk.injEq] at h
      exact ⟨by rw [← h.2]; exact hm, p.2, by rw [← h.1]; exact List.mem_cons_self⟩
theorem runR_pre {bad : Int} {h : Int → Bool} {l : List Ev} {i : Nat} {e : Int} (hr : runR bad [] (trc h l 0) = .inl (i, e)) : ∃ rows, runR bad [] (trc h (l.take i) 0) = .inr rows := by
  have hsp := trc_append h (l.take i) (l.drop i) 0
  rw [List.take_append_drop] at hsp
  have h2 := runR_append bad (trc h (l.take i) 0) (trc h (l.drop i) (0 + (l.take i).length)) []
  rw [← hsp, hr] at h2
  cases h3 : runR bad [] (trc h (l.take i) 0) with
  | inr r => exact ⟨r, rfl⟩
  | inl x =>
    rw [h3] at h2
    obtain ⟨j, e'⟩ := x
    obtain ⟨_, a, ha⟩ := runR_inl h3
    have := (trc_mem h _ _ _ ha).2.1
    simp only [Sum.inl.injEq, Prod.mk.injEq] at h2
    simp at this
    omega
/-- up to where a trace runs -/
def atN (bad : Int) (l : SEv) : Nat := match runR bad [] (trc (hon bad) l.xs 0) with | .inl (i, _) => i | .inr _ => l.len
theorem chk_at (bad : Int) (l : SEv) (hl : l.xs.length = l.len) : ∃ e, chkOf bad l = ((atN bad l : Int), e) ∧ atN bad l ≤ l.len ∧ ((e == 0) = decide (atN bad l = l.len)) ∧ ∃ rows, runR bad [] (trc (hon bad) (l.xs.take (atN bad l)) 0) = .inr rows := by
  unfold chkOf atN
  cases h : runR bad [] (trc (hon bad) l.xs 0) with
  | inl x =>
    obtain ⟨i, e⟩ := x
    obtain ⟨h1, a, h2⟩ := runR_inl h
    have h3 := (trc_mem _ _ _ _ h2).2.1
    simp only [Nat.zero_add] at h3
    refine ⟨e, rfl, by simp only; omega, ?_, runR_pre h⟩
    have : ¬ (i = l.len) := by omega
    simp [h1, this]
  | inr r => exact ⟨0, rfl, Nat.le_refl _, by simp, r, by simp only; rw [List.take_of_length_le (by omega)]; exact h⟩
end Go.Proofs.Ytcolmljidbbbbaa
