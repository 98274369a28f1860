import Derived.Test.YtcolmljidbbbbaaP1
import Derived.Test.YtcolmljidbbbbaaW6
namespace Go.Proofs.Ytcolmljidbbbbaa
open Go.Chi

/-! ### what a run has done -/
def Seen (r : Lr) (b : Ac) : Prop :=
  (b.kind = 1 → r.begun = true) ∧ (b.kind = 2 → inP r.voted b.org = true) ∧ (b.kind = 3 → r.decided = true ∧ r.commit = b.yes) ∧ (b.kind = 4 → inP r.learnt b.org = true ∧ r.decided = true ∧ r.commit = b.yes)
def Rng (r : Lr) : Prop := (0 ≤ r.voted ∧ r.voted < 256) ∧ (0 ≤ r.yes ∧ r.yes < 256) ∧ (0 ≤ r.learnt ∧ r.learnt < 256)
structure Inv (rows : List Lr) (A : List Ac) : Prop where
  rng : ∀ t, Rng (rowOf rows t)
  ok : ∀ b ∈ A, (0 ≤ b.org ∧ b.org < 8) ∧ Seen (rowOf rows b.txn) b
  yes : ∀ t k, 0 ≤ k ∧ k < 8 → inP (rowOf rows t).yes k = true → ∃ b ∈ A, b.txn = t ∧ b.kind = 2 ∧ b.org = k ∧ b.yes = true
theorem inv_nil : Inv [] [] := ⟨fun t => by simp [rowOf, ixOf, lr0, Rng], (fun b hb => by cases hb), fun t k hk h => by
  have : (rowOf [] t).yes = 0 := rfl
  rw [this, inP_zero hk] at h; cases h⟩

theorem ior_bd (a b : Int) : 0 ≤ ior .u8 a b ∧ ior .u8 a b < 256 := wrap_u8 _
theorem doK_rng {r : Lr} {a : Ac} (h : Rng r) : Rng (doK r a) := by
  obtain ⟨h1, h2, h3⟩ := h
  unfold doK
  split
  · exact ⟨h1, h2, h3⟩
  split
  · refine ⟨ior_bd _ _, ?_, h3⟩
    simp only [doVote]
    split
    · exact ior_bd _ _
    · exact h2
  split
  · exact ⟨h1, h2, h3⟩
  · exact ⟨h1, h2, ior_bd _ _⟩
/-- what was seen stays so -/
theorem doK_seen {bad : Int} {r : Lr} {a b : Ac} (hr : Rng r) (ha : 0 ≤ a.org ∧ a.org < 8) (hb : 0 ≤ b.org ∧ b.org < 8) (hk : kdOk a.kind = true) (hcan : canK bad r a = true) (h : Seen r b) : Seen (doK r a) b := by
  obtain ⟨h1, h2, h3, h4⟩ := h
  rcases kd_cases hk with e | e | e | e <;> simp only [doK, canK, e] at hcan ⊢
  · exact ⟨fun _ => rfl, h2, h3, h4⟩
  · refine ⟨h1, fun hh => ?_, h3, h4⟩
    show inP (ior .u8 r.voted (ishl .u8 1 a.org)) b.org = true
    rw [inP_set hr.1 hb ha, h2 hh]; rfl
  · have hd : r.decided = false := by
      cases hx : r.decided with
      | false => rfl
      | true => simp [canDecide, hx] at hcan
    refine ⟨h1, h2, fun hh => ?_, fun hh => ?_⟩
    · rw [(h3 hh).1] at hd; cases hd
    · rw [(h4 hh).2.1] at hd; cases hd
  · refine ⟨h1, h2, h3, fun hh => ⟨?_, (h4 hh).2⟩⟩
    show inP (ior .u8 r.learnt (ishl .u8 1 a.org)) b.org = true
    rw [inP_set hr.2.2 hb ha, (h4 hh).1]; rfl
theorem doK_new {bad : Int} {r : Lr} {a : Ac} (hr : Rng r) (ha : 0 ≤ a.org ∧ a.org < 8) (hk : kdOk a.kind = true) (hcan : canK bad r a = true) : Seen (doK r a) a := by
  rcases kd_cases hk with e | e | e | e <;> simp only [doK, canK, e] at hcan ⊢
  · exact ⟨fun _ => rfl, by omega, by omega, by omega⟩
  · refine ⟨by omega, fun _ => ?_, by omega, by omega⟩
    show inP (ior .u8 r.voted (ishl .u8 1 a.org)) a.org = true
    rw [inP_set hr.1 ha ha]; simp
  · exact ⟨by omega, by omega, fun _ => ⟨rfl, rfl⟩, by omega⟩
  · refine ⟨by omega, by omega, by omega, fun _ => ⟨?_, ?_⟩⟩
    · show inP (ior .u8 r.learnt (ishl .u8 1 a.org)) a.org = true
      rw [inP_set hr.2.2 ha ha]; simp
    · have hcan : canLearn r a = true := hcan
      simp only [canLearn, Bool.and_eq_true, beq_iff_eq] at hcan
      exact ⟨hcan.1.1.1.1, hcan.1.1.1.2⟩
theorem doK_yes {r : Lr} {a : Ac} (hr : Rng r) (ha : 0 ≤ a.org ∧ a.org < 8) {k : Int} (hk : 0 ≤ k ∧ k < 8) (h : inP (doK r a).yes k = true) : inP r.yes k = true ∨ (a.kind = 2 ∧ a.yes = true ∧ a.org = k) := by
  unfold doK at h
  split at h
  · exact .inl h
  split at h
  · rename_i e
    simp only [doVote] at h
    split at h
    · rename_i hy
      rw [inP_set hr.2.1 hk ha, Bool.or_eq_true] at h
      rcases h with h | h
      · exact .inl h
      · exact .inr ⟨e, hy, by have := of_decide_eq_true h; omega⟩
    · exact .inl h
  split at h
  · exact .inl h
  · exact .inl h
theorem inv_step {bad : Int} {rows : List Lr} {A : List Ac} {a : Ac} (h : Inv rows A) (hm : mayE bad rows a = 0) : Inv (stepR rows a) (A ++ [a]) := by
  obtain ⟨hk, hp, hcan⟩ := mayE_0 hm
  have ho := mayP_org hp
  refine ⟨fun t => ?_, fun b hb => ?_, fun t k hk' hy => ?_⟩
  · rw [rowOf_step]
    split
    · exact doK_rng (h.rng _)
    · exact h.rng _
  · rw [rowOf_step]
    rcases List.mem_append.1 hb with hb | hb
    · obtain ⟨h1, h2⟩ := h.ok b hb
      refine ⟨h1, ?_⟩
      split
      · rename_i e
        rw [e] at h2
        exact doK_seen (h.rng _) ho h1 hk hcan h2
      · exact h2
    · simp at hb
      subst hb
      rw [if_pos rfl]
      exact ⟨ho, doK_new (h.rng _) ho hk hcan⟩
  · rw [rowOf_step] at hy
    split at hy
    · rename_i e
      rcases doK_yes (h.rng _) ho hk' hy with hy | ⟨e1, e2, e3⟩
      · obtain ⟨b, hb, h1, h2⟩ := h.yes _ k hk' hy
        exact ⟨b, List.mem_append_left _ hb, by rw [h1, e], h2⟩
      · exact ⟨a, by simp, e.symm, e1, e3, e2⟩
    · obtain ⟨b, hb, h1⟩ := h.yes t k hk' hy
      exact ⟨b, List.mem_append_left _ hb, h1⟩
theorem inv_run {bad : Int} : ∀ {T : List (Nat × Ac)} {rows rows' : List Lr} {A : List Ac}, Inv rows A → runR bad rows T = .inr rows' → Inv rows' (A ++ T.map (·.2))
  | [], rows, rows', A, h, hr => by simp [runR] at hr; subst hr; simpa using h
  | p :: T, rows, rows', A, h, hr => by
    simp only [runR] at hr
    split at hr
    · rename_i hm
      have := inv_run (inv_step h hm) hr
      simpa using this
    · cases hr
/-- at each place the ledger lets it -/
theorem inv_at {bad : Int} {T : List (Nat × Ac)} {rows : List Lr} (hr : runR bad [] T = .inr rows) {i : Nat} {p : Nat × Ac} (hp : T[i]? = some p) : ∃ r, Inv r ((T.take i).map (·.2)) ∧ mayE bad r p.2 = 0 := by
  have hsp : T = T.take i ++ (p :: T.drop (i + 1)) := by
    have hlt := (List.getElem?_eq_some_iff.1 hp).1
    rw [List.getElem?_eq_getElem hlt] at hp
    rw [← Option.some.inj hp, List.getElem_cons_drop, List.take_append_drop]
  have h2 := runR_append bad (T.take i) (p :: T.drop (i + 1)) []
  rw [← hsp, hr] at h2
  cases h3 : runR bad [] (T.take i) with
  | inl x => rw [h3] at h2; cases h2
  | inr r =>
    rw [h3] at h2
    refine ⟨r, by simpa using inv_run inv_nil h3, ?_⟩
    simp only [runR] at h2
    split at h2
    · assumption
    · cases h2
theorem fact1 {bad : Int} {rows : List Lr} {A : List Ac} {a b : Ac} (h : Inv rows A) (hm : mayE bad rows a = 0) (hb : b ∈ A) (ht : b.txn = a.txn) :
    (((a.kind == 3 || a.kind == 4) && (b.kind == 3 || b.kind == 4) && (a.yes != b.yes)) || ((a.kind == b.kind) && (a.org == b.org))) = false := by
  obtain ⟨hk, hp, hcan⟩ := mayE_0 hm
  have ho := mayP_org hp
  obtain ⟨hbo, s1, s2, s3, s4⟩ := h.ok b hb
  rw [ht] at s1 s2 s3 s4
  have hr := h.rng a.txn
  generalize rowOf rows a.txn = r at *
  rcases kd_cases hk with e | e | e | e <;> simp only [canK, e] at hcan
  · have : b.kind ≠ 1 := fun hh => by simp [canBegin, s1 hh] at hcan
    simp [e]; intro h; omega
  · have : ¬ (b.kind = 2 ∧ b.org = a.org) := fun ⟨hh, ho'⟩ => by
      have h2 := s2 hh
      rw [ho'] at h2
      have hcan : canVote r a = true := hcan
      simp [canVote, inP_un hr.1 hr.2.2 ho, h2] at hcan
    simp [e]; intro h; omega
  · have hd : r.decided = false := by
      cases hx : r.decided with
      | false => rfl
      | true => simp [canDecide, hx] at hcan
    have n3 : b.kind ≠ 3 := fun hh => by rw [(s3 hh).1] at hd; cases hd
    have n4 : b.kind ≠ 4 := fun hh => by rw [(s4 hh).2.1] at hd; cases hd
    simp [e, n3, n4]; intro h; omega
  · have hcan : canLearn r a = true := hcan
    simp only [canLearn, Bool.and_eq_true, beq_iff_eq, Bool.not_eq_true'] at hcan
    have n4 : ¬ (b.kind = 4 ∧ b.org = a.org) := fun ⟨hh, ho'⟩ => by
      have := (s4 hh).1
      rw [ho', hcan.1.1.2] at this; cases this
    have hy : (b.kind = 3 ∨ b.kind = 4) → a.yes = b.yes := fun hh => by
      rcases hh with hh | hh
      · rw [← hcan.1.1.1.2, (s3 hh).2]
      · rw [← hcan.1.1.1.2, (s4 hh).2.2]
    simp [e]
    exact ⟨hy, fun h h' => n4 ⟨h.symm, h'.symm⟩⟩
theorem fact2 {bad : Int} {rows : List Lr} {A : List Ac} {a : Ac} (h : Inv rows A) (hm : mayE bad rows a = 0) (hk4 : a.kind = 4) (hy : a.yes = true) : ∃ b ∈ A, b.txn = a.txn ∧ b.kind = 2 ∧ b.org = a.org ∧ b.yes = true := by
  obtain ⟨hk, hp, hcan⟩ := mayE_0 hm
  have ho := mayP_org hp
  simp only [canK, hk4] at hcan
  have : canLearn (rowOf rows a.txn) a = true := hcan
  simp [canLearn, hy] at this
  exact h.yes _ _ ho this.2
end Go.Proofs.Ytcolmljidbbbbaa
