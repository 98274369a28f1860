import Derived.Test.YtemiflllckincaaKB
namespace Go.Proofs.Ytemiflllckincaa
open Go.Chi

/-! ### the plain law: what is told stays -/
structure GrowsP (a b : Ra) : Prop where
  txn : a.txn = b.txn
  voted : a.voted = true → b.voted = true ∧ a.yes = b.yes ∧ a.body = b.body
  decided : a.decided = true → b.decided = true ∧ a.commit = b.commit
  learnt : a.learnt = true → b.learnt = true ∧ a.did = b.did
  commit : a.commit = true → b.commit = true
  rest : a.voted = true ∨ a.commit = true → a.mem = b.mem ∧ a.tags.length = b.tags.length ∧ a.auditor = b.auditor
theorem GrowsP.refl (a : Ra) : GrowsP a a := ⟨rfl, fun h => ⟨h, rfl, rfl⟩, fun h => ⟨h, rfl⟩, fun h => ⟨h, rfl⟩, id, fun _ => ⟨rfl, rfl, rfl⟩⟩
theorem GrowsP.trans {a b c : Ra} (h : GrowsP a b) (k : GrowsP b c) : GrowsP a c where
  txn := h.txn.trans k.txn
  voted := fun x => by
    obtain ⟨h1, h2, h3⟩ := h.voted x
    obtain ⟨k1, k2, k3⟩ := k.voted h1
    exact ⟨k1, h2.trans k2, h3.trans k3⟩
  decided := fun x => by
    obtain ⟨h1, h2⟩ := h.decided x
    obtain ⟨k1, k2⟩ := k.decided h1
    exact ⟨k1, h2.trans k2⟩
  learnt := fun x => by
    obtain ⟨h1, h2⟩ := h.learnt x
    obtain ⟨k1, k2⟩ := k.learnt h1
    exact ⟨k1, h2.trans k2⟩
  commit := fun x => k.commit (h.commit x)
  rest := fun x => by
    obtain ⟨h1, h2, h3⟩ := h.rest x
    obtain ⟨k1, k2, k3⟩ := k.rest (x.imp (fun y => (h.voted y).1) h.commit)
    exact ⟨h1.trans k1, h2.trans k2, h3.trans k3⟩
/-- a row as it must be -/
structure Good (x : Ra) : Prop where
  one : x.decided = true → x.voted = false ∧ x.learnt = false
  did : x.learnt = true → x.did = true → x.voted = true ∧ x.yes = true
  com : x.commit = true → x.decided = true
theorem good0 (t : Tx) : Good (ra0 t) := ⟨(fun h => by cases h), (fun h => by cases h), (fun h => by cases h)⟩
theorem do_good {x : Ra} {r : Rc} (hx : Good x) (hk : 2 ≤ r.kind ∧ r.kind ≤ 4) (hm : mayA r.kind x r.yes = true) : Good (doA x r) ∧ GrowsP x (doA x r) := by
  have hc := hx.com
  unfold mayA at hm
  unfold doA
  by_cases h2 : r.kind = 2
  · rw [if_pos h2]
    rw [if_neg (by omega)] at hm
    simp only [freshR, Bool.and_eq_true, Bool.not_eq_true'] at hm
    obtain ⟨⟨hv, hd⟩, hl⟩ := hm
    have hco : x.commit = false := by
      cases e : x.commit with
      | false => rfl
      | true => rw [hc e] at hd; cases hd
    refine ⟨⟨fun h => ?_, fun h => ?_, fun h => ?_⟩, ⟨rfl, fun h => ?_, fun h => ?_, fun h => ?_, fun h => ?_, fun h => ?_⟩⟩
    · rw [show (voteA x r).decided = x.decided from rfl, hd] at h; cases h
    · rw [show (voteA x r).learnt = x.learnt from rfl, hl] at h; cases h
    · rw [show (voteA x r).commit = x.commit from rfl, hco] at h; cases h
    · rw [hv] at h; cases h
    · rw [hd] at h; cases h
    · rw [hl] at h; cases h
    · rw [hco] at h; cases h
    · rw [hv, hco] at h; rcases h with h | h <;> cases h
  · rw [if_neg h2]
    by_cases h3 : r.kind = 3
    · rw [if_pos h3]
      rw [if_neg (by omega)] at hm
      simp only [freshR, Bool.and_eq_true, Bool.not_eq_true'] at hm
      obtain ⟨⟨hv, hd⟩, hl⟩ := hm
      have hco : x.commit = false := by
        cases e : x.commit with
        | false => rfl
        | true => rw [hc e] at hd; cases hd
      have e1 : (decideA x r).voted = x.voted := by unfold decideA; split <;> rfl
      have e2 : (decideA x r).learnt = x.learnt := by unfold decideA; split <;> rfl
      have e3 : (decideA x r).decided = true := by unfold decideA; split <;> rfl
      have e4 : (decideA x r).txn = x.txn := by unfold decideA; split <;> rfl
      refine ⟨⟨fun _ => ?_, fun h => ?_, fun _ => e3⟩, ⟨e4.symm, fun h => ?_, fun h => ?_, fun h => ?_, fun h => ?_, fun h => ?_⟩⟩
      · rw [e1, e2]; exact ⟨hv, hl⟩
      · rw [e2, hl] at h; cases h
      · rw [hv] at h; cases h
      · rw [hd] at h; cases h
      · rw [hl] at h; cases h
      · rw [hco] at h; cases h
      · rw [hv, hco] at h; rcases h with h | h <;> cases h
    · rw [if_neg h3]
      rw [if_pos (by omega)] at hm
      simp only [learnR, Bool.and_eq_true, Bool.or_eq_true, Bool.not_eq_true'] at hm
      obtain ⟨⟨hd, hl⟩, hy⟩ := hm
      refine ⟨⟨fun h => ?_, fun _ h => ?_, hx.com⟩, ⟨rfl, fun h => ⟨h, rfl, rfl⟩, fun h => ?_, fun h => ?_, id, fun _ => ⟨rfl, rfl, rfl⟩⟩⟩
      · rw [show (learnA x r).decided = x.decided from rfl, hd] at h; cases h
      · rcases hy with hy | hy
        · rw [show (learnA x r).did = r.yes from rfl, hy] at h; cases h
        · exact hy
      · rw [hd] at h; cases h
      · rw [hl] at h; cases h
/-- a book as it must be -/
structure Inv (b : BkA) : Prop where
  good : ∀ x ∈ b.2, Good x
  nodup : (b.2.map (·.txn)).Nodup
structure GrowsB (a b : BkA) : Prop where
  ep : a.1 ≤ b.1
  len : a.2.length ≤ b.2.length
  row : ∀ (i : Nat) (x : Ra), a.2[i]? = some x → ∃ y, b.2[i]? = some y ∧ GrowsP x y
theorem GrowsB.refl (a : BkA) : GrowsB a a := ⟨Int.le_refl _, Nat.le_refl _, fun _ x h => ⟨x, h, GrowsP.refl x⟩⟩
theorem GrowsB.trans {a b c : BkA} (h : GrowsB a b) (k : GrowsB b c) : GrowsB a c :=
  ⟨Int.le_trans h.ep k.ep, Nat.le_trans h.len k.len, fun i x hx => by
    obtain ⟨y, hy, h1⟩ := h.row i x hx
    obtain ⟨z, hz, h2⟩ := k.row i y hy
    exact ⟨z, hz, h1.trans h2⟩⟩
theorem inv0 : Inv (0, []) := ⟨fun x h => (by cases h), by simp⟩
theorem add_inv {t : Tx} {l : List Ra} (hg : ∀ x ∈ l, Good x) (hn : (l.map (·.txn)).Nodup) : (∀ x ∈ addA t l, Good x) ∧ ((addA t l).map (·.txn)).Nodup ∧ l.length ≤ (addA t l).length ∧ ∀ (i : Nat) (x : Ra), l[i]? = some x → (addA t l)[i]? = some x := by
  unfold addA
  cases hix : ixA t l with
  | some k => exact ⟨hg, hn, Nat.le_refl _, fun _ _ h => h⟩
  | none =>
    refine ⟨fun x hx => ?_, ?_, by simp, fun i x h => ?_⟩
    · rcases List.mem_append.1 hx with hx | hx
      · exact hg x hx
      · simp at hx; subst hx; exact good0 t
    · rw [List.map_append, List.nodup_append]
      refine ⟨hn, by simp, fun a ha b hb e => ?_⟩
      have h1 := ixOf_none.1 hix a ha
      simp at hb
      rw [hb] at e
      exact h1 e
    · rw [List.getElem?_append_left (List.getElem?_eq_some_iff.1 h).1]; exact h
theorem write_inv {b : BkA} {r : Rc} (hb : Inv b) (hw : (writeA b r).2 = 0) : Inv (writeA b r).1 ∧ GrowsB b (writeA b r).1 := by
  by_cases hk : r.kind = 1
  · have : ∃ e, (writeA b r).1 = (e, b.2) ∧ b.1 ≤ e := by
      unfold writeA at hw ⊢
      split at hw
      · rename_i h1; exact absurd hw h1
      · rename_i h1
        rw [if_neg h1, if_pos hk]
        split at hw
        · cases hw
        · rename_i h2; rw [if_neg h2]; exact ⟨_, rfl, by omega⟩
    obtain ⟨e, he, hle⟩ := this
    rw [he]
    exact ⟨⟨hb.good, hb.nodup⟩, ⟨hle, Nat.le_refl _, fun _ x h => ⟨x, h, GrowsP.refl x⟩⟩⟩
  · obtain ⟨hE, hm, he⟩ := write_txns hk hw
    have hkk := recE_kind hE
    rw [he]
    obtain ⟨h1, h2, h3, h4⟩ := add_inv (t := r.txn) hb.good hb.nodup
    have hrow := rowA_at r.txn b.2
    obtain ⟨g1, g2⟩ := do_good (h1 _ (List.mem_of_getElem? hrow)) ⟨by omega, hkk.2⟩ hm
    refine ⟨⟨fun x hx => ?_, ?_⟩, ⟨Int.le_refl _, by simpa using h3, fun i x hx => ?_⟩⟩
    · rcases List.mem_or_eq_of_mem_set hx with hx | rfl
      · exact h1 x hx
      · exact g1
    · show (((addA r.txn b.2).set (posA r.txn b.2) (doA (rowA r.txn b.2) r)).map (·.txn)).Nodup
      rw [set_txn hrow (doA_txn _ _)]; exact h2
    · have hx' := h4 i x hx
      show ∃ y, ((addA r.txn b.2).set (posA r.txn b.2) (doA (rowA r.txn b.2) r))[i]? = some y ∧ GrowsP x y
      rw [List.getElem?_set]
      split
      · rename_i e
        subst e
        have hlt := (List.getElem?_eq_some_iff.1 hrow).1
        rw [if_pos hlt]
        rw [hrow] at hx'
        refine ⟨_, rfl, ?_⟩
        rw [← Option.some.inj hx']; exact g2
      · exact ⟨x, hx', GrowsP.refl x⟩
theorem ofGo_at : ∀ (l : List Rc) (b : BkA) (k : Nat), (ofGo b k l).2.2 = 0 → (ofGo b k l).2.1 = k + l.length
  | [], b, k, _ => rfl
  | r :: l, b, k, h => by
    rw [ofGo] at h ⊢
    split at h
    · rename_i h1; exact absurd h h1
    · rename_i h1
      rw [if_neg h1, ofGo_at l _ _ h, List.length_cons]
      omega
theorem ofGo_err : ∀ (l : List Rc) (b : BkA) (k : Nat), (ofGo b k l).2.2 ≠ 0 → k ≤ (ofGo b k l).2.1 ∧ (ofGo b k l).2.1 < k + l.length ∧ (ofGo b k (l.take ((ofGo b k l).2.1 - k))).2.2 = 0
  | [], b, k, h => absurd rfl h
  | r :: l, b, k, h => by
    rw [ofGo] at h ⊢
    by_cases h1 : (writeA b r).2 ≠ 0
    · rw [if_pos h1]
      refine ⟨Nat.le_refl _, by simp, ?_⟩
      simp only [Nat.sub_self, List.take_zero]; rfl
    · rw [if_neg h1] at h ⊢
      obtain ⟨h2, h3, h4⟩ := ofGo_err l _ _ h
      refine ⟨by omega, by rw [List.length_cons]; omega, ?_⟩
      rw [show (ofGo (writeA b r).1 (k + 1) l).2.1 - k = ((ofGo (writeA b r).1 (k + 1) l).2.1 - (k + 1)) + 1 by omega, List.take_succ_cons, ofGo, if_neg h1]
      exact h4
theorem ofGo_inv : ∀ (l : List Rc) (b : BkA) (k : Nat), Inv b → (ofGo b k l).2.2 = 0 → Inv (ofGo b k l).1 ∧ GrowsB b (ofGo b k l).1
  | [], b, k, hb, _ => ⟨hb, GrowsB.refl b⟩
  | r :: l, b, k, hb, h => by
    rw [ofGo] at h ⊢
    split at h
    · rename_i h1; exact absurd h h1
    · rename_i h1
      rw [if_neg h1]
      obtain ⟨i1, g1⟩ := write_inv hb (by simpa using h1)
      obtain ⟨i2, g2⟩ := ofGo_inv l _ _ i1 h
      exact ⟨i2, g1.trans g2⟩
theorem ofGo_take : ∀ (l : List Rc) (b : BkA) (k n : Nat), Inv b → (ofGo b k l).2.2 = 0 → (ofGo b k (l.take n)).2.2 = 0 ∧ GrowsB (ofGo b k (l.take n)).1 (ofGo b k l).1
  | l, b, k, 0, hb, h => by rw [List.take_zero]; exact ⟨rfl, (ofGo_inv l b k hb h).2⟩
  | [], b, k, n + 1, hb, _ => by rw [List.take_nil]; exact ⟨rfl, GrowsB.refl b⟩
  | r :: l, b, k, n + 1, hb, h => by
    rw [List.take_succ_cons]
    rw [ofGo] at h ⊢
    split at h
    · rename_i h1; exact absurd h h1
    · rename_i h1
      rw [if_neg h1]
      rw [ofGo, if_neg h1]
      exact ofGo_take l _ _ n (write_inv hb (by simpa using h1)).1 h
/-- what came of it -/
def outA (x : Ra) : Bool × Bool := if x.decided = true then (x.commit, true) else if x.learnt = true then (x.did, true) else (false, false)
theorem out_law {x y : Ra} (h : GrowsP x y) (hy : Good y) (hx : (outA x).2 = true) : outA y = outA x := by
  unfold outA at hx ⊢
  by_cases h1 : x.decided = true
  · obtain ⟨h2, h3⟩ := h.decided h1
    rw [if_pos h1, if_pos h2, h3]
  · rw [if_neg h1] at hx ⊢
    by_cases h2 : x.learnt = true
    · obtain ⟨h3, h4⟩ := h.learnt h2
      have h5 : ¬ y.decided = true := fun e => by rw [(hy.one e).2] at h3; cases h3
      rw [if_neg h5, if_pos h3, if_pos h2, h4]
    · rw [if_neg h2] at hx; cases hx
end Go.Proofs.Ytemiflllckincaa
