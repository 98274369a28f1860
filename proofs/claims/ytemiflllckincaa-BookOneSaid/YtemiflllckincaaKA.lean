import Derived.Test.YtemiflllckincaaK9
namespace Go.Proofs.Ytemiflllckincaa
open Go.Chi

/-! ### the plain law: a transaction's row is that of the records that name it -/
theorem txEq_iff (a b : Tx) : txEq a b = true ↔ a = b := by rw [txEq_eq, decide_eq_true_eq]
theorem ixOf_none {t : Tx} : ∀ {l : List Tx} {i : Nat}, ixOf t l i = none ↔ ∀ x ∈ l, x ≠ t
  | [], _ => by simp [ixOf]
  | x :: l, i => by
    rw [ixOf]
    by_cases h : txEq x t = true
    · rw [if_pos h]
      have := (txEq_iff x t).1 h
      simp [this]
    · rw [if_neg h, ixOf_none]
      have : x ≠ t := fun e => h ((txEq_iff x t).2 e)
      simp [this]
theorem ixOf_at {t : Tx} : ∀ {l : List Tx} {i k : Nat}, ixOf t l i = some k → i ≤ k ∧ l[k - i]? = some t
  | [], _, _, h => by cases h
  | x :: l, i, k, h => by
    rw [ixOf] at h
    split at h
    · rename_i hx
      cases h
      have := (txEq_iff x t).1 hx
      simp [this]
    · obtain ⟨h1, h2⟩ := ixOf_at h
      refine ⟨by omega, ?_⟩
      rw [show k - i = (k - (i + 1)) + 1 from by omega]
      simpa using h2
theorem ixOf_snoc (t u : Tx) : ∀ (l : List Tx) (i : Nat), ixOf t (l ++ [u]) i = match ixOf t l i with | some k => some k | none => if txEq u t = true then some (i + l.length) else none
  | [], i => by simp [ixOf]
  | x :: l, i => by
    rw [List.cons_append, ixOf, ixOf]
    by_cases h : txEq x t = true
    · simp [h]
    · simp only [h]
      rw [ixOf_snoc t u l (i + 1)]
      simp only [List.length_cons, if_false, Bool.false_eq_true]
      rw [show i + 1 + l.length = i + (l.length + 1) by omega]
theorem doA_txn (x : Ra) (r : Rc) : (doA x r).txn = x.txn := by
  unfold doA voteA decideA learnA
  repeat' split
  all_goals rfl
theorem set_txn {l : List Ra} {k : Nat} {x y : Ra} (h : l[k]? = some x) (hy : y.txn = x.txn) : (l.set k y).map (·.txn) = l.map (·.txn) := by
  apply List.ext_getElem?
  intro j
  rw [List.getElem?_map, List.getElem?_map, List.getElem?_set]
  split
  · rename_i e
    subst e
    have hlt := (List.getElem?_eq_some_iff.1 h).1
    rw [if_pos hlt, h]
    simp [hy]
  · rfl
theorem rowA_txn (t : Tx) (l : List Ra) : (rowA t l).txn = t := by
  have h := rowA_at t l
  unfold addA posA at h
  cases hix : ixA t l with
  | none =>
    simp only [hix] at h
    simp at h
    rw [← h]; rfl
  | some k =>
    simp only [hix] at h
    have := (ixOf_at hix).2
    simp only [Nat.sub_zero, List.getElem?_map, h] at this
    simpa using this
theorem write_txns {b : BkA} {r : Rc} (hk : ¬ r.kind = 1) (h : (writeA b r).2 = 0) : recE r = 0 ∧ mayA r.kind (rowA r.txn b.2) r.yes = true ∧ (writeA b r).1 = (b.1, (addA r.txn b.2).set (posA r.txn b.2) (doA (rowA r.txn b.2) r)) := by
  unfold writeA at h ⊢
  split at h
  · rename_i h1; exact absurd h h1
  · rename_i h1
    rw [if_neg h1, if_neg hk]
    split at h
    · rename_i h2
      rw [if_pos h2]
      exact ⟨by simpa using h1, h2, rfl⟩
    · cases h
/-- b is a book, c one of the records that name t alone, of which there were m -/
def Rel (t : Tx) (b c : BkA) (m : Nat) : Prop := c.1 = 0 ∧ ((m = 0 ∧ ixA t b.2 = none ∧ c.2 = []) ∨ (1 ≤ m ∧ ∃ k x, ixA t b.2 = some k ∧ b.2[k]? = some x ∧ x.txn = t ∧ c.2 = [x]))
def named (t : Tx) (r : Rc) : Bool := (r.kind != 1) && txEq r.txn t
theorem rel_other {t : Tx} {b c : BkA} {m : Nat} {r : Rc} (h : Rel t b c m) (hq : named t r = false) (hw : (writeA b r).2 = 0) : Rel t (writeA b r).1 c m := by
  by_cases hk : r.kind = 1
  · have : (writeA b r).1.2 = b.2 := by
      unfold writeA at hw ⊢
      split at hw
      · rename_i h1; exact absurd hw h1
      · rename_i h1
        rw [if_neg h1, if_pos hk]
        split at hw
        · cases hw
        · rename_i h2; rw [if_neg h2]
    unfold Rel at h ⊢
    rw [this]; exact h
  · have hne : r.txn ≠ t := by
      intro e
      simp [named, hk, (txEq_iff r.txn t).2 e] at hq
    obtain ⟨_, _, he⟩ := write_txns hk hw
    rw [he]
    have hrow := rowA_at r.txn b.2
    have htx : ((addA r.txn b.2).set (posA r.txn b.2) (doA (rowA r.txn b.2) r)).map (·.txn) = (addA r.txn b.2).map (·.txn) := set_txn hrow (doA_txn _ _)
    have hixs : ixA t ((addA r.txn b.2).set (posA r.txn b.2) (doA (rowA r.txn b.2) r)) = ixA t b.2 := by
      unfold ixA
      rw [htx]
      unfold addA
      cases hix : ixA r.txn b.2 with
      | some k => rfl
      | none =>
        rw [List.map_append, List.map_cons, List.map_nil, ixOf_snoc]
        have : ¬ txEq (ra0 r.txn).txn t = true := fun e => hne ((txEq_iff _ _).1 e)
        rw [if_neg this]
        cases ixOf t (b.2.map (·.txn)) 0 <;> rfl
    refine ⟨h.1, ?_⟩
    rcases h.2 with ⟨h1, h2, h3⟩ | ⟨h1, k, x, h2, h3, h4, h5⟩
    · exact .inl ⟨h1, by rw [hixs]; exact h2, h3⟩
    · refine .inr ⟨h1, k, x, by rw [hixs]; exact h2, ?_, h4, h5⟩
      have hlt := (List.getElem?_eq_some_iff.1 h3).1
      have hadd : (addA r.txn b.2)[k]? = some x := by
        unfold addA
        cases ixA r.txn b.2 with
        | some _ => exact h3
        | none => rw [List.getElem?_append_left hlt]; exact h3
      show ((addA r.txn b.2).set (posA r.txn b.2) _)[k]? = some x
      rw [List.getElem?_set]
      split
      · rename_i e
        rw [e, hadd] at hrow
        have := rowA_txn r.txn b.2
        rw [← Option.some.inj hrow, h4] at this
        exact absurd this.symm hne
      · exact hadd
theorem ix_one {t : Tx} {x : Ra} (h : x.txn = t) : ixA t [x] = some 0 := by
  have : txEq x.txn t = true := (txEq_iff _ _).2 h
  simp [ixA, ixOf, this]
theorem rel_named {t : Tx} {b c : BkA} {m : Nat} {r : Rc} (h : Rel t b c m) (hq : named t r = true) (hw : (writeA b r).2 = 0) : (writeA c r).2 = 0 ∧ Rel t (writeA b r).1 (writeA c r).1 (m + 1) := by
  simp only [named, Bool.and_eq_true, bne_iff_ne] at hq
  obtain ⟨hk, hte⟩ := hq
  have ht : r.txn = t := (txEq_iff _ _).1 hte
  obtain ⟨hE, hmay, he⟩ := write_txns hk hw
  have hE' : ¬ recE r ≠ 0 := by simp [hE]
  rw [he]
  rcases h.2 with ⟨h1, h2, h3⟩ | ⟨h1, k, x, h2, h3, h4, h5⟩
  · have ha : addA r.txn b.2 = b.2 ++ [ra0 t] := by rw [ht, addA, h2]
    have hp : posA r.txn b.2 = b.2.length := by rw [ht, posA, h2]
    have hr : rowA r.txn b.2 = ra0 t := by rw [rowA, ha, hp]; simp
    have hc : ixA t c.2 = none := by rw [h3]; rfl
    have ha' : addA r.txn c.2 = [ra0 t] := by rw [ht, addA, hc, h3]; rfl
    have hp' : posA r.txn c.2 = 0 := by rw [ht, posA, hc, h3]; rfl
    have hr' : rowA r.txn c.2 = ra0 t := by rw [rowA, ha', hp']; rfl
    have hwc : writeA c r = ((c.1, [doA (ra0 t) r]), 0) := by
      rw [writeA, if_neg hE', if_neg hk, hr', ← hr, if_pos hmay, hr, ha', hp']; rfl
    rw [hwc, hr, ha, hp]
    refine ⟨rfl, h.1, .inr ⟨by omega, b.2.length, doA (ra0 t) r, ?_, by simp, by rw [doA_txn]; rfl, rfl⟩⟩
    have hs : (b.2 ++ [ra0 t]).set b.2.length (doA (ra0 t) r) = b.2 ++ [doA (ra0 t) r] := by simp
    show ixA t ((b.2 ++ [ra0 t]).set b.2.length (doA (ra0 t) r)) = _
    rw [hs, ixA, List.map_append, List.map_cons, List.map_nil, ixOf_snoc]
    have h2' : ixOf t (b.2.map (·.txn)) 0 = none := h2
    rw [h2', doA_txn]
    have : txEq (ra0 t).txn t = true := (txEq_iff _ _).2 rfl
    simp [this]
  · have ha : addA r.txn b.2 = b.2 := by rw [ht, addA, h2]
    have hp : posA r.txn b.2 = k := by rw [ht, posA, h2]
    have hr : rowA r.txn b.2 = x := by rw [rowA, ha, hp, h3]; rfl
    have hc : ixA t c.2 = some 0 := by rw [h5]; exact ix_one h4
    have ha' : addA r.txn c.2 = [x] := by rw [ht, addA, hc, h5]
    have hp' : posA r.txn c.2 = 0 := by rw [ht, posA, hc]
    have hr' : rowA r.txn c.2 = x := by rw [rowA, ha', hp']; rfl
    have hwc : writeA c r = ((c.1, [doA x r]), 0) := by
      rw [writeA, if_neg hE', if_neg hk, hr', ← hr, if_pos hmay, hr, ha', hp']; rfl
    rw [hwc, hr, ha, hp]
    have hlt := (List.getElem?_eq_some_iff.1 h3).1
    refine ⟨rfl, h.1, .inr ⟨by omega, k, doA x r, ?_, by simp [List.getElem?_set, hlt], by rw [doA_txn]; exact h4, rfl⟩⟩
    show ixA t (b.2.set k (doA x r)) = _
    rw [ixA, set_txn h3 (doA_txn _ _)]
    exact h2
theorem ofGo_apart (t : Tx) : ∀ (l : List Rc) (b c : BkA) (k j m : Nat), Rel t b c m → (ofGo b k l).2.2 = 0 → (ofGo c j (l.filter (named t))).2.2 = 0 ∧ Rel t (ofGo b k l).1 (ofGo c j (l.filter (named t))).1 (m + (l.filter (named t)).length)
  | [], b, c, k, j, m, h, _ => ⟨rfl, h⟩
  | r :: l, b, c, k, j, m, h, he => by
    rw [ofGo] at he ⊢
    have hw : (writeA b r).2 = 0 := by
      apply Classical.byContradiction
      intro hn
      rw [if_pos hn] at he
      exact hn he
    rw [if_neg (by simp [hw])] at he ⊢
    cases hq : named t r with
    | false =>
      rw [List.filter_cons_of_neg (by simp [hq])]
      exact ofGo_apart t l _ c _ j m (rel_other h hq hw) he
    | true =>
      rw [List.filter_cons_of_pos hq]
      obtain ⟨h1, h2⟩ := rel_named h hq hw
      rw [ofGo, if_neg (by simp [h1]), List.length_cons]
      have := ofGo_apart t l _ _ (k + 1) (j + 1) (m + 1) h2 he
      rw [show m + ((l.filter (named t)).length + 1) = m + 1 + (l.filter (named t)).length by omega]
      exact this
theorem apart_law {t : Tx} {l : List Rc} (h : (ofA l).2.2 = 0) : (ofA (l.filter (named t))).2.2 = 0 ∧ findA t (ofA l).1.2 = findA t (ofA (l.filter (named t))).1.2 ∧
    (findA t (ofA l).1.2).2 = decide (0 < (l.filter (named t)).length) ∧ (ofA (l.filter (named t))).1.2.length = min (l.filter (named t)).length 1 := by
  have h0 : Rel t (0, []) (0, []) 0 := ⟨rfl, .inl ⟨rfl, rfl, rfl⟩⟩
  obtain ⟨h1, h2, h3⟩ := ofGo_apart t l (0, []) (0, []) 0 0 0 h0 h
  refine ⟨h1, ?_⟩
  unfold ofA
  rcases h3 with ⟨h4, h5, h6⟩ | ⟨h4, k, x, h5, h6, h7, h8⟩
  · rw [h6]
    have hl : (l.filter (named t)).length = 0 := by omega
    refine ⟨?_, ?_, by rw [hl]; rfl⟩
    · simp only [findA, h5]; rfl
    · simp only [findA, h5, hl]; rfl
  · rw [h8]
    refine ⟨?_, ?_, by simp; omega⟩
    · simp only [findA, h5, h6, ix_one h7]; rfl
    · simp only [findA, h5]
      rw [decide_eq_true (by omega)]
end Go.Proofs.Ytemiflllckincaa
