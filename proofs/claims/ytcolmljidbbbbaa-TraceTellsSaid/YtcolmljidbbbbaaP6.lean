import Derived.Test.YtcolmljidbbbbaaP5
namespace Go.Proofs.Ytcolmljidbbbbaa
open Go.Chi

/-! ### the transactions, in the order in which they came -/
def ftxF (l : List Tx) (a : Ac) : List Tx := if a.txn ∈ l then l else l ++ [a.txn]
def ftx (acts : List Ac) : List Tx := acts.foldl ftxF []
theorem ftx_snoc (acts : List Ac) (a : Ac) : ftx (acts ++ [a]) = ftxF (ftx acts) a := by simp [ftx]
theorem ftx_mem (t : Tx) : ∀ (acts : List Ac) (l : List Tx), t ∈ acts.foldl ftxF l ↔ t ∈ l ∨ ∃ b ∈ acts, b.txn = t
  | [], l => by simp
  | a :: acts, l => by
    rw [List.foldl_cons, ftx_mem t acts]
    unfold ftxF
    split
    · rename_i h
      constructor
      · rintro (h1 | ⟨b, hb, e⟩)
        · exact .inl h1
        · exact .inr ⟨b, List.mem_cons_of_mem _ hb, e⟩
      · rintro (h1 | ⟨b, hb, e⟩)
        · exact .inl h1
        · rcases List.mem_cons.1 hb with rfl | hb
          · exact .inl (e ▸ h)
          · exact .inr ⟨b, hb, e⟩
    · constructor
      · rintro (h1 | ⟨b, hb, e⟩)
        · rcases List.mem_append.1 h1 with h1 | h1
          · exact .inl h1
          · simp at h1; exact .inr ⟨a, List.mem_cons_self, h1.symm⟩
        · exact .inr ⟨b, List.mem_cons_of_mem _ hb, e⟩
      · rintro (h1 | ⟨b, hb, e⟩)
        · exact .inl (List.mem_append_left _ h1)
        · rcases List.mem_cons.1 hb with rfl | hb
          · exact .inl (by simp [e])
          · exact .inr ⟨b, hb, e⟩
theorem ftx_nodup : ∀ (acts : List Ac) (l : List Tx), l.Nodup → (acts.foldl ftxF l).Nodup
  | [], l, h => h
  | a :: acts, l, h => by
    rw [List.foldl_cons]
    apply ftx_nodup acts
    unfold ftxF
    split
    · exact h
    · rename_i hn
      rw [List.nodup_append]
      refine ⟨h, by simp, fun x hx y hy => ?_⟩
      simp at hy
      subst hy
      exact fun e => hn (e ▸ hx)
theorem rowRS_is (t : Tx) : ∀ (acts : List Ac) (s : Lr × Bool), (acts.foldl (rowF t) s).2 = true ↔ s.2 = true ∨ ∃ b ∈ acts, b.txn = t
  | [], s => by simp
  | a :: acts, s => by
    rw [List.foldl_cons, rowRS_is t acts]
    unfold rowF
    split
    · rename_i h
      constructor
      · intro _; exact .inr ⟨a, List.mem_cons_self, h⟩
      · intro _; exact .inl rfl
    · rename_i h
      constructor
      · rintro (h1 | ⟨b, hb, e⟩)
        · exact .inl h1
        · exact .inr ⟨b, List.mem_cons_of_mem _ hb, e⟩
      · rintro (h1 | ⟨b, hb, e⟩)
        · exact .inl h1
        · rcases List.mem_cons.1 hb with rfl | hb
          · exact absurd e h
          · exact .inr ⟨b, hb, e⟩
theorem is_ftx (t : Tx) (acts : List Ac) : (rowRS t acts).2 = true ↔ t ∈ ftx acts := by
  rw [rowRS, rowRS_is, ftx, ftx_mem]; simp
theorem fresh_iff (acts : List Ac) (n : Nat) (a : Ac) : ∀ k, k ≤ acts.length → (fresh acts n a k = true ↔ ∀ b ∈ acts.take k, b.txn ≠ a.txn)
  | 0, _ => by simp [fresh]
  | k + 1, hk => by
    have hlt : k < acts.length := by omega
    simp only [fresh, List.getElem?_eq_getElem hlt, Bool.and_eq_true, fresh_iff acts n a k (by omega)]
    rw [take_snoc (List.getElem?_eq_getElem hlt)]
    simp only [List.mem_append, List.mem_singleton, Bool.not_eq_true', decide_eq_false_iff_not]
    constructor
    · rintro ⟨h1, h2⟩ b (hb | rfl)
      · exact h1 b hb
      · exact h2
    · intro h
      exact ⟨fun b hb => h b (.inl hb), h _ (.inr rfl)⟩
theorem rowsUp_eq (acts : List Ac) : ∀ n, n ≤ acts.length → rowsUp acts n = (ftx (acts.take n)).map fun t => (refRow t acts).1
  | 0, _ => by simp [rowsUp, ftx]
  | n + 1, hn => by
    have hlt : n < acts.length := by omega
    have hg := List.getElem?_eq_getElem hlt
    rw [take_snoc hg, ftx_snoc]
    simp only [rowsUp, hg, rowsUp_eq acts n (by omega)]
    unfold ftxF
    have hf := fresh_iff acts n acts[n] n (by omega)
    have hm := ftx_mem acts[n].txn (acts.take n) []
    by_cases hfr : fresh acts n acts[n] n = true
    · have hnm : ¬ acts[n].txn ∈ ftx (acts.take n) := fun h => by
        rcases hm.1 h with h | ⟨b, hb, e⟩
        · cases h
        · exact hf.1 hfr b hb e
      rw [if_pos hfr, if_neg hnm]; simp
    · have hin : acts[n].txn ∈ ftx (acts.take n) := Classical.byContradiction fun h => hfr (hf.2 fun b hb e => h (hm.2 (.inr ⟨b, hb, e⟩)))
      rw [if_neg hfr, if_pos hin]; simp

/-! ### the two ledgers -/
def Rng4 (r : Lr) : Prop := (0 ≤ r.orgs ∧ r.orgs < 256) ∧ Rng r
structure Rel (rows : List Lr) (acts : List Ac) : Prop where
  row : ∀ t, rowOf rows t = (rowRS t acts).1
  is : ∀ t, (ixOf t rows 0).isSome = (rowRS t acts).2
  ok : ∀ t, (rowRS t acts).2 = true → ((rowOf rows t).begun || (rowOf rows t).decided) = true
  rng : ∀ t, Rng4 (rowOf rows t)
  ord : rows.map (·.txn) = ftx acts
theorem rel_nil : Rel [] [] := ⟨fun _ => rfl, fun _ => rfl, (fun t h => by cases h), (fun t => by simp [rowOf, ixOf, lr0, Rng4, Rng]), rfl⟩
theorem doK_step {r : Lr} {a : Ac} (hk : kdOk a.kind = true) (ho : 0 ≤ a.org ∧ a.org < 8) : doK r a = stepRow r a := by
  have e8 : ishu a.org = ishl .u8 1 a.org := by rw [ishu, u64_in8 ho]
  rcases kd_cases hk with e | e | e | e <;> simp [doK, stepRow, e, doBegin, doVote, doDecide, doLearn, e8]
theorem Rel.no {rows : List Lr} {acts : List Ac} (h : Rel rows acts) {t : Tx} (hn : (rowRS t acts).2 = false) : rowOf rows t = lr0 t := by
  have := h.is t
  rw [hn] at this
  exact rowOf_none (by cases hx : ixOf t rows 0 with | none => rfl | some k => rw [hx] at this; cases this)
theorem canD_all (bad : Int) (r : Lr) : ∀ n, n ≤ 8 → (canD bad r n = (!r.decided && (List.range n).all fun k : Nat => dcK bad r k))
  | 0, _ => by simp [canD]
  | n + 1, hn => by
    simp only [canD, canD_all bad r n (by omega), List.range_succ, List.all_append, List.all_cons, List.all_nil, Bool.and_true, Bool.and_assoc]
/-- an action can be done by both, or by none -/
theorem can_flags {bad : Int} {r : Lr} {a : Ac} (hr : Rng4 r) (hb : 0 ≤ bad ∧ bad < 256) (ho : 0 ≤ a.org ∧ a.org < 8) :
    canVote r a = canR2 r a ∧ canLearn r a = canR4 r a ∧ canDecide bad r a = (if a.yes = true then canD bad r 8 else !r.decided) := by
  obtain ⟨r1, r2, r3, r4⟩ := hr
  refine ⟨?_, ?_, ?_⟩
  · simp only [canVote, canR2, inR_in ho, inP_un r2 r4 ho]
    cases r.begun <;> cases inP r.orgs a.org <;> cases inP r.voted a.org <;> cases inP r.learnt a.org <;> rfl
  · simp only [canLearn, canR4, inR_in ho]
  · rw [canD_all bad r 8 (Nat.le_refl _)]
    have hall : ((honK (iandn .u8 r.orgs bad) 8).all fun k => inP r.yes k) = (List.range 8).all fun k : Nat => ((!inR r.orgs k || inR bad k) || inR r.yes k) := by
      rw [Bool.eq_iff_iff, List.all_eq_true, List.all_eq_true]
      constructor
      · intro h k hk
        have hk8 : 0 ≤ (k : Int) ∧ (k : Int) < 8 := by have := List.mem_range.1 hk; omega
        rw [inR_in hk8, inR_in hk8, inR_in hk8]
        cases h1 : inP r.orgs k
        · rfl
        cases h2 : inP bad k
        · have := h k (List.mem_filter.2 ⟨hk, by rw [inP_andn r1 hb hk8, h1, h2]; rfl⟩)
          simp [this]
        · simp
      · intro h k hk
        obtain ⟨hk1, hk2⟩ := List.mem_filter.1 hk
        have hk8 : 0 ≤ (k : Int) ∧ (k : Int) < 8 := by have := List.mem_range.1 hk1; omega
        have := h k hk1
        rw [inR_in hk8, inR_in hk8, inR_in hk8] at this
        rw [inP_andn r1 hb hk8] at hk2
        simp only [Bool.and_eq_true, Bool.not_eq_true'] at hk2
        simpa [hk2.1, hk2.2] using this
    unfold canDecide
    rw [hall]
    have hd : ((List.range 8).all fun k : Nat => dcK bad r k) = (r.begun && (List.range 8).all fun k : Nat => ((!inR r.orgs k || inR bad k) || inR r.yes k)) := by
      unfold dcK
      cases r.begun
      · rfl
      · simp
    rw [hd]
    cases a.yes <;> cases r.decided <;> cases r.begun <;> simp
theorem can_eq {bad : Int} {rows : List Lr} {acts : List Ac} {a : Ac} (h : Rel rows acts) (hb : 0 ≤ bad ∧ bad < 256) (hk : kdOk a.kind = true) (ho : 0 ≤ a.org ∧ a.org < 8) : canK bad (rowOf rows a.txn) a = canR bad acts a := by
  have hrow := h.row a.txn
  have hok := h.ok a.txn
  have hrng := h.rng a.txn
  cases his : (rowRS a.txn acts).2 with
  | true =>
    have hR : refRow a.txn acts = (rowOf rows a.txn, true) := by rw [refRow, if_pos his, hrow]
    have hbd := hok his
    obtain ⟨f1, f2, f3⟩ := can_flags (a := a) hrng hb ho
    rcases kd_cases hk with e | e | e | e <;> simp [canK, canR, e, hR, f1, f2, f3]
    simp only [canBegin]
    cases h1 : (rowOf rows a.txn).begun <;> cases h2 : (rowOf rows a.txn).decided <;> simp_all
  | false =>
    have hR : refRow a.txn acts = (lr0 ⟨0, 0, 0⟩, false) := by rw [refRow, if_neg (by rw [his]; simp)]
    have hno := h.no his
    rw [hno] at hrng ⊢
    obtain ⟨f1, f2, f3⟩ := can_flags (a := a) hrng hb ho
    rcases kd_cases hk with e | e | e | e
    · simp [canK, canR, e, hR, canBegin, lr0]
    · simp [canK, canR, e, hR, f1]; rfl
    · simp [canK, canR, e, hR, f3]; rfl
    · simp [canK, canR, e, hR, f2]; rfl
theorem may_eq {bad : Int} {rows : List Lr} {acts : List Ac} {a : Ac} (h : Rel rows acts) (hb : 0 ≤ bad ∧ bad < 256) (ho : 0 ≤ a.orgs ∧ a.orgs < 256) : mayE bad rows a = mayR bad acts a := by
  unfold mayE mayR
  rw [mayBe_eq ho]
  cases hk : kdOk a.kind
  · simp
  cases hm : mayP bad a
  · simp
  simp only [Bool.not_true, Bool.or_false, Bool.true_and, Bool.false_eq_true, if_false]
  rw [can_eq h hb hk (mayP_org hm)]
theorem doK_rng4 {r : Lr} {a : Ac} (h : Rng4 r) (ho : 0 ≤ a.orgs ∧ a.orgs < 256) : Rng4 (doK r a) := by
  refine ⟨?_, doK_rng h.2⟩
  unfold doK
  split
  · exact ho
  split
  · exact h.1
  split
  · exact h.1
  · exact h.1
theorem doK_ok {bad : Int} {r : Lr} {a : Ac} (hk : kdOk a.kind = true) (hc : canK bad r a = true) : ((doK r a).begun || (doK r a).decided) = true := by
  rcases kd_cases hk with e | e | e | e <;> simp only [doK, canK, e] at hc ⊢
  · rfl
  · have hc : canVote r a = true := hc
    show (r.begun || r.decided) = true
    simp [canVote] at hc; simp [hc]
  · show (r.begun || true) = true
    simp
  · have hc : canLearn r a = true := hc
    show (r.begun || r.decided) = true
    simp [canLearn] at hc; simp [hc]
theorem rel_step {bad : Int} {rows : List Lr} {acts : List Ac} {a : Ac} (h : Rel rows acts) (hm : mayE bad rows a = 0) (ho : 0 ≤ a.orgs ∧ a.orgs < 256) : Rel (stepR rows a) (acts ++ [a]) := by
  obtain ⟨hk, hp, hcan⟩ := mayE_0 hm
  have horg := mayP_org hp
  have hix : ∀ t, (ixOf t (stepR rows a) 0).isSome = (decide (a.txn = t) || (ixOf t rows 0).isSome) := fun t => by
    have e1 : ixOf t (stepR rows a) 0 = ixOf t (addRow rows a.txn) 0 := ixOf_set _ _ _ _ _ (addRow_at rows a.txn) (doK_txn _ _)
    rw [e1]
    unfold addRow
    cases hx : ixOf a.txn rows 0 with
    | some k =>
      by_cases e : a.txn = t
      · subst e; simp [hx]
      · simp [e]
    | none =>
      simp only [ixOf_app]
      cases hy : ixOf t rows 0 with
      | some k => simp
      | none =>
        by_cases e : a.txn = t
        · subst e; simp [lr0]
        · have : ¬ t = (lr0 a.txn).txn := fun e' => e e'.symm
          simp [e, this]
  refine ⟨fun t => ?_, fun t => ?_, fun t ht => ?_, fun t => ?_, ?_⟩
  · rw [rowOf_step, rowRS_snoc, rowF]
    by_cases e : t = a.txn
    · subst e
      rw [if_pos rfl, if_pos rfl, doK_step hk horg, h.row]
    · rw [if_neg e, if_neg (fun e' => e e'.symm), h.row]
  · rw [hix, rowRS_snoc, rowF]
    by_cases e : a.txn = t
    · rw [if_pos e]; simp [e]
    · rw [if_neg e, h.is]; simp [e]
  · rw [rowOf_step]
    split
    · exact doK_ok hk hcan
    · rename_i e
      rw [rowRS_snoc, rowF, if_neg (fun e' => e e'.symm)] at ht
      exact h.ok t ht
  · rw [rowOf_step]
    split
    · exact doK_rng4 (h.rng _) ho
    · exact h.rng t
  · rw [ftx_snoc, ftxF]
    have hmap : (stepR rows a).map (·.txn) = (addRow rows a.txn).map (·.txn) := by
      unfold stepR
      rw [List.map_set]
      apply List.ext_getElem?
      intro n
      by_cases e : posOf rows a.txn = n
      · subst e
        have hlt := posOf_le rows a.txn
        rw [List.getElem?_set_self (by simpa using hlt)]
        have := addRow_at rows a.txn
        rw [List.getElem?_map, this]
        simp [doK_txn]
      · rw [List.getElem?_set_ne e]
    rw [hmap]
    have hi := h.is a.txn
    have hf := is_ftx a.txn acts
    unfold addRow
    cases hx : ixOf a.txn rows 0 with
    | some k =>
      rw [hx] at hi
      rw [if_pos (hf.1 hi.symm)]
      exact h.ord
    | none =>
      rw [hx] at hi
      rw [if_neg (fun hh => by rw [hf.2 hh] at hi; cases hi)]
      simp [h.ord, lr0]
/-- both runs come to the same -/
theorem run_eq {bad : Int} (hb : 0 ≤ bad ∧ bad < 256) : ∀ {T : List (Nat × Ac)} {rows : List Lr} {acts : List Ac}, Rel rows acts → (∀ p ∈ T, 0 ≤ p.2.orgs ∧ p.2.orgs < 256) →
    (∃ x, runR bad rows T = .inl x ∧ runQ bad acts T = .inl x) ∨ (∃ r q, runR bad rows T = .inr r ∧ runQ bad acts T = .inr q ∧ Rel r q)
  | [], rows, acts, h, _ => .inr ⟨rows, acts, rfl, rfl, h⟩
  | p :: T, rows, acts, h, ho => by
    have hm := may_eq h hb (ho p List.mem_cons_self)
    simp only [runR, runQ, ← hm]
    split
    · rename_i h0
      exact run_eq hb (rel_step h h0 (ho p List.mem_cons_self)) (fun q hq => ho q (List.mem_cons_of_mem _ hq))
    · exact .inl ⟨_, rfl, rfl⟩
theorem nodup_ix : ∀ {rows : List Lr} (i : Nat), (rows.map (·.txn)).Nodup → ∀ {k : Nat} {r : Lr}, rows[k]? = some r → ixOf r.txn rows i = some (i + k)
  | [], _, _, k, r, h => by simp at h
  | x :: rows, i, hn, 0, r, h => by simp at h; subst h; simp [ixOf]
  | x :: rows, i, hn, k + 1, r, h => by
    simp only [List.map_cons, List.nodup_cons] at hn
    have hr : rows[k]? = some r := by simpa using h
    have hne : r.txn ≠ x.txn := fun e => hn.1 (e ▸ List.mem_map.2 ⟨r, List.mem_of_getElem? hr, rfl⟩)
    simp only [ixOf, hne, if_false]
    rw [nodup_ix (i + 1) hn.2 hr]
    congr 1; omega
theorem rel_rows {rows : List Lr} {acts : List Ac} (h : Rel rows acts) : rows = rowsUp acts acts.length := by
  rw [rowsUp_eq acts _ (Nat.le_refl _), List.take_of_length_le (Nat.le_refl _), ← h.ord, List.map_map]
  apply List.ext_getElem?
  intro n
  rw [List.getElem?_map]
  cases hn : rows[n]? with
  | none => rfl
  | some r =>
    have hnd : (rows.map (·.txn)).Nodup := by rw [h.ord]; exact ftx_nodup _ _ (by simp)
    have hix := nodup_ix 0 hnd hn
    rw [Nat.zero_add] at hix
    have h1 := rowOf_some hix hn
    have h2 := h.is r.txn
    rw [hix] at h2
    simp only [Option.map_some, Function.comp_def]
    have h3 : (rowRS r.txn acts).2 = true := h2.symm
    rw [refRow, if_pos h3, ← h.row, h1]
theorem chk_eq (bad : Int) (l : SEv) (hb : 0 ≤ bad ∧ bad < 256) : chkOf bad l = chkRf bad l := by
  unfold chkOf chkRf
  rw [← hon_eq]
  rcases run_eq hb rel_nil (trc_orgs (hon bad) l.xs 0) with ⟨x, h1, h2⟩ | ⟨r, q, h1, h2, _⟩ <;> rw [h1, h2]
theorem rows_eq (bad : Int) (l : SEv) (hb : 0 ≤ bad ∧ bad < 256) : rowsOf bad l = rowsRf bad l := by
  unfold rowsOf rowsRf
  rw [← hon_eq]
  rcases run_eq hb rel_nil (trc_orgs (hon bad) l.xs 0) with ⟨x, h1, h2⟩ | ⟨r, q, h1, h2, h3⟩ <;> rw [h1, h2]
  simp only [← rel_rows h3]
theorem runR_len {bad : Int} : ∀ {T : List (Nat × Ac)} {rows r : List Lr}, runR bad rows T = .inr r → r.length ≤ rows.length + T.length
  | [], rows, r, h => by simp [runR] at h; subst h; simp
  | p :: T, rows, r, h => by
    simp only [runR] at h
    split at h
    · have := runR_len h
      have h1 := stepR_len rows p.2
      have h2 := addRow_len rows p.2.txn
      simp; omega
    · cases h
theorem rows_len (bad : Int) (l : SEv) : (rowsOf bad l).1.length ≤ (trc (hon bad) l.xs 0).length := by
  unfold rowsOf
  cases h : runR bad [] (trc (hon bad) l.xs 0) with
  | inl x => simp
  | inr r => have := runR_len h; simpa using this
end Go.Proofs.Ytcolmljidbbbbaa
