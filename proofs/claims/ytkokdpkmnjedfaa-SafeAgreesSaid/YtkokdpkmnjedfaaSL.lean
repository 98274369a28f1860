import Derived.Test.YtkokdpkmnjedfaaS7
namespace Go.Proofs.Ytkokdpkmnjedfaa
open Go.Chi

/-! ### a safe history, in plain words -/
def Safe (bad : Int) (l : List Ev) : Prop := ∀ i x, l[i]? = some x → evE bad (l.take i) x = 0
theorem Safe.pre {bad : Int} {l : List Ev} (h : Safe bad l) (n : Nat) : Safe bad (l.take n) := fun i x hx => by
  rw [List.getElem?_take] at hx
  split at hx
  · rename_i hi
    rw [List.take_take, Nat.min_eq_left (by omega)]
    exact h i x hx
  · cases hx
theorem chkN_none {bad : Int} {l : List Ev} : ∀ {n : Nat}, chkN bad l n = none → ∀ i x, i < n → l[i]? = some x → evE bad (l.take i) x = 0
  | 0, _, _, _, hi, _ => by omega
  | n + 1, h, i, x, hi, hx => by
    simp only [chkN] at h
    cases hc : chkN bad l n with
    | some r => rw [hc] at h; cases h
    | none =>
      rw [hc] at h
      by_cases he : i = n
      · subst he
        rw [hx] at h
        simp only at h
        by_cases h0 : evE bad (l.take i) x = 0
        · exact h0
        · rw [if_pos h0] at h; cases h
      · exact chkN_none hc i x (by omega) hx
theorem chkN_some {bad : Int} {l : List Ev} : ∀ {n : Nat} {r : Nat × Int}, chkN bad l n = some r → r.1 < n ∧ r.1 < l.length ∧ r.2 ≠ 0 ∧ ∀ i x, i < r.1 → l[i]? = some x → evE bad (l.take i) x = 0
  | 0, _, h => by cases h
  | n + 1, r, h => by
    simp only [chkN] at h
    cases hc : chkN bad l n with
    | some r' =>
      rw [hc] at h
      simp only [Option.some.injEq] at h
      subst h
      have := chkN_some hc
      exact ⟨by omega, this.2⟩
    | none =>
      rw [hc] at h
      cases hx : l[n]? with
      | none => rw [hx] at h; cases h
      | some x =>
        rw [hx] at h
        simp only at h
        by_cases h0 : evE bad (l.take n) x = 0
        · rw [if_neg (by simp [h0])] at h; cases h
        · rw [if_pos h0] at h
          simp only [Option.some.injEq] at h
          subst h
          exact ⟨Nat.lt_succ_self n, (List.getElem?_eq_some_iff.1 hx).1, h0, chkN_none hc⟩
theorem chkN_safe {bad : Int} {l : List Ev} (h : Safe bad l) : ∀ n, chkN bad l n = none
  | 0 => rfl
  | n + 1 => by
    simp only [chkN, chkN_safe h n]
    cases hx : l[n]? with
    | none => rfl
    | some x => simp [h n x hx]
theorem chkS_safe {bad : Int} {l : List Ev} (h : Safe bad l) : chkS bad l = (l.length, 0) := by simp only [chkS, chkN_safe h]
theorem chkS_le (bad : Int) (l : List Ev) : (chkS bad l).1 ≤ l.length := by
  unfold chkS
  cases hc : chkN bad l l.length with
  | none => exact Nat.le_refl _
  | some r => have := chkN_some hc; simp only; omega
theorem chkS_iff (bad : Int) (l : List Ev) : (chkS bad l).2 = 0 ↔ (chkS bad l).1 = l.length := by
  unfold chkS
  cases hc : chkN bad l l.length with
  | none => simp
  | some r => have := chkN_some hc; simp only; constructor <;> intro h <;> omega
theorem chkS_pre (bad : Int) (l : List Ev) : Safe bad (l.take (chkS bad l).1) := by
  have hall : ∀ i x, i < (chkS bad l).1 → l[i]? = some x → evE bad (l.take i) x = 0 := by
    unfold chkS
    cases hc : chkN bad l l.length with
    | none => exact chkN_none hc
    | some r => exact (chkN_some hc).2.2.2
  intro i x hx
  rw [List.getElem?_take] at hx
  split at hx
  · rename_i hi
    rw [List.take_take, Nat.min_eq_left (by omega)]
    exact hall i x hi hx
  · cases hx
theorem chkS_cut (bad : Int) (l : List Ev) {n : Nat} (hn : n ≤ (chkS bad l).1) : chkS bad (l.take n) = (n, 0) := by
  have h := (chkS_pre bad l).pre n
  rw [List.take_take, Nat.min_eq_left hn] at h
  rw [chkS_safe h, List.length_take, Nat.min_eq_left (Nat.le_trans hn (chkS_le bad l))]
theorem firstE_zero {bad : Int} {l : List Ev} {x : Ev} : ∀ {n : Nat}, firstE bad l x n = 0 → ∀ k, k < n → lookE bad l x k = 0
  | 0, _, _, hk => by omega
  | n + 1, h, k, hk => by
    simp only [firstE] at h
    by_cases h0 : firstE bad l x n = 0
    · rw [if_neg (by simp [h0])] at h
      by_cases he : k = n
      · subst he; exact h
      · exact firstE_zero h0 k (by omega)
    · rw [if_pos h0] at h; exact absurd h h0
theorem Safe.dec {bad : Int} {l : List Ev} (h : Safe bad l) {i : Nat} {x : Ev} (hx : l[i]? = some x) : decidesE bad (l.take i) x = 0 := firstE_zero (h i x hx) 4 (by omega)
theorem Safe.lrn {bad : Int} {l : List Ev} (h : Safe bad l) {i : Nat} {x : Ev} (hx : l[i]? = some x) : learnsE bad (l.take i) x = 0 := firstE_zero (h i x hx) 5 (by omega)
def isDec (t : Tx) (x : Ev) : Prop := x.kind = 2 ∧ x.rcd.txn = t ∧ x.rcd.kind = 3
def isOut (t : Tx) (x : Ev) : Prop := x.kind = 2 ∧ x.rcd.txn = t ∧ (x.rcd.kind = 3 ∨ x.rcd.kind = 4)
theorem txEq_iff (a b : Tx) : txEq a b = true ↔ a = b := by
  rw [← Tx.ext_iff']
  simp [txEq]
theorem mem_logs3 {t : Tx} {l : List Ev} {y : Ev} : y ∈ logsOf 3 t (evsOf 2 l) ↔ y ∈ l ∧ isDec t y := by
  simp only [logsOf, evsOf, List.mem_filter, isLog, isDec, Bool.and_eq_true, beq_iff_eq, txEq_iff]
  constructor
  · rintro ⟨⟨h1, h2⟩, h3, h4⟩; exact ⟨h1, h2, h4, h3⟩
  · rintro ⟨h1, h2, h4, h3⟩; exact ⟨⟨h1, h2⟩, h3, h4⟩
theorem dec_step {bad : Int} {l : List Ev} {x : Ev} {t : Tx} (hd : isDec t x) (h : decidesE bad l x = 0) : (∀ y ∈ l, ¬ isDec t y) ∧ (x.rcd.yes = true → allP (lsR x) bad l = true) := by
  obtain ⟨h1, rfl, h3⟩ := hd
  unfold decidesE at h
  rw [if_neg (by simp [dec0, h1, h3])] at h
  by_cases h4 : dec1 l x = true
  · rw [if_pos h4] at h; omega
  rw [if_neg h4] at h
  refine ⟨fun y hy hy' => h4 ?_, fun hyes => ?_⟩
  · have := mem_logs3.2 ⟨hy, hy'⟩
    rw [dec1]
    cases hl : logsOf 3 x.rcd.txn (evsOf 2 l) with
    | nil => rw [hl] at this; cases this
    | cons a b => rfl
  · split at h
    · omega
    split at h
    · omega
    split at h
    · omega
    · rename_i h7; simpa [hyes] using h7
theorem lrn_step {bad : Int} {l : List Ev} {x : Ev} (h1 : x.kind = 2) (h3 : x.rcd.kind = 4) (hh : hon bad x.rcd.txn.coord = true) (h : learnsE bad l x = 0) : ∃ y ∈ l, isDec x.rcd.txn y ∧ y.rcd.yes = x.rcd.yes := by
  unfold learnsE at h
  rw [if_neg (by simp [lrn0, h1, h3])] at h
  have h4 : lrn1 bad l x = true := by
    cases hc : lrn1 bad l x with
    | true => rfl
    | false => simp [hc] at h
  rw [lrn1, hh] at h4
  simp only [Bool.not_true, Bool.false_or, List.any_eq_true] at h4
  obtain ⟨y, hy, hy'⟩ := h4
  have := mem_logs3.1 hy
  simp only [lrnD, Bool.and_eq_true, beq_iff_eq] at hy'
  exact ⟨y, this.1, this.2, hy'.2⟩
theorem out_dec {bad : Int} {l : List Ev} (h : Safe bad l) {t : Tx} (hh : hon bad t.coord = true) {i : Nat} {x : Ev} (hx : l[i]? = some x) (ho : isOut t x) : ∃ (j : Nat) (d : Ev), l[j]? = some d ∧ isDec t d ∧ d.rcd.yes = x.rcd.yes := by
  obtain ⟨h1, rfl, h3 | h3⟩ := ho
  · exact ⟨i, x, hx, ⟨h1, rfl, h3⟩, rfl⟩
  · obtain ⟨y, hy, hy', hyes⟩ := lrn_step h1 h3 hh (h.lrn hx)
    obtain ⟨j, hj⟩ := List.getElem?_of_mem (List.mem_of_mem_take hy)
    exact ⟨j, y, hj, hy', hyes⟩
theorem dec_one {bad : Int} {l : List Ev} (h : Safe bad l) {t : Tx} {i j : Nat} {x y : Ev} (hx : l[i]? = some x) (hy : l[j]? = some y) (hdx : isDec t x) (hdy : isDec t y) : i = j := by
  have main : ∀ {i j : Nat} {x y : Ev}, l[i]? = some x → l[j]? = some y → isDec t x → isDec t y → ¬ i < j := by
    intro i j x y hx hy hdx hdy hlt
    refine (dec_step hdy (h.dec hy)).1 x ?_ hdx
    exact List.mem_of_getElem? (i := i) (by rw [List.getElem?_take, if_pos hlt]; exact hx)
  have h1 := main hx hy hdx hdy
  have h2 := main hy hx hdy hdx
  omega
theorem out_same {bad : Int} {l : List Ev} (h : Safe bad l) {t : Tx} (hh : hon bad t.coord = true) {i j : Nat} {x y : Ev} (hx : l[i]? = some x) (hy : l[j]? = some y) (hox : isOut t x) (hoy : isOut t y) : x.rcd.yes = y.rcd.yes := by
  obtain ⟨a, d, hd, hd1, hd2⟩ := out_dec h hh hx hox
  obtain ⟨b, e, he, he1, he2⟩ := out_dec h hh hy hoy
  have := dec_one h hd he hd1 he1
  subst this
  rw [hd] at he
  simp only [Option.some.injEq] at he
  subst he
  rw [← hd2, ← he2]
theorem out_law {bad : Int} {l : List Ev} (h : Safe bad l) {t : Tx} (hh : hon bad t.coord = true) {i : Nat} {x : Ev} (hx : l[i]? = some x) (hox : isOut t x) : outP t l = (x.rcd.yes, true) := by
  unfold outP
  cases hf : (evsOf 2 l).find? (fun x => outK t x) with
  | none =>
    have := List.find?_eq_none.1 hf x (by simp only [evsOf, List.mem_filter, beq_iff_eq]; exact ⟨List.mem_of_getElem? hx, hox.1⟩)
    refine absurd ?_ this
    simp only [outK, Bool.and_eq_true, Bool.or_eq_true, beq_iff_eq, txEq_iff]
    exact hox.2
  | some y =>
    have hy := List.mem_of_find?_eq_some hf
    have hp := List.find?_some hf
    simp only [outK, Bool.and_eq_true, Bool.or_eq_true, beq_iff_eq, txEq_iff] at hp
    simp only [evsOf, List.mem_filter, beq_iff_eq] at hy
    obtain ⟨j, hj⟩ := List.getElem?_of_mem hy.1
    have := out_same h hh hj hx ⟨hy.2, hp.1, hp.2⟩ hox
    simp only [this]
theorem vote_law {bad : Int} {l : List Ev} (h : Safe bad l) {t : Tx} {i : Nat} {x : Ev} (hx : l[i]? = some x) (hd : isDec t x) (hy : x.rcd.yes = true) {m : Mb} (hm : m ∈ x.rcd.mem.xs) (hh : hon bad m.org = true) : votedP ⟨t, x.rcd.auditor, x.rcd.mem⟩ (l.take i) m.org = true := by
  have h1 := (dec_step hd (h.dec hx)).2 hy
  obtain ⟨_, rfl, _⟩ := hd
  simp only [allP, Bool.not_eq_true', List.any_eq_false] at h1
  have h2 := h1 m hm
  simp only [allK, hh, Bool.true_and, Bool.not_eq_true', Bool.not_eq_false] at h2
  exact h2
end Go.Proofs.Ytkokdpkmnjedfaa
