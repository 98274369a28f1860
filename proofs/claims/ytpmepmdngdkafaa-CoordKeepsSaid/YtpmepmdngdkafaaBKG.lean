import Derived.Test.YtpmepmdngdkafaaBKF
import Derived.Test.YtpmepmdngdkafaaBKA
import Derived.Test.YtpmepmdngdkafaaBKB
import Derived.ChangeMaps5
namespace Go.Proofs.Ytpmepmdngdkafaa
open Go.Chi

/-! ### the plain law: what a step keeps -/
def gv (a : Ca) (k : Nat) : Int := (a.votes[k]?).getD 0
def gt (a : Ca) (k : Nat) : ByteArray := (a.tags[k]?).getD ⟨#[]⟩
def ga (a : Ca) (k : Nat) : Bool := (a.acks[k]?).getD false
structure VOk (a : Ca) (k : Nat) : Prop where
  le : gv a k ≤ 2
  ack : ga a k = true → a.state ≠ 1
  com : a.state = 2 → gv a k = 1
  no : gv a k ≠ 1 → neT (gt a k) = false
  yes : gv a k = 1 → checkR (gt a k) = 0
structure MayP (a : Ca) : Prop where
  tx : mayTx a.txn = true
  au : 0 ≤ a.auditor ∧ a.auditor < 8
  mb : mayMb a.txn a.mem = true
  bl : a.bodies.length = a.mem.length ∨ (a.bodies.length = 0 ∧ a.state ≠ 1)
  bt : ∀ t ∈ a.bodies, isT t = true
  vl : a.votes.length = a.mem.length
  tl : a.tags.length = a.mem.length
  al : a.acks.length = a.mem.length
  v : ∀ k, k < a.mem.length → VOk a k
  st : 1 ≤ a.state ∧ a.state ≤ 3
  si : 0 ≤ a.since
  se : -1 ≤ a.sent
theorem onOk_iff (a : Ca) (k : Nat) : onOk a.co (onAt a.co k) = true ↔ VOk a k := by
  have e1 : (onAt a.co k).vote = gv a k := rfl
  have e2 : (onAt a.co k).tag = gt a k := rfl
  have e3 : (onAt a.co k).ack = ga a k := rfl
  have e4 : a.co.state = a.state := rfl
  simp only [onOk, badA, badB, e1, e2, e3, e4, Bool.and_eq_true, Bool.not_eq_true', Bool.or_eq_false_iff, Bool.and_eq_false_iff, decide_eq_false_iff_not, beq_eq_false_iff_ne, bne_eq_false_iff_eq]
  constructor
  · rintro ⟨⟨h1, h2, h3⟩, h4, h5⟩
    refine ⟨by omega, fun h e => ?_, fun h => ?_, fun h => ?_, fun h => ?_⟩
    · rcases h2 with h2 | h2
      · rw [h] at h2; cases h2
      · exact h2 e
    · exact h3.resolve_left (fun x => x h)
    · exact h4.resolve_left h
    · exact h5.resolve_left (fun x => x h)
  · intro h
    refine ⟨⟨by have := h.le; omega, ?_, ?_⟩, ?_, ?_⟩
    · cases hk : ga a k
      · exact .inl rfl
      · exact .inr (h.ack hk)
    · by_cases hs : a.state = 2
      · exact .inr (h.com hs)
      · exact .inl hs
    · by_cases hv : gv a k = 1
      · exact .inl hv
      · exact .inr (h.no hv)
    · by_cases hv : gv a k = 1
      · exact .inr (h.yes hv)
      · exact .inl hv
theorem may_iff (a : Ca) : mayA a = true ↔ MayP a := by
  have ev : votesR a.co = true ↔ ∀ k, k < a.mem.length → VOk a k := by
    simp only [votesR, ons, List.all_eq_true, List.mem_map, List.mem_range]
    constructor
    · intro h k hk
      exact (onOk_iff a k).1 (h _ ⟨k, hk, rfl⟩)
    · rintro h _ ⟨k, hk, rfl⟩
      exact (onOk_iff a k).2 (h k hk)
  have en : namesR a.co = true ↔ mayTx a.txn = true ∧ (0 ≤ a.auditor ∧ a.auditor < 8) ∧ mayMb a.txn a.mem = true := by
    rw [show namesR a.co = (((mayTx a.txn && decide (a.auditor ≥ 0)) && decide (a.auditor < 8)) && mayMb a.txn a.mem) from rfl]
    simp only [Bool.and_eq_true, decide_eq_true_eq, ge_iff_le, and_assoc]
  have er : rowsR a.co = true ↔ ((a.bodies.length = a.mem.length ∨ (a.bodies.length = 0 ∧ a.state ≠ 1)) ∧ ∀ t ∈ a.bodies, isT t = true) ∧ a.votes.length = a.mem.length ∧ a.tags.length = a.mem.length ∧ a.acks.length = a.mem.length := by
    simp only [rowsR, bodiesR, Ca.co, Bool.and_eq_true, Bool.or_eq_true, beq_iff_eq, bne_iff_ne, List.all_eq_true, and_assoc, Int.natCast_inj]
    constructor
    · rintro ⟨h1, h2, h3, h4, h5⟩
      exact ⟨h1.imp id (fun h => ⟨by omega, h.2⟩), h2, h3, h4, h5⟩
    · rintro ⟨h1, h2, h3, h4, h5⟩
      exact ⟨h1.imp id (fun h => ⟨by omega, h.2⟩), h2, h3, h4, h5⟩
  have et : timesR a.co = true ↔ (1 ≤ a.state ∧ a.state ≤ 3) ∧ 0 ≤ a.since ∧ -1 ≤ a.sent := by
    rw [show timesR a.co = (((decide (a.state ≥ 1) && decide (a.state ≤ 3)) && decide (a.since ≥ 0)) && decide (a.sent ≥ -1)) from rfl]
    simp only [Bool.and_eq_true, decide_eq_true_eq, ge_iff_le, and_assoc]
  unfold mayA coOk
  rw [Bool.and_eq_true, Bool.and_eq_true, Bool.and_eq_true, en, er, ev, et]
  constructor
  · rintro ⟨⟨⟨⟨h1, h2, h3⟩, ⟨h4, h5⟩, h6, h7, h8⟩, h9⟩, h10, h11, h12⟩
    exact ⟨h1, h2, h3, h4, h5, h6, h7, h8, h9, h10, h11, h12⟩
  · intro h
    exact ⟨⟨⟨⟨h.tx, h.au, h.mb⟩, ⟨h.bl, h.bt⟩, h.vl, h.tl, h.al⟩, h.v⟩, h.st, h.si, h.se⟩
/-- what is kept -/
structure KeepP (a d : Ca) : Prop where
  may : MayP d
  txn : d.txn = a.txn
  au : d.auditor = a.auditor
  si : d.since = a.since
  mem : d.mem = a.mem
  bod : d.bodies = a.bodies
  vl : d.votes.length = a.votes.length
  al : d.acks.length = a.acks.length
  tl : d.tags.length = a.tags.length
  v : ∀ k, gv a k ≠ 0 → gv d k = gv a k ∧ gt d k = gt a k
  k : ∀ k, ga a k = true → ga d k = true
  s : a.state ≠ 1 → d.state = a.state ∧ d.tags = a.tags
theorem KeepP.refl {a : Ca} (h : MayP a) : KeepP a a := ⟨h, rfl, rfl, rfl, rfl, rfl, rfl, rfl, rfl, fun _ _ => ⟨rfl, rfl⟩, fun _ h => h, fun _ => ⟨rfl, rfl⟩⟩
def Nn (a : Ca) : Prop := ∀ v ∈ a.votes, 0 ≤ v
theorem Nn.get {a : Ca} (h : Nn a) (k : Nat) : 0 ≤ gv a k := by
  unfold gv
  cases hk : a.votes[k]? with
  | none => simp
  | some v => exact h v (List.mem_of_getElem? hk)
theorem get_set {α : Type} (l : List α) (i k : Nat) (x d : α) (hi : i < l.length) : ((l.set i x)[k]?).getD d = if k = i then x else (l[k]?).getD d := by
  by_cases h : k = i
  · subst h; simp [hi]
  · rw [if_neg h, List.getElem?_set_ne (fun e => h e.symm)]
theorem mark_keep {a d : Ca} {now : Int} (h : markA a now = (d, 0)) : KeepP a d ∧ (Nn a → Nn d) := by
  unfold markA at h
  split at h
  · rename_i hm
    cases h
    have hp := (may_iff a).1 hm.1
    refine ⟨⟨⟨hp.tx, hp.au, hp.mb, hp.bl, hp.bt, hp.vl, hp.tl, hp.al, fun k hk => ?_, hp.st, hp.si, by have := hm.2; show -1 ≤ now; omega⟩, rfl, rfl, rfl, rfl, rfl, rfl, rfl, rfl, fun _ _ => ⟨rfl, rfl⟩, fun _ h => h, fun _ => ⟨rfl, rfl⟩⟩, fun h => h⟩
    have := hp.v k hk
    exact ⟨this.le, this.ack, this.com, this.no, this.yes⟩
  · cases h
theorem ack_keep {a d : Ca} {org : Int} (h : ackA a org = (d, 0)) : KeepP a d ∧ (Nn a → Nn d) := by
  unfold ackA at h
  split at h
  · rename_i hm
    have hp := (may_iff a).1 hm
    cases hk : memR a.mem org with
    | none => rw [hk] at h; cases h
    | some i =>
      rw [hk] at h
      simp only at h
      split at h
      · cases h
      rename_i hs
      split at h
      · cases h
      cases h
      have hs : a.state ≠ 1 := by simpa using hs
      have hi : i < a.acks.length := by rw [hp.al]; exact memR_lt hk
      have hg : ∀ k, ga { a with acks := a.acks.set i true } k = if k = i then true else ga a k := fun k => get_set a.acks i k true false hi
      refine ⟨⟨⟨hp.tx, hp.au, hp.mb, hp.bl, hp.bt, hp.vl, hp.tl, by simp [hp.al], fun k hk => ?_, hp.st, hp.si, hp.se⟩, rfl, rfl, rfl, rfl, rfl, rfl, by simp, rfl, fun _ _ => ⟨rfl, rfl⟩, fun k h => by rw [hg]; split <;> simp_all, fun _ => ⟨rfl, rfl⟩⟩, fun h => h⟩
      have := hp.v k hk
      exact ⟨this.le, fun _ => hs, this.com, this.no, this.yes⟩
  · cases h
theorem decide_keep {a d : Ca} {commit : Bool} (hn : Nn a) (h : decideA a commit = (d, 0)) : KeepP a d ∧ (Nn a → Nn d) := by
  unfold decideA at h
  split at h
  · rename_i hm
    have hp := (may_iff a).1 hm
    split at h
    · cases h
    rename_i hs
    cases h
    have hs1 : a.state = 1 := Classical.byContradiction fun e => hs (.inl (by simpa using e))
    have hbl : a.bodies.length = a.mem.length := hp.bl.resolve_right (fun h => h.2 hs1)
    refine ⟨⟨⟨hp.tx, hp.au, hp.mb, .inl hbl, hp.bt, hp.vl, hp.tl, hp.al, fun k hk => ?_, by show 1 ≤ (if commit = true then (2 : Int) else 3) ∧ (if commit = true then (2 : Int) else 3) ≤ 3; split <;> omega, hp.si, Int.le_refl _⟩, rfl, rfl, rfl, rfl, rfl, rfl, rfl, rfl, fun _ _ => ⟨rfl, rfl⟩, fun _ h => h, fun e => absurd hs1 e⟩, fun h => h⟩
    have hv := hp.v k hk
    refine ⟨hv.le, fun _ => ?_, fun hc => ?_, hv.no, hv.yes⟩
    · show (if commit = true then (2 : Int) else 3) ≠ 1
      split <;> omega
    · have hcm : commit = true := by
        replace hc : (if commit = true then (2 : Int) else 3) = 2 := hc
        split at hc
        · assumption
        · cases hc
      have hy : allYes a = true := by
        cases hy : allYes a
        · exact absurd (.inr ⟨hcm, hy⟩) hs
        · rfl
      simp only [allYes, hasR, Bool.not_eq_true', Bool.or_eq_false_iff, List.any_eq_false, beq_iff_eq] at hy
      show gv a k = 1
      have hkl : k < a.votes.length := by rw [hp.vl]; exact hk
      have hg : gv a k = a.votes[k] := by unfold gv; rw [List.getElem?_eq_getElem hkl]; rfl
      have h1 := hy.1 _ (List.getElem_mem hkl)
      have h2 := hy.2 _ (List.getElem_mem hkl)
      have h3 := hv.le
      have h4 := hn.get k
      rw [hg] at h3 h4 ⊢
      omega
  · cases h
theorem vote_keep {a d : Ca} {org : Int} {yes : Bool} {tag : ByteArray} (h : voteA a org yes tag = (d, 0)) : KeepP a d ∧ (Nn a → Nn d) := by
  unfold voteA at h
  split at h
  · rename_i hm
    have hp := (may_iff a).1 hm.1
    have hb := hm.2
    cases hk : memR a.mem org with
    | none => rw [hk] at h; cases h
    | some i =>
      rw [hk] at h
      simp only at h
      split at h
      · cases h
      rename_i hs
      split at h
      · cases h
      rename_i hz
      cases h
      have hs1 : a.state = 1 := by simpa using hs
      have hz0 : gv a i = 0 := (by simpa [bne] using hz : (a.votes[i]?).getD 0 = 0)
      have him := memR_lt hk
      have hiv : i < a.votes.length := by rw [hp.vl]; exact him
      have hit : i < a.tags.length := by rw [hp.tl]; exact him
      have hgv : ∀ k, gv { a with votes := a.votes.set i (if yes = true then 1 else 2), tags := a.tags.set i tag } k = if k = i then (if yes = true then 1 else 2) else gv a k := fun k => get_set a.votes i k _ 0 hiv
      have hgt : ∀ k, gt { a with votes := a.votes.set i (if yes = true then 1 else 2), tags := a.tags.set i tag } k = if k = i then tag else gt a k := fun k => get_set a.tags i k _ _ hit
      refine ⟨⟨⟨hp.tx, hp.au, hp.mb, hp.bl, hp.bt, by simp [hp.vl], by simp [hp.tl], hp.al, fun k hk => ?_, hp.st, hp.si, hp.se⟩, rfl, rfl, rfl, rfl, rfl, by simp, rfl, by simp, fun k hv => ?_, fun _ h => h, fun e => absurd hs1 e⟩, fun hn v hv => ?_⟩
      · have hv := hp.v k hk
        have hg := hgv k
        have ht := hgt k
        refine ⟨?_, hv.ack, fun e => ?_, fun e => ?_, fun e => ?_⟩
        · rw [hg]
          split
          · split <;> omega
          · exact hv.le
        · exact absurd (show a.state = 2 from e) (by rw [hs1]; decide)
        · rw [hg] at e
          rw [ht]
          split at e
          · rename_i hki
            rw [if_pos hki]
            have hy : yes = false := by
              cases yes
              · rfl
              · exact absurd rfl e
            rw [hy] at hb
            cases hn : neT tag
            · rfl
            · unfold voteBad at hb
              rw [hn] at hb
              simp at hb
          · rename_i hki
            rw [if_neg hki]
            exact hv.no e
        · rw [hg] at e
          rw [ht]
          split at e
          · rename_i hki
            rw [if_pos hki]
            have hy : yes = true := by
              cases yes
              · simp at e
              · rfl
            rw [hy] at hb
            unfold voteBad at hb
            simp only [Bool.or_eq_false_iff, Bool.true_and] at hb
            simpa [bne] using hb.2
          · rename_i hki
            rw [if_neg hki]
            exact hv.yes e
      · have hki : k ≠ i := fun e => by subst e; exact hv hz0
        rw [hgv, hgt, if_neg hki, if_neg hki]
        exact ⟨rfl, rfl⟩
      · rcases List.mem_or_eq_of_mem_set hv with h | h
        · exact hn v h
        · rw [h]
          split <;> omega
  · cases h
theorem new_keep {t : Tx} {au : Int} {mem : List Mb} {bodies : List ByteArray} {now : Int} {d : Ca} (h : newA t au mem bodies now = (d, 0)) : MayP d ∧ d.state = 1 ∧ Nn d := by
  unfold newA at h
  split at h
  · cases h
  unfold madeA at h
  split at h
  · rename_i hm
    cases h
    refine ⟨(may_iff _).1 hm, rfl, fun v hv => ?_⟩
    have hv : v ∈ List.replicate mem.length (0 : Int) := hv
    rw [(List.mem_replicate.1 hv).2]
    exact Int.le_refl _
  · cases h
theorem new_err {t : Tx} {au : Int} {mem : List Mb} {bodies : List ByteArray} {now : Int} (h : (newA t au mem bodies now).2 ≠ 0) : newA t au mem bodies now = (caZ, 2) := by
  unfold newA at h ⊢
  split
  · rfl
  · rename_i h1
    rw [if_neg h1] at h
    unfold madeA at h ⊢
    split
    · rename_i h2
      rw [if_pos h2] at h
      exact absurd rfl h
    · rfl
end Go.Proofs.Ytpmepmdngdkafaa
namespace Go.Proofs.Ytpmepmdngdkafaa
open Go.Chi

set_option maxRecDepth 10000 in
theorem sameRp_ok (M : Mem) (L : HL) (t t' : Tx) (au au' : Int) (s s' : SMb) (ts ts' : SStr) (h1 : t = t') (h2 : au = au') (hs : MbOk M s) (hs' : MbOk M s') (h3 : s.xs = s'.xs) (ht : StOk M ts) (ht' : StOk M ts') (h4 : ts.xs = ts'.xs) : TrQ Try.prog 44 [.agg ⟨rpC t au s ts⟩, .agg ⟨rpC t' au' s' ts'⟩] M L (.bool true) := by
  subst h1 h2
  refine Tr.intro 31 Try.func44 rfl rfl Try.call44 rfl ?_
  intro C hC hro
  repeat (first | with_reducible (first | refine run_seq ?_ | refine run_region ?_ | refine runL_nil ?_ | refine run_skip ?_ | refine run_block ?_ | refine run_inBlock ?_) | refine run_exit rfl ?_ | refine runL_q (qt_pev tok rfl) rfl rfl rfl ?_ | refine runL_g rfl rfl (qt_pev tok rfl) rfl rfl rfl rfl rfl ?_ | refine runL_q (ql tok rfl) rfl rfl rfl ?_ | refine runL_g rfl rfl (ql tok rfl) rfl rfl rfl rfl rfl ?_ | (refine runL_op0 (sst tok rfl rfl rfl rfl rfl) ?_; rintro _ _ _ ⟨rfl, rfl, rfl⟩) | (refine runL_op (st_box rfl) rfl rfl rfl ?_; rintro _ _ _ ⟨_, rfl, rfl, rfl⟩) | (refine runL_op (st_alloc tok rfl) rfl rfl rfl ?_; rintro _ _ _ ⟨_, rfl, rfl, rfl⟩) | (refine runL_op (st_buildSlice tok rfl rfl rfl rfl rfl rfl rfl) rfl rfl rfl ?_; rintro _ _ _ ⟨_, rfl, rfl, rfl⟩) | refine runL_g rfl rfl (qt_callF rfl (fun _ => sameMb_ok _ _ s s' hs hs' h3)) rfl rfl rfl rfl rfl ?_ | refine runL_g rfl rfl (qt_callF rfl (fun _ => sameSt_ok _ _ ts ts' ht ht' h4)) rfl rfl rfl rfl rfl ?_)
  exact run_ret hC (rs := [.tmp 4]) rfl (resT rfl resN) (fun _ h => h.drop.drop) ⟨by simp [resVal], rfl, rfl⟩

/-! ### a step -/
structure Stp where
  do_ : Int
  org : Int
  yes : Bool
  tag : ByteArray
  now : Int
def stpC (x : Stp) : List Value := [.int .u8 x.do_, .int .i64 x.org, .bool x.yes, .string x.tag, .int .i64 x.now]
def stepA (a : Ca) (x : Stp) : Ca × Int :=
  if (x.do_.tmod 4 == 0) = true then voteA a x.org x.yes x.tag else if (x.do_.tmod 4 == 1) = true then decideA a x.yes else if (x.do_.tmod 4 == 2) = true then ackA a x.org else markA a x.now
theorem step_keep {a d : Ca} {x : Stp} (hn : Nn a) (h : stepA a x = (d, 0)) : KeepP a d ∧ Nn d := by
  unfold stepA at h
  split at h
  · exact ⟨(vote_keep h).1, (vote_keep h).2 hn⟩
  split at h
  · exact ⟨(decide_keep hn h).1, (decide_keep hn h).2 hn⟩
  split at h
  · exact ⟨(ack_keep h).1, (ack_keep h).2 hn⟩
  · exact ⟨(mark_keep h).1, (mark_keep h).2 hn⟩
set_option maxRecDepth 10000 in
set_option maxHeartbeats 8000000 in
theorem does_ok (M : Mem) (L : HL) (c : Co) (h : CoOk M c) (x : Stp) (ht : x.tag.size < 4611686018427387904) : Tr Try.prog 22 [.agg ⟨coC c⟩, .agg ⟨stpC x⟩] M L (CoK M L (stepA c.ab x)) := by
  refine Tr.intro 43 Try.func22 rfl rfl Try.call22 rfl ?_
  intro C hC hro
  repeat (first | with_reducible (first | refine run_seq ?_ | refine run_region ?_ | refine runL_nil ?_ | refine run_skip ?_ | refine run_block ?_ | refine run_inBlock ?_) | refine run_exit rfl ?_ | refine runL_q (qt_pev tok rfl) rfl rfl rfl ?_ | refine runL_g rfl rfl (qt_pev tok rfl) rfl rfl rfl rfl rfl ?_ | refine runL_q (ql tok rfl) rfl rfl rfl ?_ | refine runL_g rfl rfl (ql tok rfl) rfl rfl rfl rfl rfl ?_ | (refine runL_op0 (sst tok rfl rfl rfl rfl rfl) ?_; rintro _ _ _ ⟨rfl, rfl, rfl⟩) | (refine runL_op (st_box rfl) rfl rfl rfl ?_; rintro _ _ _ ⟨_, rfl, rfl, rfl⟩) | (refine runL_op (st_alloc tok rfl) rfl rfl rfl ?_; rintro _ _ _ ⟨_, rfl, rfl, rfl⟩) | (refine runL_op (st_buildSlice tok rfl rfl rfl rfl rfl rfl rfl) rfl rfl rfl ?_; rintro _ _ _ ⟨_, rfl, rfl, rfl⟩) | refine runL_q (qt_rem rfl rfl (fun _ => by decide)) rfl rfl rfl ?_)
  refine run_cond rfl (fun h1 => ?_) (fun h1 => ?_)
  · rw [stepA, if_pos h1] at hC
    repeat (first | with_reducible (first | refine run_seq ?_ | refine run_region ?_ | refine runL_nil ?_ | refine run_skip ?_ | refine run_block ?_ | refine run_inBlock ?_) | refine run_exit rfl ?_ | refine runL_q (qt_pev tok rfl) rfl rfl rfl ?_ | refine runL_g rfl rfl (qt_pev tok rfl) rfl rfl rfl rfl rfl ?_ | refine runL_q (ql tok rfl) rfl rfl rfl ?_ | refine runL_g rfl rfl (ql tok rfl) rfl rfl rfl rfl rfl ?_ | (refine runL_op0 (sst tok rfl rfl rfl rfl rfl) ?_; rintro _ _ _ ⟨rfl, rfl, rfl⟩) | (refine runL_op (st_box rfl) rfl rfl rfl ?_; rintro _ _ _ ⟨_, rfl, rfl, rfl⟩) | (refine runL_op (st_alloc tok rfl) rfl rfl rfl ?_; rintro _ _ _ ⟨_, rfl, rfl, rfl⟩) | (refine runL_op (st_buildSlice tok rfl rfl rfl rfl rfl rfl rfl) rfl rfl rfl ?_; rintro _ _ _ ⟨_, rfl, rfl, rfl⟩) | (refine runL_op (st_callF rfl (fun _ => vote_ok _ _ c h x.org x.yes x.tag ht)) rfl rfl rfl ?_; rintro _ M1 _ ⟨hM1, rfl, c', rfl, hab, hok⟩))
    exact run_ret hC (rs := [.cell 4 29, .tmp 5]) rfl (rl tok rfl (resT rfl resN)) (fun _ h => h.drop.drop.drop) ⟨hM1, rfl, c', rfl, hab, hok⟩
  rw [stepA, if_neg (by rw [h1]; simp)] at hC
  repeat (first | with_reducible (first | refine run_seq ?_ | refine run_region ?_ | refine runL_nil ?_ | refine run_skip ?_ | refine run_block ?_ | refine run_inBlock ?_) | refine run_exit rfl ?_ | refine runL_q (qt_pev tok rfl) rfl rfl rfl ?_ | refine runL_g rfl rfl (qt_pev tok rfl) rfl rfl rfl rfl rfl ?_ | refine runL_q (ql tok rfl) rfl rfl rfl ?_ | refine runL_g rfl rfl (ql tok rfl) rfl rfl rfl rfl rfl ?_ | (refine runL_op0 (sst tok rfl rfl rfl rfl rfl) ?_; rintro _ _ _ ⟨rfl, rfl, rfl⟩) | (refine runL_op (st_box rfl) rfl rfl rfl ?_; rintro _ _ _ ⟨_, rfl, rfl, rfl⟩) | (refine runL_op (st_alloc tok rfl) rfl rfl rfl ?_; rintro _ _ _ ⟨_, rfl, rfl, rfl⟩) | (refine runL_op (st_buildSlice tok rfl rfl rfl rfl rfl rfl rfl) rfl rfl rfl ?_; rintro _ _ _ ⟨_, rfl, rfl, rfl⟩))
  refine run_cond rfl (fun h2 => ?_) (fun h2 => ?_)
  · rw [if_pos h2] at hC
    repeat (first | with_reducible (first | refine run_seq ?_ | refine run_region ?_ | refine runL_nil ?_ | refine run_skip ?_ | refine run_block ?_ | refine run_inBlock ?_) | refine run_exit rfl ?_ | refine runL_q (qt_pev tok rfl) rfl rfl rfl ?_ | refine runL_g rfl rfl (qt_pev tok rfl) rfl rfl rfl rfl rfl ?_ | refine runL_q (ql tok rfl) rfl rfl rfl ?_ | refine runL_g rfl rfl (ql tok rfl) rfl rfl rfl rfl rfl ?_ | (refine runL_op0 (sst tok rfl rfl rfl rfl rfl) ?_; rintro _ _ _ ⟨rfl, rfl, rfl⟩) | (refine runL_op (st_box rfl) rfl rfl rfl ?_; rintro _ _ _ ⟨_, rfl, rfl, rfl⟩) | (refine runL_op (st_alloc tok rfl) rfl rfl rfl ?_; rintro _ _ _ ⟨_, rfl, rfl, rfl⟩) | (refine runL_op (st_buildSlice tok rfl rfl rfl rfl rfl rfl rfl) rfl rfl rfl ?_; rintro _ _ _ ⟨_, rfl, rfl, rfl⟩) | (refine runL_op (st_callF rfl (fun _ => decide_ok _ _ c h x.yes)) rfl rfl rfl ?_; rintro _ M1 _ ⟨hM1, rfl, c', rfl, hab, hok⟩))
    exact run_ret hC (rs := [.cell 4 29, .tmp 5]) rfl (rl tok rfl (resT rfl resN)) (fun _ h => h.drop.drop.drop) ⟨hM1, rfl, c', rfl, hab, hok⟩
  rw [if_neg (by rw [h2]; simp)] at hC
  repeat (first | with_reducible (first | refine run_seq ?_ | refine run_region ?_ | refine runL_nil ?_ | refine run_skip ?_ | refine run_block ?_ | refine run_inBlock ?_) | refine run_exit rfl ?_ | refine runL_q (qt_pev tok rfl) rfl rfl rfl ?_ | refine runL_g rfl rfl (qt_pev tok rfl) rfl rfl rfl rfl rfl ?_ | refine runL_q (ql tok rfl) rfl rfl rfl ?_ | refine runL_g rfl rfl (ql tok rfl) rfl rfl rfl rfl rfl ?_ | (refine runL_op0 (sst tok rfl rfl rfl rfl rfl) ?_; rintro _ _ _ ⟨rfl, rfl, rfl⟩) | (refine runL_op (st_box rfl) rfl rfl rfl ?_; rintro _ _ _ ⟨_, rfl, rfl, rfl⟩) | (refine runL_op (st_alloc tok rfl) rfl rfl rfl ?_; rintro _ _ _ ⟨_, rfl, rfl, rfl⟩) | (refine runL_op (st_buildSlice tok rfl rfl rfl rfl rfl rfl rfl) rfl rfl rfl ?_; rintro _ _ _ ⟨_, rfl, rfl, rfl⟩))
  refine run_cond rfl (fun h3 => ?_) (fun h3 => ?_)
  · rw [if_pos h3] at hC
    repeat (first | with_reducible (first | refine run_seq ?_ | refine run_region ?_ | refine runL_nil ?_ | refine run_skip ?_ | refine run_block ?_ | refine run_inBlock ?_) | refine run_exit rfl ?_ | refine runL_q (qt_pev tok rfl) rfl rfl rfl ?_ | refine runL_g rfl rfl (qt_pev tok rfl) rfl rfl rfl rfl rfl ?_ | refine runL_q (ql tok rfl) rfl rfl rfl ?_ | refine runL_g rfl rfl (ql tok rfl) rfl rfl rfl rfl rfl ?_ | (refine runL_op0 (sst tok rfl rfl rfl rfl rfl) ?_; rintro _ _ _ ⟨rfl, rfl, rfl⟩) | (refine runL_op (st_box rfl) rfl rfl rfl ?_; rintro _ _ _ ⟨_, rfl, rfl, rfl⟩) | (refine runL_op (st_alloc tok rfl) rfl rfl rfl ?_; rintro _ _ _ ⟨_, rfl, rfl, rfl⟩) | (refine runL_op (st_buildSlice tok rfl rfl rfl rfl rfl rfl rfl) rfl rfl rfl ?_; rintro _ _ _ ⟨_, rfl, rfl, rfl⟩) | (refine runL_op (st_callF rfl (fun _ => ack_ok _ _ c h x.org)) rfl rfl rfl ?_; rintro _ M1 _ ⟨hM1, rfl, c', rfl, hab, hok⟩))
    exact run_ret hC (rs := [.cell 4 29, .tmp 5]) rfl (rl tok rfl (resT rfl resN)) (fun _ h => h.drop.drop.drop) ⟨hM1, rfl, c', rfl, hab, hok⟩
  rw [if_neg (by rw [h3]; simp)] at hC
  repeat (first | with_reducible (first | refine run_seq ?_ | refine run_region ?_ | refine runL_nil ?_ | refine run_skip ?_ | refine run_block ?_ | refine run_inBlock ?_) | refine run_exit rfl ?_ | refine runL_q (qt_pev tok rfl) rfl rfl rfl ?_ | refine runL_g rfl rfl (qt_pev tok rfl) rfl rfl rfl rfl rfl ?_ | refine runL_q (ql tok rfl) rfl rfl rfl ?_ | refine runL_g rfl rfl (ql tok rfl) rfl rfl rfl rfl rfl ?_ | (refine runL_op0 (sst tok rfl rfl rfl rfl rfl) ?_; rintro _ _ _ ⟨rfl, rfl, rfl⟩) | (refine runL_op (st_box rfl) rfl rfl rfl ?_; rintro _ _ _ ⟨_, rfl, rfl, rfl⟩) | (refine runL_op (st_alloc tok rfl) rfl rfl rfl ?_; rintro _ _ _ ⟨_, rfl, rfl, rfl⟩) | (refine runL_op (st_buildSlice tok rfl rfl rfl rfl rfl rfl rfl) rfl rfl rfl ?_; rintro _ _ _ ⟨_, rfl, rfl, rfl⟩) | (refine runL_op (st_callF rfl (fun _ => mark_ok _ _ c h x.now)) rfl rfl rfl ?_; rintro _ M1 _ ⟨hM1, rfl, c', rfl, hab, hok⟩))
  exact run_ret hC (rs := [.cell 4 29, .tmp 5]) rfl (rl tok rfl (resT rfl resN)) (fun _ h => h.drop.drop.drop) ⟨hM1, rfl, c', rfl, hab, hok⟩

/-! ### what keeps -/
set_option maxRecDepth 10000 in
set_option maxHeartbeats 32000000 in
theorem keeps_ok (M : Mem) (L : HL) (w c : Co) (hw : CoOk M w) (hc : CoOk M c) (hk : KeepP w.ab c.ab) : Tr Try.prog 21 [.agg ⟨coC w⟩, .agg ⟨coC c⟩] M L (fun v M' L' => v = .bool true ∧ M.le M' ∧ L = L') := by
  have hm : mayA c.ab = true := (may_iff _).2 hk.may
  have hE : coE c = 0 := by rw [coE_ab hc.lens, if_pos hm]
  have hr := mayA_rows hc hm
  have hlw := hw.lens
  have hlc := hc.lens
  obtain ⟨wt, wau, ⟨wma, wml, wmc, wmx⟩, ⟨wba, wbl, wbc, wbx⟩, ⟨wva, wvl, wvc, wvx⟩, ⟨wta, wtl, wtc, wtx⟩, ⟨wka, wkl, wkc, wkx⟩, wst, wsi, wse⟩ := w
  obtain ⟨ct, cau, ⟨cma, cml, cmc, cmx⟩, ⟨cba, cbl, cbc, cbx⟩, ⟨cva, cvl, cvc, cvx⟩, ⟨cta, ctl, ctc, ctx⟩, ⟨cka, ckl, ckc, ckx⟩, cst, csi, cse⟩ := c
  have e1 : ct = wt := hk.txn
  have e2 : cau = wau := hk.au
  have e3 : csi = wsi := hk.si
  have e4 : cmx = wmx := hk.mem
  have e5 : cbx = wbx := hk.bod
  have l1 : wvx.length = wvl := hlw.votes
  have l2 : wtx.length = wtl := hlw.tags
  have l3 : wkx.length = wkl := hlw.acks
  have l4 : cvx.length = cvl := hlc.votes
  have l5 : ctx.length = ctl := hlc.tags
  have l6 : ckx.length = ckl := hlc.acks
  have k1 : cvx.length = wvx.length := hk.vl
  have k2 : ckx.length = wkx.length := hk.al
  have k3 : ctx.length = wtx.length := hk.tl
  have r1 : cvl = cml := hr.votes
  have r2 : ctl = cml := hr.tags
  have r3 : ckl = cml := hr.acks
  have hv6 : cvl < 1000000 := hc.votes.2
  subst e1 e2 e3
  refine Tr.intro 205 Try.func21 rfl rfl Try.call21 rfl ?_
  intro C hC hro
  repeat (first | with_reducible (first | refine run_seq ?_ | refine run_region ?_ | refine runL_nil ?_ | refine run_skip ?_ | refine run_block ?_ | refine run_inBlock ?_) | refine run_exit rfl ?_ | refine runL_q (qt_pev tok rfl) rfl rfl rfl ?_ | refine runL_g rfl rfl (qt_pev tok rfl) rfl rfl rfl rfl rfl ?_ | refine runL_q (ql tok rfl) rfl rfl rfl ?_ | refine runL_g rfl rfl (ql tok rfl) rfl rfl rfl rfl rfl ?_ | (refine runL_op0 (sst tok rfl rfl rfl rfl rfl) ?_; rintro _ _ _ ⟨rfl, rfl, rfl⟩) | (refine runL_op (st_box rfl) rfl rfl rfl ?_; rintro _ _ _ ⟨_, rfl, rfl, rfl⟩) | (refine runL_op (st_alloc tok rfl) rfl rfl rfl ?_; rintro _ _ _ ⟨_, rfl, rfl, rfl⟩) | (refine runL_op (st_buildSlice tok rfl rfl rfl rfl rfl rfl rfl) rfl rfl rfl ?_; rintro _ _ _ ⟨_, rfl, rfl, rfl⟩) | refine runL_q (qt_callF rfl (fun _ => coCheck_ok _ _ _ hc)) rfl rfl rfl ?_ | refine runL_g rfl rfl (qt_callF rfl (fun _ => sameMb_ok _ _ _ _ hc.mem hw.mem e4)) rfl rfl rfl rfl rfl ?_ | refine runL_g rfl rfl (qt_callF rfl (fun _ => sameSt_ok _ _ _ _ hc.bodies hw.bodies e5)) rfl rfl rfl rfl rfl ?_)
  rename_i b2 b3
  have q1 : cvl = wvl := by omega
  have q2 : cvl = wkl := by omega
  have q3 : cvl = wtl := by omega
  have q4 : cvl = ctl := by omega
  have q5 : cvl = ckl := by omega
  subst q1 q2 q3 q4 q5
  refine run_cond rfl (fun h => ?_) (fun _ => ?_)
  · exfalso
    rw [hE] at h
    simp at h
  repeat (first | with_reducible (first | refine run_seq ?_ | refine run_region ?_ | refine runL_nil ?_ | refine run_skip ?_ | refine run_block ?_ | refine run_inBlock ?_) | refine run_exit rfl ?_ | refine runL_q (qt_pev tok rfl) rfl rfl rfl ?_ | refine runL_g rfl rfl (qt_pev tok rfl) rfl rfl rfl rfl rfl ?_ | refine runL_q (ql tok rfl) rfl rfl rfl ?_ | refine runL_g rfl rfl (ql tok rfl) rfl rfl rfl rfl rfl ?_ | (refine runL_op0 (sst tok rfl rfl rfl rfl rfl) ?_; rintro _ _ _ ⟨rfl, rfl, rfl⟩) | (refine runL_op (st_box rfl) rfl rfl rfl ?_; rintro _ _ _ ⟨_, rfl, rfl, rfl⟩) | (refine runL_op (st_alloc tok rfl) rfl rfl rfl ?_; rintro _ _ _ ⟨_, rfl, rfl, rfl⟩) | (refine runL_op (st_buildSlice tok rfl rfl rfl rfl rfl rfl rfl) rfl rfl rfl ?_; rintro _ _ _ ⟨_, rfl, rfl, rfl⟩))
  refine run_loopN (fun j σ1 M1 L1 => j ≤ cvl ∧ M = M1 ∧ L1 = (b3, .cells ⟨coC ⟨ct, cau, ⟨cma, cml, cmc, cmx⟩, ⟨cba, cbl, cbc, cbx⟩, ⟨cva, cvl, cvc, cvx⟩, ⟨cta, cvl, ctc, ctx⟩, ⟨cka, cvl, ckc, ckx⟩, cst, csi, cse⟩⟩ 29 (0, 0)) :: (b2, .cells ⟨coC ⟨ct, cau, ⟨wma, wml, wmc, wmx⟩, ⟨wba, wbl, wbc, wbx⟩, ⟨wva, cvl, wvc, wvx⟩, ⟨wta, cvl, wtc, wtx⟩, ⟨wka, cvl, wkc, wkx⟩, wst, csi, wse⟩⟩ 29 (0, 0)) :: L ∧ σ1 = [(5, .int .i64 (j : Int)), (3, .pointer (some ⟨b3, 0, none⟩)), (2, .pointer (some ⟨b2, 0, none⟩))]) cvl [(5, .int .i64 ((0 : Nat) : Int)), (3, .pointer (some ⟨b3, 0, none⟩)), (2, .pointer (some ⟨b2, 0, none⟩))] ?_ ⟨Nat.zero_le _, rfl, rfl, rfl⟩ (fun j _ _ _ h => h.1) ?_
  · exact ⟨rfl, rfl, rfl, trivial⟩
  rintro j _ _ _ ⟨hj, rfl, rfl, rfl⟩ hnext
  repeat (first | with_reducible (first | refine run_seq ?_ | refine run_region ?_ | refine runL_nil ?_ | refine run_skip ?_ | refine run_block ?_ | refine run_inBlock ?_) | refine run_exit rfl ?_ | refine runL_q (qt_pev tok rfl) rfl rfl rfl ?_ | refine runL_g rfl rfl (qt_pev tok rfl) rfl rfl rfl rfl rfl ?_ | refine runL_q (ql tok rfl) rfl rfl rfl ?_ | refine runL_g rfl rfl (ql tok rfl) rfl rfl rfl rfl rfl ?_ | (refine runL_op0 (sst tok rfl rfl rfl rfl rfl) ?_; rintro _ _ _ ⟨rfl, rfl, rfl⟩) | (refine runL_op (st_box rfl) rfl rfl rfl ?_; rintro _ _ _ ⟨_, rfl, rfl, rfl⟩) | (refine runL_op (st_alloc tok rfl) rfl rfl rfl ?_; rintro _ _ _ ⟨_, rfl, rfl, rfl⟩) | (refine runL_op (st_buildSlice tok rfl rfl rfl rfl rfl rfl rfl) rfl rfl rfl ?_; rintro _ _ _ ⟨_, rfl, rfl, rfl⟩))
  refine run_cond rfl (fun h => ?_) (fun h => ?_)
  · have hlt : j < cvl := of_natlt h
    obtain ⟨b1, o1, x1, a1, y1, z1⟩ := SU8.at' hw.votes hlt
    obtain ⟨b4, o4, x4, a4, y4, z4⟩ := SU8.at' hc.votes hlt
    obtain ⟨b5, o5, x5, a5, y5, z5⟩ := SStr.at_ hw.tags.1 hlt
    obtain ⟨b6, o6, x6, a6, y6, z6⟩ := SStr.at_ hc.tags.1 hlt
    obtain ⟨b7, o7, x7, a7, y7, z7⟩ := SBl.at' hw.acks hlt
    obtain ⟨b8, o8, x8, a8, y8, z8⟩ := SBl.at' hc.acks hlt
    replace a1 : Value.slice wva cvl wvc = .slice (some ⟨b1, o1, none⟩) cvl wvc := a1
    replace a4 : Value.slice cva cvl cvc = .slice (some ⟨b4, o4, none⟩) cvl cvc := a4
    replace a5 : wta = some ⟨b5, o5, none⟩ := a5
    replace a6 : cta = some ⟨b6, o6, none⟩ := a6
    replace a7 : Value.slice wka cvl wkc = .slice (some ⟨b7, o7, none⟩) cvl wkc := a7
    replace a8 : Value.slice cka cvl ckc = .slice (some ⟨b8, o8, none⟩) cvl ckc := a8
    injection a1 with a1
    injection a4 with a4
    injection a7 with a7
    injection a8 with a8
    subst a1 a4 a5 a6 a7 a8
    replace y1 : wvx[j]? = some x1 := y1
    replace y4 : cvx[j]? = some x4 := y4
    replace y5 : wtx[j]? = some x5 := y5
    replace y6 : ctx[j]? = some x6 := y6
    replace y7 : wkx[j]? = some x7 := y7
    replace y8 : ckx[j]? = some x8 := y8
    have f1 : x1 ≠ 0 → x4 = x1 ∧ x6 = x5 := fun h => by
      have := hk.v j (show (wvx[j]?).getD 0 ≠ 0 by rw [y1]; exact h)
      have p1 : (cvx[j]?).getD 0 = (wvx[j]?).getD 0 := this.1
      have p2 : (ctx[j]?).getD ⟨#[]⟩ = (wtx[j]?).getD ⟨#[]⟩ := this.2
      rw [y1, y4] at p1
      rw [y5, y6] at p2
      exact ⟨p1, p2⟩
    have f2 : x7 = true → x8 = true := fun h => by
      have p : (ckx[j]?).getD false = true := hk.k j (show (wkx[j]?).getD false = true by rw [y7]; exact h)
      rw [y8] at p
      exact p
    have f3 : cst = 2 → x4 = 1 := fun h => by
      have p : (cvx[j]?).getD 0 = 1 := (hk.may.v j (show j < cmx.length by have := hlc.mem; simp only at this; omega)).com h
      rw [y4] at p
      exact p
    repeat (first | with_reducible (first | refine run_seq ?_ | refine run_region ?_ | refine runL_nil ?_ | refine run_skip ?_ | refine run_block ?_ | refine run_inBlock ?_) | refine run_exit rfl ?_ | refine runL_q (qt_pev tok rfl) rfl rfl rfl ?_ | refine runL_g rfl rfl (qt_pev tok rfl) rfl rfl rfl rfl rfl ?_ | refine runL_q (ql tok rfl) rfl rfl rfl ?_ | refine runL_g rfl rfl (ql tok rfl) rfl rfl rfl rfl rfl ?_ | (refine runL_op0 (sst tok rfl rfl rfl rfl rfl) ?_; rintro _ _ _ ⟨rfl, rfl, rfl⟩) | (refine runL_op (st_box rfl) rfl rfl rfl ?_; rintro _ _ _ ⟨_, rfl, rfl, rfl⟩) | (refine runL_op (st_alloc tok rfl) rfl rfl rfl ?_; rintro _ _ _ ⟨_, rfl, rfl, rfl⟩) | (refine runL_op (st_buildSlice tok rfl rfl rfl rfl rfl rfl rfl) rfl rfl rfl ?_; rintro _ _ _ ⟨_, rfl, rfl, rfl⟩) | refine prn_start mixed ?_ | refine prn_end (by decide +kernel) ?_ | refine prn_q rfl (qt_pev tok rfl) (by decide +kernel) rfl rfl rfl ?_ | refine prn_g rfl rfl rfl (qt_pev tok rfl) (by decide +kernel) rfl rfl rfl rfl rfl ?_ | refine prn_q rfl (ql tok rfl) (by decide +kernel) rfl rfl rfl ?_ | refine prn_g rfl rfl rfl (ql tok rfl) (by decide +kernel) rfl rfl rfl rfl rfl ?_ | (refine prn_e0 rfl (sst tok rfl rfl rfl rfl rfl) (by decide +kernel) ?_; rintro _ _ _ ⟨rfl, rfl, rfl⟩) | (refine prn_e1 rfl (st_box rfl) (by decide +kernel) rfl rfl rfl ?_; rintro _ _ _ ⟨_, rfl, rfl, rfl⟩) | (refine prn_e1 rfl (st_alloc tok rfl) (by decide +kernel) rfl rfl rfl ?_; rintro _ _ _ ⟨_, rfl, rfl, rfl⟩) | (refine prn_e1 rfl (st_buildSlice tok rfl rfl rfl rfl rfl rfl rfl) (by decide +kernel) rfl rfl rfl ?_; rintro _ _ _ ⟨_, rfl, rfl, rfl⟩) | (refine prn_o0 rfl (sst tok rfl rfl rfl rfl rfl) (by decide +kernel) ?_; rintro _ _ _ ⟨rfl, rfl, rfl⟩; refine ⟨by (repeat (first | exact trivial | refine And.intro (pend_q rfl rfl rfl (qt_pev tok rfl)) ?_ | refine And.intro (pend_q rfl rfl rfl (ql tok rfl)) ?_)), ?_⟩) | (refine prn_o1 rfl (st_box rfl) (by decide +kernel) rfl rfl rfl ?_; rintro _ _ _ ⟨_, rfl, rfl, rfl⟩; refine ⟨by (repeat (first | exact trivial | refine And.intro (pend_q rfl rfl rfl (qt_pev tok rfl)) ?_ | refine And.intro (pend_q rfl rfl rfl (ql tok rfl)) ?_)), ?_⟩) | (refine prn_o1 rfl (st_alloc tok rfl) (by decide +kernel) rfl rfl rfl ?_; rintro _ _ _ ⟨_, rfl, rfl, rfl⟩; refine ⟨by (repeat (first | exact trivial | refine And.intro (pend_q rfl rfl rfl (qt_pev tok rfl)) ?_ | refine And.intro (pend_q rfl rfl rfl (ql tok rfl)) ?_)), ?_⟩) | (refine prn_o1 rfl (st_buildSlice tok rfl rfl rfl rfl rfl rfl rfl) (by decide +kernel) rfl rfl rfl ?_; rintro _ _ _ ⟨_, rfl, rfl, rfl⟩; refine ⟨by (repeat (first | exact trivial | refine And.intro (pend_q rfl rfl rfl (qt_pev tok rfl)) ?_ | refine And.intro (pend_q rfl rfl rfl (ql tok rfl)) ?_)), ?_⟩) | (refine prn_e1 rfl (qt_pev tok rfl) (by decide +kernel) rfl rfl rfl ?_; rintro _ _ _ ⟨rfl, rfl, rfl⟩) | refine prn_q rfl (qt_indexN tok rfl rfl rfl rfl (fun _ => hlt)) (by decide +kernel) rfl rfl rfl ?_ | refine prn_g rfl rfl rfl (qt_indexN tok rfl rfl rfl rfl (fun _ => hlt)) (by decide +kernel) rfl rfl rfl rfl rfl ?_ | refine prn_q rfl (qt_indexN tok rfl rfl rfl rfl (fun _ => by omega)) (by decide +kernel) rfl rfl rfl ?_ | refine prn_g rfl rfl rfl (qt_indexN tok rfl rfl rfl rfl (fun _ => by omega)) (by decide +kernel) rfl rfl rfl rfl rfl ?_ | refine prn_q rfl (qt_ldM tok rfl z1 rfl) (by decide +kernel) rfl rfl rfl ?_ | refine prn_g rfl rfl rfl (qt_ldM tok rfl z1 rfl) (by decide +kernel) rfl rfl rfl rfl rfl ?_ | refine prn_q rfl (qt_ldM0 tok rfl z1 rfl) (by decide +kernel) rfl rfl rfl ?_ | refine prn_g rfl rfl rfl (qt_ldM0 tok rfl z1 rfl) (by decide +kernel) rfl rfl rfl rfl rfl ?_ | refine prn_q rfl (qt_ldM tok rfl z4 rfl) (by decide +kernel) rfl rfl rfl ?_ | refine prn_g rfl rfl rfl (qt_ldM tok rfl z4 rfl) (by decide +kernel) rfl rfl rfl rfl rfl ?_ | refine prn_q rfl (qt_ldM0 tok rfl z4 rfl) (by decide +kernel) rfl rfl rfl ?_ | refine prn_g rfl rfl rfl (qt_ldM0 tok rfl z4 rfl) (by decide +kernel) rfl rfl rfl rfl rfl ?_ | refine prn_q rfl (qt_ldM tok rfl z5 rfl) (by decide +kernel) rfl rfl rfl ?_ | refine prn_g rfl rfl rfl (qt_ldM tok rfl z5 rfl) (by decide +kernel) rfl rfl rfl rfl rfl ?_ | refine prn_q rfl (qt_ldM0 tok rfl z5 rfl) (by decide +kernel) rfl rfl rfl ?_ | refine prn_g rfl rfl rfl (qt_ldM0 tok rfl z5 rfl) (by decide +kernel) rfl rfl rfl rfl rfl ?_ | refine prn_q rfl (qt_ldM tok rfl z6 rfl) (by decide +kernel) rfl rfl rfl ?_ | refine prn_g rfl rfl rfl (qt_ldM tok rfl z6 rfl) (by decide +kernel) rfl rfl rfl rfl rfl ?_ | refine prn_q rfl (qt_ldM0 tok rfl z6 rfl) (by decide +kernel) rfl rfl rfl ?_ | refine prn_g rfl rfl rfl (qt_ldM0 tok rfl z6 rfl) (by decide +kernel) rfl rfl rfl rfl rfl ?_ | refine prn_q rfl (qt_ldM tok rfl z7 rfl) (by decide +kernel) rfl rfl rfl ?_ | refine prn_g rfl rfl rfl (qt_ldM tok rfl z7 rfl) (by decide +kernel) rfl rfl rfl rfl rfl ?_ | refine prn_q rfl (qt_ldM0 tok rfl z7 rfl) (by decide +kernel) rfl rfl rfl ?_ | refine prn_g rfl rfl rfl (qt_ldM0 tok rfl z7 rfl) (by decide +kernel) rfl rfl rfl rfl rfl ?_ | refine prn_q rfl (qt_ldM tok rfl z8 rfl) (by decide +kernel) rfl rfl rfl ?_ | refine prn_g rfl rfl rfl (qt_ldM tok rfl z8 rfl) (by decide +kernel) rfl rfl rfl rfl rfl ?_ | refine prn_q rfl (qt_ldM0 tok rfl z8 rfl) (by decide +kernel) rfl rfl rfl ?_ | refine prn_g rfl rfl rfl (qt_ldM0 tok rfl z8 rfl) (by decide +kernel) rfl rfl rfl rfl rfl ?_)
    refine run_cond rfl (fun h => ?_) (fun _ => ?_)
    · exfalso
      have h' : ((((x1 != 0) && ((x4 != x1) || !(x6.toList == x5.toList))) || (x7 && !x8)) || ((cst == 2) && (x4 != 1))) = false := by
        have g1 : ((x1 != 0) && ((x4 != x1) || !(x6.toList == x5.toList))) = false := by
          by_cases g : x1 = 0
          · rw [g]; rfl
          · obtain ⟨r1, r2⟩ := f1 g
            rw [r1, r2]
            simp
        have g2 : (x7 && !x8) = false := by
          cases hx : x7
          · rfl
          · rw [f2 hx]; rfl
        have g3 : ((cst == 2) && (x4 != 1)) = false := by
          by_cases g : cst = 2
          · rw [f3 g]; simp
          · simp [g]
        rw [g1, g2, g3]; rfl
      exact Bool.noConfusion (h'.symm.trans h)
    · repeat (first | with_reducible (first | refine run_seq ?_ | refine run_region ?_ | refine runL_nil ?_ | refine run_skip ?_ | refine run_block ?_ | refine run_inBlock ?_) | refine run_exit rfl ?_ | refine runL_q (qt_pev tok rfl) rfl rfl rfl ?_ | refine runL_g rfl rfl (qt_pev tok rfl) rfl rfl rfl rfl rfl ?_ | refine runL_q (ql tok rfl) rfl rfl rfl ?_ | refine runL_g rfl rfl (ql tok rfl) rfl rfl rfl rfl rfl ?_ | (refine runL_op0 (sst tok rfl rfl rfl rfl rfl) ?_; rintro _ _ _ ⟨rfl, rfl, rfl⟩) | (refine runL_op (st_box rfl) rfl rfl rfl ?_; rintro _ _ _ ⟨_, rfl, rfl, rfl⟩) | (refine runL_op (st_alloc tok rfl) rfl rfl rfl ?_; rintro _ _ _ ⟨_, rfl, rfl, rfl⟩) | (refine runL_op (st_buildSlice tok rfl rfl rfl rfl rfl rfl rfl) rfl rfl rfl ?_; rintro _ _ _ ⟨_, rfl, rfl, rfl⟩))
      exact run_sub' (hnext _ _ _ ⟨hlt, rfl, rfl, rfl⟩) ⟨lk_succ rfl (by omega), rfl, rfl, trivial⟩
  clear hnext
  have f4 : (wst != 1) = true → ctx = wtx := fun h => (hk.s (show wst ≠ 1 by simpa using h)).2
  have f5 : (wst != 1) = true → cst = wst := fun h => (hk.s (show wst ≠ 1 by simpa using h)).1
  repeat (first | with_reducible (first | refine run_seq ?_ | refine run_region ?_ | refine runL_nil ?_ | refine run_skip ?_ | refine run_block ?_ | refine run_inBlock ?_) | refine run_exit rfl ?_ | refine runL_q (qt_pev tok rfl) rfl rfl rfl ?_ | refine runL_g rfl rfl (qt_pev tok rfl) rfl rfl rfl rfl rfl ?_ | refine runL_q (ql tok rfl) rfl rfl rfl ?_ | refine runL_g rfl rfl (ql tok rfl) rfl rfl rfl rfl rfl ?_ | (refine runL_op0 (sst tok rfl rfl rfl rfl rfl) ?_; rintro _ _ _ ⟨rfl, rfl, rfl⟩) | (refine runL_op (st_box rfl) rfl rfl rfl ?_; rintro _ _ _ ⟨_, rfl, rfl, rfl⟩) | (refine runL_op (st_alloc tok rfl) rfl rfl rfl ?_; rintro _ _ _ ⟨_, rfl, rfl, rfl⟩) | (refine runL_op (st_buildSlice tok rfl rfl rfl rfl rfl rfl rfl) rfl rfl rfl ?_; rintro _ _ _ ⟨_, rfl, rfl, rfl⟩) | refine runL_g rfl rfl (qt_callF rfl (fun hy => sameSt_ok _ _ _ _ hc.tags hw.tags (f4 hy.2.1))) rfl rfl rfl rfl rfl ?_)
  refine run_cond rfl (fun h => ?_) (fun _ => ?_)
  · exfalso
    have h' : ((wst != 1) && ((cst != wst) || !true)) = false := by
      cases g : (wst != 1)
      · rfl
      · rw [f5 g]; simp
    exact Bool.noConfusion (h'.symm.trans h)
  repeat (first | with_reducible (first | refine run_seq ?_ | refine run_region ?_ | refine runL_nil ?_ | refine run_skip ?_ | refine run_block ?_ | refine run_inBlock ?_) | refine run_exit rfl ?_ | refine runL_q (qt_pev tok rfl) rfl rfl rfl ?_ | refine runL_g rfl rfl (qt_pev tok rfl) rfl rfl rfl rfl rfl ?_ | refine runL_q (ql tok rfl) rfl rfl rfl ?_ | refine runL_g rfl rfl (ql tok rfl) rfl rfl rfl rfl rfl ?_ | (refine runL_op0 (sst tok rfl rfl rfl rfl rfl) ?_; rintro _ _ _ ⟨rfl, rfl, rfl⟩) | (refine runL_op (st_box rfl) rfl rfl rfl ?_; rintro _ _ _ ⟨_, rfl, rfl, rfl⟩) | (refine runL_op (st_alloc tok rfl) rfl rfl rfl ?_; rintro _ _ _ ⟨_, rfl, rfl, rfl⟩) | (refine runL_op (st_buildSlice tok rfl rfl rfl rfl rfl rfl rfl) rfl rfl rfl ?_; rintro _ _ _ ⟨_, rfl, rfl, rfl⟩) | (refine runL_op (st_callF rfl (fun _ => receipt_ok _ _ _ hc hm)) rfl rfl rfl ?_; rintro _ M1 _ ⟨hM1, rfl, rt, rau, rs, rts, rfl, hrs, hrts, hre⟩))
  rename_i b6
  have hc1 := hc.le hM1
  have hre' : (!(cst == 2)) = false → TrQ Try.prog 44 [.agg ⟨rpC rt rau rs rts⟩, .agg ⟨rpC ct cau ⟨cma, cml, cmc, cmx⟩ ⟨cta, cvl, ctc, ctx⟩⟩] M1 ((b6, .cells ⟨rpC rt rau rs rts⟩ 51 (0, 0)) :: (b3, .cells ⟨coC ⟨ct, cau, ⟨cma, cml, cmc, cmx⟩, ⟨cba, cbl, cbc, cbx⟩, ⟨cva, cvl, cvc, cvx⟩, ⟨cta, cvl, ctc, ctx⟩, ⟨cka, cvl, ckc, ckx⟩, cst, csi, cse⟩⟩ 29 (0, 0)) :: (b2, .cells ⟨coC ⟨ct, cau, ⟨wma, wml, wmc, wmx⟩, ⟨wba, wbl, wbc, wbx⟩, ⟨wva, cvl, wvc, wvx⟩, ⟨wta, cvl, wtc, wtx⟩, ⟨wka, cvl, wkc, wkx⟩, wst, csi, wse⟩⟩ 29 (0, 0)) :: L) (.bool true) := fun h => by
    have h2 : (cst == 2) = true := by simpa using h
    obtain ⟨u1, u2, u3, u4⟩ := hre h2
    exact sameRp_ok _ _ _ _ _ _ _ _ _ _ u1 u2 hrs hc1.mem u3 hrts hc1.tags u4
  repeat (first | with_reducible (first | refine run_seq ?_ | refine run_region ?_ | refine runL_nil ?_ | refine run_skip ?_ | refine run_block ?_ | refine run_inBlock ?_) | refine run_exit rfl ?_ | refine runL_q (qt_pev tok rfl) rfl rfl rfl ?_ | refine runL_g rfl rfl (qt_pev tok rfl) rfl rfl rfl rfl rfl ?_ | refine runL_q (ql tok rfl) rfl rfl rfl ?_ | refine runL_g rfl rfl (ql tok rfl) rfl rfl rfl rfl rfl ?_ | (refine runL_op0 (sst tok rfl rfl rfl rfl rfl) ?_; rintro _ _ _ ⟨rfl, rfl, rfl⟩) | (refine runL_op (st_box rfl) rfl rfl rfl ?_; rintro _ _ _ ⟨_, rfl, rfl, rfl⟩) | (refine runL_op (st_alloc tok rfl) rfl rfl rfl ?_; rintro _ _ _ ⟨_, rfl, rfl, rfl⟩) | (refine runL_op (st_buildSlice tok rfl rfl rfl rfl rfl rfl rfl) rfl rfl rfl ?_; rintro _ _ _ ⟨_, rfl, rfl, rfl⟩))
  refine runL_g rfl rfl (qt_callF rfl (fun hy => hre' hy.1)) rfl rfl rfl rfl rfl ?_
  repeat (first | with_reducible (first | refine run_seq ?_ | refine run_region ?_ | refine runL_nil ?_ | refine run_skip ?_ | refine run_block ?_ | refine run_inBlock ?_) | refine run_exit rfl ?_ | refine runL_q (qt_pev tok rfl) rfl rfl rfl ?_ | refine runL_g rfl rfl (qt_pev tok rfl) rfl rfl rfl rfl rfl ?_ | refine runL_q (ql tok rfl) rfl rfl rfl ?_ | refine runL_g rfl rfl (ql tok rfl) rfl rfl rfl rfl rfl ?_ | (refine runL_op0 (sst tok rfl rfl rfl rfl rfl) ?_; rintro _ _ _ ⟨rfl, rfl, rfl⟩) | (refine runL_op (st_box rfl) rfl rfl rfl ?_; rintro _ _ _ ⟨_, rfl, rfl, rfl⟩) | (refine runL_op (st_alloc tok rfl) rfl rfl rfl ?_; rintro _ _ _ ⟨_, rfl, rfl, rfl⟩) | (refine runL_op (st_buildSlice tok rfl rfl rfl rfl rfl rfl rfl) rfl rfl rfl ?_; rintro _ _ _ ⟨_, rfl, rfl, rfl⟩))
  refine run_ret hC (rs := [.tmp 4]) rfl (resT rfl resN) (fun _ h => h.drop.drop.drop) ⟨?_, hM1, rfl⟩
  show resVal [.bool (((cst == 2) == (cst == 2)) && (!(cst == 2) || true))] = _
  cases (cst == 2) <;> rfl
end Go.Proofs.Ytpmepmdngdkafaa
namespace Go.Proofs.Ytpmepmdngdkafaa
open Go.Chi

/-! ### nobody is asked who has answered -/
theorem memGo_lt (t : Tx) : ∀ (l : List Mb) (last : Int), memGo t last l = true → ∀ m ∈ l, last < m.org
  | [], _, _, m, hm => by cases hm
  | x :: l, last, h, m, hm => by
    rw [memGo] at h
    split at h
    · cases h
    rename_i hb
    have hx : last < x.org := by
      simp only [badM, Bool.or_eq_true, decide_eq_true_eq, not_or] at hb
      omega
    rcases List.mem_cons.1 hm with rfl | hm
    · exact hx
    · have := memGo_lt t l x.org h m hm
      omega
theorem memGo_inj (t : Tx) : ∀ (l : List Mb) (last : Int), memGo t last l = true → ∀ (i j : Nat) (m n : Mb), l[i]? = some m → l[j]? = some n → m.org = n.org → i = j
  | [], _, _, i, j, m, n, hi, _, _ => by simp at hi
  | x :: l, last, h, i, j, m, n, hi, hj, he => by
    rw [memGo] at h
    split at h
    · cases h
    cases i with
    | zero =>
      cases j with
      | zero => rfl
      | succ j =>
        simp at hi hj
        subst hi
        have := memGo_lt t l x.org h n (List.mem_of_getElem? hj)
        omega
    | succ i =>
      cases j with
      | zero =>
        simp at hi hj
        subst hj
        have := memGo_lt t l x.org h m (List.mem_of_getElem? hi)
        omega
      | succ j =>
        simp at hi hj
        rw [memGo_inj t l x.org h i j m n hi hj he]
theorem due_mem {c : Co} {now retry o : Int} (h : o ∈ dueR c now retry) : ∃ j, j < c.mem.len ∧ (onAt c j).org = o ∧ dueB c (onAt c j) = true := by
  unfold dueR at h
  split at h
  · cases h
  obtain ⟨m, hm, rfl⟩ := List.mem_map.1 h
  obtain ⟨hm1, hm2⟩ := List.mem_filter.1 hm
  obtain ⟨j, hj, rfl⟩ := List.mem_map.1 hm1
  exact ⟨j, List.mem_range.1 hj, rfl, hm2⟩
theorem memR_some {xs : List Mb} {j : Nat} {m : Mb} {o : Int} (hm : xs[j]? = some m) (ho : m.org = o) : ∃ k, memR xs o = some k := by
  cases hk : memR xs o with
  | some k => exact ⟨k, rfl⟩
  | none =>
    have := List.findIdx?_eq_none_iff.1 hk m (List.mem_of_getElem? hm)
    simp [ho] at this
theorem due_at {c : Co} (hl : Lens c) (hm : mayA c.ab = true) {now retry o : Int} (h : o ∈ dueR c now retry) : (∃ k, memR c.mem.xs o = some k) ∧ ∀ (k : Nat) (m : Mb) (v : Int) (a : Bool), c.mem.xs[k]? = some m → c.votes.xs[k]? = some v → c.acks.xs[k]? = some a → ((m.org == o) && (((c.state == 1) && (v != 0)) || a)) = false := by
  obtain ⟨j, hj, ho, hb⟩ := due_mem h
  have hp := (may_iff _).1 hm
  have hml := hl.mem
  have hjx : j < c.mem.xs.length := by omega
  have hx : c.mem.xs[j]? = some c.mem.xs[j] := List.getElem?_eq_getElem hjx
  have ho' : c.mem.xs[j].org = o := by rw [← ho]; simp only [onAt, hx]; rfl
  refine ⟨memR_some hx ho', fun k m v a hmk hvk hak => ?_⟩
  cases hmo : (m.org == o)
  · rfl
  have hmo' : m.org = c.mem.xs[j].org := by rw [ho']; simpa using hmo
  have hmb : memGo c.txn (-1) c.mem.xs = true := by
    have := hp.mb
    simp only [mayMb, Bool.and_eq_true] at this
    exact this.1
  have hkj := memGo_inj _ _ _ hmb k j m _ hmk hx hmo'
  subst hkj
  have hv : VOk c.ab k := hp.v k (show k < c.mem.xs.length from hjx)
  have e1 : (onAt c k).vote = v := by simp only [onAt, hvk]; rfl
  have e2 : (onAt c k).ack = a := by simp only [onAt, hak]; rfl
  have e3 : ga c.ab k = a := by unfold ga; rw [show c.ab.acks = c.acks.xs from rfl, hak]; rfl
  simp only [dueB, e1, e2, Bool.or_eq_true, Bool.and_eq_true, Bool.not_eq_true'] at hb
  rcases hb with ⟨h1, h2⟩ | ⟨h1, h2⟩
  · have h3 : a = false := by
      cases ha : a
      · rfl
      · exact absurd (show c.state = 1 by simpa using h1) (hv.ack (by rw [e3, ha]))
    have h4 : v = 0 := by simpa using h2
    rw [h3, h4]
    simp
  · have h4 : (c.state == 1) = false := by simpa [bne] using h1
    rw [h2, h4]
    rfl
set_option maxRecDepth 10000 in
set_option maxHeartbeats 32000000 in
theorem dueLaw_ok (M : Mem) (L : HL) (c : Co) (hc : CoOk M c) (hm : mayA c.ab = true) (now wait : Int) : Tr Try.prog 23 [.agg ⟨coC c⟩, .int .i64 now, .int .i64 wait] M L (fun v M' L' => v = .bool true ∧ M.le M' ∧ L = L') := by
  have hr := mayA_rows hc hm
  have hlc := hc.lens
  obtain ⟨ct, cau, ⟨cma, cml, cmc, cmx⟩, ⟨cba, cbl, cbc, cbx⟩, ⟨cva, cvl, cvc, cvx⟩, ⟨cta, ctl, ctc, ctx⟩, ⟨cka, ckl, ckc, ckx⟩, cst, csi, cse⟩ := c
  have r1 : cml = cvl := hr.votes.symm
  have r2 : cml = ctl := hr.tags.symm
  have r3 : cml = ckl := hr.acks.symm
  subst r1 r2 r3
  have hm6 : cml < 1000000 := hc.mem.2
  refine Tr.intro 101 Try.func23 rfl rfl Try.call23 rfl ?_
  intro C hC hro
  repeat (first | with_reducible (first | refine run_seq ?_ | refine run_region ?_ | refine runL_nil ?_ | refine run_skip ?_ | refine run_block ?_ | refine run_inBlock ?_) | refine run_exit rfl ?_ | refine runL_q (qt_pev tok rfl) rfl rfl rfl ?_ | refine runL_g rfl rfl (qt_pev tok rfl) rfl rfl rfl rfl rfl ?_ | refine runL_q (ql tok rfl) rfl rfl rfl ?_ | refine runL_g rfl rfl (ql tok rfl) rfl rfl rfl rfl rfl ?_ | (refine runL_op0 (sst tok rfl rfl rfl rfl rfl) ?_; rintro _ _ _ ⟨rfl, rfl, rfl⟩) | (refine runL_op (st_box rfl) rfl rfl rfl ?_; rintro _ _ _ ⟨_, rfl, rfl, rfl⟩) | (refine runL_op (st_alloc tok rfl) rfl rfl rfl ?_; rintro _ _ _ ⟨_, rfl, rfl, rfl⟩) | (refine runL_op (st_buildSlice tok rfl rfl rfl rfl rfl rfl rfl) rfl rfl rfl ?_; rintro _ _ _ ⟨_, rfl, rfl, rfl⟩) | (refine runL_op (st_callF rfl (fun _ => due_ok _ _ _ hc now wait)) rfl rfl rfl ?_; rintro _ M1 _ ⟨hM1, rfl, ⟨sa, sl, sc, sx⟩, rfl, hso, hsx, hsl, hsm⟩))
  rename_i b3
  replace hsl : sl = sx.length := hsl
  replace hsx : sx = dueR ⟨ct, cau, ⟨cma, cml, cmc, cmx⟩, ⟨cba, cbl, cbc, cbx⟩, ⟨cva, cml, cvc, cvx⟩, ⟨cta, cml, ctc, ctx⟩, ⟨cka, cml, ckc, ckx⟩, cst, csi, cse⟩ now wait := hsx
  replace hsm : sl ≤ cml := hsm
  refine run_loopN (fun i σ1 M2 L2 => i ≤ sl ∧ M1.le M2 ∧ L2 = (b3, .cells ⟨coC ⟨ct, cau, ⟨cma, cml, cmc, cmx⟩, ⟨cba, cbl, cbc, cbx⟩, ⟨cva, cml, cvc, cvx⟩, ⟨cta, cml, ctc, ctx⟩, ⟨cka, cml, ckc, ckx⟩, cst, csi, cse⟩⟩ 29 (0, 0)) :: L ∧ σ1 = [(8, .int .i64 (i : Int)), (7, .slice sa sl sc), (3, .pointer (some ⟨b3, 0, none⟩))]) sl [(8, .int .i64 ((0 : Nat) : Int)), (7, .slice sa sl sc), (3, .pointer (some ⟨b3, 0, none⟩))] ?_ ⟨Nat.zero_le _, Mem.le_refl _, rfl, rfl⟩ (fun j _ _ _ h => h.1) ?_
  · exact ⟨rfl, rfl, rfl, trivial⟩
  rintro i _ M3 _ ⟨hi, hM3, rfl, rfl⟩ hnext
  repeat (first | with_reducible (first | refine run_seq ?_ | refine run_region ?_ | refine runL_nil ?_ | refine run_skip ?_ | refine run_block ?_ | refine run_inBlock ?_) | refine run_exit rfl ?_ | refine runL_q (qt_pev tok rfl) rfl rfl rfl ?_ | refine runL_g rfl rfl (qt_pev tok rfl) rfl rfl rfl rfl rfl ?_ | refine runL_q (ql tok rfl) rfl rfl rfl ?_ | refine runL_g rfl rfl (ql tok rfl) rfl rfl rfl rfl rfl ?_ | (refine runL_op0 (sst tok rfl rfl rfl rfl rfl) ?_; rintro _ _ _ ⟨rfl, rfl, rfl⟩) | (refine runL_op (st_box rfl) rfl rfl rfl ?_; rintro _ _ _ ⟨_, rfl, rfl, rfl⟩) | (refine runL_op (st_alloc tok rfl) rfl rfl rfl ?_; rintro _ _ _ ⟨_, rfl, rfl, rfl⟩) | (refine runL_op (st_buildSlice tok rfl rfl rfl rfl rfl rfl rfl) rfl rfl rfl ?_; rintro _ _ _ ⟨_, rfl, rfl, rfl⟩))
  refine run_cond rfl (fun h => ?_) (fun h => ?_)
  · have hlt : i < sl := of_natlt h
    obtain ⟨bS, oS, cS, aS, yS, _, hcS⟩ := (SlM.le hM3 hso).at_ hlt
    obtain ⟨o, ho, rfl⟩ : ∃ y, sx[i]? = some y ∧ inC y = cS := by simpa using yS
    replace aS : sa = some ⟨bS, oS, none⟩ := aS
    subst aS
    have hod : o ∈ dueR ⟨ct, cau, ⟨cma, cml, cmc, cmx⟩, ⟨cba, cbl, cbc, cbx⟩, ⟨cva, cml, cvc, cvx⟩, ⟨cta, cml, ctc, ctx⟩, ⟨cka, cml, ckc, ckx⟩, cst, csi, cse⟩ now wait := hsx ▸ List.mem_of_getElem? ho
    obtain ⟨⟨k0, hk0⟩, hfacts⟩ := due_at hlc hm hod
    have hc1 := (hc.le hM1).le hM3
    repeat (first | with_reducible (first | refine run_seq ?_ | refine run_skip ?_ | refine run_block ?_))
    refine run_cut (fun σ' M' L' => ∃ b9 wau wa wl wp wbody wyes, M3.le M' ∧ L' = (b9, .cells ⟨[.int .u8 (if (cst == 1) = true then 1 else 3), .int .i64 ct.coord, .int .i64 ct.epoch, .int .i64 ct.seq, .int .i64 wau, .slice wa wl wp, .string wbody, .bool wyes, .string ⟨#[]⟩]⟩ 76 (0, 0)) :: (b3, .cells ⟨coC ⟨ct, cau, ⟨cma, cml, cmc, cmx⟩, ⟨cba, cbl, cbc, cbx⟩, ⟨cva, cml, cvc, cvx⟩, ⟨cta, cml, ctc, ctx⟩, ⟨cka, cml, ckc, ckx⟩, cst, csi, cse⟩⟩ 29 (0, 0)) :: L ∧ σ' = [(10, .bool true), (9, .pointer (some ⟨b9, 0, none⟩)), (8, .int .i64 (i : Int)), (7, .slice (some ⟨bS, oS, none⟩) sl sc), (3, .pointer (some ⟨b3, 0, none⟩))]) ?_ ?_
    rotate_left
    · intro hnext2
      refine prn_start mixed ?_
      refine pr_q 0 (by decide +kernel) rfl (ql tok rfl) rfl rfl rfl ?_
      refine pr_q 1 (by decide +kernel) rfl (qt_pev tok rfl) rfl rfl rfl ?_
      refine pr_q 2 (by decide +kernel) rfl (qt_pev tok rfl) rfl rfl rfl ?_
      refine pr_q 3 (by decide +kernel) rfl (qt_indexN tok rfl rfl rfl rfl (fun _ => hlt)) rfl rfl rfl ?_
      refine pr_q 4 (by decide +kernel) rfl (qt_ldM0 tok rfl hcS rfl) rfl rfl rfl ?_
      refine pr_two 5 9 (by decide +kernel) ?_ ?_
      · refine eff1 5 rfl (st_callF rfl (fun _ => what_ok _ _ _ hc1 o hm k0 hk0)) (by decide +kernel) (qs := _) rfl rfl rfl rfl ?_
        rintro _ M2 _ ⟨hM2, rfl, wau, _, wbody, wyes, ⟨wa, wl, wp, rfl⟩, rfl⟩
        refine ⟨by (repeat (first | exact trivial | refine And.intro (pend_q rfl rfl rfl (qt_pev tok rfl)) ?_ | refine And.intro (pend_q rfl rfl rfl (ql tok rfl)) ?_ | refine And.intro (pend_q rfl rfl rfl (qt_indexN tok rfl rfl rfl rfl (fun _ => hlt))) ?_ | refine And.intro (pend_q rfl rfl rfl (qt_ldM0 tok rfl hcS rfl)) ?_ | refine And.intro (pend_q rfl rfl rfl (qt_ldM0 tok rfl (hcS.le hM2) rfl)) ?_)), ?_⟩
        refine pr_q 6 (by decide +kernel) rfl (qt_pev tok rfl) rfl rfl rfl ?_
        refine pr_q 7 (by decide +kernel) rfl (qt_pev tok rfl) rfl rfl rfl ?_
        refine pr_q 8 (by decide +kernel) rfl (qt_pev tok rfl) rfl rfl rfl ?_
        refine pr_one 9 (by decide +kernel) (eff1 9 rfl (st_alloc tok rfl) (by decide +kernel) (qs := _) rfl rfl rfl rfl ?_)
        rintro _ _ _ ⟨b9, rfl, rfl, rfl⟩
        refine ⟨by (repeat (first | exact trivial | refine And.intro (pend_q rfl rfl rfl (qt_pev tok rfl)) ?_ | refine And.intro (pend_q rfl rfl rfl (ql tok rfl)) ?_ | refine And.intro (pend_q rfl rfl rfl (qt_indexN tok rfl rfl rfl rfl (fun _ => hlt))) ?_ | refine And.intro (pend_q rfl rfl rfl (qt_ldM0 tok rfl hcS rfl)) ?_ | refine And.intro (pend_q rfl rfl rfl (qt_ldM0 tok rfl (hcS.le hM2) rfl)) ?_)), ?_⟩
        refine pr_one 10 (by decide +kernel) (eff0 10 rfl (sst tok rfl rfl rfl rfl rfl) (by decide +kernel) (qs := _) rfl ?_)
        rintro _ _ _ ⟨rfl, rfl, rfl⟩
        refine ⟨by (repeat (first | exact trivial | refine And.intro (pend_q rfl rfl rfl (qt_pev tok rfl)) ?_ | refine And.intro (pend_q rfl rfl rfl (ql tok rfl)) ?_ | refine And.intro (pend_q rfl rfl rfl (qt_indexN tok rfl rfl rfl rfl (fun _ => hlt))) ?_ | refine And.intro (pend_q rfl rfl rfl (qt_ldM0 tok rfl hcS rfl)) ?_ | refine And.intro (pend_q rfl rfl rfl (qt_ldM0 tok rfl (hcS.le hM2) rfl)) ?_)), ?_⟩
        refine pr_q 11 (by decide +kernel) rfl (qt_pev tok rfl) rfl rfl rfl ?_
        refine pr_end (by decide +kernel) (by decide +kernel) ?_
        exact run_sub' (hnext2 _ _ _ ⟨b9, wau, wa, wl, wp, wbody, wyes, hM2, rfl, rfl⟩) ⟨rfl, rfl, rfl, rfl, rfl, trivial⟩
      · refine eff1 9 rfl (st_alloc tok rfl) (by decide +kernel) (qs := _) rfl rfl rfl rfl ?_
        rintro _ _ _ ⟨b9, rfl, rfl, rfl⟩
        refine ⟨by (repeat (first | exact trivial | refine And.intro (pend_q rfl rfl rfl (qt_pev tok rfl)) ?_ | refine And.intro (pend_q rfl rfl rfl (ql tok rfl)) ?_ | refine And.intro (pend_q rfl rfl rfl (qt_indexN tok rfl rfl rfl rfl (fun _ => hlt))) ?_ | refine And.intro (pend_q rfl rfl rfl (qt_ldM0 tok rfl hcS rfl)) ?_ | refine And.intro (pend_q rfl rfl rfl (qt_ldM0 tok rfl (hcS.le hM2) rfl)) ?_)), ?_⟩
        refine pr_one 5 (by decide +kernel) (eff1 5 rfl (st_callF rfl (fun _ => what_ok _ _ _ hc1 o hm k0 hk0)) (by decide +kernel) (qs := _) rfl rfl rfl rfl ?_)
        rintro _ M2 _ ⟨hM2, rfl, wau, _, wbody, wyes, ⟨wa, wl, wp, rfl⟩, rfl⟩
        refine ⟨by (repeat (first | exact trivial | refine And.intro (pend_q rfl rfl rfl (qt_pev tok rfl)) ?_ | refine And.intro (pend_q rfl rfl rfl (ql tok rfl)) ?_ | refine And.intro (pend_q rfl rfl rfl (qt_indexN tok rfl rfl rfl rfl (fun _ => hlt))) ?_ | refine And.intro (pend_q rfl rfl rfl (qt_ldM0 tok rfl hcS rfl)) ?_ | refine And.intro (pend_q rfl rfl rfl (qt_ldM0 tok rfl (hcS.le hM2) rfl)) ?_)), ?_⟩
        refine pr_q 6 (by decide +kernel) rfl (qt_pev tok rfl) rfl rfl rfl ?_
        refine pr_q 7 (by decide +kernel) rfl (qt_pev tok rfl) rfl rfl rfl ?_
        refine pr_q 8 (by decide +kernel) rfl (qt_pev tok rfl) rfl rfl rfl ?_
        refine pr_one 10 (by decide +kernel) (eff0 10 rfl (sst tok rfl rfl rfl rfl rfl) (by decide +kernel) (qs := _) rfl ?_)
        rintro _ _ _ ⟨rfl, rfl, rfl⟩
        refine ⟨by (repeat (first | exact trivial | refine And.intro (pend_q rfl rfl rfl (qt_pev tok rfl)) ?_ | refine And.intro (pend_q rfl rfl rfl (ql tok rfl)) ?_ | refine And.intro (pend_q rfl rfl rfl (qt_indexN tok rfl rfl rfl rfl (fun _ => hlt))) ?_ | refine And.intro (pend_q rfl rfl rfl (qt_ldM0 tok rfl hcS rfl)) ?_ | refine And.intro (pend_q rfl rfl rfl (qt_ldM0 tok rfl (hcS.le hM2) rfl)) ?_)), ?_⟩
        refine pr_q 11 (by decide +kernel) rfl (qt_pev tok rfl) rfl rfl rfl ?_
        refine pr_end (by decide +kernel) (by decide +kernel) ?_
        exact run_sub' (hnext2 _ _ _ ⟨b9, wau, wa, wl, wp, wbody, wyes, hM2, rfl, rfl⟩) ⟨rfl, rfl, rfl, rfl, rfl, trivial⟩
    rintro _ M2 _ ⟨b9, wau, wa, wl, wp, wbody, wyes, hM2, rfl, rfl⟩
    have hc2 := hc1.le hM2
    have hcS2 := hcS.le hM2
    repeat (first | with_reducible (first | refine run_seq ?_ | refine run_region ?_ | refine runL_nil ?_ | refine run_skip ?_ | refine run_block ?_ | refine run_inBlock ?_) | refine run_exit rfl ?_ | refine runL_q (qt_pev tok rfl) rfl rfl rfl ?_ | refine runL_g rfl rfl (qt_pev tok rfl) rfl rfl rfl rfl rfl ?_ | refine runL_q (ql tok rfl) rfl rfl rfl ?_ | refine runL_g rfl rfl (ql tok rfl) rfl rfl rfl rfl rfl ?_ | (refine runL_op0 (sst tok rfl rfl rfl rfl rfl) ?_; rintro _ _ _ ⟨rfl, rfl, rfl⟩) | (refine runL_op (st_box rfl) rfl rfl rfl ?_; rintro _ _ _ ⟨_, rfl, rfl, rfl⟩) | (refine runL_op (st_alloc tok rfl) rfl rfl rfl ?_; rintro _ _ _ ⟨_, rfl, rfl, rfl⟩) | (refine runL_op (st_buildSlice tok rfl rfl rfl rfl rfl rfl rfl) rfl rfl rfl ?_; rintro _ _ _ ⟨_, rfl, rfl, rfl⟩))
    refine run_cond rfl (fun h => ?_) (fun _ => ?_)
    · exfalso
      revert h
      cases (cst == 1) <;> simp
    repeat (first | with_reducible (first | refine run_seq ?_ | refine run_region ?_ | refine runL_nil ?_ | refine run_skip ?_ | refine run_block ?_ | refine run_inBlock ?_) | refine run_exit rfl ?_ | refine runL_q (qt_pev tok rfl) rfl rfl rfl ?_ | refine runL_g rfl rfl (qt_pev tok rfl) rfl rfl rfl rfl rfl ?_ | refine runL_q (ql tok rfl) rfl rfl rfl ?_ | refine runL_g rfl rfl (ql tok rfl) rfl rfl rfl rfl rfl ?_ | (refine runL_op0 (sst tok rfl rfl rfl rfl rfl) ?_; rintro _ _ _ ⟨rfl, rfl, rfl⟩) | (refine runL_op (st_box rfl) rfl rfl rfl ?_; rintro _ _ _ ⟨_, rfl, rfl, rfl⟩) | (refine runL_op (st_alloc tok rfl) rfl rfl rfl ?_; rintro _ _ _ ⟨_, rfl, rfl, rfl⟩) | (refine runL_op (st_buildSlice tok rfl rfl rfl rfl rfl rfl rfl) rfl rfl rfl ?_; rintro _ _ _ ⟨_, rfl, rfl, rfl⟩))
    refine run_loopN (fun k σ1 M4 L4 => k ≤ cml ∧ M2 = M4 ∧ L4 = (b9, .cells ⟨[.int .u8 (if (cst == 1) = true then 1 else 3), .int .i64 ct.coord, .int .i64 ct.epoch, .int .i64 ct.seq, .int .i64 wau, .slice wa wl wp, .string wbody, .bool wyes, .string ⟨#[]⟩]⟩ 76 (0, 0)) :: (b3, .cells ⟨coC ⟨ct, cau, ⟨cma, cml, cmc, cmx⟩, ⟨cba, cbl, cbc, cbx⟩, ⟨cva, cml, cvc, cvx⟩, ⟨cta, cml, ctc, ctx⟩, ⟨cka, cml, ckc, ckx⟩, cst, csi, cse⟩⟩ 29 (0, 0)) :: L ∧ σ1 = [(11, .int .i64 (k : Int)), (8, .int .i64 (i : Int)), (7, .slice (some ⟨bS, oS, none⟩) sl sc), (3, .pointer (some ⟨b3, 0, none⟩))]) cml [(11, .int .i64 ((0 : Nat) : Int)), (8, .int .i64 (i : Int)), (7, .slice (some ⟨bS, oS, none⟩) sl sc), (3, .pointer (some ⟨b3, 0, none⟩))] ?_ ⟨Nat.zero_le _, rfl, rfl, rfl⟩ (fun j _ _ _ h => h.1) ?_
    · exact ⟨rfl, rfl, rfl, rfl, trivial⟩
    rintro k _ _ _ ⟨hk, rfl, rfl, rfl⟩ hnext2
    repeat (first | with_reducible (first | refine run_seq ?_ | refine run_region ?_ | refine runL_nil ?_ | refine run_skip ?_ | refine run_block ?_ | refine run_inBlock ?_) | refine run_exit rfl ?_ | refine runL_q (qt_pev tok rfl) rfl rfl rfl ?_ | refine runL_g rfl rfl (qt_pev tok rfl) rfl rfl rfl rfl rfl ?_ | refine runL_q (ql tok rfl) rfl rfl rfl ?_ | refine runL_g rfl rfl (ql tok rfl) rfl rfl rfl rfl rfl ?_ | (refine runL_op0 (sst tok rfl rfl rfl rfl rfl) ?_; rintro _ _ _ ⟨rfl, rfl, rfl⟩) | (refine runL_op (st_box rfl) rfl rfl rfl ?_; rintro _ _ _ ⟨_, rfl, rfl, rfl⟩) | (refine runL_op (st_alloc tok rfl) rfl rfl rfl ?_; rintro _ _ _ ⟨_, rfl, rfl, rfl⟩) | (refine runL_op (st_buildSlice tok rfl rfl rfl rfl rfl rfl rfl) rfl rfl rfl ?_; rintro _ _ _ ⟨_, rfl, rfl, rfl⟩))
    refine run_cond rfl (fun h => ?_) (fun h => ?_)
    · have hkl : k < cml := by
        have : ((decide ((k : Int) < (cml : Int)) && decide ((k : Int) < (cml : Int))) && decide ((k : Int) < (cml : Int))) = true := h
        simpa using this
      obtain ⟨b1, o1, x1, a1, y1, z1⟩ := SMb.at_ hc2.mem.1 hkl
      obtain ⟨b4, o4, x4, a4, y4, z4⟩ := SU8.at' hc2.votes hkl
      obtain ⟨b8, o8, x8, a8, y8, z8⟩ := SBl.at' hc2.acks hkl
      replace a1 : cma = some ⟨b1, o1, none⟩ := a1
      replace a4 : Value.slice cva cml cvc = .slice (some ⟨b4, o4, none⟩) cml cvc := a4
      replace a8 : Value.slice cka cml ckc = .slice (some ⟨b8, o8, none⟩) cml ckc := a8
      injection a4 with a4
      injection a8 with a8
      subst a1 a4 a8
      have hf := hfacts k x1 x4 x8 y1 y4 y8
      repeat (first | with_reducible (first | refine run_seq ?_ | refine run_region ?_ | refine runL_nil ?_ | refine run_skip ?_ | refine run_block ?_ | refine run_inBlock ?_) | refine run_exit rfl ?_ | refine runL_q (qt_pev tok rfl) rfl rfl rfl ?_ | refine runL_g rfl rfl (qt_pev tok rfl) rfl rfl rfl rfl rfl ?_ | refine runL_q (ql tok rfl) rfl rfl rfl ?_ | refine runL_g rfl rfl (ql tok rfl) rfl rfl rfl rfl rfl ?_ | (refine runL_op0 (sst tok rfl rfl rfl rfl rfl) ?_; rintro _ _ _ ⟨rfl, rfl, rfl⟩) | (refine runL_op (st_box rfl) rfl rfl rfl ?_; rintro _ _ _ ⟨_, rfl, rfl, rfl⟩) | (refine runL_op (st_alloc tok rfl) rfl rfl rfl ?_; rintro _ _ _ ⟨_, rfl, rfl, rfl⟩) | (refine runL_op (st_buildSlice tok rfl rfl rfl rfl rfl rfl rfl) rfl rfl rfl ?_; rintro _ _ _ ⟨_, rfl, rfl, rfl⟩) | refine prn_start mixed ?_ | refine prn_end (by decide +kernel) ?_ | refine prn_q rfl (qt_pev tok rfl) (by decide +kernel) rfl rfl rfl ?_ | refine prn_g rfl rfl rfl (qt_pev tok rfl) (by decide +kernel) rfl rfl rfl rfl rfl ?_ | refine prn_q rfl (ql tok rfl) (by decide +kernel) rfl rfl rfl ?_ | refine prn_g rfl rfl rfl (ql tok rfl) (by decide +kernel) rfl rfl rfl rfl rfl ?_ | (refine prn_e0 rfl (sst tok rfl rfl rfl rfl rfl) (by decide +kernel) ?_; rintro _ _ _ ⟨rfl, rfl, rfl⟩) | (refine prn_e1 rfl (st_box rfl) (by decide +kernel) rfl rfl rfl ?_; rintro _ _ _ ⟨_, rfl, rfl, rfl⟩) | (refine prn_e1 rfl (st_alloc tok rfl) (by decide +kernel) rfl rfl rfl ?_; rintro _ _ _ ⟨_, rfl, rfl, rfl⟩) | (refine prn_e1 rfl (st_buildSlice tok rfl rfl rfl rfl rfl rfl rfl) (by decide +kernel) rfl rfl rfl ?_; rintro _ _ _ ⟨_, rfl, rfl, rfl⟩) | (refine prn_o0 rfl (sst tok rfl rfl rfl rfl rfl) (by decide +kernel) ?_; rintro _ _ _ ⟨rfl, rfl, rfl⟩; refine ⟨by (repeat (first | exact trivial | refine And.intro (pend_q rfl rfl rfl (qt_pev tok rfl)) ?_ | refine And.intro (pend_q rfl rfl rfl (ql tok rfl)) ?_)), ?_⟩) | (refine prn_o1 rfl (st_box rfl) (by decide +kernel) rfl rfl rfl ?_; rintro _ _ _ ⟨_, rfl, rfl, rfl⟩; refine ⟨by (repeat (first | exact trivial | refine And.intro (pend_q rfl rfl rfl (qt_pev tok rfl)) ?_ | refine And.intro (pend_q rfl rfl rfl (ql tok rfl)) ?_)), ?_⟩) | (refine prn_o1 rfl (st_alloc tok rfl) (by decide +kernel) rfl rfl rfl ?_; rintro _ _ _ ⟨_, rfl, rfl, rfl⟩; refine ⟨by (repeat (first | exact trivial | refine And.intro (pend_q rfl rfl rfl (qt_pev tok rfl)) ?_ | refine And.intro (pend_q rfl rfl rfl (ql tok rfl)) ?_)), ?_⟩) | (refine prn_o1 rfl (st_buildSlice tok rfl rfl rfl rfl rfl rfl rfl) (by decide +kernel) rfl rfl rfl ?_; rintro _ _ _ ⟨_, rfl, rfl, rfl⟩; refine ⟨by (repeat (first | exact trivial | refine And.intro (pend_q rfl rfl rfl (qt_pev tok rfl)) ?_ | refine And.intro (pend_q rfl rfl rfl (ql tok rfl)) ?_)), ?_⟩) | (refine prn_e1 rfl (qt_pev tok rfl) (by decide +kernel) rfl rfl rfl ?_; rintro _ _ _ ⟨rfl, rfl, rfl⟩) | refine prn_q rfl (qt_indexN tok rfl rfl rfl rfl (fun _ => hkl)) (by decide +kernel) rfl rfl rfl ?_ | refine prn_q rfl (qt_indexN tok rfl rfl rfl rfl (fun _ => hlt)) (by decide +kernel) rfl rfl rfl ?_ | refine prn_g rfl rfl rfl (qt_indexN tok rfl rfl rfl rfl (fun _ => hkl)) (by decide +kernel) rfl rfl rfl rfl rfl ?_ | refine prn_q rfl (qt_indexN tok rfl rfl rfl rfl (fun _ => by omega)) (by decide +kernel) rfl rfl rfl ?_ | refine prn_g rfl rfl rfl (qt_indexN tok rfl rfl rfl rfl (fun _ => by omega)) (by decide +kernel) rfl rfl rfl rfl rfl ?_ | refine prn_q rfl (qt_ldM tok rfl z1 rfl) (by decide +kernel) rfl rfl rfl ?_ | refine prn_g rfl rfl rfl (qt_ldM tok rfl z1 rfl) (by decide +kernel) rfl rfl rfl rfl rfl ?_ | refine prn_q rfl (qt_ldM0 tok rfl z1 rfl) (by decide +kernel) rfl rfl rfl ?_ | refine prn_g rfl rfl rfl (qt_ldM0 tok rfl z1 rfl) (by decide +kernel) rfl rfl rfl rfl rfl ?_ | refine prn_q rfl (qt_ldM tok rfl z4 rfl) (by decide +kernel) rfl rfl rfl ?_ | refine prn_g rfl rfl rfl (qt_ldM tok rfl z4 rfl) (by decide +kernel) rfl rfl rfl rfl rfl ?_ | refine prn_q rfl (qt_ldM0 tok rfl z4 rfl) (by decide +kernel) rfl rfl rfl ?_ | refine prn_g rfl rfl rfl (qt_ldM0 tok rfl z4 rfl) (by decide +kernel) rfl rfl rfl rfl rfl ?_ | refine prn_q rfl (qt_ldM tok rfl z8 rfl) (by decide +kernel) rfl rfl rfl ?_ | refine prn_g rfl rfl rfl (qt_ldM tok rfl z8 rfl) (by decide +kernel) rfl rfl rfl rfl rfl ?_ | refine prn_q rfl (qt_ldM0 tok rfl z8 rfl) (by decide +kernel) rfl rfl rfl ?_ | refine prn_g rfl rfl rfl (qt_ldM0 tok rfl z8 rfl) (by decide +kernel) rfl rfl rfl rfl rfl ?_ | refine prn_q rfl (qt_ldM tok rfl hcS2 rfl) (by decide +kernel) rfl rfl rfl ?_ | refine prn_g rfl rfl rfl (qt_ldM tok rfl hcS2 rfl) (by decide +kernel) rfl rfl rfl rfl rfl ?_ | refine prn_q rfl (qt_ldM0 tok rfl hcS2 rfl) (by decide +kernel) rfl rfl rfl ?_ | refine prn_g rfl rfl rfl (qt_ldM0 tok rfl hcS2 rfl) (by decide +kernel) rfl rfl rfl rfl rfl ?_)
      refine run_cond rfl (fun h => ?_) (fun _ => ?_)
      · exact (Bool.noConfusion (hf.symm.trans h))
      · repeat (first | with_reducible (first | refine run_seq ?_ | refine run_region ?_ | refine runL_nil ?_ | refine run_skip ?_ | refine run_block ?_ | refine run_inBlock ?_) | refine run_exit rfl ?_ | refine runL_q (qt_pev tok rfl) rfl rfl rfl ?_ | refine runL_g rfl rfl (qt_pev tok rfl) rfl rfl rfl rfl rfl ?_ | refine runL_q (ql tok rfl) rfl rfl rfl ?_ | refine runL_g rfl rfl (ql tok rfl) rfl rfl rfl rfl rfl ?_ | (refine runL_op0 (sst tok rfl rfl rfl rfl rfl) ?_; rintro _ _ _ ⟨rfl, rfl, rfl⟩) | (refine runL_op (st_box rfl) rfl rfl rfl ?_; rintro _ _ _ ⟨_, rfl, rfl, rfl⟩) | (refine runL_op (st_alloc tok rfl) rfl rfl rfl ?_; rintro _ _ _ ⟨_, rfl, rfl, rfl⟩) | (refine runL_op (st_buildSlice tok rfl rfl rfl rfl rfl rfl rfl) rfl rfl rfl ?_; rintro _ _ _ ⟨_, rfl, rfl, rfl⟩))
        exact run_sub' (hnext2 _ _ _ ⟨hkl, rfl, rfl, rfl⟩) ⟨lk_succ rfl (by omega), rfl, rfl, rfl, trivial⟩
    · repeat (first | with_reducible (first | refine run_seq ?_ | refine run_region ?_ | refine runL_nil ?_ | refine run_skip ?_ | refine run_block ?_ | refine run_inBlock ?_) | refine run_exit rfl ?_ | refine runL_q (qt_pev tok rfl) rfl rfl rfl ?_ | refine runL_g rfl rfl (qt_pev tok rfl) rfl rfl rfl rfl rfl ?_ | refine runL_q (ql tok rfl) rfl rfl rfl ?_ | refine runL_g rfl rfl (ql tok rfl) rfl rfl rfl rfl rfl ?_ | (refine runL_op0 (sst tok rfl rfl rfl rfl rfl) ?_; rintro _ _ _ ⟨rfl, rfl, rfl⟩) | (refine runL_op (st_box rfl) rfl rfl rfl ?_; rintro _ _ _ ⟨_, rfl, rfl, rfl⟩) | (refine runL_op (st_alloc tok rfl) rfl rfl rfl ?_; rintro _ _ _ ⟨_, rfl, rfl, rfl⟩) | (refine runL_op (st_buildSlice tok rfl rfl rfl rfl rfl rfl rfl) rfl rfl rfl ?_; rintro _ _ _ ⟨_, rfl, rfl, rfl⟩))
      exact run_mem (fun _ h => h.drop) (run_sub' (hnext _ _ _ ⟨hlt, Mem.le_trans hM3 hM2, rfl, rfl⟩) ⟨lk_succ rfl (by omega), rfl, rfl, trivial⟩)
  · repeat (first | with_reducible (first | refine run_seq ?_ | refine run_region ?_ | refine runL_nil ?_ | refine run_skip ?_ | refine run_block ?_ | refine run_inBlock ?_) | refine run_exit rfl ?_ | refine runL_q (qt_pev tok rfl) rfl rfl rfl ?_ | refine runL_g rfl rfl (qt_pev tok rfl) rfl rfl rfl rfl rfl ?_ | refine runL_q (ql tok rfl) rfl rfl rfl ?_ | refine runL_g rfl rfl (ql tok rfl) rfl rfl rfl rfl rfl ?_ | (refine runL_op0 (sst tok rfl rfl rfl rfl rfl) ?_; rintro _ _ _ ⟨rfl, rfl, rfl⟩) | (refine runL_op (st_box rfl) rfl rfl rfl ?_; rintro _ _ _ ⟨_, rfl, rfl, rfl⟩) | (refine runL_op (st_alloc tok rfl) rfl rfl rfl ?_; rintro _ _ _ ⟨_, rfl, rfl, rfl⟩) | (refine runL_op (st_buildSlice tok rfl rfl rfl rfl rfl rfl rfl) rfl rfl rfl ?_; rintro _ _ _ ⟨_, rfl, rfl, rfl⟩))
    exact run_ret hC (rs := [.tmp 6]) rfl (resT rfl resN) (fun _ h => h.drop) ⟨rfl, Mem.le_trans hM1 hM3, rfl⟩
end Go.Proofs.Ytpmepmdngdkafaa
namespace Go.Proofs.Ytpmepmdngdkafaa
open Go.Chi

theorem coZ_ab : coZ.ab = caZ := rfl
set_option maxRecDepth 10000 in
set_option maxHeartbeats 32000000 in
theorem coordKeeps_ok (M : Mem) (L : HL) (t : Tx) (au : Int) (s : SMb) (bs : SStr) (at_ : Int) (sa : Option Addr) (sl sc : Nat) (xs : List Stp) (now wait : Int) (hs : s.Ok M) (hbs : bs.Ok M) (hxs : SlM M 5 sa sl (xs.map stpC)) : Tr Try.prog 4 [.agg ⟨txC t⟩, .int .i64 au, s.v, bs.v, .int .i64 at_, .slice sa sl sc, .int .i64 now, .int .i64 wait] M L (fun v M' L' => v = .bool true ∧ M.le M' ∧ L = L') := by
  refine Tr.intro 98 Try.func4 rfl rfl Try.call4 rfl ?_
  intro C hC hro
  repeat (first | with_reducible (first | refine run_seq ?_ | refine run_region ?_ | refine runL_nil ?_ | refine run_skip ?_ | refine run_block ?_ | refine run_inBlock ?_) | refine run_exit rfl ?_ | refine runL_q (qt_pev tok rfl) rfl rfl rfl ?_ | refine runL_g rfl rfl (qt_pev tok rfl) rfl rfl rfl rfl rfl ?_ | refine runL_q (ql tok rfl) rfl rfl rfl ?_ | refine runL_g rfl rfl (ql tok rfl) rfl rfl rfl rfl rfl ?_ | (refine runL_op0 (sst tok rfl rfl rfl rfl rfl) ?_; rintro _ _ _ ⟨rfl, rfl, rfl⟩) | (refine runL_op (st_box rfl) rfl rfl rfl ?_; rintro _ _ _ ⟨_, rfl, rfl, rfl⟩) | (refine runL_op (st_alloc tok rfl) rfl rfl rfl ?_; rintro _ _ _ ⟨_, rfl, rfl, rfl⟩) | (refine runL_op (st_buildSlice tok rfl rfl rfl rfl rfl rfl rfl) rfl rfl rfl ?_; rintro _ _ _ ⟨_, rfl, rfl, rfl⟩) | refine runL_q (qt_callF rfl (fun _ => long12_ok _ _ s hs)) rfl rfl rfl ?_ | refine runL_g rfl rfl (qt_callF rfl (fun _ => long06_ok _ _ bs hbs)) rfl rfl rfl rfl rfl ?_)
  rename_i b8
  refine run_cond rfl (fun h => ?_) (fun h => ?_)
  · repeat (first | with_reducible (first | refine run_seq ?_ | refine run_region ?_ | refine runL_nil ?_ | refine run_skip ?_ | refine run_block ?_ | refine run_inBlock ?_) | refine run_exit rfl ?_ | refine runL_q (qt_pev tok rfl) rfl rfl rfl ?_ | refine runL_g rfl rfl (qt_pev tok rfl) rfl rfl rfl rfl rfl ?_ | refine runL_q (ql tok rfl) rfl rfl rfl ?_ | refine runL_g rfl rfl (ql tok rfl) rfl rfl rfl rfl rfl ?_ | (refine runL_op0 (sst tok rfl rfl rfl rfl rfl) ?_; rintro _ _ _ ⟨rfl, rfl, rfl⟩) | (refine runL_op (st_box rfl) rfl rfl rfl ?_; rintro _ _ _ ⟨_, rfl, rfl, rfl⟩) | (refine runL_op (st_alloc tok rfl) rfl rfl rfl ?_; rintro _ _ _ ⟨_, rfl, rfl, rfl⟩) | (refine runL_op (st_buildSlice tok rfl rfl rfl rfl rfl rfl rfl) rfl rfl rfl ?_; rintro _ _ _ ⟨_, rfl, rfl, rfl⟩) | (refine runL_op (st_callF rfl (fun _ => alive_ok _ _)) rfl rfl rfl ?_; rintro _ M1 _ ⟨rfl, hM1, rfl⟩))
    exact run_ret hC (rs := [.tmp 16]) rfl (resT rfl resN) (fun _ h => h.drop) ⟨rfl, hM1, rfl⟩
  have hsm : (long12 s = false ∧ long06 bs = false) ∧ ¬ (sl : Int) > 60 := by
    have : ((long12 s || long06 bs) || decide ((sl : Int) > 60)) = false := h
    rw [Bool.or_eq_false_iff, Bool.or_eq_false_iff] at this
    exact ⟨this.1, of_decide_eq_false this.2⟩
  obtain ⟨hmb, hmd⟩ := long12_m hs hsm.1.1
  obtain ⟨hst, hsd⟩ := long06_m hbs hsm.1.2
  have hs60 := hsm.2
  repeat (first | with_reducible (first | refine run_seq ?_ | refine run_region ?_ | refine runL_nil ?_ | refine run_skip ?_ | refine run_block ?_ | refine run_inBlock ?_) | refine run_exit rfl ?_ | refine runL_q (qt_pev tok rfl) rfl rfl rfl ?_ | refine runL_g rfl rfl (qt_pev tok rfl) rfl rfl rfl rfl rfl ?_ | refine runL_q (ql tok rfl) rfl rfl rfl ?_ | refine runL_g rfl rfl (ql tok rfl) rfl rfl rfl rfl rfl ?_ | (refine runL_op0 (sst tok rfl rfl rfl rfl rfl) ?_; rintro _ _ _ ⟨rfl, rfl, rfl⟩) | (refine runL_op (st_box rfl) rfl rfl rfl ?_; rintro _ _ _ ⟨_, rfl, rfl, rfl⟩) | (refine runL_op (st_alloc tok rfl) rfl rfl rfl ?_; rintro _ _ _ ⟨_, rfl, rfl, rfl⟩) | (refine runL_op (st_buildSlice tok rfl rfl rfl rfl rfl rfl rfl) rfl rfl rfl ?_; rintro _ _ _ ⟨_, rfl, rfl, rfl⟩) | (refine runL_op (st_callF rfl (fun _ => new_ok _ _ t au s bs at_ hmb hst hmd hsd)) rfl rfl rfl ?_; rintro _ M1 _ ⟨hM1, rfl, c, rfl, hab, hok⟩))
  rename_i b17
  refine run_cond rfl (fun h => ?_) (fun h => ?_)
  · have he : (newA t au s.xs bs.xs at_).2 ≠ 0 := by simpa using h
    rw [new_err he] at hab
    replace hab : c.ab = caZ := hab
    repeat (first | with_reducible (first | refine run_seq ?_ | refine run_region ?_ | refine runL_nil ?_ | refine run_skip ?_ | refine run_block ?_ | refine run_inBlock ?_) | refine run_exit rfl ?_ | refine runL_q (qt_pev tok rfl) rfl rfl rfl ?_ | refine runL_g rfl rfl (qt_pev tok rfl) rfl rfl rfl rfl rfl ?_ | refine runL_q (ql tok rfl) rfl rfl rfl ?_ | refine runL_g rfl rfl (ql tok rfl) rfl rfl rfl rfl rfl ?_ | (refine runL_op0 (sst tok rfl rfl rfl rfl rfl) ?_; rintro _ _ _ ⟨rfl, rfl, rfl⟩) | (refine runL_op (st_box rfl) rfl rfl rfl ?_; rintro _ _ _ ⟨_, rfl, rfl, rfl⟩) | (refine runL_op (st_alloc tok rfl) rfl rfl rfl ?_; rintro _ _ _ ⟨_, rfl, rfl, rfl⟩) | (refine runL_op (st_buildSlice tok rfl rfl rfl rfl rfl rfl rfl) rfl rfl rfl ?_; rintro _ _ _ ⟨_, rfl, rfl, rfl⟩) | refine runL_q (qt_callF rfl (fun _ => sameCo_ok _ _ c coZ hok (coZ_ok _) hab)) rfl rfl rfl ?_)
    refine runL_gT rfl rfl (st_callF rfl (fun _ => alive_ok _ _)) rfl rfl rfl ?_
    rintro _ M2 _ ⟨rfl, hM2, rfl⟩
    repeat (first | with_reducible (first | refine run_seq ?_ | refine run_region ?_ | refine runL_nil ?_ | refine run_skip ?_ | refine run_block ?_ | refine run_inBlock ?_) | refine run_exit rfl ?_ | refine runL_q (qt_pev tok rfl) rfl rfl rfl ?_ | refine runL_g rfl rfl (qt_pev tok rfl) rfl rfl rfl rfl rfl ?_ | refine runL_q (ql tok rfl) rfl rfl rfl ?_ | refine runL_g rfl rfl (ql tok rfl) rfl rfl rfl rfl rfl ?_ | (refine runL_op0 (sst tok rfl rfl rfl rfl rfl) ?_; rintro _ _ _ ⟨rfl, rfl, rfl⟩) | (refine runL_op (st_box rfl) rfl rfl rfl ?_; rintro _ _ _ ⟨_, rfl, rfl, rfl⟩) | (refine runL_op (st_alloc tok rfl) rfl rfl rfl ?_; rintro _ _ _ ⟨_, rfl, rfl, rfl⟩) | (refine runL_op (st_buildSlice tok rfl rfl rfl rfl rfl rfl rfl) rfl rfl rfl ?_; rintro _ _ _ ⟨_, rfl, rfl, rfl⟩))
    exact run_ret hC (rs := [.tmp 16]) rfl (resT rfl resN) (fun _ h => h.drop.drop) ⟨rfl, Mem.le_trans hM1 hM2, rfl⟩
  have he : (newA t au s.xs bs.xs at_).2 = 0 := by simpa using h
  obtain ⟨hP, hst1, hNn⟩ := new_keep (show newA t au s.xs bs.xs at_ = (c.ab, 0) by rw [← he, hab])
  replace hst1 : c.state = 1 := hst1
  repeat (first | with_reducible (first | refine run_seq ?_ | refine run_region ?_ | refine runL_nil ?_ | refine run_skip ?_ | refine run_block ?_ | refine run_inBlock ?_) | refine run_exit rfl ?_)
  iterate 4 (first | refine runL_q (qt_pev tok rfl) rfl rfl rfl ?_ | refine runL_gK rfl rfl (qt_pev tok rfl) rfl rfl rfl ?_ | refine runL_gF rfl rfl rfl rfl rfl ?_ | refine runL_g rfl rfl (qt_pev tok rfl) rfl rfl rfl rfl rfl ?_ | refine runL_q (ql tok rfl) rfl rfl rfl ?_ | refine runL_gK rfl rfl (ql tok rfl) rfl rfl rfl ?_ | refine runL_gF rfl rfl rfl rfl rfl ?_ | refine runL_g rfl rfl (ql tok rfl) rfl rfl rfl rfl rfl ?_ | (refine runL_op0 (sst tok rfl rfl rfl rfl rfl) ?_; rintro _ _ _ ⟨rfl, rfl, rfl⟩) | (refine runL_op (st_box rfl) rfl rfl rfl ?_; rintro _ _ _ ⟨_, rfl, rfl, rfl⟩) | (refine runL_op (st_alloc tok rfl) rfl rfl rfl ?_; rintro _ _ _ ⟨_, rfl, rfl, rfl⟩) | (refine runL_op (st_buildSlice tok rfl rfl rfl rfl rfl rfl rfl) rfl rfl rfl ?_; rintro _ _ _ ⟨_, rfl, rfl, rfl⟩))
  refine runL_known 54 false rfl (by rw [hst1]; rfl) ?_
  repeat (first | with_reducible (first | refine run_seq ?_ | refine run_region ?_ | refine runL_nil ?_ | refine run_skip ?_ | refine run_block ?_ | refine run_inBlock ?_) | refine run_exit rfl ?_ | refine runL_q (qt_pev tok rfl) rfl rfl rfl ?_ | refine runL_gK rfl rfl (qt_pev tok rfl) rfl rfl rfl ?_ | refine runL_gF rfl rfl rfl rfl rfl ?_ | refine runL_g rfl rfl (qt_pev tok rfl) rfl rfl rfl rfl rfl ?_ | refine runL_q (ql tok rfl) rfl rfl rfl ?_ | refine runL_gK rfl rfl (ql tok rfl) rfl rfl rfl ?_ | refine runL_gF rfl rfl rfl rfl rfl ?_ | refine runL_g rfl rfl (ql tok rfl) rfl rfl rfl rfl rfl ?_ | (refine runL_op0 (sst tok rfl rfl rfl rfl rfl) ?_; rintro _ _ _ ⟨rfl, rfl, rfl⟩) | (refine runL_op (st_box rfl) rfl rfl rfl ?_; rintro _ _ _ ⟨_, rfl, rfl, rfl⟩) | (refine runL_op (st_alloc tok rfl) rfl rfl rfl ?_; rintro _ _ _ ⟨_, rfl, rfl, rfl⟩) | (refine runL_op (st_buildSlice tok rfl rfl rfl rfl rfl rfl rfl) rfl rfl rfl ?_; rintro _ _ _ ⟨_, rfl, rfl, rfl⟩))
  refine runL_gT rfl rfl (st_callF rfl (fun _ => keeps_ok _ _ c c hok hok (KeepP.refl hP))) rfl rfl rfl ?_
  rintro _ M2 _ ⟨rfl, hM2, rfl⟩
  repeat (first | with_reducible (first | refine run_seq ?_ | refine run_region ?_ | refine runL_nil ?_ | refine run_skip ?_ | refine run_block ?_ | refine run_inBlock ?_) | refine run_exit rfl ?_ | refine runL_q (qt_pev tok rfl) rfl rfl rfl ?_ | refine runL_gK rfl rfl (qt_pev tok rfl) rfl rfl rfl ?_ | refine runL_gF rfl rfl rfl rfl rfl ?_ | refine runL_g rfl rfl (qt_pev tok rfl) rfl rfl rfl rfl rfl ?_ | refine runL_q (ql tok rfl) rfl rfl rfl ?_ | refine runL_gK rfl rfl (ql tok rfl) rfl rfl rfl ?_ | refine runL_gF rfl rfl rfl rfl rfl ?_ | refine runL_g rfl rfl (ql tok rfl) rfl rfl rfl rfl rfl ?_ | (refine runL_op0 (sst tok rfl rfl rfl rfl rfl) ?_; rintro _ _ _ ⟨rfl, rfl, rfl⟩) | (refine runL_op (st_box rfl) rfl rfl rfl ?_; rintro _ _ _ ⟨_, rfl, rfl, rfl⟩) | (refine runL_op (st_alloc tok rfl) rfl rfl rfl ?_; rintro _ _ _ ⟨_, rfl, rfl, rfl⟩) | (refine runL_op (st_buildSlice tok rfl rfl rfl rfl rfl rfl rfl) rfl rfl rfl ?_; rintro _ _ _ ⟨_, rfl, rfl, rfl⟩))
  refine run_cond rfl (fun h => by cases h) (fun _ => ?_)
  have hM12 := Mem.le_trans hM1 hM2
  have hok2 := hok.le hM2
  clear hab he
  repeat (first | with_reducible (first | refine run_seq ?_ | refine run_region ?_ | refine runL_nil ?_ | refine run_skip ?_ | refine run_block ?_ | refine run_inBlock ?_) | refine run_exit rfl ?_ | refine runL_q (qt_pev tok rfl) rfl rfl rfl ?_ | refine runL_g rfl rfl (qt_pev tok rfl) rfl rfl rfl rfl rfl ?_ | refine runL_q (ql tok rfl) rfl rfl rfl ?_ | refine runL_g rfl rfl (ql tok rfl) rfl rfl rfl rfl rfl ?_ | (refine runL_op0 (sst tok rfl rfl rfl rfl rfl) ?_; rintro _ _ _ ⟨rfl, rfl, rfl⟩) | (refine runL_op (st_box rfl) rfl rfl rfl ?_; rintro _ _ _ ⟨_, rfl, rfl, rfl⟩) | (refine runL_op (st_alloc tok rfl) rfl rfl rfl ?_; rintro _ _ _ ⟨_, rfl, rfl, rfl⟩) | (refine runL_op (st_buildSlice tok rfl rfl rfl rfl rfl rfl rfl) rfl rfl rfl ?_; rintro _ _ _ ⟨_, rfl, rfl, rfl⟩))
  refine run_loopN (fun i σ1 M3 L3 => i ≤ sl ∧ ∃ c : Co, M.le M3 ∧ CoOk M3 c ∧ MayP c.ab ∧ Nn c.ab ∧ L3 = (b17, .cells ⟨coC c⟩ 29 (0, 0)) :: (b8, .cells ⟨txC t⟩ 23 (0, 0)) :: L ∧ σ1 = [(19, .int .i64 (i : Int)), (17, .pointer (some ⟨b17, 0, none⟩)), (5, .slice sa sl sc), (6, .int .i64 now), (7, .int .i64 wait)]) sl [(19, .int .i64 ((0 : Nat) : Int)), (17, .pointer (some ⟨b17, 0, none⟩)), (5, .slice sa sl sc), (6, .int .i64 now), (7, .int .i64 wait)] ?_ ⟨Nat.zero_le _, c, hM12, hok2, hP, hNn, rfl, rfl⟩ (fun j _ _ _ h => h.1) ?_
  · exact ⟨rfl, rfl, rfl, rfl, rfl, trivial⟩
  clear hok2 hok hP hNn hst1 hM12 hM2 hM1
  clear c
  rintro i _ M2 _ ⟨hi, c, hM2, hc1, hP, hNn, rfl, rfl⟩ hnext
  repeat (first | with_reducible (first | refine run_seq ?_ | refine run_region ?_ | refine runL_nil ?_ | refine run_skip ?_ | refine run_block ?_ | refine run_inBlock ?_) | refine run_exit rfl ?_ | refine runL_q (qt_pev tok rfl) rfl rfl rfl ?_ | refine runL_g rfl rfl (qt_pev tok rfl) rfl rfl rfl rfl rfl ?_ | refine runL_q (ql tok rfl) rfl rfl rfl ?_ | refine runL_g rfl rfl (ql tok rfl) rfl rfl rfl rfl rfl ?_ | (refine runL_op0 (sst tok rfl rfl rfl rfl rfl) ?_; rintro _ _ _ ⟨rfl, rfl, rfl⟩) | (refine runL_op (st_box rfl) rfl rfl rfl ?_; rintro _ _ _ ⟨_, rfl, rfl, rfl⟩) | (refine runL_op (st_alloc tok rfl) rfl rfl rfl ?_; rintro _ _ _ ⟨_, rfl, rfl, rfl⟩) | (refine runL_op (st_buildSlice tok rfl rfl rfl rfl rfl rfl rfl) rfl rfl rfl ?_; rintro _ _ _ ⟨_, rfl, rfl, rfl⟩))
  refine run_cond rfl (fun h => ?_) (fun h => ?_)
  · have hlt : i < sl := of_natlt h
    obtain ⟨bS, oS, cS, rfl, yS, _, hcS⟩ := (SlM.le hM2 hxs).at_ hlt
    obtain ⟨x, hx, rfl⟩ : ∃ y, xs[i]? = some y ∧ stpC y = cS := by simpa using yS
    repeat (first | with_reducible (first | refine run_seq ?_ | refine run_region ?_ | refine runL_nil ?_ | refine run_skip ?_ | refine run_block ?_ | refine run_inBlock ?_) | refine run_exit rfl ?_ | refine runL_q (qt_pev tok rfl) rfl rfl rfl ?_ | refine runL_g rfl rfl (qt_pev tok rfl) rfl rfl rfl rfl rfl ?_ | refine runL_q (ql tok rfl) rfl rfl rfl ?_ | refine runL_g rfl rfl (ql tok rfl) rfl rfl rfl rfl rfl ?_ | (refine runL_op0 (sst tok rfl rfl rfl rfl rfl) ?_; rintro _ _ _ ⟨rfl, rfl, rfl⟩) | (refine runL_op (st_box rfl) rfl rfl rfl ?_; rintro _ _ _ ⟨_, rfl, rfl, rfl⟩) | (refine runL_op (st_alloc tok rfl) rfl rfl rfl ?_; rintro _ _ _ ⟨_, rfl, rfl, rfl⟩) | (refine runL_op (st_buildSlice tok rfl rfl rfl rfl rfl rfl rfl) rfl rfl rfl ?_; rintro _ _ _ ⟨_, rfl, rfl, rfl⟩) | refine runL_q (qt_indexN tok rfl rfl rfl rfl (fun _ => by omega)) rfl rfl rfl ?_ | refine runL_g rfl rfl (qt_indexN tok rfl rfl rfl rfl (fun _ => by omega)) rfl rfl rfl rfl rfl ?_ | refine runL_q (qt_ldM tok rfl hcS rfl) rfl rfl rfl ?_ | refine runL_g rfl rfl (qt_ldM tok rfl hcS rfl) rfl rfl rfl rfl rfl ?_ | refine runL_q (qt_ldM0 tok rfl hcS rfl) rfl rfl rfl ?_ | refine runL_g rfl rfl (qt_ldM0 tok rfl hcS rfl) rfl rfl rfl rfl rfl ?_)
    refine run_cond rfl (fun h => ?_) (fun h => ?_)
    · repeat (first | with_reducible (first | refine run_seq ?_ | refine run_region ?_ | refine runL_nil ?_ | refine run_skip ?_ | refine run_block ?_ | refine run_inBlock ?_) | refine run_exit rfl ?_ | refine runL_q (qt_pev tok rfl) rfl rfl rfl ?_ | refine runL_g rfl rfl (qt_pev tok rfl) rfl rfl rfl rfl rfl ?_ | refine runL_q (ql tok rfl) rfl rfl rfl ?_ | refine runL_g rfl rfl (ql tok rfl) rfl rfl rfl rfl rfl ?_ | (refine runL_op0 (sst tok rfl rfl rfl rfl rfl) ?_; rintro _ _ _ ⟨rfl, rfl, rfl⟩) | (refine runL_op (st_box rfl) rfl rfl rfl ?_; rintro _ _ _ ⟨_, rfl, rfl, rfl⟩) | (refine runL_op (st_alloc tok rfl) rfl rfl rfl ?_; rintro _ _ _ ⟨_, rfl, rfl, rfl⟩) | (refine runL_op (st_buildSlice tok rfl rfl rfl rfl rfl rfl rfl) rfl rfl rfl ?_; rintro _ _ _ ⟨_, rfl, rfl, rfl⟩) | (refine runL_op (st_callF rfl (fun _ => alive_ok _ _)) rfl rfl rfl ?_; rintro _ M1 _ ⟨rfl, hM1, rfl⟩))
      exact run_ret hC (rs := [.tmp 16]) rfl (resT rfl resN) (fun _ h => h.drop.drop) ⟨rfl, Mem.le_trans hM2 hM1, rfl⟩
    have htag : x.tag.size < 4611686018427387904 := by
      have := of_decide_eq_false h
      omega
    refine run_skip ?_
    refine run_seq ?_
    refine run_cut (fun σ' M' L' => ∃ b20 c', M2.le M' ∧ c'.ab = (stepA c.ab x).1 ∧ CoOk M' c' ∧ L' = (b20, .cells ⟨coC c'⟩ 29 (0, 0)) :: (b17, .cells ⟨coC c⟩ 29 (0, 0)) :: (b8, .cells ⟨txC t⟩ 23 (0, 0)) :: L ∧ σ' = [(21, .int .i64 (stepA c.ab x).2), (20, .pointer (some ⟨b20, 0, none⟩)), (19, .int .i64 (i : Int)), (17, .pointer (some ⟨b17, 0, none⟩)), (5, .slice (some ⟨bS, oS, none⟩) sl sc), (6, .int .i64 now), (7, .int .i64 wait)]) ?_ ?_
    rotate_left
    · intro hnext2
      refine prn_start mixed ?_
      refine pr_q 0 (by decide +kernel) rfl (ql tok rfl) rfl rfl rfl ?_
      refine pr_q 1 (by decide +kernel) rfl (qt_pev tok rfl) rfl rfl rfl ?_
      refine pr_q 2 (by decide +kernel) rfl (qt_pev tok rfl) rfl rfl rfl ?_
      refine pr_q 3 (by decide +kernel) rfl (qt_indexN tok rfl rfl rfl rfl (fun _ => hlt)) rfl rfl rfl ?_
      refine pr_q 4 (by decide +kernel) rfl (qt_ldM0 tok rfl hcS rfl) rfl rfl rfl ?_
      refine pr_two 5 9 (by decide +kernel) ?_ ?_
      · refine eff1 5 rfl (st_callF rfl (fun _ => does_ok _ _ c hc1 x htag)) (by decide +kernel) (qs := _) rfl rfl rfl rfl ?_
        rintro _ M3 _ ⟨hM3, rfl, c', rfl, hab, hok⟩
        refine ⟨by (repeat (first | exact trivial | refine And.intro (pend_q rfl rfl rfl (qt_pev tok rfl)) ?_ | refine And.intro (pend_q rfl rfl rfl (ql tok rfl)) ?_ | refine And.intro (pend_q rfl rfl rfl (qt_indexN tok rfl rfl rfl rfl (fun _ => hlt))) ?_ | refine And.intro (pend_q rfl rfl rfl (qt_ldM0 tok rfl hcS rfl)) ?_ | refine And.intro (pend_q rfl rfl rfl (qt_ldM0 tok rfl (hcS.le hM3) rfl)) ?_)), ?_⟩
        refine pr_q 6 (by decide +kernel) rfl (qt_pev tok rfl) rfl rfl rfl ?_
        refine pr_q 7 (by decide +kernel) rfl (qt_pev tok rfl) rfl rfl rfl ?_
        refine pr_q 8 (by decide +kernel) rfl (qt_pev tok rfl) rfl rfl rfl ?_
        refine pr_one 9 (by decide +kernel) (eff1 9 rfl (st_alloc tok rfl) (by decide +kernel) (qs := _) rfl rfl rfl rfl ?_)
        rintro _ _ _ ⟨b20, rfl, rfl, rfl⟩
        refine ⟨by (repeat (first | exact trivial | refine And.intro (pend_q rfl rfl rfl (qt_pev tok rfl)) ?_ | refine And.intro (pend_q rfl rfl rfl (ql tok rfl)) ?_ | refine And.intro (pend_q rfl rfl rfl (qt_indexN tok rfl rfl rfl rfl (fun _ => hlt))) ?_ | refine And.intro (pend_q rfl rfl rfl (qt_ldM0 tok rfl hcS rfl)) ?_ | refine And.intro (pend_q rfl rfl rfl (qt_ldM0 tok rfl (hcS.le hM3) rfl)) ?_)), ?_⟩
        refine pr_one 10 (by decide +kernel) (eff0 10 rfl (sst tok rfl rfl rfl rfl rfl) (by decide +kernel) (qs := _) rfl ?_)
        rintro _ _ _ ⟨rfl, rfl, rfl⟩
        refine ⟨by (repeat (first | exact trivial | refine And.intro (pend_q rfl rfl rfl (qt_pev tok rfl)) ?_ | refine And.intro (pend_q rfl rfl rfl (ql tok rfl)) ?_ | refine And.intro (pend_q rfl rfl rfl (qt_indexN tok rfl rfl rfl rfl (fun _ => hlt))) ?_ | refine And.intro (pend_q rfl rfl rfl (qt_ldM0 tok rfl hcS rfl)) ?_ | refine And.intro (pend_q rfl rfl rfl (qt_ldM0 tok rfl (hcS.le hM3) rfl)) ?_)), ?_⟩
        refine pr_q 11 (by decide +kernel) rfl (qt_pev tok rfl) rfl rfl rfl ?_
        refine pr_end (by decide +kernel) (by decide +kernel) ?_
        exact run_sub' (hnext2 _ _ _ ⟨b20, c', hM3, hab, hok, rfl, rfl⟩) ⟨rfl, rfl, rfl, rfl, rfl, rfl, rfl, trivial⟩
      · refine eff1 9 rfl (st_alloc tok rfl) (by decide +kernel) (qs := _) rfl rfl rfl rfl ?_
        rintro _ _ _ ⟨b20, rfl, rfl, rfl⟩
        refine ⟨by (repeat (first | exact trivial | refine And.intro (pend_q rfl rfl rfl (qt_pev tok rfl)) ?_ | refine And.intro (pend_q rfl rfl rfl (ql tok rfl)) ?_ | refine And.intro (pend_q rfl rfl rfl (qt_indexN tok rfl rfl rfl rfl (fun _ => hlt))) ?_ | refine And.intro (pend_q rfl rfl rfl (qt_ldM0 tok rfl hcS rfl)) ?_ | refine And.intro (pend_q rfl rfl rfl (qt_ldM0 tok rfl (hcS.le hM3) rfl)) ?_)), ?_⟩
        refine pr_one 5 (by decide +kernel) (eff1 5 rfl (st_callF rfl (fun _ => does_ok _ _ c hc1 x htag)) (by decide +kernel) (qs := _) rfl rfl rfl rfl ?_)
        rintro _ M3 _ ⟨hM3, rfl, c', rfl, hab, hok⟩
        refine ⟨by (repeat (first | exact trivial | refine And.intro (pend_q rfl rfl rfl (qt_pev tok rfl)) ?_ | refine And.intro (pend_q rfl rfl rfl (ql tok rfl)) ?_ | refine And.intro (pend_q rfl rfl rfl (qt_indexN tok rfl rfl rfl rfl (fun _ => hlt))) ?_ | refine And.intro (pend_q rfl rfl rfl (qt_ldM0 tok rfl hcS rfl)) ?_ | refine And.intro (pend_q rfl rfl rfl (qt_ldM0 tok rfl (hcS.le hM3) rfl)) ?_)), ?_⟩
        refine pr_q 6 (by decide +kernel) rfl (qt_pev tok rfl) rfl rfl rfl ?_
        refine pr_q 7 (by decide +kernel) rfl (qt_pev tok rfl) rfl rfl rfl ?_
        refine pr_q 8 (by decide +kernel) rfl (qt_pev tok rfl) rfl rfl rfl ?_
        refine pr_one 10 (by decide +kernel) (eff0 10 rfl (sst tok rfl rfl rfl rfl rfl) (by decide +kernel) (qs := _) rfl ?_)
        rintro _ _ _ ⟨rfl, rfl, rfl⟩
        refine ⟨by (repeat (first | exact trivial | refine And.intro (pend_q rfl rfl rfl (qt_pev tok rfl)) ?_ | refine And.intro (pend_q rfl rfl rfl (ql tok rfl)) ?_ | refine And.intro (pend_q rfl rfl rfl (qt_indexN tok rfl rfl rfl rfl (fun _ => hlt))) ?_ | refine And.intro (pend_q rfl rfl rfl (qt_ldM0 tok rfl hcS rfl)) ?_ | refine And.intro (pend_q rfl rfl rfl (qt_ldM0 tok rfl (hcS.le hM3) rfl)) ?_)), ?_⟩
        refine pr_q 11 (by decide +kernel) rfl (qt_pev tok rfl) rfl rfl rfl ?_
        refine pr_end (by decide +kernel) (by decide +kernel) ?_
        exact run_sub' (hnext2 _ _ _ ⟨b20, c', hM3, hab, hok, rfl, rfl⟩) ⟨rfl, rfl, rfl, rfl, rfl, rfl, rfl, trivial⟩
    rintro _ M3 _ ⟨b20, c', hM3, hab, hok, rfl, rfl⟩
    repeat (first | with_reducible (first | refine run_seq ?_ | refine run_region ?_ | refine runL_nil ?_ | refine run_skip ?_ | refine run_block ?_ | refine run_inBlock ?_) | refine run_exit rfl ?_ | refine runL_q (qt_pev tok rfl) rfl rfl rfl ?_ | refine runL_g rfl rfl (qt_pev tok rfl) rfl rfl rfl rfl rfl ?_ | refine runL_q (ql tok rfl) rfl rfl rfl ?_ | refine runL_g rfl rfl (ql tok rfl) rfl rfl rfl rfl rfl ?_ | (refine runL_op0 (sst tok rfl rfl rfl rfl rfl) ?_; rintro _ _ _ ⟨rfl, rfl, rfl⟩) | (refine runL_op (st_box rfl) rfl rfl rfl ?_; rintro _ _ _ ⟨_, rfl, rfl, rfl⟩) | (refine runL_op (st_alloc tok rfl) rfl rfl rfl ?_; rintro _ _ _ ⟨_, rfl, rfl, rfl⟩) | (refine runL_op (st_buildSlice tok rfl rfl rfl rfl rfl rfl rfl) rfl rfl rfl ?_; rintro _ _ _ ⟨_, rfl, rfl, rfl⟩))
    refine run_cond rfl (fun h => ?_) (fun h => ?_)
    · repeat (first | with_reducible (first | refine run_seq ?_ | refine run_region ?_ | refine runL_nil ?_ | refine run_skip ?_ | refine run_block ?_ | refine run_inBlock ?_) | refine run_exit rfl ?_ | refine runL_q (qt_pev tok rfl) rfl rfl rfl ?_ | refine runL_g rfl rfl (qt_pev tok rfl) rfl rfl rfl rfl rfl ?_ | refine runL_q (ql tok rfl) rfl rfl rfl ?_ | refine runL_g rfl rfl (ql tok rfl) rfl rfl rfl rfl rfl ?_ | (refine runL_op0 (sst tok rfl rfl rfl rfl rfl) ?_; rintro _ _ _ ⟨rfl, rfl, rfl⟩) | (refine runL_op (st_box rfl) rfl rfl rfl ?_; rintro _ _ _ ⟨_, rfl, rfl, rfl⟩) | (refine runL_op (st_alloc tok rfl) rfl rfl rfl ?_; rintro _ _ _ ⟨_, rfl, rfl, rfl⟩) | (refine runL_op (st_buildSlice tok rfl rfl rfl rfl rfl rfl rfl) rfl rfl rfl ?_; rintro _ _ _ ⟨_, rfl, rfl, rfl⟩))
      exact run_mem (fun _ h => h.drop) (run_sub' (hnext _ _ _ ⟨hlt, c, Mem.le_trans hM2 hM3, hc1.le hM3, hP, hNn, rfl, rfl⟩) ⟨lk_succ rfl (by omega), rfl, rfl, rfl, rfl, trivial⟩)
    have he : (stepA c.ab x).2 = 0 := by simpa using h
    obtain ⟨hK, hN2⟩ := step_keep hNn (show stepA c.ab x = (c'.ab, 0) by rw [← he, hab])
    have hm' : mayA c'.ab = true := (may_iff _).2 hK.may
    repeat (first | with_reducible (first | refine run_seq ?_ | refine run_region ?_ | refine runL_nil ?_ | refine run_skip ?_ | refine run_block ?_ | refine run_inBlock ?_) | refine run_exit rfl ?_ | refine runL_q (qt_pev tok rfl) rfl rfl rfl ?_ | refine runL_g rfl rfl (qt_pev tok rfl) rfl rfl rfl rfl rfl ?_ | refine runL_q (ql tok rfl) rfl rfl rfl ?_ | refine runL_g rfl rfl (ql tok rfl) rfl rfl rfl rfl rfl ?_ | (refine runL_op0 (sst tok rfl rfl rfl rfl rfl) ?_; rintro _ _ _ ⟨rfl, rfl, rfl⟩) | (refine runL_op (st_box rfl) rfl rfl rfl ?_; rintro _ _ _ ⟨_, rfl, rfl, rfl⟩) | (refine runL_op (st_alloc tok rfl) rfl rfl rfl ?_; rintro _ _ _ ⟨_, rfl, rfl, rfl⟩) | (refine runL_op (st_buildSlice tok rfl rfl rfl rfl rfl rfl rfl) rfl rfl rfl ?_; rintro _ _ _ ⟨_, rfl, rfl, rfl⟩) | (refine runL_op (st_callF rfl (fun _ => keeps_ok _ _ c c' (hc1.le hM3) hok hK)) rfl rfl rfl ?_; rintro _ M4 _ ⟨rfl, hM4, rfl⟩))
    repeat (first | with_reducible (first | refine run_seq ?_ | refine run_region ?_ | refine runL_nil ?_ | refine run_skip ?_ | refine run_block ?_ | refine run_inBlock ?_) | refine run_exit rfl ?_ | refine runL_q (qt_pev tok rfl) rfl rfl rfl ?_ | refine runL_gK rfl rfl (qt_pev tok rfl) rfl rfl rfl ?_ | refine runL_gF rfl rfl rfl rfl rfl ?_ | refine runL_g rfl rfl (qt_pev tok rfl) rfl rfl rfl rfl rfl ?_ | refine runL_q (ql tok rfl) rfl rfl rfl ?_ | refine runL_gK rfl rfl (ql tok rfl) rfl rfl rfl ?_ | refine runL_gF rfl rfl rfl rfl rfl ?_ | refine runL_g rfl rfl (ql tok rfl) rfl rfl rfl rfl rfl ?_ | (refine runL_op0 (sst tok rfl rfl rfl rfl rfl) ?_; rintro _ _ _ ⟨rfl, rfl, rfl⟩) | (refine runL_op (st_box rfl) rfl rfl rfl ?_; rintro _ _ _ ⟨_, rfl, rfl, rfl⟩) | (refine runL_op (st_alloc tok rfl) rfl rfl rfl ?_; rintro _ _ _ ⟨_, rfl, rfl, rfl⟩) | (refine runL_op (st_buildSlice tok rfl rfl rfl rfl rfl rfl rfl) rfl rfl rfl ?_; rintro _ _ _ ⟨_, rfl, rfl, rfl⟩))
    refine runL_gT rfl rfl (st_callF rfl (fun _ => dueLaw_ok _ _ c' (hok.le hM4) hm' now wait)) rfl rfl rfl ?_
    rintro _ M5 _ ⟨rfl, hM5, rfl⟩
    repeat (first | with_reducible (first | refine run_seq ?_ | refine run_region ?_ | refine runL_nil ?_ | refine run_skip ?_ | refine run_block ?_ | refine run_inBlock ?_) | refine run_exit rfl ?_ | refine runL_q (qt_pev tok rfl) rfl rfl rfl ?_ | refine runL_gK rfl rfl (qt_pev tok rfl) rfl rfl rfl ?_ | refine runL_gF rfl rfl rfl rfl rfl ?_ | refine runL_g rfl rfl (qt_pev tok rfl) rfl rfl rfl rfl rfl ?_ | refine runL_q (ql tok rfl) rfl rfl rfl ?_ | refine runL_gK rfl rfl (ql tok rfl) rfl rfl rfl ?_ | refine runL_gF rfl rfl rfl rfl rfl ?_ | refine runL_g rfl rfl (ql tok rfl) rfl rfl rfl rfl rfl ?_ | (refine runL_op0 (sst tok rfl rfl rfl rfl rfl) ?_; rintro _ _ _ ⟨rfl, rfl, rfl⟩) | (refine runL_op (st_box rfl) rfl rfl rfl ?_; rintro _ _ _ ⟨_, rfl, rfl, rfl⟩) | (refine runL_op (st_alloc tok rfl) rfl rfl rfl ?_; rintro _ _ _ ⟨_, rfl, rfl, rfl⟩) | (refine runL_op (st_buildSlice tok rfl rfl rfl rfl rfl rfl rfl) rfl rfl rfl ?_; rintro _ _ _ ⟨_, rfl, rfl, rfl⟩))
    refine run_cond rfl (fun h => by cases h) (fun _ => ?_)
    repeat (first | with_reducible (first | refine run_seq ?_ | refine run_region ?_ | refine runL_nil ?_ | refine run_skip ?_ | refine run_block ?_ | refine run_inBlock ?_) | refine run_exit rfl ?_ | refine runL_q (qt_pev tok rfl) rfl rfl rfl ?_ | refine runL_g rfl rfl (qt_pev tok rfl) rfl rfl rfl rfl rfl ?_ | refine runL_q (ql tok rfl) rfl rfl rfl ?_ | refine runL_g rfl rfl (ql tok rfl) rfl rfl rfl rfl rfl ?_ | (refine runL_op0 (sst tok rfl rfl rfl rfl rfl) ?_; rintro _ _ _ ⟨rfl, rfl, rfl⟩) | (refine runL_op (st_box rfl) rfl rfl rfl ?_; rintro _ _ _ ⟨_, rfl, rfl, rfl⟩) | (refine runL_op (st_alloc tok rfl) rfl rfl rfl ?_; rintro _ _ _ ⟨_, rfl, rfl, rfl⟩) | (refine runL_op (st_buildSlice tok rfl rfl rfl rfl rfl rfl rfl) rfl rfl rfl ?_; rintro _ _ _ ⟨_, rfl, rfl, rfl⟩))
    exact run_mem (fun _ h => h.drop) (run_sub' (hnext _ _ _ ⟨hlt, c', Mem.le_trans hM2 (Mem.le_trans hM3 (Mem.le_trans hM4 hM5)), (hok.le hM4).le hM5, hK.may, hN2, rfl, rfl⟩) ⟨lk_succ rfl (by omega), rfl, rfl, rfl, rfl, trivial⟩)
  · repeat (first | with_reducible (first | refine run_seq ?_ | refine run_region ?_ | refine runL_nil ?_ | refine run_skip ?_ | refine run_block ?_ | refine run_inBlock ?_) | refine run_exit rfl ?_ | refine runL_q (qt_pev tok rfl) rfl rfl rfl ?_ | refine runL_g rfl rfl (qt_pev tok rfl) rfl rfl rfl rfl rfl ?_ | refine runL_q (ql tok rfl) rfl rfl rfl ?_ | refine runL_g rfl rfl (ql tok rfl) rfl rfl rfl rfl rfl ?_ | (refine runL_op0 (sst tok rfl rfl rfl rfl rfl) ?_; rintro _ _ _ ⟨rfl, rfl, rfl⟩) | (refine runL_op (st_box rfl) rfl rfl rfl ?_; rintro _ _ _ ⟨_, rfl, rfl, rfl⟩) | (refine runL_op (st_alloc tok rfl) rfl rfl rfl ?_; rintro _ _ _ ⟨_, rfl, rfl, rfl⟩) | (refine runL_op (st_buildSlice tok rfl rfl rfl rfl rfl rfl rfl) rfl rfl rfl ?_; rintro _ _ _ ⟨_, rfl, rfl, rfl⟩) | (refine runL_op (st_callF rfl (fun _ => alive_ok _ _)) rfl rfl rfl ?_; rintro _ M1 _ ⟨rfl, hM1, rfl⟩))
    exact run_ret hC (rs := [.tmp 16]) rfl (resT rfl resN) (fun _ h => h.drop.drop) ⟨rfl, Mem.le_trans hM2 hM1, rfl⟩
end Go.Proofs.Ytpmepmdngdkafaa
namespace Go.Proofs.Ytpmepmdngdkafaa
open Go.Chi

/-! ### what was handed over, as data -/
section
variable {H : Type} {enc : TypeId × Value → H} {W : World} {cs : List Value}
theorem uInt : Try.prog.underlying 3 = some (.int .i64) := und_ok tok (t := 3) rfl
theorem uI64 : Try.prog.underlying 2 = some (.int .i64) := und_ok tok (t := 2) rfl
theorem uBool : Try.prog.underlying 4 = some .bool := und_ok tok (t := 4) rfl
theorem uU8 : Try.prog.underlying 5 = some (.int .u8) := und_ok tok (t := 5) rfl
theorem uStr : Try.prog.underlying 9 = some .string := und_ok tok (t := 9) rfl
theorem rd_tx (h : RD enc Try.prog W 23 cs) : ∃ t : Tx, cs = txC t := by
  obtain ⟨_, _, rfl, h0, _, _, rfl, h1, _, _, rfl, h2, rfl⟩ := h.struct (und_ok tok (t := 23) rfl) (by kernel_rfl)
  obtain ⟨a, rfl, _⟩ := h0.int uInt
  obtain ⟨b, rfl, _⟩ := h1.int uInt
  obtain ⟨c, rfl, _⟩ := h2.int uInt
  exact ⟨⟨a, b, c⟩, rfl⟩
theorem rd_mb (h : RD enc Try.prog W 71 cs) : ∃ m : Mb, cs = mbC m ∧ True := by
  obtain ⟨_, _, rfl, h0, _, _, rfl, h1, rfl⟩ := h.struct (und_ok tok (t := 71) rfl) (by kernel_rfl)
  obtain ⟨a, rfl, _⟩ := h0.int uInt
  obtain ⟨b, rfl, _⟩ := h1.string uStr
  exact ⟨⟨a, b⟩, rfl, trivial⟩
theorem rd_smb (h : RD enc Try.prog W 24 cs) : ∃ s : SMb, cs = [s.v] ∧ s.Ok (memOf W) := by
  obtain ⟨a, len, cap, ls, rfl, _, _, hs, hel⟩ := h.slice (und_ok tok (t := 24) rfl) (size := 2) (by kernel_rfl) (by omega)
  obtain ⟨xs, rfl, _⟩ := list_of (f := mbC) (Q := fun _ => True) fun c hc => rd_mb (hel c hc)
  exact ⟨⟨a, len, cap, xs⟩, rfl, hs⟩
theorem rd_st (h : RD enc Try.prog W 9 cs) : ∃ s : ByteArray, cs = stC s ∧ True := by
  obtain ⟨b, rfl, _⟩ := h.string uStr
  exact ⟨b, rfl, trivial⟩
theorem rd_sstr (h : RD enc Try.prog W 25 cs) : ∃ s : SStr, cs = [s.v] ∧ s.Ok (memOf W) := by
  obtain ⟨a, len, cap, ls, rfl, _, _, hs, hel⟩ := h.slice (und_ok tok (t := 25) rfl) (size := 1) (by kernel_rfl) (by omega)
  obtain ⟨xs, rfl, _⟩ := list_of (f := stC) (Q := fun _ => True) fun c hc => rd_st (hel c hc)
  exact ⟨⟨a, len, cap, xs⟩, rfl, hs⟩
theorem rd_u8 (h : RD enc Try.prog W 5 cs) : ∃ x : Int, cs = u8C x ∧ 0 ≤ x := by
  obtain ⟨n, rfl, hw⟩ := h.int uU8
  exact ⟨n, rfl, by simp [Lit.wf, IntKind.min, IntKind.max, IntKind.signed, IntKind.bits] at hw; omega⟩
theorem rd_su8 (h : RD enc Try.prog W 26 cs) : ∃ s : SU8, cs = [s.v] ∧ s.Ok (memOf W) ∧ ∀ v ∈ s.xs, 0 ≤ v := by
  obtain ⟨a, len, cap, ls, rfl, _, _, hs, hel⟩ := h.slice (und_ok tok (t := 26) rfl) (size := 1) (by kernel_rfl) (by omega)
  obtain ⟨xs, rfl, hx⟩ := list_of (f := u8C) (Q := fun x => 0 ≤ x) fun c hc => rd_u8 (hel c hc)
  exact ⟨⟨a, len, cap, xs⟩, rfl, hs, hx⟩
theorem rd_bl (h : RD enc Try.prog W 4 cs) : ∃ x : Bool, cs = blC x ∧ True := by
  obtain ⟨n, rfl⟩ := h.bool uBool
  exact ⟨n, rfl, trivial⟩
theorem rd_sbl (h : RD enc Try.prog W 27 cs) : ∃ s : SBl, cs = [s.v] ∧ s.Ok (memOf W) := by
  obtain ⟨a, len, cap, ls, rfl, _, _, hs, hel⟩ := h.slice (und_ok tok (t := 27) rfl) (size := 1) (by kernel_rfl) (by omega)
  obtain ⟨xs, rfl, _⟩ := list_of (f := blC) (Q := fun _ => True) fun c hc => rd_bl (hel c hc)
  exact ⟨⟨a, len, cap, xs⟩, rfl, hs⟩
theorem rd_co (h : RD enc Try.prog W 29 cs) : ∃ c : Co, cs = coC c ∧ CoIn (memOf W) c ∧ ∀ v ∈ c.votes.xs, 0 ≤ v := by
  obtain ⟨_, _, rfl, h0, _, _, rfl, h1, _, _, rfl, h2, _, _, rfl, h3, _, _, rfl, h4, _, _, rfl, h5, _, _, rfl, h6, _, _, rfl, h7, _, _, rfl, h8, _, _, rfl, h9, rfl⟩ := h.struct (und_ok tok (t := 29) rfl) (by kernel_rfl)
  obtain ⟨t, rfl⟩ := rd_tx h0
  obtain ⟨au, rfl, _⟩ := h1.int uInt
  obtain ⟨m, rfl, hm⟩ := rd_smb h2
  obtain ⟨b, rfl, hb⟩ := rd_sstr h3
  obtain ⟨v, rfl, hv, hv0⟩ := rd_su8 h4
  obtain ⟨g, rfl, hg⟩ := rd_sstr h5
  obtain ⟨k, rfl, hk⟩ := rd_sbl h6
  obtain ⟨st, rfl, _⟩ := h7.int uU8
  obtain ⟨si, rfl, _⟩ := h8.int uI64
  obtain ⟨se, rfl, _⟩ := h9.int uI64
  exact ⟨⟨t, au, m, b, v, g, k, st, si, se⟩, rfl, ⟨hm, hb, hv, hg, hk⟩, hv0⟩
theorem rd_rp (h : RD enc Try.prog W 51 cs) : ∃ t au s ts, cs = rpC t au s ts ∧ s.Ok (memOf W) ∧ ts.Ok (memOf W) := by
  obtain ⟨_, _, rfl, h0, _, _, rfl, h1, _, _, rfl, h2, _, _, rfl, h3, rfl⟩ := h.struct (und_ok tok (t := 51) rfl) (by kernel_rfl)
  obtain ⟨t, rfl⟩ := rd_tx h0
  obtain ⟨au, rfl, _⟩ := h1.int uInt
  obtain ⟨m, rfl, hm⟩ := rd_smb h2
  obtain ⟨g, rfl, hg⟩ := rd_sstr h3
  exact ⟨t, au, m, g, rfl, hm, hg⟩
end
theorem own : ownKnob Try.prog.godebug = none := by kernel_rfl
theorem laid : laidOutB Try.prog = true := by kernel_rfl
end Go.Proofs.Ytpmepmdngdkafaa
namespace Go.Proofs.Ytpmepmdngdkafaa
open Go.Chi
section
variable {H : Type} {enc : TypeId × Value → H} {W : World} {cs : List Value}
theorem rd_stp (h : RD enc Try.prog W 46 cs) : ∃ x : Stp, cs = stpC x ∧ True := by
  obtain ⟨_, _, rfl, h0, _, _, rfl, h1, _, _, rfl, h2, _, _, rfl, h3, _, _, rfl, h4, rfl⟩ := h.struct (und_ok tok (t := 46) rfl) (by kernel_rfl)
  obtain ⟨a, rfl, _⟩ := h0.int uU8
  obtain ⟨b, rfl, _⟩ := h1.int uInt
  obtain ⟨c, rfl⟩ := h2.bool uBool
  obtain ⟨d, rfl, _⟩ := h3.string uStr
  obtain ⟨e, rfl, _⟩ := h4.int uI64
  exact ⟨⟨a, b, c, d, e⟩, rfl, trivial⟩
theorem rd_stps (h : RD enc Try.prog W 41 cs) : ∃ a l p, ∃ xs : List Stp, cs = [.slice a l p] ∧ SlM (memOf W) 5 a l (xs.map stpC) := by
  obtain ⟨a, len, cap, ls, rfl, _, _, hs, hel⟩ := h.slice (und_ok tok (t := 41) rfl) (size := 5) (by kernel_rfl) (by omega)
  obtain ⟨xs, rfl, _⟩ := list_of (f := stpC) (Q := fun _ => True) fun c hc => rd_stp (hel c hc)
  exact ⟨a, len, cap, xs, rfl, hs⟩
end
end Go.Proofs.Ytpmepmdngdkafaa
