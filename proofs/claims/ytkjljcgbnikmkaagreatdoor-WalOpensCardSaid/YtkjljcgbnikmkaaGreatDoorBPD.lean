import Derived.Test.YtkjljcgbnikmkaaGreatDoorBPA
import Derived.Test.YtkjljcgbnikmkaaGreatDoorBPC
import Derived.Test.YtkjljcgbnikmkaaGreatDoorBPB
import Derived.KernelRfl
import Derived.ChangeMaps5
import Derived.Lib.LaidTab
import Derived.Laws.IdiomStrings
namespace Go.Proofs.YtkjljcgbnikmkaaGreatDoor
open Go.Chi
set_option maxRecDepth 10000
theorem dnum_ok (M : Mem) (L : HL) (n : Int) (hn : 0 ≤ n ∧ n < 4611686018427387904) : TrQ Tryz.prog 111 [.int .i64 n] M L (.string (nB n)) := by
  have e1 : IntKind.u64.wrap n = ((n.toNat : Nat) : Int) := by
    rw [show n = ((n.toNat : Nat) : Int) by omega, u64_nat (by omega)]
    simp
  refine Tr.intro 6 Tryz.func111 rfl rfl Tryz.call111 rfl ?_
  intro C hC hro
  repeat (first | refine zz ?_ | refine zx fun _ => ?_)
  refine runL_as 4 (.int .u64 ((n.toNat : Nat) : Int)) rfl (by rw [e1]) ?_
  repeat (first | refine zz ?_ | refine zx fun _ => ?_ | refine runL_q (qt_callF rfl (fun _ => num_ok _ _ n.toNat (by omega))) rfl rfl rfl ?_)
  exact run_ret hC (rs := [.tmp 2]) rfl (resT rfl resN) (fun _ h => h) ⟨rfl, rfl, rfl⟩
set_option maxRecDepth 10000 in
set_option maxHeartbeats 4000000 in
theorem dtext_ok (M : Mem) (L : HL) (s : ByteArray) (hs : s.size < 2305843009213693952) : TrQ Tryz.prog 81 [.string s] M L (.string (textB s)) := by
  have hz := numB_size (v := s.size) (by omega)
  have e1 : IntKind.u64.wrap (s.size : Int) = (s.size : Int) := u64_nat (by omega)
  refine Tr.intro 9 Tryz.func81 rfl rfl Tryz.call81 rfl ?_
  intro C hC hro
  repeat (first | refine zz ?_ | refine zx fun _ => ?_)
  refine runL_as 5 (.int .u64 (s.size : Int)) rfl (by rw [e1]) ?_
  repeat (first | refine zz ?_ | refine zx fun _ => ?_ | refine runL_q (qt_callF rfl (fun _ => num_ok _ _ s.size (by omega))) rfl rfl rfl ?_ | refine runL_q (qt_concat rfl rfl (by omega)) rfl rfl rfl ?_)
  exact run_ret hC (rs := [.tmp 2]) rfl (resT rfl resN) (fun _ h => h) ⟨rfl, rfl, rfl⟩
set_option maxHeartbeats 4000000 in
theorem drow_ok (M : Mem) (L : HL) (s : SStr) (hs : StOk M s) (hb : ∀ t ∈ s.xs, t.size < 1099511627776) : TrQ Tryz.prog 112 [s.v] M L (.string (tsB s.xs)) := by
  have hx1 := hs.len
  have hlt6 := hs.2
  refine Tr.intro 19 Tryz.func112 rfl rfl Tryz.call112 rfl ?_
  intro C hC hro
  repeat (first | refine zz ?_ | refine zx fun _ => ?_)
  refine run_loopN (fun j σ1 M1 L1 => j ≤ s.len ∧ M = M1 ∧ L = L1 ∧ σ1 = [(4, .int .i64 (j : Int)), (0, s.v), (3, .string (tsB (s.xs.take j)))]) s.len [(4, .int .i64 ((0 : Nat) : Int)), (0, s.v), (3, .string (tsB (s.xs.take 0)))] ?_ ⟨Nat.zero_le _, rfl, rfl, rfl⟩ (fun j _ _ _ h => h.1) ?_
  · exact ⟨rfl, rfl, rfl, trivial⟩
  rintro j _ _ _ ⟨hj, rfl, rfl, rfl⟩ hnext
  repeat (first | refine zz ?_ | refine zx fun _ => ?_)
  refine run_cond rfl (fun h => ?_) (fun h => ?_)
  · have hlt : j < s.len := by simpa using h
    obtain ⟨b, off, m, hma, hm, hc⟩ := SStr.at_ hs.1 hlt
    have hv : s.v = .slice (some ⟨b, off, none⟩) s.len s.cap := by rw [← hma]; rfl
    have hsz := hb m (List.mem_of_getElem? hm)
    have hsz2 := textB_sz hsz
    have hsz3 := tsB_sz (l := s.xs.take j) fun t ht => hb t (List.mem_of_mem_take ht)
    have hsz4 : (s.xs.take j).length ≤ 1000000 := by rw [List.length_take]; omega
    have hsz5 : (s.xs.take j).length * 1099511627786 ≤ 1000000 * 1099511627786 := Nat.mul_le_mul_right _ hsz4
    refine run_as 0 (.slice (some ⟨b, off, none⟩) s.len s.cap) rfl hv ?_
    repeat (first | refine zz ?_ | refine zx fun _ => ?_ | refine runL_q (qt_indexN tok rfl rfl rfl rfl (fun _ => by omega)) rfl rfl rfl ?_ | refine runL_g rfl rfl (qt_indexN tok rfl rfl rfl rfl (fun _ => by omega)) rfl rfl rfl rfl rfl ?_ | refine runL_q (qt_ldM tok rfl hc rfl) rfl rfl rfl ?_ | refine runL_g rfl rfl (qt_ldM tok rfl hc rfl) rfl rfl rfl rfl rfl ?_ | refine runL_q (qt_ldM0 tok rfl hc rfl) rfl rfl rfl ?_ | refine runL_g rfl rfl (qt_ldM0 tok rfl hc rfl) rfl rfl rfl rfl rfl ?_ | refine runL_q (qt_callF rfl (fun _ => dtext_ok _ _ m (by omega))) rfl rfl rfl ?_ | refine runL_q (qt_concat rfl rfl (by omega)) rfl rfl rfl ?_)
    exact run_sub' (hnext _ _ _ ⟨hlt, rfl, rfl, rfl⟩) ⟨lk_succ rfl (by omega), by rw [hv]; rfl, by rw [take_snoc hm, tsB_snoc]; rfl, trivial⟩
  · have hge : j = s.len := by simp at h; omega
    subst hge
    repeat (first | refine zz ?_ | refine zx fun _ => ?_)
    exact run_ret hC (rs := [.tmp 2]) rfl (resT rfl resN) (fun _ h => h) ⟨by rw [List.take_of_length_le (by omega)]; rfl, rfl, rfl⟩
end Go.Proofs.YtkjljcgbnikmkaaGreatDoor
namespace Go.Proofs.YtkjljcgbnikmkaaGreatDoor
open Go.Chi
set_option maxRecDepth 10000
def shortR (r : Rc) : Bool := (r.kind == 4) || ((r.kind == 3) && !r.yes)
theorem dshort_ok (M : Mem) (L : HL) (r : Rc) : TrQ Tryz.prog 106 [.agg ⟨rcC r⟩] M L (.bool (shortR r)) := by
  refine Tr.intro 16 Tryz.func106 rfl rfl Tryz.call106 rfl ?_
  intro C hC hro
  repeat (first | refine zz ?_ | refine zx fun _ => ?_)
  exact run_ret hC (rs := [.tmp 2]) rfl (resT rfl resN) (fun _ h => h.drop) ⟨rfl, rfl, rfl⟩
end Go.Proofs.YtkjljcgbnikmkaaGreatDoor
namespace Go.Proofs.YtkjljcgbnikmkaaGreatDoor
open Go.Chi
set_option maxRecDepth 10000
def mayTagsR (r : Rc) : Bool := r.tags.xs.all isT && decide (r.tags.len = r.mem.len)
theorem all_snoc {α : Type} {xs : List α} {j : Nat} {x : α} (p : α → Bool) (hx : xs[j]? = some x) (hp : (xs.take j).all p = true) : (xs.take (j + 1)).all p = p x := by rw [take_snoc hx, List.all_append, hp]; simp
set_option maxHeartbeats 8000000 in
theorem dmayTags_ok (M : Mem) (L : HL) (r : Rc) (hr : RcOk M r) : TrQ Tryz.prog 110 [.agg ⟨rcC r⟩] M L (.bool (mayTagsR r)) := by
  have hs := hr.tags
  have hx1 := hs.len
  have hlt6 := hs.2
  refine Tr.intro 25 Tryz.func110 rfl rfl Tryz.call110 rfl ?_
  intro C hC hro
  repeat (first | refine zz ?_ | refine zx fun _ => ?_)
  rename_i b1
  refine run_loopN (fun j σ1 M1 L1 => j ≤ r.tags.len ∧ M = M1 ∧ L1 = (b1, .cells ⟨rcC r⟩ 35 (0, 0)) :: L ∧ (r.tags.xs.take j).all isT = true ∧ σ1 = [(3, .int .i64 (j : Int)), (1, .pointer (some ⟨b1, 0, none⟩))]) r.tags.len [(3, .int .i64 ((0 : Nat) : Int)), (1, .pointer (some ⟨b1, 0, none⟩))] ?_ ⟨Nat.zero_le _, rfl, rfl, rfl, rfl⟩ (fun j _ _ _ h => h.1) ?_
  · exact ⟨rfl, rfl, trivial⟩
  rintro j _ _ _ ⟨hj, rfl, rfl, hpre, rfl⟩ hnext
  repeat (first | refine zz ?_ | refine zx fun _ => ?_)
  refine run_cond rfl (fun h => ?_) (fun h => ?_)
  · have hlt : j < r.tags.len := by simpa using h
    obtain ⟨b, off, m, hma, hm, hc⟩ := SStr.at_ hs.1 hlt
    have hv : r.tags.v = .slice (some ⟨b, off, none⟩) r.tags.len r.tags.cap := by rw [← hma]; rfl
    have hmd := hr.tag m (List.mem_of_getElem? hm)
    repeat (first | refine zz ?_ | refine zx fun _ => ?_)
    refine runL_as 12 (.slice (some ⟨b, off, none⟩) r.tags.len r.tags.cap) rfl hv ?_
    repeat (first | refine zz ?_ | refine zx fun _ => ?_ | refine runL_q (qt_indexN tok rfl rfl rfl rfl (fun _ => by omega)) rfl rfl rfl ?_ | refine runL_g rfl rfl (qt_indexN tok rfl rfl rfl rfl (fun _ => by omega)) rfl rfl rfl rfl rfl ?_ | refine runL_q (qt_ldM tok rfl hc rfl) rfl rfl rfl ?_ | refine runL_g rfl rfl (qt_ldM tok rfl hc rfl) rfl rfl rfl rfl rfl ?_ | refine runL_q (qt_ldM0 tok rfl hc rfl) rfl rfl rfl ?_ | refine runL_g rfl rfl (qt_ldM0 tok rfl hc rfl) rfl rfl rfl rfl rfl ?_ | refine runL_q (qt_callF rfl (fun _ => ref06May_ok _ _ m hmd)) rfl rfl rfl ?_)
    refine run_cond rfl (fun h => ?_) (fun h => ?_)
    · have hb : isT m = false := by simpa using h
      repeat (first | refine zz ?_ | refine zx fun _ => ?_)
      refine run_ret hC (rs := [.tmp 2]) rfl (resT rfl resN) (fun _ h => h.drop) ⟨?_, rfl, rfl⟩
      have : r.tags.xs.all isT = false := by
        rw [List.all_eq_false]
        exact ⟨m, List.mem_of_getElem? hm, by rw [hb]; decide⟩
      rw [mayTagsR, this]; rfl
    · have hb : isT m = true := by simpa using h
      repeat (first | refine zz ?_ | refine zx fun _ => ?_)
      exact run_sub' (hnext _ _ _ ⟨hlt, rfl, rfl, by rw [all_snoc _ hm hpre]; exact hb, rfl⟩) ⟨lk_succ rfl (by omega), rfl, trivial⟩
  · have hge : j = r.tags.len := by simp at h; omega
    rw [hge, List.take_of_length_le (by omega)] at hpre
    repeat (first | refine zz ?_ | refine zx fun _ => ?_)
    refine run_ret hC (rs := [.tmp 2]) rfl (resT rfl resN) (fun _ h => h.drop) ⟨?_, rfl, rfl⟩
    rw [mayTagsR, hpre, Bool.true_and]
    show Value.bool ((r.tags.len : Int) == (r.mem.len : Int)) = _
    congr 1
    rw [Bool.eq_iff_iff]
    simp
    omega
def dA (r : Rc) : Bool := (((decide (r.kind < 1) || decide (r.kind > 4)) || decide ((r.mem.len : Int) > 6)) || decide ((r.tags.len : Int) > 6)) || !sameRc r (bareD r)
def mayRD (r : Rc) : Bool := if dA r = true then false else if r.kind = 1 then decide (r.epoch ≥ 1) && decide (r.epoch ≤ 255) else if mayTx r.txn = false then false else if shortR r = true then true else if ((!orgW r.auditor) || !mayMb r.txn r.mem.xs) = true then false else if r.kind = 2 then isT r.body else mayTagsR r
set_option maxHeartbeats 16000000 in
theorem dmay_ok (M : Mem) (L : HL) (r : Rc) (hr : RcOk M r) : TrQ Tryz.prog 79 [.agg ⟨rcC r⟩] M L (.bool (mayRD r)) := by
  have hbm := bareD_mem M r hr.mem
  have hbt := bareD_tags M r hr.tags
  refine Tr.intro 67 Tryz.func79 rfl rfl Tryz.call79 rfl ?_
  intro C hC hro
  repeat (first | refine zz ?_ | refine zx fun _ => ?_ | refine dd ?_ | refine dz ?_ | refine dx fun _ => ?_ | refine prn_g rfl rfl rfl (qt_callF rfl (fun _ => dbare_ok _ _ r)) (by decide +kernel) rfl rfl rfl rfl rfl ?_ | refine prn_g rfl rfl rfl (qt_callF rfl (fun _ => dsame_ok _ _ r (bareD r) hr.mem hbm hr.tags hbt)) (by decide +kernel) rfl rfl rfl rfl rfl ?_)
  refine run_cond rfl (fun h => ?_) (fun h => ?_)
  · have hA : dA r = true := h
    repeat (first | refine zz ?_ | refine zx fun _ => ?_)
    exact run_ret hC (rs := [.tmp 2]) rfl (resT rfl resN) (fun _ h => h.drop) ⟨by rw [mayRD, if_pos hA]; rfl, rfl, rfl⟩
  have hA : ¬ dA r = true := fun e => by rw [show dA r = false from h] at e; cases e
  repeat (first | refine zz ?_ | refine zx fun _ => ?_)
  refine run_cond rfl (fun h => ?_) (fun h => ?_)
  · have h1 : r.kind = 1 := by simpa using h
    repeat (first | refine zz ?_ | refine zx fun _ => ?_)
    exact run_ret hC (rs := [.tmp 2]) rfl (resT rfl resN) (fun _ h => h.drop) ⟨by rw [mayRD, if_neg hA, if_pos h1]; rfl, rfl, rfl⟩
  have h1 : ¬ r.kind = 1 := by simpa using h
  repeat (first | refine zz ?_ | refine zx fun _ => ?_ | refine runL_q (qt_callF rfl (fun _ => refTx_ok _ _ r.txn)) rfl rfl rfl ?_)
  refine run_cond rfl (fun h => ?_) (fun h => ?_)
  · have h2 : mayTx r.txn = false := by simpa using h
    repeat (first | refine zz ?_ | refine zx fun _ => ?_)
    exact run_ret hC (rs := [.tmp 2]) rfl (resT rfl resN) (fun _ h => h.drop) ⟨by rw [mayRD, if_neg hA, if_neg h1, if_pos h2]; rfl, rfl, rfl⟩
  have h2 : ¬ mayTx r.txn = false := by simpa using h
  repeat (first | refine zz ?_ | refine zx fun _ => ?_ | refine runL_q (qt_callF rfl (fun _ => dshort_ok _ _ r)) rfl rfl rfl ?_)
  refine run_cond rfl (fun h => ?_) (fun h => ?_)
  · have h3 : shortR r = true := h
    repeat (first | refine zz ?_ | refine zx fun _ => ?_)
    exact run_ret hC (rs := [.tmp 2]) rfl (resT rfl resN) (fun _ h => h.drop) ⟨by rw [mayRD, if_neg hA, if_neg h1, if_neg h2, if_pos h3]; rfl, rfl, rfl⟩
  have h3 : ¬ shortR r = true := fun e => by rw [show shortR r = false from h] at e; cases e
  repeat (first | refine zz ?_ | refine zx fun _ => ?_ | refine runL_q (qt_callF rfl (fun _ => refOrg_ok _ _ _)) rfl rfl rfl ?_ | refine runL_g rfl rfl (qt_callF rfl (fun _ => refMb_ok _ _ r.txn r.mem hr.mem hr.dig)) rfl rfl rfl rfl rfl ?_)
  refine run_cond rfl (fun h => ?_) (fun h => ?_)
  · have h4 : ((!orgW r.auditor) || !mayMb r.txn r.mem.xs) = true := h
    repeat (first | refine zz ?_ | refine zx fun _ => ?_)
    exact run_ret hC (rs := [.tmp 2]) rfl (resT rfl resN) (fun _ h => h.drop) ⟨by rw [mayRD, if_neg hA, if_neg h1, if_neg h2, if_neg h3, if_pos h4]; rfl, rfl, rfl⟩
  have h4 : ¬ ((!orgW r.auditor) || !mayMb r.txn r.mem.xs) = true := fun e => by rw [show ((!orgW r.auditor) || !mayMb r.txn r.mem.xs) = false from h] at e; cases e
  repeat (first | refine zz ?_ | refine zx fun _ => ?_)
  refine run_cond rfl (fun h => ?_) (fun h => ?_)
  · have h5 : r.kind = 2 := by simpa using h
    repeat (first | refine zz ?_ | refine zx fun _ => ?_ | refine runL_q (qt_callF rfl (fun _ => ref06May_ok _ _ r.body hr.body)) rfl rfl rfl ?_)
    exact run_ret hC (rs := [.tmp 2]) rfl (resT rfl resN) (fun _ h => h.drop) ⟨by rw [mayRD, if_neg hA, if_neg h1, if_neg h2, if_neg h3, if_neg h4, if_pos h5]; rfl, rfl, rfl⟩
  have h5 : ¬ r.kind = 2 := by simpa using h
  repeat (first | refine zz ?_ | refine zx fun _ => ?_ | refine runL_q (qt_callF rfl (fun _ => dmayTags_ok _ _ r hr)) rfl rfl rfl ?_)
  exact run_ret hC (rs := [.tmp 2]) rfl (resT rfl resN) (fun _ h => h.drop) ⟨by rw [mayRD, if_neg hA, if_neg h1, if_neg h2, if_neg h3, if_neg h4, if_neg h5]; rfl, rfl, rfl⟩
end Go.Proofs.YtkjljcgbnikmkaaGreatDoor
namespace Go.Proofs.YtkjljcgbnikmkaaGreatDoor
open Go.Chi
theorem mayRD_iff {r : Rc} (hl : r.mem.xs.length = r.mem.len) (hl2 : r.tags.xs.length = r.tags.len) : mayRD r = true ↔ RecP r.re := by
  have hA : dA r = false ↔ (1 ≤ r.kind ∧ r.kind ≤ 4) ∧ r.mem.len ≤ 6 ∧ r.tags.len ≤ 6 ∧ r.re = (bareD r).re := by
    rw [← sameRc_iff]
    unfold dA
    simp only [Bool.or_eq_false_iff, decide_eq_false_iff_not, Bool.not_eq_false']
    constructor
    · rintro ⟨⟨⟨⟨h1, h2⟩, h3⟩, h4⟩, h5⟩; exact ⟨by omega, by omega, by omega, h5⟩
    · rintro ⟨h1, h2, h3, h4⟩; exact ⟨⟨⟨⟨by omega, by omega⟩, by omega⟩, by omega⟩, h4⟩
  have h0 : mayRD r = true ↔ dA r = false ∧ (if r.kind = 1 then r.epoch ≥ 1 ∧ r.epoch ≤ 255 else mayTx r.txn = true ∧ (shortR r = true ∨ ((orgW r.auditor = true ∧ mayMb r.txn r.mem.xs = true) ∧ (if r.kind = 2 then isT r.body = true else mayTagsR r = true)))) := by
    unfold mayRD
    cases dA r
    · simp only [Bool.false_eq_true, if_false, true_and]
      by_cases k1 : r.kind = 1
      · simp [k1]
      · rw [if_neg k1, if_neg k1]
        cases mayTx r.txn
        · simp
        · simp only [Bool.true_eq_false, if_false, true_and]
          cases shortR r
          · simp only [Bool.false_eq_true, if_false, false_or]
            by_cases k2 : r.kind = 2
            · rw [if_pos k2, if_pos k2]
              cases orgW r.auditor <;> cases mayMb r.txn r.mem.xs <;> simp
            · rw [if_neg k2, if_neg k2]
              cases orgW r.auditor <;> cases mayMb r.txn r.mem.xs <;> simp
          · simp
    · simp
  rw [h0, hA]
  have hT : ∀ t : ByteArray, isT t = true ↔ checkR t = 0 := fun t => by simp [isT]
  obtain ⟨k, ep, t, y, a, ⟨ma, ml, mc, mx⟩, ⟨ta, tl, tc, tx⟩, b⟩ := r
  simp only at hl hl2
  subst hl hl2
  constructor
  · rintro ⟨⟨hk, hm6, ht6, hb⟩, h1⟩
    have hk4 : k = 1 ∨ k = 2 ∨ k = 3 ∨ k = 4 := by simp only at hk; omega
    rcases hk4 with rfl | rfl | rfl | rfl
    · simp [bareD, Rc.re, nilM, nilS] at hb
      obtain ⟨b1, b2, b3, b4, b5, b6⟩ := hb
      subst b1 b2 b3 b4 b5 b6
      simp at h1
      exact RecP.epoch ep (by omega) (by omega)
    · simp [bareD, Rc.re, nilS] at hb
      obtain ⟨b1, b2⟩ := hb
      subst b1 b2
      simp [shortR] at h1
      obtain ⟨h1, ⟨h2, h3⟩, h4⟩ := h1
      exact RecP.vote t y a mx b h1 h2 h3 ((hT b).1 h4)
    · cases y
      · simp [bareD, Rc.re, nilM, nilS] at hb
        obtain ⟨b1, b2, b3, b4, b5⟩ := hb
        subst b1 b2 b3 b4 b5
        simp at h1
        exact RecP.abort t h1.1
      · simp [bareD, Rc.re] at hb
        obtain ⟨b1, b5⟩ := hb
        subst b1 b5
        simp [shortR, mayTagsR] at h1
        obtain ⟨h1, ⟨h2, h3⟩, h4, h5⟩ := h1
        exact RecP.commit t a mx tx h1 h2 h3 h5 (fun x hx => (hT x).1 (h4 x hx))
    · simp [bareD, Rc.re, nilM, nilS] at hb
      obtain ⟨b1, b2, b3, b4, b5⟩ := hb
      subst b1 b2 b3 b4 b5
      simp at h1
      exact RecP.learn t y h1.1
  · intro h
    generalize hr : Rc.re _ = x at h
    cases h with
    | epoch e h1 h2 =>
      simp only [Rc.re, Re.mk.injEq] at hr
      obtain ⟨rfl, rfl, rfl, rfl, rfl, rfl, rfl, rfl⟩ := hr
      exact ⟨⟨by simp, by simp, by simp, by simp [bareD, Rc.re, nilM, nilS, bz]⟩, by simp; omega⟩
    | vote t' y' a' m' b' h1 h2 h3 h4 =>
      simp only [Rc.re, Re.mk.injEq] at hr
      obtain ⟨rfl, rfl, rfl, rfl, rfl, rfl, rfl, rfl⟩ := hr
      have := (mayMb_r h3).1
      exact ⟨⟨by simp, this, by simp, by simp [bareD, Rc.re, nilS]⟩, by simp [h1, h2, h3, isT, h4]⟩
    | commit t' a' m' g' h1 h2 h3 h4 h5 =>
      simp only [Rc.re, Re.mk.injEq] at hr
      obtain ⟨rfl, rfl, rfl, rfl, rfl, rfl, rfl, rfl⟩ := hr
      have := (mayMb_r h3).1
      exact ⟨⟨by simp, this, by simp only; omega, by simp [bareD, Rc.re, bz]⟩, by simp [h1, h2, h3, mayTagsR, h4, isT]; exact .inr h5⟩
    | abort t' h1 =>
      simp only [Rc.re, Re.mk.injEq] at hr
      obtain ⟨rfl, rfl, rfl, rfl, rfl, rfl, rfl, rfl⟩ := hr
      exact ⟨⟨by simp, by simp, by simp, by simp [bareD, Rc.re, nilM, nilS, bz]⟩, by simp [h1, shortR]⟩
    | learn t' y' h1 =>
      simp only [Rc.re, Re.mk.injEq] at hr
      obtain ⟨rfl, rfl, rfl, rfl, rfl, rfl, rfl, rfl⟩ := hr
      exact ⟨⟨by simp, by simp, by simp, by simp [bareD, Rc.re, nilM, nilS, bz]⟩, by simp [h1, shortR]⟩
theorem mayRD_re {M : Mem} {r : Rc} (hr : RcOk M r) : mayRD r = decide (recE r = 0) := by
  rw [Bool.eq_iff_iff, decide_eq_true_eq, recE_iff hr.mem.len hr.tags.len, mayRD_iff hr.mem.len hr.tags.len]
end Go.Proofs.YtkjljcgbnikmkaaGreatDoor
namespace Go.Proofs.YtkjljcgbnikmkaaGreatDoor
open Go.Chi
set_option maxRecDepth 10000
theorem yB_true : yB true = ⟨#[1]⟩ := by rw [yB, if_pos rfl, nB, numB, if_pos (by decide)]; rfl
theorem yB_false : yB false = ⟨#[0]⟩ := by rw [yB, if_neg (by decide), nB, numB, if_pos (by decide)]; rfl
set_option maxRecDepth 10000 in
set_option maxHeartbeats 16000000 in
theorem dbytes_ok (M : Mem) (L : HL) (r : Rc) (hr : RcOk M r) (hl : RcLim r) (hp : RecP r.re) : TrQ Tryz.prog 80 [.agg ⟨rcC r⟩] M L (.string (recB r.re)) := by
  have hk := hp.kind
  have e1 : r.re.kind = r.kind := rfl
  have orgR : ∀ {a : Int}, orgW a = true → 0 ≤ a ∧ a < 4611686018427387904 := fun ha => by simp [orgW] at ha; omega
  refine Tr.intro 89 Tryz.func80 rfl rfl Tryz.call80 rfl ?_
  intro C hC hro
  repeat (first | refine zz ?_ | refine zx fun _ => ?_ | refine runL_q (qt_bytesStr tok [r.kind] rfl rfl rfl rfl (cellsAll List.mem_cons_self) rfl) rfl rfl rfl ?_)
  rename_i b1 bk
  have hk1 : (bytesI [r.kind]).size = 1 := bytesI_one _
  refine run_cond rfl (fun h => ?_) (fun h => ?_)
  · have k1 : r.kind = 1 := by simpa using h
    have hep := recP_epoch hp k1
    have hz := nB_size (n := r.epoch) (by omega)
    repeat (first | refine zz ?_ | refine zx fun _ => ?_ | refine runL_q (qt_callF rfl (fun _ => dnum_ok _ _ r.epoch (by omega))) rfl rfl rfl ?_ | refine runL_q (qt_concat rfl rfl (by omega)) rfl rfl rfl ?_)
    refine run_ret hC (rs := [.tmp 2]) rfl (resT rfl resN) (fun _ h => h.drop.drop) ⟨?_, rfl, rfl⟩
    rw [recB, bodyB, if_pos (e1.trans k1)]; rfl
  have k1 : ¬ r.kind = 1 := by simpa using h
  have htx := recP_txn hp k1
  obtain ⟨t1, t2, t3⟩ := mayTx_r htx
  have z1 := nB_size (n := r.txn.coord) (by omega)
  have z2 := nB_size (n := r.txn.epoch) (by omega)
  have z3 := nB_size (n := r.txn.seq) (by omega)
  have c2 : (bytesI [r.kind] ++ nB r.txn.coord).size + (nB r.txn.epoch).size < 4611686018427387904 := by rw [app_size]; omega
  have c3 : (bytesI [r.kind] ++ nB r.txn.coord ++ nB r.txn.epoch).size + (nB r.txn.seq).size < 4611686018427387904 := by rw [app_size, app_size]; omega
  repeat (first | refine zz ?_ | refine zx fun _ => ?_ | refine dd ?_ | refine dz ?_ | refine dx fun _ => ?_ | refine prn_q rfl (qt_callF rfl (fun _ => dnum_ok _ _ r.txn.coord (by omega))) (by decide +kernel) rfl rfl rfl ?_ | refine prn_q rfl (qt_callF rfl (fun _ => dnum_ok _ _ r.txn.epoch (by omega))) (by decide +kernel) rfl rfl rfl ?_ | refine prn_q rfl (qt_callF rfl (fun _ => dnum_ok _ _ r.txn.seq (by omega))) (by decide +kernel) rfl rfl rfl ?_ | refine prn_q rfl (qt_concat rfl rfl (by omega)) (by decide +kernel) rfl rfl rfl ?_ | refine prn_q rfl (qt_concat rfl rfl c2) (by decide +kernel) rfl rfl rfl ?_ | refine prn_q rfl (qt_concat rfl rfl c3) (by decide +kernel) rfl rfl rfl ?_)
  have hS0 : (bytesI [r.kind] ++ nB r.txn.coord ++ nB r.txn.epoch ++ nB r.txn.seq).size + 1 < 4611686018427387904 := by rw [app_size, app_size, app_size]; omega
  have hS1 : (bytesI [r.kind] ++ (txB r.txn ++ yB r.yes)).size ≤ 100 := by
    have : (yB r.yes).size = 1 := by
      cases r.yes
      · rw [yB_false]; rfl
      · rw [yB_true]; rfl
    rw [app_size, app_size, txB, app_size, app_size]; omega
  have hassoc : ∀ y, bytesI [r.kind] ++ nB r.txn.coord ++ nB r.txn.epoch ++ nB r.txn.seq ++ y = bytesI [r.kind] ++ (txB r.txn ++ y) := fun y => by simp only [txB, app_assoc]
  refine run_cut (fun σ' M' L' => σ' = [(3, .string (bytesI [r.kind] ++ (txB r.txn ++ yB r.yes))), (1, .pointer (some ⟨b1, 0, none⟩))] ∧ M' = M ∧ L' = (b1, .cells ⟨rcC r⟩ 35 (0, 0)) :: L) ?_ ?_
  rotate_left
  · intro hnext
    refine run_mem (fun _ h => h.drop) ?_
    refine run_cond rfl (fun h => ?_) (fun h => ?_)
    · refine run_region ?_
      repeat (first | refine zq ?_ | refine zx fun _ => ?_ | refine runL_q (qt_concat rfl rfl hS0) rfl rfl rfl ?_)
      refine runL_nil ?_
      exact run_sub' (hnext _ _ _ ⟨rfl, rfl, rfl⟩) ⟨by rw [h, yB_true, ← hassoc]; rfl, rfl, trivial⟩
    · refine run_region ?_
      repeat (first | refine zq ?_ | refine zx fun _ => ?_ | refine runL_q (qt_concat rfl rfl hS0) rfl rfl rfl ?_)
      refine runL_nil ?_
      exact run_sub' (hnext _ _ _ ⟨rfl, rfl, rfl⟩) ⟨by rw [h, yB_false, ← hassoc]; rfl, rfl, trivial⟩
  rintro _ _ _ ⟨rfl, rfl, rfl⟩
  generalize hS : bytesI [r.kind] ++ (txB r.txn ++ yB r.yes) = S1 at hS1 ⊢
  repeat (first | refine zz ?_ | refine zx fun _ => ?_ | refine runL_q (qt_callF rfl (fun _ => dshort_ok _ _ r)) rfl rfl rfl ?_)
  refine run_cond rfl (fun h => ?_) (fun h => ?_)
  · repeat (first | refine zz ?_ | refine zx fun _ => ?_)
    refine run_ret hC (rs := [.tmp 2]) rfl (resT rfl resN) (fun _ h => h.drop) ⟨?_, rfl, rfl⟩
    have hh : r.kind = 4 ∨ (r.kind = 3 ∧ r.yes = false) := by
      simp [shortR] at h
      exact h
    rw [recB, ← hS]
    rcases hh with k | ⟨k, hy⟩
    · rw [bodyB, if_neg (by rw [e1, k]; decide), if_neg (by rw [e1, k]; decide), if_neg (by rw [e1, k]; decide), if_pos (e1.trans k)]
      rfl
    · rw [bodyB, if_neg (by rw [e1, k]; decide), if_neg (by rw [e1, k]; decide), if_pos (e1.trans k), if_neg (by rw [show r.re.yes = r.yes from rfl, hy]; decide), app_bz]
      rfl
  have hsh : r.kind = 2 ∨ (r.kind = 3 ∧ r.yes = true) := by
    simp [shortR] at h
    have hy : r.kind = 3 → r.yes = true := h.2
    by_cases k3 : r.kind = 3
    · exact .inr ⟨k3, hy k3⟩
    · have := h.1
      omega
  have hom : orgW r.auditor = true ∧ mayMb r.txn r.mem.xs = true := by
    rcases hsh with k | ⟨k, hy⟩
    · exact (recP_vote hp k).2
    · exact recP_commit hp k hy
  have hml : mbLim r.mem.xs := fun m hmm => ⟨(mayMb_r hom.2).2 m hmm, hl.dig m hmm⟩
  have hmlen := hr.mem.len
  have hm6 := hr.mem.2
  have z4 := nB_size (n := r.auditor) (orgR hom.1).2
  have z5 := nB_size (n := (r.mem.len : Int)) (by omega)
  have c4 : S1.size + (nB r.auditor).size < 4611686018427387904 := by omega
  have c5 : (S1 ++ nB r.auditor).size + (nB (r.mem.len : Int)).size < 4611686018427387904 := by rw [app_size]; omega
  refine run_skip ?_
  repeat (first | refine zz ?_ | refine zx fun _ => ?_ | refine dd ?_ | refine dz ?_ | refine dx fun _ => ?_ | refine prn_q rfl (qt_callF rfl (fun _ => dnum_ok _ _ r.auditor (orgR hom.1))) (by decide +kernel) rfl rfl rfl ?_ | refine prn_q rfl (qt_callF rfl (fun _ => dnum_ok _ _ (r.mem.len : Int) (by omega))) (by decide +kernel) rfl rfl rfl ?_ | refine prn_q rfl (qt_concat rfl rfl c4) (by decide +kernel) rfl rfl rfl ?_ | refine prn_q rfl (qt_concat rfl rfl c5) (by decide +kernel) rfl rfl rfl ?_)
  rename_i M1
  generalize hS2 : S1 ++ nB r.auditor ++ nB (r.mem.len : Int) = S2
  have hS2z : S2.size < 1000 := by rw [← hS2, app_size, app_size]; omega
  refine run_loopN (fun j σ1 M2 L1 => j ≤ r.mem.len ∧ M1 = M2 ∧ L1 = (b1, .cells ⟨rcC r⟩ 35 (0, 0)) :: L ∧ σ1 = [(4, .int .i64 (j : Int)), (3, .string (S2 ++ mbB (r.mem.xs.take j))), (1, .pointer (some ⟨b1, 0, none⟩))]) r.mem.len [(4, .int .i64 ((0 : Nat) : Int)), (3, .string (S2 ++ mbB (r.mem.xs.take 0))), (1, .pointer (some ⟨b1, 0, none⟩))] ?_ ⟨Nat.zero_le _, rfl, rfl, rfl⟩ (fun j _ _ _ h => h.1) ?_
  · exact ⟨rfl, by rw [List.take_zero, mbB, app_bz]; rfl, rfl, trivial⟩
  rintro j _ _ _ ⟨hj, rfl, rfl, rfl⟩ hnext
  repeat (first | refine zz ?_ | refine zx fun _ => ?_)
  refine run_cond rfl (fun h => ?_) (fun h => ?_)
  · have hlt : j < r.mem.len := by simpa using h
    obtain ⟨b, off, m, hma, hmj, hc⟩ := SMb.at_ hr.mem.1 hlt
    have hv : r.mem.v = .slice (some ⟨b, off, none⟩) r.mem.len r.mem.cap := by rw [← hma]; rfl
    obtain ⟨hml1, hml2⟩ := hml m (List.mem_of_getElem? hmj)
    have hz1 := textB_sz hml2
    have hz2 := nB_size (n := m.org) (by omega)
    have hz4 := mbB_sz (l := r.mem.xs.take j) fun t ht => hml t (List.mem_of_mem_take ht)
    have hz5 : (r.mem.xs.take j).length ≤ 1000000 := by rw [List.length_take]; omega
    have hz6 : (r.mem.xs.take j).length * 1099511627800 ≤ 1000000 * 1099511627800 := Nat.mul_le_mul_right _ hz5
    have c6 : (S2 ++ mbB (r.mem.xs.take j)).size + (nB m.org).size < 4611686018427387904 := by rw [app_size]; omega
    have c7 : (S2 ++ mbB (r.mem.xs.take j) ++ nB m.org).size + (textB m.digest).size < 4611686018427387904 := by rw [app_size, app_size]; omega
    repeat (first | refine zz ?_ | refine zx fun _ => ?_ | refine dd ?_ | refine dz ?_ | refine dx fun _ => ?_)
    refine pr_as 61 (.slice (some ⟨b, off, none⟩) r.mem.len r.mem.cap) rfl hv ?_
    repeat (first | refine zz ?_ | refine zx fun _ => ?_ | refine dd ?_ | refine dz ?_ | refine dx fun _ => ?_ | refine prn_q rfl (qt_indexN tok rfl rfl rfl rfl (fun _ => by omega)) (by decide +kernel) rfl rfl rfl ?_ | refine prn_g rfl rfl rfl (qt_indexN tok rfl rfl rfl rfl (fun _ => by omega)) (by decide +kernel) rfl rfl rfl rfl rfl ?_ | refine prn_q rfl (qt_ldM tok rfl hc rfl) (by decide +kernel) rfl rfl rfl ?_ | refine prn_g rfl rfl rfl (qt_ldM tok rfl hc rfl) (by decide +kernel) rfl rfl rfl rfl rfl ?_ | refine prn_q rfl (qt_ldM0 tok rfl hc rfl) (by decide +kernel) rfl rfl rfl ?_ | refine prn_g rfl rfl rfl (qt_ldM0 tok rfl hc rfl) (by decide +kernel) rfl rfl rfl rfl rfl ?_ | refine prn_q rfl (qt_callF rfl (fun _ => dnum_ok _ _ m.org (by omega))) (by decide +kernel) rfl rfl rfl ?_ | refine prn_q rfl (qt_concat rfl rfl c6) (by decide +kernel) rfl rfl rfl ?_)
    refine pr_as 69 (.slice (some ⟨b, off, none⟩) r.mem.len r.mem.cap) rfl hv ?_
    repeat (first | refine zz ?_ | refine zx fun _ => ?_ | refine dd ?_ | refine dz ?_ | refine dx fun _ => ?_ | refine prn_q rfl (qt_indexN tok rfl rfl rfl rfl (fun _ => by omega)) (by decide +kernel) rfl rfl rfl ?_ | refine prn_g rfl rfl rfl (qt_indexN tok rfl rfl rfl rfl (fun _ => by omega)) (by decide +kernel) rfl rfl rfl rfl rfl ?_ | refine prn_q rfl (qt_ldM tok rfl hc rfl) (by decide +kernel) rfl rfl rfl ?_ | refine prn_g rfl rfl rfl (qt_ldM tok rfl hc rfl) (by decide +kernel) rfl rfl rfl rfl rfl ?_ | refine prn_q rfl (qt_ldM0 tok rfl hc rfl) (by decide +kernel) rfl rfl rfl ?_ | refine prn_g rfl rfl rfl (qt_ldM0 tok rfl hc rfl) (by decide +kernel) rfl rfl rfl rfl rfl ?_ | refine prn_q rfl (qt_callF rfl (fun _ => dtext_ok _ _ m.digest (by omega))) (by decide +kernel) rfl rfl rfl ?_ | refine prn_q rfl (qt_concat rfl rfl c7) (by decide +kernel) rfl rfl rfl ?_)
    refine run_sub' (hnext _ _ _ ⟨hlt, rfl, rfl, rfl⟩) ⟨lk_succ rfl (by omega), ?_, rfl, trivial⟩
    rw [take_snoc hmj, mbB_snoc]
    simp only [← app_assoc]
    rfl
  · have hge : j = r.mem.len := by simp at h; omega
    rw [hge, List.take_of_length_le (by omega)]
    have hz4 := mbB_sz hml
    have hz6 : r.mem.xs.length * 1099511627800 ≤ 1000000 * 1099511627800 := Nat.mul_le_mul_right _ (by omega)
    have hzB : (S2 ++ mbB r.mem.xs).size ≤ 1000 + 1000000 * 1099511627800 := by rw [app_size]; omega
    have hbz := textB_sz hl.body
    have hbl := hl.body
    have hz7 := tsB_sz hl.tag
    have ht6 := hr.tags.2
    have htl := hr.tags.len
    have hz8 : r.tags.xs.length * 1099511627786 ≤ 1000000 * 1099511627786 := Nat.mul_le_mul_right _ (by omega)
    have c8 : (S2 ++ mbB r.mem.xs).size + (textB r.body).size < 4611686018427387904 := by omega
    have c9 : (S2 ++ mbB r.mem.xs).size + (tsB r.tags.xs).size < 4611686018427387904 := by omega
    have hall : S2 ++ mbB r.mem.xs = bytesI [r.kind] ++ (txB r.txn ++ (yB r.yes ++ (nB r.auditor ++ msB r.mem.xs))) := by
      rw [← hS2, ← hS, msB, hmlen]
      simp only [app_assoc]
    repeat (first | refine zz ?_ | refine zx fun _ => ?_)
    refine run_cond rfl (fun h => ?_) (fun h => ?_)
    · have k2 : r.kind = 2 := by simpa using h
      repeat (first | refine zz ?_ | refine zx fun _ => ?_ | refine runL_q (qt_callF rfl (fun _ => dtext_ok _ _ r.body (by omega))) rfl rfl rfl ?_ | refine runL_q (qt_concat rfl rfl c8) rfl rfl rfl ?_)
      refine run_ret hC (rs := [.tmp 2]) rfl (resT rfl resN) (fun _ h => h.drop) ⟨?_, rfl, rfl⟩
      rw [hall, recB, bodyB, if_neg (by rw [e1, k2]; decide), if_pos (e1.trans k2)]
      simp only [app_assoc]
      rfl
    · have k2 : ¬ r.kind = 2 := by simpa using h
      obtain ⟨k3, hy⟩ := hsh.resolve_left k2
      repeat (first | refine zz ?_ | refine zx fun _ => ?_ | refine runL_q (qt_callF rfl (fun _ => drow_ok _ _ r.tags hr.tags hl.tag)) rfl rfl rfl ?_ | refine runL_q (qt_concat rfl rfl c9) rfl rfl rfl ?_)
      refine run_ret hC (rs := [.tmp 2]) rfl (resT rfl resN) (fun _ h => h.drop) ⟨?_, rfl, rfl⟩
      rw [hall, recB, bodyB, if_neg (by rw [e1, k3]; decide), if_neg (by rw [e1, k3]; decide), if_pos (e1.trans k3), if_pos (show r.re.yes = true from hy)]
      simp only [app_assoc]
      rfl
set_option maxHeartbeats 4000000 in
theorem dencode_ok (M : Mem) (L : HL) (r : Rc) (hr : RcOk M r) (hl : RcLim r) : TrQ Tryz.prog 52 [.agg ⟨rcC r⟩] M L (.tuple ⟨[.string (encE r).1, .int .i64 (encE r).2]⟩) := by
  have hre := recE_re hr
  have h02 : recE r = 0 ∨ recE r = 2 := by
    unfold recE
    repeat' split
    all_goals simp
  refine Tr.intro 14 Tryz.func52 rfl rfl Tryz.call52 rfl ?_
  intro C hC hro
  repeat (first | refine zz ?_ | refine zx fun _ => ?_ | refine runL_q (qt_callF rfl (fun _ => dmay_ok _ _ r hr)) rfl rfl rfl ?_)
  refine run_cond rfl (fun h => ?_) (fun h => ?_)
  · have h0 : recE r ≠ 0 := by rw [mayRD_re hr] at h; simpa using h
    have h2 : recE r = 2 := h02.resolve_left h0
    repeat (first | refine zz ?_ | refine zx fun _ => ?_)
    exact run_ret hC (rs := [.tmp 2, .tmp 3]) rfl (resT rfl (resT rfl resN)) (fun _ h => h.drop) ⟨by rw [encE, if_pos h0, h2]; rfl, rfl, rfl⟩
  have h0 : recE r = 0 := by rw [mayRD_re hr] at h; simpa using h
  have hp := hre.1 h0
  repeat (first | refine zz ?_ | refine zx fun _ => ?_ | refine runL_q (qt_callF rfl (fun _ => dbytes_ok _ _ r hr hl hp)) rfl rfl rfl ?_)
  refine run_cond rfl (fun h => ?_) (fun h => ?_)
  · have hgt : 8192 < (recB r.re).size := by simp at h; omega
    repeat (first | refine zz ?_ | refine zx fun _ => ?_)
    exact run_ret hC (rs := [.tmp 2, .tmp 3]) rfl (resT rfl (resT rfl resN)) (fun _ h => h.drop) ⟨by rw [encE, if_neg (by simp [h0]), if_pos hgt]; rfl, rfl, rfl⟩
  · have hgt : ¬ 8192 < (recB r.re).size := by simp at h; omega
    repeat (first | refine zz ?_ | refine zx fun _ => ?_)
    exact run_ret hC (rs := [.tmp 2, .tmp 3]) rfl (resT rfl (resT rfl resN)) (fun _ h => h.drop) ⟨by rw [encE, if_neg (by simp [h0]), if_neg hgt]; rfl, rfl, rfl⟩
end Go.Proofs.YtkjljcgbnikmkaaGreatDoor
namespace Go.Proofs.YtkjljcgbnikmkaaGreatDoor
open Go.Chi
abbrev Cut := ByteArray × Bool
def cN (most : Nat) (c : Cut) : Int × Cut := if (c.2 = true ∧ (numR c.1).2.2 = 0) ∧ (numR c.1).1 ≤ (most : Int) then ((numR c.1).1, (c.1.extract (numR c.1).2.1.toNat c.1.size, true)) else (0, (c.1, false))
def cT (c : Cut) : ByteArray × Cut := if c.2 = true ∧ (textR c.1 8192).2.2 = 0 then ((textR c.1 8192).1, (c.1.extract (textR c.1 8192).2.1.toNat c.1.size, true)) else (bz, (c.1, false))
def cMb : Nat → Cut → List Mb × Cut
  | 0, c => ([], c)
  | n + 1, c => (⟨(cN 8 c).1, (cT (cN 8 c).2).1⟩ :: (cMb n (cT (cN 8 c).2).2).1, (cMb n (cT (cN 8 c).2).2).2)
def cTs : Nat → Cut → List ByteArray × Cut
  | 0, c => ([], c)
  | n + 1, c => ((cT c).1 :: (cTs n (cT c).2).1, (cTs n (cT c).2).2)
def cTx (c : Cut) : Tx × Cut := (⟨(cN 8 c).1, (cN 255 (cN 8 c).2).1, (cN 65535 (cN 255 (cN 8 c).2).2).1⟩, (cN 65535 (cN 255 (cN 8 c).2).2).2)
def c1 (k : Int) (c : Cut) : (Int × Tx × Bool) × Cut := if k = 1 then (((cN 255 c).1, ⟨0, 0, 0⟩, false), (cN 255 c).2) else ((0, (cTx c).1, (cN 1 (cTx c).2).1 == 1), (cN 1 (cTx c).2).2)
def c2 (k : Int) (y : Bool) (c : Cut) : (Int × List Mb) × Cut := if (k = 2 ∨ (k = 3 ∧ y = true)) then (((cN 8 c).1, (cMb (cN 6 (cN 8 c).2).1.toNat (cN 6 (cN 8 c).2).2).1), (cMb (cN 6 (cN 8 c).2).1.toNat (cN 6 (cN 8 c).2).2).2) else ((0, []), c)
def c3 (k : Int) (c : Cut) : ByteArray × Cut := if k = 2 then cT c else (bz, c)
def c4 (k : Int) (n : Nat) (c : Cut) : List ByteArray × Cut := if k = 3 then cTs n c else ([], c)
def cRec (k : Int) (c : Cut) : Re × Cut :=
  (⟨k, (c1 k c).1.1, (c1 k c).1.2.1, (c1 k c).1.2.2, (c2 k (c1 k c).1.2.2 (c1 k c).2).1.1, (c2 k (c1 k c).1.2.2 (c1 k c).2).1.2,
    (c4 k (c2 k (c1 k c).1.2.2 (c1 k c).2).1.2.length (c3 k (c2 k (c1 k c).1.2.2 (c1 k c).2).2).2).1, (c3 k (c2 k (c1 k c).1.2.2 (c1 k c).2).2).1⟩,
   (c4 k (c2 k (c1 k c).1.2.2 (c1 k c).2).1.2.length (c3 k (c2 k (c1 k c).1.2.2 (c1 k c).2).2).2).2)
theorem cN_ok {most : Nat} {v : Int} (h0 : 0 ≤ v) (h : v ≤ most) (hv : v < 4611686018427387904) (x : ByteArray) : cN most (nB v ++ x, true) = (v, (x, true)) := by
  have hn := num_read (v := v.toNat) (by omega) x
  unfold cN nB
  rw [hn, if_pos (show ((true : Bool) = true ∧ (0 : Int) = 0) ∧ ((v.toNat : Nat) : Int) ≤ (most : Int) from ⟨⟨rfl, rfl⟩, by omega⟩)]
  show (((v.toNat : Nat) : Int), ((numB v.toNat ++ x).extract (((numB v.toNat).size : Int)).toNat (numB v.toNat ++ x).size, true)) = _
  rw [Int.toNat_natCast, ext_right, Int.toNat_of_nonneg h0]
theorem cT_ok {t : ByteArray} (h : t.size ≤ 8192) (x : ByteArray) : cT (textB t ++ x, true) = (t, (x, true)) := by
  have hn := text_read h (by omega) x
  unfold cT
  rw [hn, if_pos (show (true : Bool) = true ∧ (0 : Int) = 0 from ⟨rfl, rfl⟩)]
  show (t, ((textB t ++ x).extract (((textB t).size : Int)).toNat (textB t ++ x).size, true)) = _
  rw [Int.toNat_natCast, ext_right]
theorem cMb_ok : ∀ (l : List Mb), (∀ m ∈ l, 0 ≤ m.org ∧ m.org ≤ 7 ∧ m.digest.size ≤ 8192) → ∀ x, cMb l.length (mbB l ++ x, true) = (l, (x, true))
  | [], _, x => by rw [mbB, List.length_nil, cMb]; exact congrArg (fun y => ([], (y, true))) (nil_app x)
  | m :: l, h, x => by
    obtain ⟨h1, h2, h3⟩ := h m List.mem_cons_self
    rw [mbB, List.length_cons, cMb, app_assoc, app_assoc, cN_ok h1 (by omega) (by omega), cT_ok h3, cMb_ok l (fun m hm => h m (List.mem_cons_of_mem _ hm)) x]
theorem cTs_ok : ∀ (l : List ByteArray), (∀ t ∈ l, t.size ≤ 8192) → ∀ x, cTs l.length (tsB l ++ x, true) = (l, (x, true))
  | [], _, x => by rw [tsB, List.length_nil, cTs]; exact congrArg (fun y => ([], (y, true))) (nil_app x)
  | t :: l, h, x => by
    rw [tsB, List.length_cons, cTs, app_assoc, cT_ok (h t List.mem_cons_self), cTs_ok l (fun m hm => h m (List.mem_cons_of_mem _ hm)) x]
theorem cTx_ok {t : Tx} (h : mayTx t = true) (x : ByteArray) : cTx (txB t ++ x, true) = (t, (x, true)) := by
  obtain ⟨h1, h2, h3⟩ := mayTx_r h
  rw [cTx, txB, app_assoc, app_assoc, cN_ok h1.1 (by omega) (by omega), cN_ok h2.1 h2.2 (by omega), cN_ok h3.1 h3.2 (by omega)]
theorem cY_ok (y : Bool) (x : ByteArray) : ((cN 1 (yB y ++ x, true)).1 == 1) = y ∧ (cN 1 (yB y ++ x, true)).2 = (x, true) := by
  cases y
  · rw [yB, if_neg (by simp), cN_ok (by omega) (by decide) (by omega)]; exact ⟨rfl, rfl⟩
  · rw [yB, if_pos rfl, cN_ok (by omega) (by decide) (by omega)]; exact ⟨rfl, rfl⟩
theorem cAM_ok {a : Int} {l : List Mb} (k : Int) (y : Bool) (hk : k = 2 ∨ (k = 3 ∧ y = true)) (ha : orgW a = true) (hl : l.length ≤ 6) (h : ∀ m ∈ l, 0 ≤ m.org ∧ m.org ≤ 7 ∧ m.digest.size ≤ 8192) (x : ByteArray) : c2 k y (nB a ++ (msB l ++ x), true) = ((a, l), (x, true)) := by
  have : 0 ≤ a ∧ a ≤ 7 := by simp [orgW] at ha; omega
  rw [c2, if_pos hk, cN_ok this.1 (by omega) (by omega), msB, app_assoc, cN_ok (by omega) (by omega) (by omega)]
  simp only [Int.toNat_natCast]
  rw [cMb_ok l h]
theorem cRec_ok {r : Re} (h : RecP r) (hs : Short r) : cRec r.kind (bodyB r ++ bz, true) = (r, (bz, true)) := by
  cases h with
  | epoch e h1 h2 =>
    show cRec 1 (nB e ++ bz, true) = _
    have e1 : c1 1 (nB e ++ bz, true) = ((e, ⟨0, 0, 0⟩, false), (bz, true)) := by
      rw [c1, if_pos rfl, cN_ok (by omega) (by omega) (by omega)]
    unfold cRec
    rw [e1]
    rfl
  | vote t y a m b h1 h2 h3 h4 =>
    obtain ⟨m1, m2⟩ := mayMb_r h3
    show cRec 2 ((txB t ++ (yB y ++ (nB a ++ (msB m ++ textB b)))) ++ bz, true) = _
    have hy := cY_ok y (nB a ++ (msB m ++ (textB b ++ bz)))
    have e1 : c1 2 ((txB t ++ (yB y ++ (nB a ++ (msB m ++ textB b)))) ++ bz, true) = ((0, t, y), (nB a ++ (msB m ++ (textB b ++ bz)), true)) := by
      rw [c1, if_neg (by decide), app_assoc, app_assoc, app_assoc, app_assoc, cTx_ok h1, hy.1, hy.2]
    have e2 := cAM_ok 2 y (.inl rfl) h2 m1 (fun u hu => ⟨(m2 u hu).1, (m2 u hu).2, hs.1 u hu⟩) (textB b ++ bz)
    have e3 : c3 2 (textB b ++ bz, true) = (b, (bz, true)) := by rw [c3, if_pos rfl, cT_ok hs.2.2]
    unfold cRec
    rw [e1]
    simp only
    rw [e2]
    simp only
    rw [e3]
    rfl
  | commit t a m g h1 h2 h3 h4 h5 =>
    obtain ⟨m1, m2⟩ := mayMb_r h3
    show cRec 3 ((txB t ++ (yB true ++ (nB a ++ (msB m ++ tsB g)))) ++ bz, true) = _
    have hy := cY_ok true (nB a ++ (msB m ++ (tsB g ++ bz)))
    have e1 : c1 3 ((txB t ++ (yB true ++ (nB a ++ (msB m ++ tsB g)))) ++ bz, true) = ((0, t, true), (nB a ++ (msB m ++ (tsB g ++ bz)), true)) := by
      rw [c1, if_neg (by decide), app_assoc, app_assoc, app_assoc, app_assoc, cTx_ok h1, hy.1, hy.2]
    have e2 := cAM_ok 3 true (.inr ⟨rfl, rfl⟩) h2 m1 (fun u hu => ⟨(m2 u hu).1, (m2 u hu).2, hs.1 u hu⟩) (tsB g ++ bz)
    have e3 : c3 3 (tsB g ++ bz, true) = (bz, (tsB g ++ bz, true)) := by rw [c3, if_neg (by decide)]
    have e4 : c4 3 m.length (tsB g ++ bz, true) = (g, (bz, true)) := by rw [c4, if_pos rfl, ← h4, cTs_ok g hs.2.1]
    unfold cRec
    rw [e1]
    simp only
    rw [e2]
    simp only
    rw [e3]
    simp only
    rw [e4]
  | abort t h1 =>
    show cRec 3 ((txB t ++ (yB false ++ bz)) ++ bz, true) = _
    have hy := cY_ok false (bz ++ bz)
    have e1 : c1 3 ((txB t ++ (yB false ++ bz)) ++ bz, true) = ((0, t, false), (bz ++ bz, true)) := by
      rw [c1, if_neg (by decide), app_assoc, app_assoc, cTx_ok h1, hy.1, hy.2]
    have e2 : ∀ c, c2 3 false c = ((0, []), c) := fun c => by rw [c2, if_neg (by simp)]
    have e3 : ∀ c, c3 3 c = (bz, c) := fun c => by rw [c3, if_neg (by decide)]
    have e4 : ∀ c, c4 3 0 c = ([], c) := fun c => by rw [c4, if_pos rfl]; rfl
    unfold cRec
    rw [e1]
    simp only [e2, e3, e4, List.length_nil]
    exact congrArg (fun y => (_, (y, true))) (nil_app bz)
  | learn t y h1 =>
    show cRec 4 ((txB t ++ yB y) ++ bz, true) = _
    have hy := cY_ok y bz
    have e1 : c1 4 ((txB t ++ yB y) ++ bz, true) = ((0, t, y), (bz, true)) := by
      rw [c1, if_neg (by decide), app_assoc, cTx_ok h1, hy.1, hy.2]
    have e2 : ∀ c, c2 4 y c = ((0, []), c) := fun c => by rw [c2, if_neg (by simp)]
    have e3 : ∀ c, c3 4 c = (bz, c) := fun c => by rw [c3, if_neg (by decide)]
    have e4 : ∀ n c, c4 4 n c = ([], c) := fun n c => by rw [c4, if_neg (by decide)]
    unfold cRec
    rw [e1]
    simp only [e2, e3, e4]
theorem cRec_dec {s : ByteArray} {r : Re} (h : Dec s r) : cRec (byte s 0) (rest1 s, true) = (r, (bz, true)) := by
  obtain ⟨h1, rfl, h3⟩ := h
  have hb : byte (recB r) 0 = r.kind := by
    have := recB_byte h1 bz
    rwa [show ∀ y : ByteArray, y ++ bz = y from app_nil] at this
  have hr : rest1 (recB r) = bodyB r ++ bz := by
    have := recB_rest r bz
    rwa [show recB r ++ bz = recB r from app_nil _] at this
  rw [hb, hr]
  exact cRec_ok h1 (short_of h1 h3)
end Go.Proofs.YtkjljcgbnikmkaaGreatDoor
namespace Go.Proofs.YtkjljcgbnikmkaaGreatDoor
open Go.Chi
set_option maxRecDepth 10000
def cuC (c : Cut) : List Value := [.string c.1, .bool c.2]
abbrev cuB (bc : Nat) (c : Cut) : Nat × Obj := (bc, .cells ⟨cuC c⟩ 147 (0, 0))
theorem cN_nat (most : Nat) (c : Cut) : ∃ n : Nat, (cN most c).1 = n ∧ n ≤ most := by
  have := numR_pos c.1
  unfold cN
  split
  · rename_i h
    exact ⟨(numR c.1).1.toNat, by show (numR c.1).1 = _; omega, by omega⟩
  · exact ⟨0, rfl, Nat.zero_le _⟩
theorem cN_size (most : Nat) (c : Cut) : (cN most c).2.1.size ≤ c.1.size := by
  unfold cN
  split
  · show (c.1.extract _ _).size ≤ _
    simp
  · exact Nat.le_refl _
theorem cT_size (c : Cut) : (cT c).2.1.size ≤ c.1.size := by
  unfold cT
  split
  · show (c.1.extract _ _).size ≤ _
    simp
  · exact Nat.le_refl _
theorem cT_short (c : Cut) : (cT c).1.size ≤ 8192 := by
  unfold cT
  split
  · rename_i h
    obtain ⟨t, h1, h2, _⟩ := text_back h.2
    show (textR c.1 8192).1.size ≤ 8192
    rw [h2]; exact h1
  · exact Nat.zero_le _
set_option maxRecDepth 10000 in
set_option maxHeartbeats 8000000 in
theorem cnum_ok (M : Mem) (L : HL) (bc : Nat) (c : Cut) (most : Nat) (hm : most < 4611686018427387904) (_hs : c.1.size < 4611686018427387904) :
    Tr Tryz.prog 102 [.pointer (some ⟨bc, 0, none⟩), .int .i64 (most : Int)] M (cuB bc c :: L) (fun v M' L' => v = .int .i64 (cN most c).1 ∧ M = M' ∧ L' = cuB bc (cN most c).2 :: L) := by
  have e1 : IntKind.u64.wrap (most : Int) = (most : Int) := u64_nat (by omega)
  have hnp := numR_pos c.1
  refine Tr.intro 46 Tryz.func102 rfl rfl Tryz.call102 rfl ?_
  intro C hC hro
  repeat (first | refine zz ?_ | refine zx fun _ => ?_ | refine runL_q (qt_callF rfl (fun _ => refNum_ok _ _ c.1)) rfl rfl rfl ?_)
  have hcond : ∀ t : Bool, (((!c.2) || ((refNum c.1).2.2 != 0)) || decide ((refNum c.1).1 > IntKind.u64.wrap (most : Int))) = t → (t = false ↔ ((c.2 = true ∧ (numR c.1).2.2 = 0) ∧ (numR c.1).1 ≤ (most : Int))) := by
    rintro _ rfl
    rw [e1, refNum_eq]
    simp only [Bool.or_eq_false_iff, Bool.not_eq_false', bne_eq_false_iff_eq, decide_eq_false_iff_not]
    constructor
    · rintro ⟨h1, h2⟩; exact ⟨h1, by omega⟩
    · rintro ⟨h1, h2⟩; exact ⟨h1, by omega⟩
  refine run_cond rfl (fun h => ?_) (fun h => ?_)
  · have h1 : ¬ ((c.2 = true ∧ (numR c.1).2.2 = 0) ∧ (numR c.1).1 ≤ (most : Int)) := fun e => by have := (hcond true h).2 e; cases this
    repeat (first | refine zz ?_ | refine zx fun _ => ?_)
    exact run_ret hC (rs := [.tmp 4]) rfl (resT rfl resN) (fun _ h => h) ⟨by rw [cN, if_neg h1]; rfl, rfl, by rw [cN, if_neg h1]; rfl⟩
  · have h1 := (hcond false h).1 rfl
    obtain ⟨m, hm1, hm2, hm3⟩ := numR_len c.1 h1.1.2
    refine run_skip ?_
    repeat (first | refine zz ?_ | refine zx fun _ => ?_)
    refine runL_as 40 (.int .i64 (m : Int)) rfl (by rw [refNum_eq, hm1]) ?_
    repeat (first | refine zz ?_ | refine zx fun _ => ?_ | refine runL_q (qt_strLo (n := m) tok rfl rfl rfl (fun _ => hm3)) rfl rfl rfl ?_)
    have e2 : IntKind.i64.wrap (numR c.1).1 = (numR c.1).1 := by
      obtain ⟨x, hx⟩ : ∃ x : Nat, (numR c.1).1 = x := ⟨(numR c.1).1.toNat, by omega⟩
      rw [hx, wrap64_nat (by omega)]
    refine run_ret hC (rs := [.tmp 4]) rfl (resT rfl resN) (fun _ h => h) ⟨?_, rfl, ?_⟩
    · rw [cN, if_pos h1, refNum_eq, e2]; rfl
    · rw [cN, if_pos h1, hm1, h1.1.1.symm]; rfl
set_option maxRecDepth 10000 in
set_option maxHeartbeats 8000000 in
theorem ctext_ok (M : Mem) (L : HL) (bc : Nat) (c : Cut) (hs : c.1.size < 4611686018427387904) :
    Tr Tryz.prog 103 [.pointer (some ⟨bc, 0, none⟩)] M (cuB bc c :: L) (fun v M' L' => v = .string (cT c).1 ∧ M = M' ∧ L' = cuB bc (cT c).2 :: L) := by
  refine Tr.intro 37 Tryz.func103 rfl rfl Tryz.call103 rfl ?_
  intro C hC hro
  repeat (first | refine zz ?_ | refine zx fun _ => ?_ | refine runL_q (qt_callF rfl (fun _ => refText_ok _ _ c.1 8192 hs (by decide))) rfl rfl rfl ?_)
  have hcond : ∀ t : Bool, ((!c.2) || ((refText c.1 8192).2.2 != 0)) = t → (t = false ↔ (c.2 = true ∧ (textR c.1 8192).2.2 = 0)) := by
    rintro _ rfl
    rw [refText_eq]
    simp only [Bool.or_eq_false_iff, Bool.not_eq_false', bne_eq_false_iff_eq]
  refine run_cond rfl (fun h => ?_) (fun h => ?_)
  · have h1 : ¬ (c.2 = true ∧ (textR c.1 8192).2.2 = 0) := fun e => by have := (hcond true h).2 e; cases this
    repeat (first | refine zz ?_ | refine zx fun _ => ?_)
    exact run_ret hC (rs := [.tmp 2]) rfl (resT rfl resN) (fun _ h => h) ⟨by rw [cT, if_neg h1]; rfl, rfl, by rw [cT, if_neg h1]; rfl⟩
  · have h1 := (hcond false h).1 rfl
    obtain ⟨m, hm1, hm2, hm3⟩ := textR_len c.1 8192 h1.2
    refine run_skip ?_
    repeat (first | refine zz ?_ | refine zx fun _ => ?_)
    refine runL_as 32 (.int .i64 (m : Int)) rfl (by rw [refText_eq, hm1]) ?_
    repeat (first | refine zz ?_ | refine zx fun _ => ?_ | refine runL_q (qt_strLo (n := m) tok rfl rfl rfl (fun _ => hm3)) rfl rfl rfl ?_)
    refine run_ret hC (rs := [.tmp 2]) rfl (resT rfl resN) (fun _ h => h) ⟨?_, rfl, ?_⟩
    · rw [cT, if_pos h1, refText_eq]; rfl
    · rw [cT, if_pos h1, hm1, h1.1.symm]; rfl
end Go.Proofs.YtkjljcgbnikmkaaGreatDoor
namespace Go.Proofs.YtkjljcgbnikmkaaGreatDoor
open Go.Chi
set_option maxRecDepth 10000
def drC (q : Rd) : List Value := [.int .u8 q.kind, .int .i64 q.epoch, .int .i64 q.txn.coord, .int .i64 q.txn.epoch, .int .i64 q.txn.seq, .bool q.yes, .int .i64 q.auditor, q.mv, q.tv, .string q.body]
abbrev drB (b : Nat) (q : Rd) : Nat × Obj := (b, .cells ⟨drC q⟩ 35 (0, 0))
abbrev rvB (b : Nat) : Nat × Obj := (b, .cells ⟨rcC rc0⟩ 35 (0, 0))
theorem c1_size (k : Int) (c : Cut) : (c1 k c).2.1.size ≤ c.1.size := by
  unfold c1
  split
  · exact cN_size _ _
  · exact Nat.le_trans (cN_size _ _) (Nat.le_trans (cN_size _ _) (Nat.le_trans (cN_size _ _) (cN_size _ _)))
theorem cMb_size : ∀ (n : Nat) (c : Cut), (cMb n c).2.1.size ≤ c.1.size
  | 0, _ => Nat.le_refl _
  | n + 1, _ => Nat.le_trans (cMb_size n _) (Nat.le_trans (cT_size _) (cN_size _ _))
theorem c2_size (k : Int) (y : Bool) (c : Cut) : (c2 k y c).2.1.size ≤ c.1.size := by
  unfold c2
  split
  · exact Nat.le_trans (cMb_size _ _) (Nat.le_trans (cN_size _ _) (cN_size _ _))
  · exact Nat.le_refl _
theorem c3_size (k : Int) (c : Cut) : (c3 k c).2.1.size ≤ c.1.size := by
  unfold c3
  split
  · exact cT_size _
  · exact Nat.le_refl _
theorem cMb_short : ∀ (n : Nat) (c : Cut), ∀ m ∈ (cMb n c).1, m.digest.size ≤ 8192
  | 0, c, m, hm => by cases hm
  | n + 1, c, m, hm => by
    rw [cMb] at hm
    rcases List.mem_cons.1 hm with rfl | hm
    · exact cT_short _
    · exact cMb_short n _ m hm
theorem cTs_short : ∀ (n : Nat) (c : Cut), ∀ m ∈ (cTs n c).1, m.size ≤ 8192
  | 0, c, m, hm => by cases hm
  | n + 1, c, m, hm => by
    rw [cTs] at hm
    rcases List.mem_cons.1 hm with rfl | hm
    · exact cT_short _
    · exact cTs_short n _ m hm
theorem cRec_short (k : Int) (c : Cut) : Short (cRec k c).1 := by
  refine ⟨?_, ?_, ?_⟩
  · show ∀ m ∈ (c2 k _ _).1.2, _
    unfold c2
    split
    · exact cMb_short _ _
    · exact fun m hm => by cases hm
  · show ∀ m ∈ (c4 k _ _).1, _
    unfold c4
    split
    · exact cTs_short _ _
    · exact fun m hm => by cases hm
  · show (c3 k _).1.size ≤ 8192
    unfold c3
    split
    · exact cT_short _
    · exact Nat.zero_le _
set_option maxRecDepth 10000 in
set_option maxHeartbeats 32000000 in
theorem ddecode_ok (M : Mem) (L : HL) (s : ByteArray) (hs : s.size < 4611686018427387904) : Tr Tryz.prog 75 [.string s] M L (decK s M L) := by
  refine Tr.intro 129 Tryz.func75 rfl rfl Tryz.call75 rfl ?_
  intro C hC hro
  repeat (first | refine zz ?_ | refine zx fun _ => ?_)
  rename_i b2
  refine run_cond rfl (fun h => ?_) (fun h => ?_)
  · have h0 : s.size = 0 ∨ 8192 < s.size := by
      rw [empty_beq] at h
      simp only [Bool.or_eq_true, decide_eq_true_eq] at h
      omega
    have hnd : ∀ x, ¬ Dec s x := fun x hx => by
      obtain ⟨h1, h2, _⟩ := dec_iff.1 hx
      omega
    repeat (first | refine zz ?_ | refine zx fun _ => ?_)
    exact run_ret hC (rs := [.cell 2 35, .tmp 3]) rfl (rl tok rfl (resT rfl resN)) (fun _ h => h.drop) (decK_none (Mem.le_refl _) hnd)
  have h0 : s.size ≠ 0 ∧ s.size ≤ 8192 := by
    rw [empty_beq] at h
    simp only [Bool.or_eq_false_iff, decide_eq_false_iff_not] at h
    omega
  have hp : 0 < s.size := by omega
  obtain ⟨b0, hb0, hb0'⟩ := byte_at hp
  have hr1 : (rest1 s).size < 4611686018427387904 := by rw [rest1_size]; omega
  refine run_skip ?_
  repeat (first | refine zz ?_ | refine zx fun _ => ?_ | refine runL_q (Qt.as (v' := .int .u8 (byte s 0)) (qt_strIndex (n := 0) tok rfl rfl rfl (fun _ => hb0)) (by rw [hb0'])) rfl rfl rfl ?_ | refine runL_q (qt_strLo (n := 1) tok rfl rfl rfl (fun _ => hp)) rfl rfl rfl ?_)
  rename_i b4 bc
  generalize hk : byte s 0 = k
  generalize hc0 : ((rest1 s, true) : Cut) = c0
  have hz0 : c0.1.size < 4611686018427387904 := by rw [← hc0]; exact hr1
  refine run_mem (M' := M) (L' := cuB bc c0 :: drB b4 ⟨k, 0, ⟨0, 0, 0⟩, false, 0, .slice none 0 0, .slice none 0 0, ⟨#[]⟩⟩ :: rvB b2 :: L) (fun _ h => by rw [← hc0]; exact h) ?_
  refine run_cut (fun σ' M' L' => σ' = [(4, .pointer (some ⟨b4, 0, none⟩)), (5, .pointer (some ⟨bc, 0, none⟩)), (2, .pointer (some ⟨b2, 0, none⟩)), (0, .string s)] ∧ M' = M ∧ L' = cuB bc (c1 k c0).2 :: drB b4 ⟨k, (c1 k c0).1.1, (c1 k c0).1.2.1, (c1 k c0).1.2.2, 0, .slice none 0 0, .slice none 0 0, ⟨#[]⟩⟩ :: rvB b2 :: L) ?_ ?_
  rotate_left
  · intro hnext
    refine run_cond rfl (fun h => ?_) (fun h => ?_)
    · have k1 : k = 1 := by simpa using h
      refine run_region ?_
      repeat (first | refine zq ?_ | refine zx fun _ => ?_ | refine runL_op (st_callF rfl (fun _ => cnum_ok _ _ bc c0 255 (by decide) hz0)) rfl rfl rfl ?_; rintro _ _ _ ⟨rfl, rfl, rfl⟩)
      refine runL_nil ?_
      exact run_sub' (hnext _ _ _ ⟨rfl, rfl, by rw [c1, if_pos k1]; first | done | rfl⟩) ⟨rfl, rfl, rfl, rfl, trivial⟩
    · have k1 : ¬ k = 1 := by simpa using h
      have q1 := cN_size 8 c0
      have q2 := cN_size 255 (cN 8 c0).2
      have q3 := cN_size 65535 (cN 255 (cN 8 c0).2).2
      refine run_seq ?_
      refine run_region ?_
      repeat (first | refine zq ?_ | refine zx fun _ => ?_ | refine runL_op (st_callF rfl (fun _ => cnum_ok _ _ bc c0 8 (by decide) hz0)) rfl rfl rfl ?_; rintro _ _ _ ⟨rfl, rfl, rfl⟩)
      refine runL_nil ?_
      refine run_seq ?_
      refine run_region ?_
      repeat (first | refine zq ?_ | refine zx fun _ => ?_ | refine runL_op (st_callF rfl (fun _ => cnum_ok _ _ bc (cN 8 c0).2 255 (by decide) (by omega))) rfl rfl rfl ?_; rintro _ _ _ ⟨rfl, rfl, rfl⟩)
      refine runL_nil ?_
      refine run_seq ?_
      refine run_region ?_
      repeat (first | refine zq ?_ | refine zx fun _ => ?_ | refine runL_op (st_callF rfl (fun _ => cnum_ok _ _ bc (cN 255 (cN 8 c0).2).2 65535 (by decide) (by omega))) rfl rfl rfl ?_; rintro _ _ _ ⟨rfl, rfl, rfl⟩)
      refine runL_nil ?_
      refine run_region ?_
      repeat (first | refine zq ?_ | refine zx fun _ => ?_ | refine runL_op (st_callF rfl (fun _ => cnum_ok _ _ bc (cN 65535 (cN 255 (cN 8 c0).2).2).2 1 (by decide) (by omega))) rfl rfl rfl ?_; rintro _ _ _ ⟨rfl, rfl, rfl⟩)
      refine runL_nil ?_
      exact run_sub' (hnext _ _ _ ⟨rfl, rfl, by rw [c1, if_neg k1]; first | done | rfl⟩) ⟨rfl, rfl, rfl, rfl, trivial⟩
  rintro _ _ _ ⟨rfl, rfl, rfl⟩
  rename_i M0
  have hzA := c1_size k c0
  generalize hA : c1 k c0 = A at hzA ⊢
  obtain ⟨⟨ep, tx, y⟩, cA⟩ := A
  simp only at hzA ⊢
  repeat (first | refine zz ?_ | refine zx fun _ => ?_)
  have hcB : ∀ t : Bool, ((k == 2) || ((k == 3) && y)) = t → (t = true ↔ (k = 2 ∨ (k = 3 ∧ y = true))) := by
    rintro _ rfl
    simp
  refine run_cut (fun σ' M' L' => ∃ sm : SMb, M0.le M' ∧ MbOk M' sm ∧ sm.xs = (c2 k y cA).1.2 ∧ σ' = [(4, .pointer (some ⟨b4, 0, none⟩)), (5, .pointer (some ⟨bc, 0, none⟩)), (2, .pointer (some ⟨b2, 0, none⟩)), (0, .string s)] ∧ L' = cuB bc (c2 k y cA).2 :: drB b4 ⟨k, ep, tx, y, (c2 k y cA).1.1, sm.v, .slice none 0 0, ⟨#[]⟩⟩ :: rvB b2 :: L) ?_ ?_
  rotate_left
  · intro hnext
    refine run_cond rfl (fun h => ?_) (fun h => ?_)
    rotate_left
    · have hn : ¬ (k = 2 ∨ (k = 3 ∧ y = true)) := fun e => by have := (hcB false h).2 e; cases this
      refine run_skip ?_
      exact run_sub' (hnext _ _ _ ⟨nilM, Mem.le_refl _, MbOk.nil _, by rw [c2, if_neg hn]; rfl, rfl, by rw [c2, if_neg hn]; rfl⟩) ⟨rfl, rfl, rfl, rfl, trivial⟩
    have hy := (hcB true h).1 rfl
    have q1 := cN_size 8 cA
    have q2 := cN_size 6 (cN 8 cA).2
    have hc2 : c2 k y cA = (((cN 8 cA).1, (cMb (cN 6 (cN 8 cA).2).1.toNat (cN 6 (cN 8 cA).2).2).1), (cMb (cN 6 (cN 8 cA).2).1.toNat (cN 6 (cN 8 cA).2).2).2) := by rw [c2, if_pos hy]
    rw [hc2] at hnext
    obtain ⟨cnt, hcnt, hcnt6⟩ := cN_nat 6 (cN 8 cA).2
    rw [hcnt, Int.toNat_natCast] at hnext
    refine run_seq ?_
    refine run_region ?_
    repeat (first | refine zq ?_ | refine zx fun _ => ?_ | refine runL_op (st_callF rfl (fun _ => cnum_ok _ _ bc cA 8 (by decide) (by omega))) rfl rfl rfl ?_; rintro _ _ _ ⟨rfl, rfl, rfl⟩)
    refine runL_nil ?_
    refine run_seq ?_
    refine run_region ?_
    repeat (first | refine zq ?_ | refine zx fun _ => ?_ | refine runL_op (st_callF rfl (fun _ => cnum_ok _ _ bc (cN 8 cA).2 6 (by decide) (by omega))) rfl rfl rfl ?_; rintro _ _ _ ⟨rfl, rfl, rfl⟩)
    refine runL_nil ?_
    refine run_as 6 (.int .i64 (cnt : Int)) rfl (by rw [hcnt]) ?_
    generalize hau : (cN 8 cA).1 = au at hnext ⊢
    generalize hcut2 : (cN 6 (cN 8 cA).2).2 = cu at hnext q2 ⊢
    refine run_seq ?_
    (refine run_region ?_; (repeat (first | refine zq ?_ | refine zx fun _ => ?_)); refine runL_nil ?_)
    refine run_block ?_
    refine run_loopN (fun j σ1 M2 L1 => j ≤ cnt ∧ ∃ (xs : List Mb) (cj : Cut) (mvj : Value) (N : HL), xs.length = j ∧ cMb cnt cu = (xs ++ (cMb (cnt - j) cj).1, (cMb (cnt - j) cj).2) ∧ cj.1.size ≤ cA.1.size ∧ OS 98 2 mvj j (xs.map mbC).flatten N ∧ M0 = M2 ∧ L1 = cuB bc cj :: drB b4 ⟨k, ep, tx, y, au, mvj, .slice none 0 0, ⟨#[]⟩⟩ :: (N ++ rvB b2 :: L) ∧ σ1 = [(7, .int .i64 (j : Int)), (6, .int .i64 (cnt : Int)), (4, .pointer (some ⟨b4, 0, none⟩)), (5, .pointer (some ⟨bc, 0, none⟩)), (2, .pointer (some ⟨b2, 0, none⟩)), (0, .string s)]) cnt [(7, .int .i64 ((0 : Nat) : Int)), (6, .int .i64 (cnt : Int)), (4, .pointer (some ⟨b4, 0, none⟩)), (5, .pointer (some ⟨bc, 0, none⟩)), (2, .pointer (some ⟨b2, 0, none⟩)), (0, .string s)] ?_ ⟨Nat.zero_le _, [], cu, .slice none 0 0, [], rfl, rfl, by omega, OS.nil _ _, rfl, rfl, rfl⟩ (fun j _ _ _ h => h.1) ?_
    · exact ⟨rfl, rfl, rfl, rfl, rfl, rfl, trivial⟩
    rintro j _ _ _ ⟨hj, xs, cj, mvj, N, hxl, hcj, hzj, hO, rfl, rfl, rfl⟩ hnx
    repeat (first | refine zz ?_ | refine zx fun _ => ?_)
    refine run_cond rfl (fun h => ?_) (fun h => ?_)
    · have hlt : j < cnt := by simpa using h
      have hc1 : cnt - j = (cnt - (j + 1)) + 1 := by omega
      rw [hc1, cMb] at hcj
      have q3 := cN_size 8 cj
      have q4 := cT_size (cN 8 cj).2
      obtain ⟨aa0, ca0, rfl⟩ := rOsSl hO
      repeat (first | refine zz ?_ | refine zx fun _ => ?_ | refine runL_op (st_callF rfl (fun _ => cnum_ok _ _ bc cj 8 (by decide) (by omega))) rfl rfl rfl ?_; rintro _ _ _ ⟨rfl, rfl, rfl⟩ | refine runL_op (st_callF rfl (fun _ => trPerm (List.Perm.swap _ _ _) (ctext_ok _ _ bc (cN 8 cj).2 (by omega)))) rfl rfl rfl ?_; rintro _ _ _ ⟨rfl, rfl, rfl⟩)
      rename_i b8 bn
      refine runL_op (st_append (n := j) (m := 1) (news := mbC ⟨(cN 8 cj).1, (cT (cN 8 cj).2).1⟩) tok rfl rfl rfl rfl rfl rfl rfl rfl (pm4 _ _ _ _ N _) hO (.inr ⟨bn, 0, 1, rfl, cellsAll List.mem_cons_self, rfl⟩) (rMbOne _) (by omega) (by omega)) rfl rfl rfl ?_
      rintro mv' _ _ ⟨N', rfl, rfl, hO'⟩
      obtain ⟨aa, ca, rfl⟩ := rOsSl hO'
      repeat (first | refine zz ?_ | refine zx fun _ => ?_)
      refine run_mem (fun _ h => ((h.perm (pm4 _ _ _ _ N' _).symm).drop.perm (List.Perm.swap _ _ _)).drop) (run_sub' (hnx _ _ _ ⟨hlt, xs ++ [⟨(cN 8 cj).1, (cT (cN 8 cj).2).1⟩], (cT (cN 8 cj).2).2, _, N', by simp [hxl], ?_, by omega, by rw [← rFlat]; exact hO', rfl, rfl, rfl⟩) ⟨lk_succ rfl (by omega), rfl, rfl, rfl, rfl, rfl, trivial⟩)
      rw [hcj]
      simp
    · have hge : j = cnt := by simp at h; omega
      rw [hge, Nat.sub_self, cMb] at hcj
      simp only [List.append_nil] at hcj
      refine run_exit rfl ?_
      refine run_memE (fun M' L' => M0.le M' ∧ ∃ sm : SMb, MbOk M' sm ∧ sm.xs = xs ∧ L' = cuB bc cj :: drB b4 ⟨k, ep, tx, y, au, sm.v, .slice none 0 0, ⟨#[]⟩⟩ :: rvB b2 :: L) (fun w hw => ?_) ?_
      · obtain ⟨M', a', c', h1, h2, h3, h4⟩ := (hw.perm (pm2 _ _ N _)).freezeOS hO (by simpa using hxl) (rMbAll _)
        exact ⟨M', _, h2, h1, ⟨a', j, c', xs⟩, ⟨h4, by show j < _; omega⟩, rfl, by rw [h3]; rfl⟩
      · rintro M' _ ⟨hM', sm, hsm, rfl, rfl⟩
        exact run_sub' (hnext _ _ _ ⟨sm, hM', hsm, by rw [hcj], rfl, by rw [hcj]⟩) ⟨rfl, rfl, rfl, rfl, trivial⟩
  rintro _ M2 _ ⟨sm, hM2, hsm, hxm, rfl, rfl⟩
  have hzB := c2_size k y cA
  generalize hB : c2 k y cA = B at hzB hxm ⊢
  obtain ⟨⟨au, ms⟩, cB⟩ := B
  simp only at hzB hxm ⊢
  subst hxm
  repeat (first | refine zz ?_ | refine zx fun _ => ?_)
  refine run_cut (fun σ' M' L' => σ' = [(4, .pointer (some ⟨b4, 0, none⟩)), (5, .pointer (some ⟨bc, 0, none⟩)), (2, .pointer (some ⟨b2, 0, none⟩)), (0, .string s)] ∧ M2 = M' ∧ L' = cuB bc (c3 k cB).2 :: drB b4 ⟨k, ep, tx, y, au, sm.v, .slice none 0 0, (c3 k cB).1⟩ :: rvB b2 :: L) ?_ ?_
  rotate_left
  · intro hnext
    refine run_cond rfl (fun h => ?_) (fun h => ?_)
    · have k2 : k = 2 := by simpa using h
      refine run_region ?_
      repeat (first | refine zq ?_ | refine zx fun _ => ?_ | refine runL_op (st_callF rfl (fun _ => ctext_ok _ _ bc cB (by omega))) rfl rfl rfl ?_; rintro _ _ _ ⟨rfl, rfl, rfl⟩)
      refine runL_nil ?_
      exact run_sub' (hnext _ _ _ ⟨rfl, rfl, by rw [c3, if_pos k2]; first | done | rfl⟩) ⟨rfl, rfl, rfl, rfl, trivial⟩
    · have k2 : ¬ k = 2 := by simpa using h
      refine run_skip ?_
      exact run_sub' (hnext _ _ _ ⟨rfl, rfl, by rw [c3, if_neg k2]; first | done | rfl⟩) ⟨rfl, rfl, rfl, rfl, trivial⟩
  rintro _ _ _ ⟨rfl, rfl, rfl⟩
  have hzD := c3_size k cB
  generalize hD : c3 k cB = D at hzD ⊢
  obtain ⟨bo, cD⟩ := D
  simp only at hzD ⊢
  have hsl := hsm.len
  have hs6 := hsm.2
  refine run_seq ?_
  refine run_seq ?_
  (refine run_region ?_; (repeat (first | refine zq ?_ | refine zx fun _ => ?_)); refine runL_nil ?_)
  refine run_cut (fun σ' M' L' => ∃ st : SStr, M2.le M' ∧ StOk M' st ∧ st.xs = (c4 k sm.len cD).1 ∧ σ' = [(4, .pointer (some ⟨b4, 0, none⟩)), (5, .pointer (some ⟨bc, 0, none⟩)), (2, .pointer (some ⟨b2, 0, none⟩)), (0, .string s)] ∧ L' = cuB bc (c4 k sm.len cD).2 :: drB b4 ⟨k, ep, tx, y, au, sm.v, st.v, bo⟩ :: rvB b2 :: L) ?_ ?_
  rotate_left
  · intro hnext
    refine run_block ?_
    refine run_loopN (fun j σ1 M3 L1 => j ≤ sm.len ∧ ∃ (xs : List ByteArray) (cj : Cut) (tvj : Value) (N : HL), xs.length = j ∧ c4 k sm.len cD = (xs ++ (c4 k (sm.len - j) cj).1, (c4 k (sm.len - j) cj).2) ∧ cj.1.size ≤ cD.1.size ∧ OS 9 1 tvj j (xs.map stC).flatten N ∧ M2 = M3 ∧ L1 = cuB bc cj :: drB b4 ⟨k, ep, tx, y, au, sm.v, tvj, bo⟩ :: (N ++ rvB b2 :: L) ∧ σ1 = [(9, .int .i64 (j : Int)), (4, .pointer (some ⟨b4, 0, none⟩)), (5, .pointer (some ⟨bc, 0, none⟩)), (2, .pointer (some ⟨b2, 0, none⟩)), (0, .string s)]) sm.len [(9, .int .i64 ((0 : Nat) : Int)), (4, .pointer (some ⟨b4, 0, none⟩)), (5, .pointer (some ⟨bc, 0, none⟩)), (2, .pointer (some ⟨b2, 0, none⟩)), (0, .string s)] ?_ ⟨Nat.zero_le _, [], cD, .slice none 0 0, [], rfl, rfl, Nat.le_refl _, OS.nil _ _, rfl, rfl, rfl⟩ (fun j _ _ _ h => h.1) ?_
    · exact ⟨rfl, rfl, rfl, rfl, rfl, trivial⟩
    rintro j _ _ _ ⟨hj, xs, cj, tvj, N, hxl, hcj, hzj, hO, rfl, rfl, rfl⟩ hnx
    have hcT : ∀ t : Bool, ((k == 3) && decide ((j : Int) < (sm.len : Int))) = t → (t = true ↔ (k = 3 ∧ j < sm.len)) := by
      rintro _ rfl
      simp
    repeat (first | refine zz ?_ | refine zx fun _ => ?_)
    refine run_cond rfl (fun h => ?_) (fun h => ?_)
    · obtain ⟨k3, hlt⟩ := (hcT true h).1 rfl
      have hc1 : sm.len - j = (sm.len - (j + 1)) + 1 := by omega
      have e4 : ∀ n c, c4 k n c = cTs n c := fun n c => by rw [c4, if_pos k3]
      have q4 := cT_size cj
      obtain ⟨aa0, ca0, rfl⟩ := rOsSl hO
      repeat (first | refine zz ?_ | refine zx fun _ => ?_)
      repeat (first | refine zz ?_ | refine zx fun _ => ?_ | refine dd ?_ | refine dz ?_ | refine dx fun _ => ?_)
      refine prn_o1 rfl (st_callF rfl (fun _ => ctext_ok _ _ bc cj (by omega))) (by decide +kernel) rfl rfl rfl ?_
      rintro _ _ _ ⟨rfl, rfl, rfl⟩
      refine ⟨by (repeat (first | exact trivial | refine And.intro (pend_q rfl rfl rfl (qt_pev tok rfl)) ?_ | refine And.intro (pend_q rfl rfl rfl (ql tok rfl)) ?_)), ?_⟩
      repeat (first | refine zz ?_ | refine zx fun _ => ?_ | refine dd ?_ | refine dz ?_ | refine dx fun _ => ?_)
      rename_i bn
      refine prn_o1 rfl (st_append (n := j) (m := 1) (news := stC (cT cj).1) tok rfl rfl rfl rfl rfl rfl rfl rfl (pm3 _ _ _ N _) hO (.inr ⟨bn, 0, 1, rfl, cellsAll List.mem_cons_self, rfl⟩) (rStOne _) (by omega) (by omega)) (by decide +kernel) rfl rfl rfl ?_
      rintro mv' _ _ ⟨N', rfl, rfl, hO'⟩
      obtain ⟨aa, ca, rfl⟩ := rOsSl hO'
      refine ⟨by (repeat (first | exact trivial | refine And.intro (pend_q rfl rfl rfl (qt_pev tok rfl)) ?_ | refine And.intro (pend_q rfl rfl rfl (ql tok rfl)) ?_)), ?_⟩
      repeat (first | refine zz ?_ | refine zx fun _ => ?_ | refine dd ?_ | refine dz ?_ | refine dx fun _ => ?_)
      refine run_mem (fun _ h => (h.perm (pm3 _ _ _ N' _).symm).drop) (run_sub' (hnx _ _ _ ⟨hlt, xs ++ [(cT cj).1], (cT cj).2, _, N', by simp [hxl], ?_, by omega, by rw [← rFlat]; exact hO', rfl, rfl, rfl⟩) ⟨lk_succ rfl (by omega), rfl, rfl, rfl, rfl, trivial⟩)
      rw [hcj, e4, e4, hc1, cTs]
      simp
    · have hn : ¬ (k = 3 ∧ j < sm.len) := fun e => by have := (hcT false h).2 e; cases this
      have hcz : c4 k (sm.len - j) cj = ([], cj) := by
        rw [c4]
        split
        · rename_i k3
          rw [show sm.len - j = 0 by omega, cTs]
        · rfl
      rw [hcz] at hcj
      simp only [List.append_nil] at hcj
      refine run_exit rfl ?_
      refine run_memE (fun M' L' => M2.le M' ∧ ∃ st : SStr, StOk M' st ∧ st.xs = xs ∧ L' = cuB bc cj :: drB b4 ⟨k, ep, tx, y, au, sm.v, st.v, bo⟩ :: rvB b2 :: L) (fun w hw => ?_) ?_
      · obtain ⟨M', a', c', h1, h2, h3, h4⟩ := (hw.perm (pm2 _ _ N _)).freezeOS hO (by simpa using hxl) (rStAll _)
        exact ⟨M', _, h2, h1, ⟨a', j, c', xs⟩, ⟨h4, by show j < _; omega⟩, rfl, by rw [h3]; rfl⟩
      · rintro M' _ ⟨hM', st, hst, rfl, rfl⟩
        exact run_sub' (hnext _ _ _ ⟨st, hM', hst, by rw [hcj], rfl, by rw [hcj]⟩) ⟨rfl, rfl, rfl, rfl, trivial⟩
  rintro _ M3 _ ⟨st, hM3, hst, hxt, rfl, rfl⟩
  have hR : cRec k c0 = ((⟨k, ep, tx, y, au, sm.xs, st.xs, bo⟩ : Re), (c4 k sm.len cD).2) := by
    unfold cRec
    rw [hA]
    simp only
    rw [hB]
    simp only
    rw [hD]
    simp only
    rw [hsl, ← hxt]
  generalize (c4 k sm.len cD).2 = cE at hR ⊢
  obtain ⟨rest, is⟩ := cE
  have hsh := cRec_short k c0
  rw [hR] at hsh
  have hle : M0.le M3 := Mem.le_trans hM2 hM3
  have hr : RcOk M3 ⟨k, ep, tx, y, au, sm, st, bo⟩ := ⟨hsm.le hM3, hst, fun m hm => by have := hsh.1 m hm; omega, fun t ht => by have := hsh.2.1 t ht; omega, by have := hsh.2.2; show bo.size < _; simp only at this; omega⟩
  have hl : RcLim ⟨k, ep, tx, y, au, sm, st, bo⟩ := ⟨fun m hm => by have := hsh.1 m hm; omega, fun t ht => by have := hsh.2.1 t ht; omega, by have := hsh.2.2; show bo.size < _; simp only at this; omega⟩
  generalize hrc : (⟨k, ep, tx, y, au, sm, st, bo⟩ : Rc) = rc at hr hl
  have hre : rc.re = (⟨k, ep, tx, y, au, sm.xs, st.xs, bo⟩ : Re) := by rw [← hrc]; rfl
  have hcell : drB b4 ⟨k, ep, tx, y, au, sm.v, st.v, bo⟩ = (b4, .cells ⟨rcC rc⟩ 35 (0, 0)) := by rw [← hrc]; rfl
  rw [hcell]
  rw [← hre] at hR hsh
  have hfin : (is = true ∧ (encE rc).2 = 0 ∧ (encE rc).1 = s) ↔ Dec s rc.re := by
    constructor
    · rintro ⟨h1, h2, h3⟩
      unfold encE at h2 h3
      split at h2
      · rename_i hx; exact absurd h2 hx
      · rename_i hx
        rw [if_neg hx] at h3
        split at h2
        · cases h2
        · rename_i hy
          rw [if_neg hy] at h3
          exact ⟨(recE_re hr).1 (by simpa using hx), h3, by rw [← h3]; show (recB rc.re).size ≤ 8192; omega⟩
    · intro hd
      have h1 := cRec_dec hd
      rw [hk, hc0, hR] at h1
      have h2 : recE rc = 0 := (recE_re hr).2 hd.1
      have h3 : ¬ 8192 < (recB rc.re).size := by rw [hd.2.1]; have := hd.2.2; omega
      refine ⟨by simpa using (congrArg (fun x => x.2.2) h1), ?_, ?_⟩
      · rw [encE, if_neg (by simp [h2]), if_neg h3]
      · rw [encE, if_neg (by simp [h2]), if_neg h3]; exact hd.2.1
  have huniq : ∀ z, Dec s z → Dec s rc.re := fun z hz => by
    have h1 := cRec_dec hz
    rw [hk, hc0, hR] at h1
    have h2 : rc.re = z := by simpa using (congrArg (fun x => x.1) h1)
    rw [h2]; exact hz
  repeat (first | refine zz ?_ | refine zx fun _ => ?_ | refine runL_q (qt_callF rfl (fun _ => dencode_ok _ _ rc hr hl)) rfl rfl rfl ?_)
  have hcF : ∀ t : Bool, (((!is) || ((encE rc).2 != 0)) || (!((encE rc).1.toList == s.toList))) = t → (t = false ↔ Dec s rc.re) := by
    rintro _ rfl
    rw [← hfin, bytes_beq]
    simp [and_assoc]
  refine run_cond rfl (fun h => ?_) (fun h => ?_)
  · have hnd := hcF true h
    repeat (first | refine zz ?_ | refine zx fun _ => ?_)
    exact run_ret hC (rs := [.cell 2 35, .tmp 3]) rfl (rl tok rfl (resT rfl resN)) (fun _ h => h.drop.drop.drop) (decK_none hle (fun z hz => by have := hnd.2 (huniq z hz); cases this))
  · have hd := (hcF false h).1 rfl
    refine run_skip ?_
    repeat (first | refine zz ?_ | refine zx fun _ => ?_)
    exact run_ret hC (rs := [.cell 2 35, .tmp 3]) rfl (rl tok rfl (resT rfl resN)) (fun _ h => h.drop.drop.drop) ⟨hle, rfl, rc, 0, rfl, hr, hsh, .inl ⟨rfl, hd⟩⟩
end Go.Proofs.YtkjljcgbnikmkaaGreatDoor
namespace Go.Proofs.YtkjljcgbnikmkaaGreatDoor
open Go.Chi
set_option maxRecDepth 10000
theorem rFlatOne {α : Type} {f : α → List Value} (h : ∀ r, ∀ u ∈ f r, u.oneCell' = true) (l : List α) : ∀ u ∈ (l.map f).flatten, u.oneCell' = true := by
  intro u hu
  obtain ⟨x, hx, hu⟩ := List.mem_flatten.1 hu
  obtain ⟨y, _, rfl⟩ := List.mem_map.1 hx
  exact h y u hu
structure RcIn (M : Mem) (r : Rc) : Prop where
  mem : r.mem.Ok M
  tags : r.tags.Ok M
def longR (r : Rc) : Bool := (((decide ((r.mem.len : Int) > 20) || decide ((r.tags.len : Int) > 20)) || decide ((r.body.size : Int) > 8192)) || (r.mem.xs.any fun m => decide ((m.digest.size : Int) > 8192))) || (r.tags.xs.any fun t => decide ((t.size : Int) > 8192))
theorem longR_m {M : Mem} {r : Rc} (h : RcIn M r) (hl : longR r = false) : RcOk M r ∧ RcLim r ∧ Short r.re ∧ r.mem.len ≤ 20 ∧ r.tags.len ≤ 20 := by
  simp only [longR, Bool.or_eq_false_iff, decide_eq_false_iff_not, List.any_eq_false, decide_eq_true_eq] at hl
  obtain ⟨⟨⟨⟨h1, h2⟩, h3⟩, h4⟩, h5⟩ := hl
  refine ⟨⟨⟨h.mem, by omega⟩, ⟨h.tags, by omega⟩, fun m hm => ?_, fun t ht => ?_, by omega⟩, ⟨fun m hm => ?_, fun t ht => ?_, by omega⟩, ⟨fun m hm => ?_, fun t ht => ?_, ?_⟩, by omega, by omega⟩
  · have := h4 m hm; omega
  · have := h5 t ht; omega
  · have := h4 m hm; omega
  · have := h5 t ht; omega
  · have := h4 m hm; omega
  · have := h5 t ht; omega
  · show r.body.size ≤ 8192; omega
set_option maxHeartbeats 8000000 in
theorem dlong_ok (M : Mem) (L : HL) (r : Rc) (h : RcIn M r) : TrQ Tryz.prog 33 [.agg ⟨rcC r⟩] M L (.bool (longR r)) := by
  have hl1 : r.mem.xs.length = r.mem.len := by have := h.mem.1; simpa using this
  have hl2 : r.tags.xs.length = r.tags.len := by have := h.tags.1; simpa using this
  refine Tr.intro 50 Tryz.func33 rfl rfl Tryz.call33 rfl ?_
  intro C hC hro
  repeat (first | refine zz ?_ | refine zx fun _ => ?_)
  rename_i b1
  refine run_cond rfl (fun hh => ?_) (fun hh => ?_)
  · repeat (first | refine zz ?_ | refine zx fun _ => ?_)
    exact run_ret hC (rs := [.tmp 2]) rfl (resT rfl resN) (fun _ h => h.drop) ⟨by rw [longR, hh]; rfl, rfl, rfl⟩
  have h20 := hh
  simp only [Bool.or_eq_false_iff, decide_eq_false_iff_not] at h20
  rw [longR, hh, Bool.false_or] at hC
  repeat (first | refine zz ?_ | refine zx fun _ => ?_)
  refine run_loopN (fun j σ1 M1 L1 => j ≤ r.mem.len ∧ M = M1 ∧ L1 = (b1, .cells ⟨rcC r⟩ 35 (0, 0)) :: L ∧ ((r.mem.xs.take j).any fun m => decide ((m.digest.size : Int) > 8192)) = false ∧ σ1 = [(3, .int .i64 (j : Int)), (1, .pointer (some ⟨b1, 0, none⟩))]) r.mem.len [(3, .int .i64 ((0 : Nat) : Int)), (1, .pointer (some ⟨b1, 0, none⟩))] ?_ ⟨Nat.zero_le _, rfl, rfl, by simp, rfl⟩ (fun j _ _ _ h => h.1) ?_
  · exact ⟨rfl, rfl, trivial⟩
  rintro j _ _ _ ⟨hj, rfl, rfl, hpre, rfl⟩ hnext
  repeat (first | refine zz ?_ | refine zx fun _ => ?_)
  refine run_cond rfl (fun h1 => ?_) (fun h1 => ?_)
  · have hlt : j < r.mem.len := by simpa using h1
    obtain ⟨b, off, m, hma, hm, hc⟩ := SMb.at_ h.mem hlt
    have hv : r.mem.v = .slice (some ⟨b, off, none⟩) r.mem.len r.mem.cap := by rw [← hma]; rfl
    repeat (first | refine zz ?_ | refine zx fun _ => ?_)
    refine runL_as 29 (.slice (some ⟨b, off, none⟩) r.mem.len r.mem.cap) rfl hv ?_
    repeat (first | refine zz ?_ | refine zx fun _ => ?_ | refine runL_q (qt_indexN tok rfl rfl rfl rfl (fun _ => by omega)) rfl rfl rfl ?_ | refine runL_g rfl rfl (qt_indexN tok rfl rfl rfl rfl (fun _ => by omega)) rfl rfl rfl rfl rfl ?_ | refine runL_q (qt_ldM tok rfl hc rfl) rfl rfl rfl ?_ | refine runL_g rfl rfl (qt_ldM tok rfl hc rfl) rfl rfl rfl rfl rfl ?_ | refine runL_q (qt_ldM0 tok rfl hc rfl) rfl rfl rfl ?_ | refine runL_g rfl rfl (qt_ldM0 tok rfl hc rfl) rfl rfl rfl rfl rfl ?_)
    refine run_cond rfl (fun h2 => ?_) (fun h2 => ?_)
    · rw [any_true (fun m : Mb => decide ((m.digest.size : Int) > 8192)) hm h2] at hC
      repeat (first | refine zz ?_ | refine zx fun _ => ?_)
      exact run_ret hC (rs := [.tmp 2]) rfl (resT rfl resN) (fun _ h => h.drop) ⟨rfl, rfl, rfl⟩
    · repeat (first | refine zz ?_ | refine zx fun _ => ?_)
      exact run_sub' (hnext _ _ _ ⟨hlt, rfl, rfl, by rw [any_snoc _ hm hpre]; exact h2, rfl⟩) ⟨lk_succ rfl (by omega), rfl, trivial⟩
  have hge : j = r.mem.len := by simp at h1; omega
  rw [hge, List.take_of_length_le (by omega)] at hpre
  rw [hpre, Bool.false_or] at hC
  clear hnext
  repeat (first | refine zz ?_ | refine zx fun _ => ?_)
  refine run_loopN (fun j σ1 M1 L1 => j ≤ r.tags.len ∧ M = M1 ∧ L1 = (b1, .cells ⟨rcC r⟩ 35 (0, 0)) :: L ∧ ((r.tags.xs.take j).any fun m => decide ((m.size : Int) > 8192)) = false ∧ σ1 = [(4, .int .i64 (j : Int)), (1, .pointer (some ⟨b1, 0, none⟩))]) r.tags.len [(4, .int .i64 ((0 : Nat) : Int)), (1, .pointer (some ⟨b1, 0, none⟩))] ?_ ⟨Nat.zero_le _, rfl, rfl, by simp, rfl⟩ (fun j _ _ _ h => h.1) ?_
  · exact ⟨rfl, rfl, trivial⟩
  rintro i _ _ _ ⟨hi, rfl, rfl, hpre2, rfl⟩ hnext
  repeat (first | refine zz ?_ | refine zx fun _ => ?_)
  refine run_cond rfl (fun h1 => ?_) (fun h1 => ?_)
  · have hlt : i < r.tags.len := by simpa using h1
    obtain ⟨b, off, m, hma, hm, hc⟩ := SStr.at_ h.tags hlt
    have hv : r.tags.v = .slice (some ⟨b, off, none⟩) r.tags.len r.tags.cap := by rw [← hma]; rfl
    repeat (first | refine zz ?_ | refine zx fun _ => ?_)
    refine runL_as 44 (.slice (some ⟨b, off, none⟩) r.tags.len r.tags.cap) rfl hv ?_
    repeat (first | refine zz ?_ | refine zx fun _ => ?_ | refine runL_q (qt_indexN tok rfl rfl rfl rfl (fun _ => by omega)) rfl rfl rfl ?_ | refine runL_g rfl rfl (qt_indexN tok rfl rfl rfl rfl (fun _ => by omega)) rfl rfl rfl rfl rfl ?_ | refine runL_q (qt_ldM tok rfl hc rfl) rfl rfl rfl ?_ | refine runL_g rfl rfl (qt_ldM tok rfl hc rfl) rfl rfl rfl rfl rfl ?_ | refine runL_q (qt_ldM0 tok rfl hc rfl) rfl rfl rfl ?_ | refine runL_g rfl rfl (qt_ldM0 tok rfl hc rfl) rfl rfl rfl rfl rfl ?_)
    refine run_cond rfl (fun h2 => ?_) (fun h2 => ?_)
    · rw [any_true (fun m : ByteArray => decide ((m.size : Int) > 8192)) hm h2] at hC
      repeat (first | refine zz ?_ | refine zx fun _ => ?_)
      exact run_ret hC (rs := [.tmp 2]) rfl (resT rfl resN) (fun _ h => h.drop) ⟨rfl, rfl, rfl⟩
    · repeat (first | refine zz ?_ | refine zx fun _ => ?_)
      exact run_sub' (hnext _ _ _ ⟨hlt, rfl, rfl, by rw [any_snoc _ hm hpre2]; exact h2, rfl⟩) ⟨lk_succ rfl (by omega), rfl, trivial⟩
  have hge2 : i = r.tags.len := by simp at h1; omega
  rw [hge2, List.take_of_length_le (by omega)] at hpre2
  rw [hpre2] at hC
  repeat (first | refine zz ?_ | refine zx fun _ => ?_)
  exact run_ret hC (rs := [.tmp 2]) rfl (resT rfl resN) (fun _ h => h.drop) ⟨rfl, rfl, rfl⟩
theorem st_copyM {P : Program} {T : TT} {ro : Option Nat} {σ : Env} {δ : Den} {M : Mem} {L : HL} {d : Option Nat} {ty : TypeId} {pos : String} {aft : Array Edge} {g : Option (Nat × Bool)} {cur : Path} {x y : Operand} {t e sz by_ : Nat} {z : Value} {α : Type} {f : α → List Value} {xs : List α} {a : Option Addr} {n c : Nat}
    (hT : TOk P T) (hx : ev σ δ cur x = some (.slice none 0 0)) (hy : ev σ δ cur y = some (.slice a n c)) (ht : und T t = some (.slice e)) (hi : sizeT T e = some sz) (hz : zeroT T e = some z) (hzs : (cellsL z).length = sz) (hb : bytesT T e = some by_) (hby : Nat.ble 1 by_ = true)
    (hs : SlM M sz a n (xs.map f)) (hf : ∀ r, ∀ u ∈ f r, u.oneCell' = true) (hfl : ∀ l ∈ xs.map f, l.length = sz) (hroom : (2 * (0 + n) + 192) * by_ ≤ 281474976710656) (h63 : 0 + n < 9223372036854775808) :
    St P ro ⟨d, .call ⟨.builtin .append, #[x, y], #[t, t]⟩, ty, pos, aft, g⟩ σ δ cur M L (fun v M' L' => M.le M' ∧ L = L' ∧ ∃ a' c', v = .slice a' n c' ∧ SlM M' sz a' n (xs.map f)) := by
  refine St.frz (st_appendG (xs := []) (n := 0) (m := n) hT hx hy ht hi hz hzs hb hby (N := []) (List.Perm.refl _) (OS.nil _ _) (SrcG.ofSlM hs) (rFlatOne hf _) hroom h63) ?_
  rintro v M' L' w hw ⟨N', rfl, rfl, hO⟩
  rw [Nat.zero_add, List.nil_append] at hO
  obtain ⟨M2, a', c', h1, h2, h3, h4⟩ := hw.freezeOS hO hs.1 hfl
  exact ⟨M2, _, h2, h1, rfl, a', c', h3, h4⟩
set_option maxHeartbeats 4000000 in
theorem down_ok (M : Mem) (L : HL) (r : Rc) (hr : RcOk M r) : Tr Tryz.prog 10 [.agg ⟨rcC r⟩] M L (fun v M' L' => M.le M' ∧ L = L' ∧ ∃ r' : Rc, v = .agg ⟨rcC r'⟩ ∧ r'.re = r.re ∧ RcOk M' r') := by
  have h6 := hr.mem.2
  have h7 := hr.tags.2
  refine Tr.intro 12 Tryz.func10 rfl rfl Tryz.call10 rfl ?_
  intro C hC hro
  repeat (first | refine zz ?_ | refine zx fun _ => ?_ | refine runL_op (st_copyM (xs := r.mem.xs) (f := mbC) tok rfl rfl rfl rfl rfl rfl rfl rfl hr.mem.1 rMbOne (rMbAll _) (by omega) (by omega)) rfl rfl rfl ?_; rintro _ M1 _ ⟨hM1, rfl, a1, c1, rfl, hs1⟩)
  refine runL_op (st_copyM (xs := r.tags.xs) (f := stC) tok rfl rfl rfl rfl rfl rfl rfl rfl (hr.tags.le hM1).1 rStOne (rStAll _) (by omega) (by omega)) rfl rfl rfl ?_
  rintro _ M2 _ ⟨hM2, rfl, a2, c2, rfl, hs2⟩
  repeat (first | refine zz ?_ | refine zx fun _ => ?_)
  exact run_ret hC (rs := [.cell 2 35]) rfl (rl tok rfl resN) (fun _ h => h.drop.drop) ⟨Mem.le_trans hM1 hM2, rfl, { r with mem := ⟨a1, r.mem.len, c1, r.mem.xs⟩, tags := ⟨a2, r.tags.len, c2, r.tags.xs⟩ }, rfl, rfl, ⟨hs1.le hM2, h6⟩, ⟨hs2, h7⟩, hr.dig, hr.tag, hr.body⟩
end Go.Proofs.YtkjljcgbnikmkaaGreatDoor
namespace Go.Proofs.YtkjljcgbnikmkaaGreatDoor
open Go.Chi
theorem recE_02 (r : Rc) : recE r = 0 ∨ recE r = 2 := by
  unfold recE
  repeat' split
  all_goals simp
theorem mbB_lim : ∀ {l : List Mb}, (∀ m ∈ l, (0 ≤ m.org ∧ m.org ≤ 7) ∧ m.digest.size ≤ 8192) → (mbB l).size ≤ l.length * 8300
  | [], _ => Nat.le_refl _
  | x :: l, h => by
    have h1 := mbB_lim fun m hm => h m (List.mem_cons_of_mem _ hm)
    obtain ⟨h2, h3⟩ := h x List.mem_cons_self
    have h4 := textB_sz (t := x.digest) (by omega)
    have h5 := nB_size (n := x.org) (by omega)
    show (nB x.org ++ (textB x.digest ++ mbB l)).size ≤ _
    rw [app_size, app_size, List.length_cons]
    omega
theorem tsB_lim : ∀ {l : List ByteArray}, (∀ t ∈ l, t.size ≤ 8192) → (tsB l).size ≤ l.length * 8300
  | [], _ => Nat.le_refl _
  | x :: l, h => by
    have h1 := tsB_lim fun m hm => h m (List.mem_cons_of_mem _ hm)
    have h3 := h x List.mem_cons_self
    have h4 := textB_sz (t := x) (by omega)
    rw [tsB, app_size, List.length_cons]
    omega
theorem yB_size (y : Bool) : (yB y).size = 1 := by
  cases y
  · rw [yB_false]; rfl
  · rw [yB_true]; rfl
theorem txB_size {t : Tx} (h : mayTx t = true) : (txB t).size ≤ 27 := by
  obtain ⟨h1, h2, h3⟩ := mayTx_r h
  have z1 := nB_size (n := t.coord) (by omega)
  have z2 := nB_size (n := t.epoch) (by omega)
  have z3 := nB_size (n := t.seq) (by omega)
  rw [txB, app_size, app_size]
  omega
theorem nB_org {a : Int} (h : orgW a = true) : (nB a).size ≤ 9 := nB_size (by simp [orgW] at h; omega)
theorem small_of {r : Re} (h : RecP r) (hs : Short r) : (recB r).size < 1000000 := by
  rw [recB_size]
  obtain ⟨s1, s2, s3⟩ := hs
  cases h with
  | epoch ep h1 h2 =>
    have e : bodyB ⟨1, ep, ⟨0, 0, 0⟩, false, 0, [], [], bz⟩ = nB ep := rfl
    have := nB_size (n := ep) (by omega)
    rw [e]
    omega
  | vote t y a m b h1 h2 h3 h4 =>
    have e : bodyB ⟨2, 0, t, y, a, m, [], b⟩ = txB t ++ (yB y ++ (nB a ++ (msB m ++ textB b))) := rfl
    obtain ⟨m1, m2⟩ := mayMb_r h3
    have q1 := txB_size h1
    have q2 := yB_size y
    have q3 := nB_org h2
    have q4 := mbB_lim (l := m) fun x hx => ⟨m2 x hx, s1 x hx⟩
    have q5 := textB_sz (t := b) (by simp only at s3; omega)
    have q6 := nB_size (n := (m.length : Int)) (by omega)
    simp only at s3
    rw [e, app_size, app_size, app_size, app_size, msB, app_size]
    omega
  | commit t a m g h1 h2 h3 h4 h5 =>
    have e : bodyB ⟨3, 0, t, true, a, m, g, bz⟩ = txB t ++ (yB true ++ (nB a ++ (msB m ++ tsB g))) := rfl
    obtain ⟨m1, m2⟩ := mayMb_r h3
    have q1 := txB_size h1
    have q2 := yB_size true
    have q3 := nB_org h2
    have q4 := mbB_lim (l := m) fun x hx => ⟨m2 x hx, s1 x hx⟩
    have q5 := tsB_lim (l := g) s2
    have q6 := nB_size (n := (m.length : Int)) (by omega)
    rw [e, app_size, app_size, app_size, app_size, msB, app_size]
    omega
  | abort t h1 =>
    have e : bodyB ⟨3, 0, t, false, 0, [], [], bz⟩ = txB t ++ (yB false ++ bz) := rfl
    have q1 := txB_size h1
    have q2 := yB_size false
    have q3 : bz.size = 0 := rfl
    rw [e, app_size, app_size]
    omega
  | learn t y h1 =>
    have e : bodyB ⟨4, 0, t, y, 0, [], [], bz⟩ = txB t ++ yB y := rfl
    have q1 := txB_size h1
    have q2 := yB_size y
    rw [e, app_size]
    omega
theorem enc_small {M : Mem} {r : Rc} (hr : RcOk M r) (hs : Short r.re) : recE r = 0 → (recB r.re).size < 1000000 := fun h => small_of ((recE_re hr).1 h) hs
theorem lim_of {r : Rc} (hs : Short r.re) : RcLim r := ⟨fun m hm => by have := hs.1 m hm; omega, fun t ht => by have := hs.2.1 t ht; omega, by have := hs.2.2; show r.body.size < _; have e : r.re.body = r.body := rfl; rw [e] at this; omega⟩
theorem enc_ok {M : Mem} {r : Rc} (hr : RcOk M r) (h : (encE r).2 = 0) : Dec (encE r).1 r.re := by
  unfold encE at h ⊢
  split at h
  · rename_i hx; exact absurd h hx
  · rename_i hx
    rw [if_neg hx]
    split at h
    · cases h
    · rename_i hy
      rw [if_neg hy]
      exact ⟨(recE_re hr).1 (by simpa using hx), rfl, by show (recB r.re).size ≤ 8192; omega⟩
theorem dec_enc {M : Mem} {r : Rc} {s : ByteArray} (hr : RcOk M r) (h : Dec s r.re) : recE r = 0 ∧ encE r = (s, 0) := by
  have h1 := (recE_re hr).2 h.1
  refine ⟨h1, ?_⟩
  have h2 : ¬ 8192 < (recB r.re).size := by rw [h.2.1]; have := h.2.2; omega
  rw [encE, if_neg (by simp [h1]), if_neg h2, h.2.1]
theorem sameRc_true {a b : Rc} (h : a.re = b.re) : sameRc a b = true := (sameRc_iff a b).2 h
end Go.Proofs.YtkjljcgbnikmkaaGreatDoor
namespace Go.Proofs.YtkjljcgbnikmkaaGreatDoor
open Go.Chi
set_option maxRecDepth 10000
structure En where
  r : Rc
  e : Nat
def enC (x : En) : List Value := rcC x.r ++ [iv x.e]
theorem enC_one (x : En) : ∀ u ∈ enC x, u.oneCell' = true := by
  intro u hu
  simp only [enC, rcC, List.cons_append, List.nil_append, List.mem_cons, List.not_mem_nil, or_false] at hu
  rcases hu with rfl | rfl | rfl | rfl | rfl | rfl | rfl | rfl | rfl | rfl | rfl <;> rfl
theorem enF_all (l : List En) : ∀ c ∈ l.map enC, c.length = 11 := by intro c hc; obtain ⟨x, _, rfl⟩ := List.mem_map.1 hc; rfl
theorem wown_ok (M : Mem) (L : HL) (r : Rc) (hr : RcOk M r) : Tr Tryz.prog 36 [.agg ⟨rcC r⟩] M L (fun v M' L' => M.le M' ∧ L = L' ∧ ∃ r' : Rc, v = .agg ⟨rcC r'⟩ ∧ r'.re = r.re ∧ RcOk M' r') := by
  refine Tr.intro 12 Tryz.func36 rfl rfl Tryz.call36 rfl ?_
  intro C hC hro
  refine run_seq ?_
  (refine run_region ?_; (repeat (first | refine zq ?_ | refine zx fun _ => ?_)); refine runL_nil ?_)
  rename_i b1 b2
  refine run_seq ?_
  refine prn_start mixed ?_
  refine pr_q 0 (by decide +kernel) rfl (qt_pev tok rfl) rfl rfl rfl ?_
  refine pr_q 1 (by decide +kernel) rfl (ql tok rfl) rfl rfl rfl ?_
  refine pr_q 3 (by decide +kernel) rfl (qt_pev tok rfl) rfl rfl rfl ?_
  refine pr_q 4 (by decide +kernel) rfl (ql tok rfl) rfl rfl rfl ?_
  refine pr_one 2 (by decide +kernel) (eff1 2 rfl (st_callF rfl (fun _ => cloneM_ok _ _ r.mem hr.mem)) (by decide +kernel) (qs := _) rfl rfl rfl rfl ?_)
  rintro _ M1 _ ⟨hM1, rfl, m', rfl, hmx, hmo⟩
  refine ⟨by (repeat (first | exact trivial | refine And.intro (pend_q rfl rfl rfl (qt_pev tok rfl)) ?_ | refine And.intro (pend_q rfl rfl rfl (ql tok rfl)) ?_)), ?_⟩
  refine pr_q 6 (by decide +kernel) rfl (qt_pev tok rfl) rfl rfl rfl ?_
  refine pr_one 5 (by decide +kernel) (eff1 5 rfl (st_callF rfl (fun _ => cloneS_ok _ _ r.tags (hr.tags.le hM1))) (by decide +kernel) (qs := _) rfl rfl rfl rfl ?_)
  rintro _ M2 _ ⟨hM2, rfl, s', rfl, hsx, hso⟩
  refine ⟨by (repeat (first | exact trivial | refine And.intro (pend_q rfl rfl rfl (qt_pev tok rfl)) ?_ | refine And.intro (pend_q rfl rfl rfl (ql tok rfl)) ?_)), ?_⟩
  refine pr_one 7 (by decide +kernel) (eff0 7 rfl (sst tok rfl rfl rfl rfl rfl) (by decide +kernel) (qs := _) rfl ?_)
  rintro _ _ _ ⟨rfl, rfl, rfl⟩
  refine ⟨by (repeat (first | exact trivial | refine And.intro (pend_q rfl rfl rfl (qt_pev tok rfl)) ?_ | refine And.intro (pend_q rfl rfl rfl (ql tok rfl)) ?_)), ?_⟩
  refine pr_q 8 (by decide +kernel) rfl (qt_pev tok rfl) rfl rfl rfl ?_
  refine pr_one 9 (by decide +kernel) (eff0 9 rfl (sst tok rfl rfl rfl rfl rfl) (by decide +kernel) (qs := _) rfl ?_)
  rintro _ _ _ ⟨rfl, rfl, rfl⟩
  refine ⟨by (repeat (first | exact trivial | refine And.intro (pend_q rfl rfl rfl (qt_pev tok rfl)) ?_ | refine And.intro (pend_q rfl rfl rfl (ql tok rfl)) ?_)), ?_⟩
  refine pr_end (by decide +kernel) (by decide +kernel) ?_
  repeat (first | refine zz ?_ | refine zx fun _ => ?_)
  obtain ⟨r', hr'⟩ : ∃ r' : Rc, r' = { r with mem := m', tags := s' } := ⟨_, rfl⟩
  have hre : r'.re = r.re := by rw [hr']; simp only [Rc.re, hmx, hsx]
  refine run_ret hC (rs := [.cell 2 35]) rfl (rl tok rfl resN) (fun _ h => h.drop.drop) ⟨Mem.le_trans hM1 hM2, rfl, r', by rw [hr']; rfl, hre, ?_⟩
  rw [hr']
  exact ⟨hmo.le hM2, hso, by show ∀ m ∈ m'.xs, _; rw [hmx]; exact hr.dig, by show ∀ t ∈ s'.xs, _; rw [hsx]; exact hr.tag, hr.body⟩
end Go.Proofs.YtkjljcgbnikmkaaGreatDoor
namespace Go.Proofs.YtkjljcgbnikmkaaGreatDoor
open Go.Chi
set_option maxRecDepth 10000
structure Wl where
  es : List (Re × Nat)
  head : ByteArray
  x : Ds
def En.abs (y : En) : Re × Nat := (y.r.re, y.e)
abbrev lgB (bl bd : Nat) (v : Value) (h : ByteArray) : Nat × Obj := (bl, .cells ⟨[pt bd, v, .string h]⟩ 72 (0, 0))
structure WlOwn (M : Mem) (bl bd : Nat) (S : Wl) (L0 L : HL) : Prop where
  ex : ∃ (es : List En) (v : Value) (N : HL) (a : Option Addr) (cap : Nat), L = lgB bl bd v S.head :: (N ++ (dkB bd S.x a cap :: L0)) ∧ OS 74 11 v es.length (es.map enC).flatten N ∧ es.map En.abs = S.es ∧ (∀ y ∈ es, RcOk M y.r) ∧ BV M a cap S.x.s
  hd : S.head.size = 32
  dk : DsOk S.x
  len : S.es.length ≤ S.x.s.size
  left : S.x.left < 9223372036854775808
theorem pmD (g d : Nat × Obj) (N B : HL) : (g :: (N ++ (d :: B))).Perm (d :: g :: (N ++ B)) := (List.Perm.cons g List.perm_middle).trans (List.Perm.swap d g _)
theorem trq_perm {P : Program} {f : FuncId} {args : List Value} {M : Mem} {L L1 : HL} {v : Value} (h : TrQ P f args M L1 v) (hp : L.Perm L1) : TrQ P f args M L v :=
  Tr.perm h hp (by rintro _ _ _ ⟨rfl, rfl, rfl⟩; exact ⟨_, hp.symm, rfl, rfl, rfl⟩)
def encF (r : Re) (e : ByteArray × Int) (S : Wl) : Int × Wl :=
  if e.2 ≠ 0 then (e.2, S) else
  if (dApp S.x (frB S.head e.1)).1 ≠ 0 then ((dApp S.x (frB S.head e.1)).1, { S with x := (dApp S.x (frB S.head e.1)).2 }) else
  (0, ⟨S.es ++ [(r, (dApp S.x (frB S.head e.1)).2.s.size)], nextB S.head e.1, (dApp S.x (frB S.head e.1)).2⟩)
def wApp (S : Wl) (r : Rc) : Int × Wl := encF r.re (encE r) S
theorem encE_size {r : Rc} (h : (encE r).2 = 0) : (encE r).1.size ≤ 8192 := by
  unfold encE at h ⊢
  split
  · rename_i h1; rw [if_pos h1] at h; exact absurd h h1
  · rename_i h1
    rw [if_neg h1] at h
    split
    · rename_i h2; rw [if_pos h2] at h; cases h
    · rename_i h2; show (recB r.re).size ≤ _; omega
theorem wr_ok {x : Ds} {r : Int × Ds} (hx : DsOk x) (hr : DsOk r.2) : DsOk (wr x r).2 := by
  unfold wr
  split
  · exact ⟨hx.syn, hx.fit, hx.room⟩
  · split
    · exact ⟨hr.syn, hr.fit, hr.room⟩
    · exact hr
theorem wr_left {x : Ds} {r : Int × Ds} (hr : r.2.left ≤ x.left) : (wr x r).2.left ≤ x.left := by
  unfold wr
  split
  · exact Nat.le_refl _
  · split
    · show r.2.left - 1 ≤ _; omega
    · exact hr
theorem dApp_ok {x : Ds} (hx : DsOk x) (t : ByteArray) : DsOk (dApp x t).2 := by
  have h1 := hx.syn
  have h2 := hx.fit
  refine wr_ok hx ?_
  split
  · exact hx
  · exact ⟨by show x.syn ≤ (x.s ++ t).size; rw [app_size]; omega, by show (x.s ++ t).size ≤ x.room; rw [app_size]; omega, hx.room⟩
theorem dApp_zero {x : Ds} {t : ByteArray} (h : (dApp x t).1 = 0) : (dApp x t).2.s = x.s ++ t ∧ (dApp x t).2.syn = x.syn ∧ (dApp x t).2.room = x.room ∧ t.size ≤ x.room - x.s.size := by
  unfold dApp at h ⊢
  by_cases h1 : x.room - x.s.size < t.size
  · exfalso
    rw [if_pos h1] at h
    unfold wr at h
    split at h
    · cases h
    · split at h
      · rename_i h2; cases h2.1
      · cases h
  · rw [if_neg h1] at h ⊢
    unfold wr at h ⊢
    by_cases h2 : x.armed = true ∧ x.left = 0
    · rw [if_pos h2] at h; cases h
    · rw [if_neg h2]
      split <;> exact ⟨rfl, rfl, rfl, by omega⟩
theorem wr_keep {x : Ds} {r : Int × Ds} (hr : x.s.size ≤ r.2.s.size) : x.s.size ≤ (wr x r).2.s.size := by
  unfold wr
  split
  · exact Nat.le_refl _
  · split <;> exact hr
theorem dApp_keep (x : Ds) (t : ByteArray) : x.s.size ≤ (dApp x t).2.s.size := wr_keep (by
  split
  · exact Nat.le_refl _
  · show _ ≤ (x.s ++ t).size; rw [app_size]; omega)
theorem dApp_left (x : Ds) (t : ByteArray) : (dApp x t).2.left ≤ x.left := wr_left (by split <;> exact Nat.le_refl _)
set_option maxHeartbeats 16000000 in
theorem wAppend_ok (M : Mem) (L0 L : HL) (bl bd : Nat) (S : Wl) (r : Rc) (hk : KM M) (ho : WlOwn M bl bd S L0 L) (hr : RcOk M r) (hsh : Short r.re) :
    Tr Tryz.prog 9 [pt bl, .agg ⟨rcC r⟩] M L (fun v M' L' => M.le M' ∧ v = .int .i64 (wApp S r).1 ∧ WlOwn M' bl bd (wApp S r).2 L0 L') := by
  obtain ⟨⟨es, v, N, a, cap, rfl, hO, habs, hes, hv⟩, hhd, hdk, hlen, hleft⟩ := ho
  obtain ⟨aa, ca, rfl⟩ := osV hO
  have hel : es.length ≤ 1048576 := by
    have h1 := hdk.fit
    have h2 := hdk.room
    rw [← habs, List.length_map] at hlen
    omega
  refine Tr.intro 63 Tryz.func9 rfl rfl Tryz.call9 rfl ?_
  intro C hC hro
  repeat (first | refine zz ?_ | refine zx fun _ => ?_)
  rename_i b1
  refine run_cond rfl (fun h => by cases h) (fun _ => ?_)
  refine run_skip ?_
  repeat (first | refine zz ?_ | refine zx fun _ => ?_ | refine rq (qt_callF rfl (fun _ => encode_ok _ _ r hr (lim_of hsh) (enc_small hr hsh))) ?_)
  generalize hE : encE r = E
  obtain ⟨s, e⟩ := E
  have hw : wApp S r = encF r.re (s, e) S := by rw [wApp, hE]
  rw [hw] at hC
  clear hw
  refine run_cond (t := (e != 0)) rfl (fun h => ?_) (fun h => ?_)
  · have h0 : e ≠ 0 := by simpa using h
    rw [encF, if_pos h0] at hC
    repeat (first | refine zz ?_ | refine zx fun _ => ?_)
    exact run_ret hC (rs := [.tmp 4]) rfl (resT rfl resN) (fun _ h => h.drop) ⟨Mem.le_refl _, rfl, ⟨es, _, N, a, cap, rfl, hO, habs, hes, hv⟩, hhd, hdk, hlen, hleft⟩
  have h0 : e = 0 := by simpa using h
  subst h0
  have hs8 : s.size ≤ 8192 := by have := encE_size (r := r) (by rw [hE]); rw [hE] at this; exact this
  rw [encF, if_neg (by simp)] at hC
  have hfs : (frB S.head s).size < 1000000000 := by
    have := numB_size (v := s.size) (by omega)
    rw [frB_size, textB, app_size]; omega
  refine run_skip ?_
  have hn32 := nextB_size S.head s
  generalize hnx : nextB S.head s = nx at hC hn32
  generalize hfr : frB S.head s = fr at hC hfs
  repeat (first | refine zz ?_ | refine zx fun _ => ?_ | refine rq (Qt.as (v' := .tuple ⟨[.string fr, .string nx, .int .i64 0]⟩) (qt_callF rfl (fun _ => chFrame_ok _ _ S.head s hk hhd hs8)) (by rw [hfr, hnx])) ?_)
  refine ro (st_callF rfl (fun _ => (dkApp_ok M ((b1, .cells ⟨rcC r⟩ 35 (0, 0)) :: lgB bl bd (.slice aa es.length ca) S.head :: (N ++ L0)) bd fr S.x a cap hdk hv hfs hleft).perm ((List.Perm.cons _ (pmD _ _ N L0)).trans (List.Perm.swap _ _ _)) (K := fun v M' L' => M.le M' ∧ ∃ a' cap', v = .int .i64 (dApp S.x fr).1 ∧ L' = (b1, .cells ⟨rcC r⟩ 35 (0, 0)) :: lgB bl bd (.slice aa es.length ca) S.head :: (N ++ (dkB bd (dApp S.x fr).2 a' cap' :: L0)) ∧ BV M' a' cap' (dApp S.x fr).2.s) ?_)) ?_
  · rintro v M' L1 ⟨h1, a', cap', h2, rfl, h3⟩
    exact ⟨_, ((List.Perm.cons _ (pmD _ _ N L0)).trans (List.Perm.swap _ _ _)).symm, h1, a', cap', h2, rfl, h3⟩
  rintro _ M1 _ ⟨hM1, a1, cap1, rfl, rfl, hv1⟩
  have hdk1 := dApp_ok hdk fr
  have hleft1 := Nat.lt_of_le_of_lt (dApp_left S.x fr) hleft
  have hz := @dApp_zero S.x fr
  have hkeep := dApp_keep S.x fr
  generalize hdd : dApp S.x fr = dd at hC hdk1 hleft1 hv1 hz hkeep
  obtain ⟨e2, x1⟩ := dd
  simp only at hC hdk1 hleft1 hv1
  repeat (first | refine wq ?_ | refine wg ?_)
  refine runL_nil ?_
  refine run_seq ?_
  (refine run_region ?_; (repeat (first | refine zq ?_ | refine zx fun _ => ?_)); refine runL_nil ?_)
  refine run_cond (t := (e2 != 0)) rfl (fun h => ?_) (fun h => ?_)
  · have h0 : e2 ≠ 0 := by simpa using h
    rw [if_pos h0] at hC
    repeat (first | refine zz ?_ | refine zx fun _ => ?_)
    exact run_ret hC (rs := [.tmp 4]) rfl (resT rfl resN) (fun _ h => h.drop) ⟨hM1, rfl, ⟨es, _, N, a1, cap1, rfl, hO, habs, fun y hy => (hes y hy).le hM1, hv1⟩, hhd, hdk1, Nat.le_trans hlen hkeep, hleft1⟩
  have h0 : e2 = 0 := by simpa using h
  subst h0
  rw [if_neg (by simp)] at hC
  refine run_skip ?_
  refine run_seq ?_
  refine prn_start mixed ?_
  refine pr_q 0 (by decide +kernel) rfl (qt_pev tok rfl) rfl rfl rfl ?_
  refine pr_q 1 (by decide +kernel) rfl (qt_pev tok rfl) rfl rfl rfl ?_
  refine pr_q 2 (by decide +kernel) rfl (qt_pev tok rfl) rfl rfl rfl ?_
  refine pr_q 3 (by decide +kernel) rfl (qt_pev tok rfl) rfl rfl rfl ?_
  refine pr_q 4 (by decide +kernel) rfl (qt_pev tok rfl) rfl rfl rfl ?_
  refine pr_q 5 (by decide +kernel) rfl (ql tok rfl) rfl rfl rfl ?_
  refine pr_q 6 (by decide +kernel) rfl (ql tok rfl) rfl rfl rfl ?_
  refine pr_q 8 (by decide +kernel) rfl (qt_pev tok rfl) rfl rfl rfl ?_
  refine pr_q 9 (by decide +kernel) rfl (qt_pev tok rfl) rfl rfl rfl ?_
  refine pr_q 10 (by decide +kernel) rfl (qt_pev tok rfl) rfl rfl rfl ?_
  refine pr_q 11 (by decide +kernel) rfl (qt_pev tok rfl) rfl rfl rfl ?_
  refine pr_q 12 (by decide +kernel) rfl (ql tok rfl) rfl rfl rfl ?_
  refine pr_q 17 (by decide +kernel) rfl (qt_pev tok rfl) rfl rfl rfl ?_
  refine pr_one 7 (by decide +kernel) (eff1 7 rfl (st_callF rfl (fun _ => wown_ok _ _ r (hr.le hM1))) (by decide +kernel) (qs := _) rfl rfl rfl rfl ?_)
  rintro _ M2 _ ⟨hM2, rfl, r', rfl, hre, hro'⟩
  refine ⟨by (repeat (first | exact trivial | refine And.intro (pend_q rfl rfl rfl (qt_pev tok rfl)) ?_ | refine And.intro (pend_q rfl rfl rfl (ql tok rfl)) ?_)), ?_⟩
  refine pr_q 13 (by decide +kernel) rfl (qt_callF rfl (fun _ => trq_perm (dkLen_ok M2 ((b1, .cells ⟨rcC r⟩ 35 (0, 0)) :: lgB bl bd (.slice aa es.length ca) S.head :: (N ++ L0)) bd x1 a1 cap1) ((List.Perm.cons _ (pmD _ _ N L0)).trans (List.Perm.swap _ _ _)))) rfl rfl rfl ?_
  refine pr_q 14 (by decide +kernel) rfl (Qt.as (v' := .agg ⟨enC ⟨r', x1.s.size⟩⟩) (qt_pev tok rfl) rfl) rfl rfl rfl ?_
  refine pr_one 15 (by decide +kernel) (eff1 15 rfl (st_buildSlice tok rfl rfl rfl rfl rfl rfl rfl) (by decide +kernel) (qs := _) rfl rfl rfl rfl ?_)
  rintro _ _ _ ⟨b6, rfl, rfl, rfl⟩
  refine ⟨by (repeat (first | exact trivial | refine And.intro (pend_q rfl rfl rfl (qt_pev tok rfl)) ?_ | refine And.intro (pend_q rfl rfl rfl (ql tok rfl)) ?_)), ?_⟩
  refine pr_one 16 (by decide +kernel) (eff1 16 rfl (st_append (news := enC ⟨r', x1.s.size⟩) tok rfl rfl rfl rfl rfl rfl rfl rfl (pm3 _ _ _ N _) hO (.inr ⟨b6, 0, 1, rfl, cellsAll List.mem_cons_self, rfl⟩) (enC_one _) (by omega) (by omega)) (by decide +kernel) (qs := _) rfl rfl rfl rfl ?_)
  rintro _ _ _ ⟨N', rfl, rfl, hO'⟩
  obtain ⟨aa', ca', rfl⟩ := osV hO'
  refine ⟨by (repeat (first | exact trivial | refine And.intro (pend_q rfl rfl rfl (qt_pev tok rfl)) ?_ | refine And.intro (pend_q rfl rfl rfl (ql tok rfl)) ?_)), ?_⟩
  refine pr_q 18 (by decide +kernel) rfl (qt_pev tok rfl) rfl rfl rfl ?_
  refine pr_q 19 (by decide +kernel) rfl (qt_pev tok rfl) rfl rfl rfl ?_
  refine pr_one 20 (by decide +kernel) (eff0 20 rfl (sst tok rfl rfl rfl rfl rfl) (by decide +kernel) (qs := _) rfl ?_)
  rintro _ _ _ ⟨rfl, rfl, rfl⟩
  refine ⟨by (repeat (first | exact trivial | refine And.intro (pend_q rfl rfl rfl (qt_pev tok rfl)) ?_ | refine And.intro (pend_q rfl rfl rfl (ql tok rfl)) ?_)), ?_⟩
  refine pr_q 21 (by decide +kernel) rfl (qt_pev tok rfl) rfl rfl rfl ?_
  refine pr_q 22 (by decide +kernel) rfl (qt_pev tok rfl) rfl rfl rfl ?_
  refine pr_one 23 (by decide +kernel) (eff0 23 rfl (sst tok rfl rfl rfl rfl rfl) (by decide +kernel) (qs := _) rfl ?_)
  rintro _ _ _ ⟨rfl, rfl, rfl⟩
  refine ⟨by (repeat (first | exact trivial | refine And.intro (pend_q rfl rfl rfl (qt_pev tok rfl)) ?_ | refine And.intro (pend_q rfl rfl rfl (ql tok rfl)) ?_)), ?_⟩
  refine pr_end (by decide +kernel) (by decide +kernel) ?_
  repeat (first | refine zz ?_ | refine zx fun _ => ?_)
  have hlen1 : (S.es ++ [(r.re, x1.s.size)]).length ≤ x1.s.size := by
    have h1 := (hz rfl).1
    have h2 := frB_size S.head s
    rw [hfr] at h2
    simp only at h1
    rw [h1, app_size, List.length_append, List.length_singleton]
    omega
  refine run_ret hC (rs := [.tmp 4]) rfl (resT rfl resN) (M' := M2) (L' := lgB bl bd (.slice aa' (es.length + 1) ca') nx :: (N' ++ (dkB bd x1 a1 cap1 :: L0))) (fun w h => ?_) ⟨Mem.le_trans hM1 hM2, rfl, ⟨es ++ [⟨r', x1.s.size⟩], .slice aa' (es.length + 1) ca', N', a1, cap1, rfl, ?_, ?_, ?_, hv1.mono hM2⟩, hn32, hdk1, hlen1, hleft1⟩
  · have h2 := ((h.perm List.perm_middle).drop.perm List.perm_middle).drop.perm List.perm_middle
    exact h2
  · rw [List.map_append, List.flatten_append, List.length_append]
    have e : ([⟨r', x1.s.size⟩].map enC).flatten = enC ⟨r', x1.s.size⟩ := by simp
    rw [e]; exact hO'
  · rw [List.map_append, habs]
    show S.es ++ [(r'.re, x1.s.size)] = _
    rw [hre]
  · intro y hy
    rcases List.mem_append.1 hy with hy | hy
    · exact (hes y hy).le (Mem.le_trans hM1 hM2)
    · simp at hy; subst hy; exact hro'
def wSync (S : Wl) : Int × Wl := ((dSync S.x).1, { S with x := (dSync S.x).2 })
theorem dSync_s (x : Ds) : (dSync x).2.s = x.s := by
  unfold dSync wr
  split
  · rfl
  · split <;> rfl
theorem dSync_ok {x : Ds} (hx : DsOk x) : DsOk (dSync x).2 := wr_ok hx ⟨Nat.le_refl _, hx.fit, hx.room⟩
theorem dSync_left (x : Ds) : (dSync x).2.left ≤ x.left := wr_left (Nat.le_refl _)
theorem wSync_ok (M : Mem) (L0 L : HL) (bl bd : Nat) (S : Wl) (ho : WlOwn M bl bd S L0 L) :
    Tr Tryz.prog 11 [pt bl] M L (fun v M' L' => M.le M' ∧ v = .int .i64 (wSync S).1 ∧ WlOwn M' bl bd (wSync S).2 L0 L') := by
  obtain ⟨⟨es, v, N, a, cap, rfl, hO, habs, hes, hv⟩, hhd, hdk, hlen, hleft⟩ := ho
  obtain ⟨aa, ca, rfl⟩ := osV hO
  refine Tr.intro 11 Tryz.func11 rfl rfl Tryz.call11 rfl ?_
  intro C hC hro
  repeat (first | refine zz ?_ | refine zx fun _ => ?_)
  refine run_cond rfl (fun h => by cases h) (fun _ => ?_)
  repeat (first | refine zz ?_ | refine zx fun _ => ?_)
  refine ro (st_callF rfl (fun _ => (dkSync_ok M (lgB bl bd (.slice aa es.length ca) S.head :: (N ++ L0)) bd S.x a cap hdk hv hleft).perm (pmD _ _ N L0) (K := fun v M' L' => M.le M' ∧ ∃ a' cap', v = .int .i64 (dSync S.x).1 ∧ L' = lgB bl bd (.slice aa es.length ca) S.head :: (N ++ (dkB bd (dSync S.x).2 a' cap' :: L0)) ∧ BV M' a' cap' (dSync S.x).2.s) ?_)) ?_
  · rintro v M' L1 ⟨h1, a', cap', h2, rfl, h3⟩
    exact ⟨_, (pmD _ _ N L0).symm, h1, a', cap', h2, rfl, h3⟩
  rintro _ M1 _ ⟨hM1, a1, cap1, rfl, rfl, hv1⟩
  repeat (first | refine zz ?_ | refine zx fun _ => ?_)
  exact run_ret hC (rs := [.tmp 2]) rfl (resT rfl resN) (fun _ h => h) ⟨hM1, rfl, ⟨es, _, N, a1, cap1, rfl, hO, habs, fun y hy => (hes y hy).le hM1, hv1⟩, hhd, dSync_ok hdk, by show _ ≤ (dSync S.x).2.s.size; rw [dSync_s]; exact hlen, Nat.lt_of_le_of_lt (dSync_left _) hleft⟩
end Go.Proofs.YtkjljcgbnikmkaaGreatDoor
namespace Go.Proofs.YtkjljcgbnikmkaaGreatDoor
open Go.Chi
set_option maxRecDepth 10000
theorem os_slm2 {M : Mem} {N : HL} {e size n : Nat} {v : Value} {ls : List (List Value)} (ho : OS e size v n ls.flatten N) (hN : ∀ b o, (b, o) ∈ N → M.blk b = some o) (hl : ls.length = n) (hsz : ∀ l ∈ ls, l.length = size) :
    ∃ a cap, v = .slice a n cap ∧ SlM M size a n ls := by
  rcases ho with ⟨rfl, rfl, hx, rfl⟩ | ⟨b, cap, cs, rfl, rfl, hle, hcl, hxs⟩
  · have : ls = [] := List.length_eq_zero_iff.1 hl
    subst this
    exact ⟨none, 0, rfl, SlM.nil _ _ _⟩
  · refine ⟨some ⟨b, 0, none⟩, cap, rfl, hl, hsz, .inr ⟨b, 0, rfl, fun i c hc => ⟨⟨cs⟩, e, (0, 0), .inr (hN _ _ List.mem_cons_self), fun j u hu => ?_⟩⟩⟩
    have key := flat_at hsz hc hu
    have hj : j < size := by
      have := hsz c (List.mem_of_getElem? hc)
      have := (List.getElem?_eq_some_iff.1 hu).1
      omega
    have hi : i < ls.length := (List.getElem?_eq_some_iff.1 hc).1
    have hlt : i * size + j < n * size := by
      have : (i + 1) * size ≤ n * size := Nat.mul_le_mul_right _ (by omega)
      rw [Nat.add_mul] at this; omega
    rw [← hxs, List.getElem?_take, if_pos hlt] at key
    simpa using key
theorem wHead_ok (M : Mem) (L : HL) (bl bd : Nat) (v : Value) (h : ByteArray) : TrQ Tryz.prog 48 [pt bl] M (lgB bl bd v h :: L) (.string h) := by
  refine Tr.intro 9 Tryz.func48 rfl rfl Tryz.call48 rfl ?_
  intro C hC hro
  repeat (first | refine zz ?_ | refine zx fun _ => ?_)
  refine run_cond rfl (fun h => by cases h) (fun _ => ?_)
  repeat (first | refine zz ?_ | refine zx fun _ => ?_)
  exact run_ret hC (rs := [.tmp 2]) rfl (resT rfl resN) (fun _ h => h) ⟨rfl, rfl, rfl⟩
theorem wDisk_ok (M : Mem) (L : HL) (bl bd : Nat) (v : Value) (h : ByteArray) : TrQ Tryz.prog 46 [pt bl] M (lgB bl bd v h :: L) (pt bd) := by
  refine Tr.intro 10 Tryz.func46 rfl rfl Tryz.call46 rfl ?_
  intro C hC hro
  repeat (first | refine zz ?_ | refine zx fun _ => ?_)
  refine run_cond rfl (fun h => by cases h) (fun _ => ?_)
  repeat (first | refine zz ?_ | refine zx fun _ => ?_)
  exact run_ret hC (rs := [.tmp 2]) rfl (resT rfl resN) (fun _ h => h) ⟨rfl, rfl, rfl⟩
theorem wRoom_ok (M : Mem) (L0 L : HL) (bl bd : Nat) (S : Wl) (ho : WlOwn M bl bd S L0 L) : TrQ Tryz.prog 50 [pt bl] M L (iv (S.x.room - S.x.s.size)) := by
  obtain ⟨⟨es, v, N, a, cap, rfl, hO, habs, hes, hv⟩, hhd, hdk, hlen, hleft⟩ := ho
  refine Tr.intro 11 Tryz.func50 rfl rfl Tryz.call50 rfl ?_
  intro C hC hro
  repeat (first | refine zz ?_ | refine zx fun _ => ?_)
  refine run_cond rfl (fun h => by cases h) (fun _ => ?_)
  repeat (first | refine zz ?_ | refine zx fun _ => ?_ | refine rq (qt_callF rfl (fun _ => trq_perm (dkRoom_ok M (lgB bl bd v S.head :: (N ++ L0)) bd S.x a cap hdk) (pmD _ _ N L0))) ?_)
  exact run_ret hC (rs := [.tmp 2]) rfl (resT rfl resN) (fun _ h => h) ⟨rfl, rfl, rfl⟩
def firstN {α : Type} (q : α → Bool) (l : List α) : Nat := (l.takeWhile q).length
theorem firstN_le {α : Type} (q : α → Bool) : ∀ l : List α, firstN q l ≤ l.length
  | [] => Nat.le_refl _
  | x :: l => by
    unfold firstN
    rw [List.takeWhile_cons]
    split
    · have := firstN_le q l; unfold firstN at this; simp; omega
    · simp
theorem firstN_stop {α : Type} {q : α → Bool} : ∀ {l : List α} {j : Nat} {x : α}, l[j]? = some x → q x = false → (∀ (i : Nat) (y : α), i < j → l[i]? = some y → q y = true) → firstN q l = j
  | [], j, x, h, _, _ => by simp at h
  | y :: l, 0, x, h, hq, _ => by
    simp at h; subst h
    unfold firstN; rw [List.takeWhile_cons, hq]; rfl
  | y :: l, j + 1, x, h, hq, hall => by
    have h0 := hall 0 y (by omega) rfl
    have := firstN_stop (l := l) (j := j) (x := x) (by simpa using h) hq (fun i z hi hz => hall (i + 1) z (by omega) (by simpa using hz))
    unfold firstN at this ⊢
    rw [List.takeWhile_cons, h0]
    simp [this]
theorem firstN_all {α : Type} {q : α → Bool} {l : List α} (h : ∀ (i : Nat) (y : α), l[i]? = some y → q y = true) : firstN q l = l.length := by
  have : l.takeWhile q = l := by
    induction l with
    | nil => rfl
    | cons x l ih =>
      have h0 := h 0 x rfl
      rw [List.takeWhile_cons, h0]
      simp only [if_true]
      rw [ih fun i y hi => h (i + 1) y (by simpa using hi)]
  unfold firstN; rw [this]
theorem wsync1_ok (M : Mem) (L : HL) (n b3 : Nat) (y : En) (hb3 : Cells M [] b3 0 [iv n]) : TrQ Tryz.prog 43 [.agg ⟨enC y⟩, pt b3] M L (.bool (decide ((y.e : Int) > (n : Int)))) := by
  refine Tr.intro 8 Tryz.func43 rfl rfl Tryz.call43 rfl ?_
  intro C hC hro
  repeat (first | refine zz ?_ | refine zx fun _ => ?_ | refine runL_q (qt_indexN tok rfl rfl rfl rfl (fun _ => by omega)) rfl rfl rfl ?_ | refine runL_g rfl rfl (qt_indexN tok rfl rfl rfl rfl (fun _ => by omega)) rfl rfl rfl rfl rfl ?_ | refine runL_q (qt_ldM tok rfl hb3 rfl) rfl rfl rfl ?_ | refine runL_g rfl rfl (qt_ldM tok rfl hb3 rfl) rfl rfl rfl rfl rfl ?_ | refine runL_q (qt_ldM0 tok rfl hb3 rfl) rfl rfl rfl ?_ | refine runL_g rfl rfl (qt_ldM0 tok rfl hb3 rfl) rfl rfl rfl rfl rfl ?_)
  exact run_ret hC (rs := [.tmp 3]) rfl (resT rfl resN) (fun _ h => h.drop) ⟨rfl, rfl, rfl⟩
set_option maxHeartbeats 4000000 in
theorem widx_ok (M : Mem) (a : Option Addr) (len cap : Nat) (es : List En) (hs : SlM M 11 a len (es.map enC)) (hlt6 : len < 10000000) (n b3 : Nat) (hb3 : Cells M [] b3 0 [iv n]) :
    TrQ Tryz.prog 42 [.slice a len cap, .func (.func 43) ⟨[]⟩ ⟨[pt b3]⟩] M [] (.int .i64 (if firstN (fun y : En => decide (y.e ≤ n)) es < len then (firstN (fun y : En => decide (y.e ≤ n)) es : Int) else -1)) := by
  have hlen : es.length = len := by have := hs.1; simpa using this
  refine Tr.intro 19 Tryz.func42 rfl rfl Tryz.call42 rfl ?_
  intro C hC hro
  repeat (first | refine zz ?_ | refine zx fun _ => ?_)
  refine run_loopN (fun j σ1 M1 L1 => j ≤ len ∧ M = M1 ∧ L1 = [] ∧ (∀ i y, i < j → es[i]? = some y → decide (y.e ≤ n) = true) ∧ σ1 = [(8, iv j), (7, iv len), (0, .slice a len cap), (1, .func (.func 43) ⟨[]⟩ ⟨[pt b3]⟩)]) len [(8, iv 0), (7, iv len), (0, .slice a len cap), (1, .func (.func 43) ⟨[]⟩ ⟨[pt b3]⟩)] ?_ ⟨Nat.zero_le _, rfl, rfl, (fun i y hi => absurd hi (Nat.not_lt_zero _)), rfl⟩ (fun j _ _ _ h => h.1) ?_
  · exact ⟨rfl, rfl, rfl, rfl, trivial⟩
  rintro j _ _ _ ⟨hj, rfl, rfl, hall, rfl⟩ hnext
  repeat (first | refine zz ?_ | refine zx fun _ => ?_)
  refine run_cond rfl (fun h => ?_) (fun h => ?_)
  · have hlt : j < len := by simp at h; omega
    obtain ⟨b, off, c, rfl, hc, _, hcells⟩ := hs.at_ hlt
    obtain ⟨y, hy, rfl⟩ : ∃ y, es[j]? = some y ∧ enC y = c := by simpa using hc
    repeat (first | refine zz ?_ | refine zx fun _ => ?_ | refine runL_q (qt_indexN tok rfl rfl rfl rfl (fun _ => by omega)) rfl rfl rfl ?_ | refine runL_g rfl rfl (qt_indexN tok rfl rfl rfl rfl (fun _ => by omega)) rfl rfl rfl rfl rfl ?_ | refine runL_q (qt_ldM tok rfl hcells rfl) rfl rfl rfl ?_ | refine runL_g rfl rfl (qt_ldM tok rfl hcells rfl) rfl rfl rfl rfl rfl ?_ | refine runL_q (qt_ldM0 tok rfl hcells rfl) rfl rfl rfl ?_ | refine runL_g rfl rfl (qt_ldM0 tok rfl hcells rfl) rfl rfl rfl rfl rfl ?_ | refine rq (st_callV rfl rfl (fun _ => wsync1_ok M [] n b3 y hb3)) ?_)
    refine run_cond rfl (fun h2 => ?_) (fun h2 => ?_)
    · have hgt : decide (y.e ≤ n) = false := by simp at h2 ⊢; omega
      have hf := firstN_stop (q := fun y : En => decide (y.e ≤ n)) hy hgt hall
      repeat (first | refine zz ?_ | refine zx fun _ => ?_)
      refine run_ret hC (rs := [.tmp 4]) rfl (resT rfl resN) (fun _ h => h) ⟨?_, rfl, rfl⟩
      rw [hf, if_pos hlt]; rfl
    · have hle : decide (y.e ≤ n) = true := by simp at h2 ⊢; omega
      repeat (first | refine zz ?_ | refine zx fun _ => ?_)
      refine run_sub' (hnext _ _ _ ⟨hlt, rfl, rfl, ?_, rfl⟩) ⟨lk_succ rfl (by omega), rfl, rfl, rfl, trivial⟩
      intro i z hi hz
      by_cases e : i = j
      · subst e; rw [hy] at hz; cases hz; exact hle
      · exact hall i z (by omega) hz
  have hje : j = len := by simp at h; omega
  subst hje
  have hf := firstN_all (q := fun y : En => decide (y.e ≤ n)) (l := es) (fun i y hy => hall i y (by have := (List.getElem?_eq_some_iff.1 hy).1; omega) hy)
  repeat (first | refine zz ?_ | refine zx fun _ => ?_)
  refine run_ret hC (rs := [.tmp 4]) rfl (resT rfl resN) (fun _ h => h) ⟨?_, rfl, rfl⟩
  rw [hf, if_neg (by omega)]; rfl
def synW (S : Wl) : Nat := firstN (fun y : Re × Nat => decide (y.2 ≤ S.x.syn)) S.es
theorem firstN_map {α β : Type} (f : α → β) (q : β → Bool) : ∀ l : List α, firstN q (l.map f) = firstN (fun x => q (f x)) l
  | [] => rfl
  | x :: l => by
    have := firstN_map f q l
    unfold firstN at this ⊢
    rw [List.map_cons, List.takeWhile_cons, List.takeWhile_cons]
    split
    · simp [this]
    · rfl
set_option maxHeartbeats 4000000 in
theorem wSynced_ok (M : Mem) (L0 L : HL) (bl bd : Nat) (S : Wl) (ho : WlOwn M bl bd S L0 L) : TrQ Tryz.prog 17 [pt bl] M L (iv (synW S)) := by
  obtain ⟨⟨es, v, N, a, cap, rfl, hO, habs, hes, hv⟩, hhd, hdk, hlen, hleft⟩ := ho
  obtain ⟨aa, ca, rfl⟩ := osV hO
  have hel : es.length ≤ 1048576 := by
    have h1 := hdk.fit
    have h2 := hdk.room
    rw [← habs, List.length_map] at hlen
    omega
  have hsyn : synW S = firstN (fun y : En => decide (y.e ≤ S.x.syn)) es := by
    rw [synW, ← habs, firstN_map]; rfl
  refine Tr.intro 27 Tryz.func17 rfl rfl Tryz.call17 rfl ?_
  intro C hC hro
  repeat (first | refine zz ?_ | refine zx fun _ => ?_)
  refine run_cond rfl (fun h => by cases h) (fun _ => ?_)
  repeat (first | refine zz ?_ | refine zx fun _ => ?_ | refine rq (qt_callF rfl (fun _ => trq_perm (dkSynced_ok M (lgB bl bd (.slice aa es.length ca) S.head :: (N ++ L0)) bd S.x a cap) (pmD _ _ N L0))) ?_)
  rename_i b3
  refine rq (qt_callF (v := .int .i64 (if firstN (fun y : En => decide (y.e ≤ S.x.syn)) es < es.length then (firstN (fun y : En => decide (y.e ≤ S.x.syn)) es : Int) else -1)) rfl (fun _ => TrQ.lend (fun w => Tryz.call42 _ w) ?_)) ?_
  · intro M' _ hb
    obtain ⟨a', cap', he, hsl⟩ := os_slm2 (M := M') (ls := es.map enC) hO (fun b o hm => hb b o (by simp [hm])) (by simp) (enF_all es)
    cases he
    exact widx_ok M' _ _ _ es hsl (by omega) S.x.syn b3 (Cells.ofBlk (hb _ _ List.mem_cons_self))
  rw [← hsyn]
  have hle : synW S ≤ es.length := by rw [hsyn]; exact firstN_le _ _
  generalize synW S = k at hle hC
  repeat (first | refine zz ?_ | refine zx fun _ => ?_)
  refine run_cond (t := decide ((if k < es.length then (k : Int) else -1) ≥ 0)) rfl (fun h => ?_) (fun h => ?_)
  · have hlt : k < es.length := by
      by_cases h1 : k < es.length
      · exact h1
      · rw [if_neg h1] at h; cases h
    repeat (first | refine zz ?_ | refine zx fun _ => ?_)
    exact run_ret hC (rs := [.tmp 2]) rfl (resT rfl resN) (fun _ h => h.drop) ⟨by rw [if_pos hlt] <;> rfl, rfl, rfl⟩
  · have hge : k = es.length := by
      by_cases h1 : k < es.length
      · rw [if_pos h1] at h; have := of_decide_eq_false h; omega
      · omega
    repeat (first | refine zz ?_ | refine zx fun _ => ?_)
    exact run_ret hC (rs := [.tmp 2]) rfl (resT rfl resN) (fun _ h => h.drop) ⟨by rw [hge] <;> rfl, rfl, rfl⟩
structure RcS (M : Mem) (v : Value) (l : List Re) : Prop where
  ex : ∃ (a : Option Addr) (cap : Nat) (rs : List Rc), v = .slice a rs.length cap ∧ SlM M 10 a rs.length (rs.map rcC) ∧ rs.map Rc.re = l ∧ (∀ r ∈ rs, RcOk M r)
theorem rcC_one (r : Rc) : ∀ u ∈ rcC r, u.oneCell' = true := by
  intro u hu
  simp only [rcC, List.mem_cons, List.not_mem_nil, or_false] at hu
  rcases hu with rfl | rfl | rfl | rfl | rfl | rfl | rfl | rfl | rfl | rfl <;> rfl
theorem rcF_all (l : List Rc) : ∀ c ∈ l.map rcC, c.length = 10 := by intro c hc; obtain ⟨x, _, rfl⟩ := List.mem_map.1 hc; rfl
set_option maxHeartbeats 8000000 in
theorem wList_ok (M : Mem) (L0 L : HL) (bl bd : Nat) (S : Wl) (ho : WlOwn M bl bd S L0 L) : Tr Tryz.prog 15 [pt bl] M L (fun v M' L' => M.le M' ∧ L' = L ∧ RcS M' v (S.es.map Prod.fst)) := by
  obtain ⟨⟨es, v, N, a, cap, hLe, hO, habs, hes, hv⟩, hhd, hdk, hlen, hleft⟩ := ho
  obtain ⟨aa, ca, rfl⟩ := osV hO
  have hel : es.length ≤ 1048576 := by
    have h1 := hdk.fit
    have h2 := hdk.room
    rw [← habs, List.length_map] at hlen
    omega
  have hmem : (lgB bl bd (.slice aa es.length ca) S.head) ∈ L := by rw [hLe]; exact List.mem_cons_self
  have hNL : ∀ p ∈ N, p ∈ L := by intro p hp; rw [hLe]; simp [hp]
  clear hLe
  refine Tr.intro 24 Tryz.func15 rfl rfl Tryz.call15 rfl ?_
  intro C hC hro
  repeat (first | refine zz ?_ | refine zx fun _ => ?_)
  refine run_cond rfl (fun h => by cases h) (fun _ => ?_)
  repeat (first | refine zz ?_ | refine zx fun _ => ?_ | refine rq (qt_ld tok rfl hmem rfl) ?_)
  refine run_loopN (fun j σ1 M1 L1 => j ≤ es.length ∧ M.le M1 ∧ ∃ (rs : List Rc) (v2 : Value) (NA : HL), rs.length = j ∧ rs.map Rc.re = (es.take j).map (fun y => y.r.re) ∧ (∀ r ∈ rs, RcOk M1 r) ∧ OS 35 10 v2 j (rs.map rcC).flatten NA ∧ L1 = NA ++ L ∧ σ1 = [(12, iv j), (11, iv es.length), (10, .slice aa es.length ca), (2, v2)]) es.length [(12, iv 0), (11, iv es.length), (10, .slice aa es.length ca), (2, .slice none 0 0)] ?_ ⟨Nat.zero_le _, Mem.le_refl _, [], _, [], rfl, rfl, (fun r hr => by cases hr), OS.nil _ _, rfl, rfl⟩ (fun j _ _ _ h => h.1) ?_
  · exact ⟨rfl, rfl, rfl, rfl, trivial⟩
  rintro j _ M1 _ ⟨hj, hM1, rs, v2, NA, hrl, hre, hrs, hO2, rfl, rfl⟩ hnext
  repeat (first | refine zz ?_ | refine zx fun _ => ?_)
  refine run_cond rfl (fun h => ?_) (fun h => ?_)
  · have hlt : j < es.length := by simp at h; omega
    obtain ⟨y, hy⟩ : ∃ y, es[j]? = some y := ⟨_, List.getElem?_eq_getElem hlt⟩
    have hyo := (hes y (List.mem_of_getElem? hy)).le hM1
    obtain ⟨be, cape, cse, he, hN, _, _, hseg⟩ := OS.at_ (ls := es.map enC) hO (enF_all es) (by simp) (k := j) (c := enC y) (by simp [hy])
    cases he
    have hbe : (be, Obj.cells ⟨cse⟩ 74 (0, 0)) ∈ L := hNL _ (by rw [hN]; exact List.mem_cons_self)
    obtain ⟨a2, c2, rfl⟩ := osV hO2
    repeat (first | refine zz ?_ | refine zx fun _ => ?_ | refine rq (qt_indexN tok rfl rfl rfl rfl (fun _ => hlt)) ?_ | refine rq (qt_ldB0 (xs := enC y) (v := .agg ⟨enC y⟩) tok rfl hseg (List.mem_append_right _ hbe) rfl) ?_ | (refine ro (st_callF rfl (fun _ => wown_ok _ _ y.r hyo)) ?_; rintro _ M2 _ ⟨hM2, rfl, r', rfl, hre', hro'⟩))
    rename_i b4 b6
    refine ro (st_append (news := rcC r') tok rfl rfl rfl rfl rfl rfl rfl rfl (pm2 _ _ NA _) hO2 (.inr ⟨b6, 0, 1, rfl, cellsAll List.mem_cons_self, rfl⟩) (rcC_one _) (by omega) (by omega)) ?_
    rintro v3 _ _ ⟨N', rfl, rfl, hO3⟩
    refine runL_mem (L' := N' ++ L) (fun _ h => ((h.perm List.perm_middle).drop.perm List.perm_middle).drop) ?_
    repeat (first | refine zz ?_ | refine zx fun _ => ?_)
    refine run_sub' (hnext _ _ _ ⟨hlt, Mem.le_trans hM1 hM2, rs ++ [r'], v3, N', by simp [hrl], ?_, ?_, ?_, rfl, rfl⟩) ⟨lk_succ rfl (by omega), rfl, rfl, rfl, trivial⟩
    · rw [take_snoc hy, List.map_append, List.map_append, hre]
      show _ ++ [r'.re] = _ ++ [y.r.re]
      rw [hre']
    · intro r hr
      rcases List.mem_append.1 hr with hr | hr
      · exact (hrs r hr).le hM2
      · simp at hr; subst hr; exact hro'
    · rw [List.map_append, List.flatten_append]
      have e : ([r'].map rcC).flatten = rcC r' := by simp
      rw [e]; exact hO3
  have hje : j = es.length := by simp at h; omega
  subst hje
  rw [List.take_of_length_le (Nat.le_refl _)] at hre
  repeat (first | refine zz ?_ | refine zx fun _ => ?_)
  refine run_retE hC (rs := [.tmp 2]) rfl (resT rfl resN) fun w hw => ?_
  obtain ⟨M2, a2, c2, h1, h2, h3, h4⟩ := hw.freezeOS (ls := rs.map rcC) hO2 (by simp [hrl]) (rcF_all rs)
  refine ⟨M2, L, h2, Mem.le_trans hM1 h1, rfl, a2, c2, rs, by rw [hrl]; exact h3, by rw [hrl]; exact h4, ?_, fun r hr => (hrs r hr).le h1⟩
  rw [hre, ← habs, List.map_map]
  rfl
end Go.Proofs.YtkjljcgbnikmkaaGreatDoor
namespace Go.Chi
def IterQ (P : Program) (g : FuncId) (caps : List Value) (M : Mem) (N : Nat) (Q : Nat → Mem → List Value → Prop) : Prop :=
  ∀ (l : Nat) (I X : Nat → Mem → HL → Prop) (M0 : Mem) (L0 : HL), M.le M0 → (∀ k M1 M2 L1, M1.le M2 → I k M1 L1 → I k M2 L1) →
    (∀ k x M1 L1 F, (k < N ∧ Q k M1 x) → M0.le M1 → I k M1 L1 → YieldTo P l x M1 (F ++ L1) (fun v M2 Lt => ∃ L2, Lt = F ++ L2 ∧ M1.le M2 ∧ ((v = .bool true ∧ I (k + 1) M2 L2) ∨ (v = .bool false ∧ X k M2 L2)))) →
    I 0 M0 L0 →
    Tr P g (yv l :: caps) M0 L0 (fun _ M2 Lt => M0.le M2 ∧ (I N M2 Lt ∨ ∃ k, X k M2 Lt))
theorem IterQ.le {P : Program} {g : FuncId} {caps : List Value} {M M' : Mem} {N : Nat} {Q : Nat → Mem → List Value → Prop} (h : IterQ P g caps M N Q) (hm : M.le M') : IterQ P g caps M' N Q :=
  fun l I X M0 L0 hle => h l I X M0 L0 (Mem.le_trans hm hle)
theorem run_rangeQ {P : Program} {C : Cx} {n : Nat} {k : List Item} {ds : List Deferred} {σ : Env} {M : Mem} {L : HL} {f : Operand} {ps : Array Tmp} {assign body : Code} {g : FuncId} {caps : Array Value} {N : Nat} {Q : Nat → Mem → List Value → Prop}
    (hro : C.b.roundOf = none) (hf : ev σ [] [] f = some (.func (.func g) #[] caps)) (hit : IterQ P g caps.toList M N Q)
    (hps : ps.toList.all (fun p => Nat.blt p n) = true) (hxs : ∀ k M x, Q k M x → x.length = ps.size)
    (I : Nat → Mem → HL → Prop) (X : Code → Nat → Mem → HL → Prop) (hmono : ∀ k M1 M2 L1, M1.le M2 → I k M1 L1 → I k M2 L1) (h0 : I 0 M L)
    (hbody : ∀ j x M1 L1 R R' C', (j < N ∧ Q j M1 x) → M.le M1 → I j M1 L1 → RdB P C' n M1 R R' (I (j + 1)) (fun c => X c j) → Run P C' n [.code assign, .beginRound, .code body] [] (setPs ps.toList x σ) M1 (L1 ++ R))
    (hdone : ∀ D M2 L2, M.le M2 → I N M2 L2 → Run P C n k (⟨.collected D, #[]⟩ :: ds) σ M2 ((D, .deferred (some [])) :: L2))
    (hjump : ∀ c j D M2 L2, M.le M2 → X c j M2 L2 → Run P C n (.code c :: k) (⟨.collected D, #[]⟩ :: ds) σ M2 ((D, .deferred (some [])) :: L2)) :
    Run P C n (.code (.rangeFunc f ps assign body) :: k) ds σ M L := fun a w h1 h2 h3 h4 => by
  obtain ⟨rec, hrec⟩ : ∃ rec : LoopState → Option Code → Loop, rec = fun st pe => { state := st, pending := pe, fn := C.b.fn, tmps := a.tmps, params := ps, assign, body, defers := w.heap.size } := ⟨_, rfl⟩
  have hent := run_enterLoop_outer (P := P) (w := w) C.b.fn a.tmps ps assign body
  have hp1 : Hp M ((w.heap.size + 1, .loop (rec .ready none)) :: (w.heap.size, .deferred (some [])) :: L) ((w.alloc (.deferred (some []))).alloc (.loop (rec .ready none))) := by
    have a1 := h4.push (.deferred (some []))
    have a2 := a1.push (.loop (rec .ready none))
    simp only [Array.size_push] at a2
    exact a2
  have hlp : w.heap.size + 1 ≠ w.heap.size := by omega
  -- what the caller's memory is, between two rounds
  let I' : Nat → Mem → HL → Prop := fun j M' L' => M.le M' ∧ ∃ L1, L' = (w.heap.size + 1, .loop (rec .ready none)) :: (w.heap.size, .deferred (some [])) :: L1 ∧ I j M' L1
  let X' : Nat → Mem → HL → Prop := fun j M' L' => M.le M' ∧ ∃ c L1, L' = (w.heap.size + 1, .loop (rec .done (some c))) :: (w.heap.size, .deferred (some [])) :: L1 ∧ X c j M' L1
  have htr := hit (w.heap.size + 1) I' X' M ((w.heap.size + 1, .loop (rec .ready none)) :: (w.heap.size, .deferred (some [])) :: L) (Mem.le_refl M) (fun k M1 M2 L1 hle ⟨h1, L2, h2, h3⟩ => ⟨Mem.le_trans h1 hle, L2, h2, hmono k M1 M2 L2 hle h3⟩) ?body ⟨Mem.le_refl M, L, rfl, h0⟩
  case body =>
    rintro j x M1 L1' F hx hM1 ⟨_, L1, rfl, hI⟩ w1 hw1
    have hl : w1.heap[w.heap.size + 1]? = some (.loop (rec .ready none)) := hw1.own (w.heap.size + 1, .loop (rec .ready none)) (by simp)
    have hlen : x.length = ps.size := hxs _ _ x hx.2
    rw [run_yield (P := P) (args := ⟨x⟩) hl (by rw [hrec]; simpa using hlen)]
    show Rd P _ _ _ _ _ w1 _
    intro c cs
    let b : Frame := { (default : Frame) with fn := (rec .ready none).fn, kind := .normal, roundOf := some (w.heap.size + 1) }
    obtain ⟨hsee, hsz⟩ := sees_setPs (n := n) ps.toList x σ a.tmps [] (fun p hp => Nat.blt_eq.mp (List.all_eq_true.1 hps p hp)) h1 (by simpa using hlen.symm) ⟨h3.s, h3.d⟩
    have htm : (((rec .ready none).params.zip ⟨x⟩).foldl (fun (tmps : Array Value) (y : Nat × Value) => tmps.setIfInBounds y.1 y.2) (rec .ready none).tmps) = (ps.toList.zip x).foldl (fun t y => t.setIfInBounds y.1 y.2) a.tmps := by
      rw [hrec]
      rw [← Array.foldl_toList, Array.toList_zip]
    have hfr : Frame.round (w.heap.size + 1) (rec .ready none).fn (((rec .ready none).params.zip ⟨x⟩).foldl (fun (tmps : Array Value) (y : Nat × Value) => tmps.setIfInBounds y.1 y.2) (rec .ready none).tmps) (rec .ready none).assign (rec .ready none).body .normal =
        b.atR ⟨(ps.toList.zip x).foldl (fun t y => t.setIfInBounds y.1 y.2) a.tmps, []⟩ [.code assign, .beginRound, .code body] := by
      rw [htm]; simp [Frame.round, Frame.atR, b, hrec]
    let K : Value → Mem → HL → Prop := fun v M2 Lt => ∃ L2, Lt = F ++ L2 ∧ M1.le M2 ∧ ((v = .bool true ∧ I' (j + 1) M2 L2) ∨ (v = .bool false ∧ X' j M2 L2))
    let Φ : Frame → World → Prop := fun fr w2 => ∃ v w', ∃ M' L', Hp M' L' w' ∧ K v M' L' ∧ step P (lone fr (c :: cs) w2) = .next (lone (c.finish v) cs w')
    have hC : RdCx P (w.heap.size + 1) K ⟨b, c :: cs, Φ⟩ := ⟨rfl, rfl, c, cs, rfl, rfl⟩
    have hMM : M.le M1 := hM1
    -- the round's frame, with the loop's record behind
    have perm1 : ∀ (o : Obj) (L2 : HL), (L2 ++ ((w.heap.size + 1, o) :: (w.heap.size, .deferred (some [])) :: F)).Perm (F ++ ((w.heap.size + 1, o) :: (w.heap.size, .deferred (some [])) :: L2)) := fun o L2 => by
      refine List.perm_append_comm.trans ?_
      refine List.Perm.trans ?_ List.perm_append_comm
      simp only [List.cons_append]
      refine List.Perm.cons _ (List.Perm.cons _ ?_)
      exact List.perm_append_comm
    have upd : ∀ (o o' : Obj) (L2 : HL), Upd (F ++ ((w.heap.size + 1, o) :: (w.heap.size, .deferred (some [])) :: L2)) (w.heap.size + 1) o o' (F ++ ((w.heap.size + 1, o') :: (w.heap.size, .deferred (some [])) :: L2)) :=
      fun o o' L2 => (Upd.here _ _ _ _).append_left F
    have hb := hbody j x M1 L1 ((w.heap.size + 1, .loop (rec .ready none)) :: (w.heap.size, .deferred (some [])) :: F) ((w.heap.size + 1, .loop (rec .busy none)) :: (w.heap.size, .deferred (some [])) :: F) ⟨b, c :: cs, Φ⟩ hx hMM hI {
      begin_ := fun k σ M L2 h => by
        refine run_perm (perm1 _ L2) ?_
        refine rd_begin hC (r := rec .ready none) (upd _ _ L2) (by rw [hrec]) ?_
        refine run_perm (perm1 _ L2).symm ?_
        rw [hrec] at h ⊢
        exact h
      fin := fun σ M2 L2 hM2 hJ => by
        refine run_perm (perm1 _ L2) ?_
        refine rd_end hC (r := rec .busy none) (upd _ _ L2) ?_
        refine ⟨_, rfl, hM2, .inl ⟨rfl, Mem.le_trans hMM hM2, L2, ?_, hJ⟩⟩
        rw [hrec]
      ret := fun k σ M2 L2 hM2 hX => by
        refine run_perm (perm1 _ L2) ?_
        refine rd_ret hC (r := rec .busy none) (upd _ _ L2) ?_
        refine ⟨_, rfl, hM2, .inr ⟨rfl, Mem.le_trans hMM hM2, .ret, L2, ?_, hX⟩⟩
        rw [hrec]
      exit := fun id k σ M2 L2 hx hM2 hX => by
        refine run_perm (perm1 _ L2) ?_
        refine rd_exit hC (r := rec .busy none) hx (upd _ _ L2) ?_
        refine ⟨_, rfl, hM2, .inr ⟨rfl, Mem.le_trans hMM hM2, .exit id, L2, ?_, hX⟩⟩
        rw [hrec] }
    obtain ⟨fr', w2, hs, v, w3, M', L', hp3, hK, hstep⟩ := hb _ w1 hsz rfl hsee (hw1.perm (perm1 _ L1).symm)
    rw [hfr]
    exact ⟨v, w3, ⟨M', L', hp3, hK⟩, hs.trans (.one hstep)⟩
  -- the call
  have hres : (resolve a.eval (rangeCall f (w.heap.size + 1)) 0).run P ((w.alloc (.deferred (some []))).alloc (.loop (rec .ready none))) = .ok { target := .fn (.func g) caps, args := #[yv (w.heap.size + 1)] } ((w.alloc (.deferred (some []))).alloc (.loop (rec .ready none))) := by
    have h5 := ev_sound h3 (holds_nil a) hf
    have h6 : (#[Operand.const (.func (.yield (w.heap.size + 1)) #[] #[])] : Array Operand).map a.eval = #[yv (w.heap.size + 1)] := by simp [Act.eval, yv]
    simp only [resolve, h5, h6, Deferred.ofValue, Sem.run_pure]
    simp
  have hinv : (invoke (.fn (.func g) caps) #[yv (w.heap.size + 1)]).run P ((w.alloc (.deferred (some []))).alloc (.loop (rec .ready none))) = .ok (.enter g ⟨yv (w.heap.size + 1) :: caps.toList⟩) ((w.alloc (.deferred (some []))).alloc (.loop (rec .ready none))) := by
    have e : (#[yv (w.heap.size + 1)] ++ caps : Array Value) = ⟨yv (w.heap.size + 1) :: caps.toList⟩ := by apply Array.ext'; simp
    simp only [invoke, e]
    exact htr.1 _
  have henter := stepR_rangeFunc (P := P) (b := C.b) (a := a) (k := k) (cs := C.cs) (w := w) (g := f) (ps := ps) (assign := assign) (body := body) (by rw [hro]; exact hent) (by rw [hrec] at hres; exact hres) (by rw [hrec] at hinv; exact hinv)
  obtain ⟨v, w2, fr, ⟨M2, Lt, hp2, hM2, hend⟩, hsteps, _, hleave⟩ := htr.2 _ hp1 (C.b.atR { a with defers := [{ target := .collected w.heap.size, args := #[] }] ++ a.defers } (.inRangeFunc (w.heap.size + 1) :: k) :: C.cs)
  have hback : Steps P (lone (C.b.atR a (.code (.rangeFunc f ps assign body) :: k)) C.cs w) (lone (C.b.atR { a with defers := [{ target := .collected w.heap.size, args := #[] }] ++ a.defers } (.endRangeFunc (w.heap.size + 1) :: k)) C.cs w2) := by
    refine .head henter ?_
    rw [hrec] at hsteps
    refine hsteps.trans (.one ?_)
    rw [← finish_atR_inRangeFunc (w.heap.size + 1) v]
    exact step_leave_returned hleave
  refine J.steps hback ?_
  have hds : ({ a with defers := [{ target := .collected w.heap.size, args := #[] }] ++ a.defers } : Act).defers = ⟨.collected w.heap.size, #[]⟩ :: ds := by simp [h2]
  have hs' : Sees σ [] ({ a with defers := [{ target := .collected w.heap.size, args := #[] }] ++ a.defers } : Act) := ⟨h3.s, h3.d⟩
  rcases hend with ⟨_, L2, rfl, hI⟩ | ⟨j, _, c, L2, rfl, hX⟩
  · have hl2 := hp2.own (w.heap.size + 1, .loop (rec .ready none)) (by simp)
    have hel := run_endLoop (P := P) hl2 (by rw [hrec]; simp)
    refine J.step (stepR_endRangeFunc hel) ?_
    have hpe : (rec .ready none).pending = none := by rw [hrec]
    rw [hpe]
    refine hdone w.heap.size M2 L2 hM2 hI _ _ h1 hds hs' ?_
    exact (hp2.putObj (Upd.here _ _ _ _)).drop
  · have hl2 := hp2.own (w.heap.size + 1, .loop (rec .done (some c))) (by simp)
    have hel := run_endLoop (P := P) hl2 (by rw [hrec]; simp)
    refine J.step (stepR_endRangeFunc hel) ?_
    have hpe : (rec .done (some c)).pending = some c := by rw [hrec]
    rw [hpe]
    refine hjump c j w.heap.size M2 L2 hM2 hX _ _ h1 hds hs' ?_
    exact (hp2.putObj (Upd.here _ _ _ _)).drop
end Go.Chi
namespace Go.Proofs.YtkjljcgbnikmkaaGreatDoor
open Go.Chi
set_option maxRecDepth 10000
theorem st_at2 {M : Mem} {a : Option Addr} {len : Nat} {ts : List ByteArray} (h : SlM M 1 a len (ts.map stC)) {j : Nat} (hj : j < len) : ∃ b off t, a = some ⟨b, off, none⟩ ∧ ts[j]? = some t ∧ Cells M [] b (off + j * 1) (stC t) := by
  obtain ⟨b, off, c, rfl, hc, _, hcells⟩ := h.at_ hj
  obtain ⟨t, ht, rfl⟩ : ∃ t, ts[j]? = some t ∧ stC t = c := by simpa using hc
  exact ⟨b, off, t, rfl, ht, hcells⟩
def EnQ (ts : List ByteArray) (k : Nat) (M : Mem) (x : List Value) : Prop :=
  ∃ (y : En) (t : ByteArray), x = [.agg ⟨enC y⟩] ∧ RcOk M y.r ∧ y.e = placeB ts (k + 1) ∧ ts[k]? = some t ∧ (Dec t y.r.re ∨ (y.r.kind = 0 ∧ ∀ z, ¬ Dec t z))
theorem place_next {ts : List ByteArray} {j : Nat} {t : ByteArray} (ht : ts[j]? = some t) : placeB ts (j + 1) = placeB ts j + (frB (linkB ts j) t).size ∧ linkB ts (j + 1) = nextB (linkB ts j) t := by
  unfold placeB linkB
  rw [take_snoc ht, frsB_app, app_size, frsB_one, headB_app]
  exact ⟨rfl, rfl⟩
theorem place_le2 (ts : List ByteArray) (j : Nat) : placeB ts j ≤ (frsB firstB ts).size := by
  have : frsB firstB ts = frsB firstB (ts.take j) ++ frsB (linkB ts j) (ts.drop j) := by
    conv => lhs; rw [← List.take_append_drop j ts]
    rw [frsB_app]; rfl
  rw [this, app_size]
  unfold placeB; omega
theorem wentries_ok (M : Mem) (L : HL) (v : Value) : Tr Tryz.prog 39 [v] M L (fun v' M' L' => M.le M' ∧ L' = L ∧ ∃ bs, v' = .func (.func 69) #[] ⟨[pt bs]⟩ ∧ Cells M' [] bs 0 (cellsL v)) := by
  refine Tr.intro 4 Tryz.func39 rfl rfl Tryz.call39 rfl ?_
  intro C hC hro
  repeat (first | refine zz ?_ | refine zx fun _ => ?_)
  rename_i b
  refine run_frz 0 rfl ?_
  intro M1 hM1 hb
  exact run_ret hC (rs := [.tmp 2]) rfl (resT rfl resN) (fun _ h => h) ⟨hM1, rfl, b, rfl, Cells.ofBlk hb⟩
set_option maxHeartbeats 16000000 in
theorem entries1_ok (M : Mem) (bs : Nat) (a : Option Addr) (cap : Nat) (ts : List ByteArray) (hk : KM M) (hb : Cells M [] bs 0 [.slice a ts.length cap]) (hs : SlM M 1 a ts.length (ts.map stC)) (hsh : AllSh ts) (hsz : (frsB firstB ts).size < 10000000) :
    IterQ Tryz.prog 69 [pt bs] M ts.length (EnQ ts) := by
  intro lp I X M0 L0 hle hmono hyield hI
  have hk0 := hk.le hle
  have hb0 := hb.le hle
  have hs0 := hs.le hle
  have htl := frsB_len firstB ts
  refine Tr.intro 46 Tryz.func69 rfl rfl Tryz.call69 rfl ?_
  intro C hC hro
  repeat (first | refine zz ?_ | refine zx fun _ => ?_ | refine runL_q (qt_indexN tok rfl rfl rfl rfl (fun _ => by omega)) rfl rfl rfl ?_ | refine runL_g rfl rfl (qt_indexN tok rfl rfl rfl rfl (fun _ => by omega)) rfl rfl rfl rfl rfl ?_ | refine runL_q (qt_ldM tok rfl hb0 rfl) rfl rfl rfl ?_ | refine runL_g rfl rfl (qt_ldM tok rfl hb0 rfl) rfl rfl rfl rfl rfl ?_ | refine runL_q (qt_ldM0 tok rfl hb0 rfl) rfl rfl rfl ?_ | refine runL_g rfl rfl (qt_ldM0 tok rfl hb0 rfl) rfl rfl rfl rfl rfl ?_ | refine rq (qt_callF rfl (fun _ => chFirst_ok _ _)) ?_)
  refine run_loopN (fun j σ1 M1 L1 => j ≤ ts.length ∧ M0.le M1 ∧ I j M1 L1 ∧ σ1 = [(15, iv j), (14, iv ts.length), (13, .slice a ts.length cap), (3, iv (placeB ts j)), (4, .string (linkB ts j)), (0, yv lp)]) ts.length [(15, iv 0), (14, iv ts.length), (13, .slice a ts.length cap), (3, iv 0), (4, .string firstB), (0, yv lp)] ?_ ⟨Nat.zero_le _, Mem.le_refl _, hI, rfl⟩ (fun j _ _ _ h => h.1) ?_
  · exact ⟨rfl, rfl, rfl, rfl, rfl, rfl, trivial⟩
  rintro j _ M1 L1 ⟨hj, hM1, hI1, rfl⟩ hnext
  repeat (first | refine zz ?_ | refine zx fun _ => ?_)
  refine run_cond rfl (fun h => ?_) (fun h => ?_)
  · have hlt : j < ts.length := by simp at h; omega
    obtain ⟨b, off, t, rfl, ht, hc⟩ := st_at2 (hs0.le hM1) hlt
    have ht8 := hsh t (List.mem_of_getElem? ht)
    have hlk : (linkB ts j).size = 32 := headB_size _ _ rfl
    obtain ⟨hp1, hl1⟩ := place_next ht
    have hp2 := place_le2 ts (j + 1)
    rw [hl1] at hnext
    generalize hnx : nextB (linkB ts j) t = nx at hnext
    generalize hfr : frB (linkB ts j) t = fr at hp1
    have e1 : IntKind.i64.wrap (((placeB ts j : Nat) : Int) + (fr.size : Int)) = ((placeB ts (j + 1) : Nat) : Int) := by
      rw [hp1]; exact wrap64_nat (n := placeB ts j + fr.size) (by omega)
    repeat (first | refine zz ?_ | refine zx fun _ => ?_ | refine runL_q (qt_indexN tok rfl rfl rfl rfl (fun _ => by omega)) rfl rfl rfl ?_ | refine runL_g rfl rfl (qt_indexN tok rfl rfl rfl rfl (fun _ => by omega)) rfl rfl rfl rfl rfl ?_ | refine runL_q (qt_ldM tok rfl hc rfl) rfl rfl rfl ?_ | refine runL_g rfl rfl (qt_ldM tok rfl hc rfl) rfl rfl rfl rfl rfl ?_ | refine runL_q (qt_ldM0 tok rfl hc rfl) rfl rfl rfl ?_ | refine runL_g rfl rfl (qt_ldM0 tok rfl hc rfl) rfl rfl rfl rfl rfl ?_ | refine rq (Qt.as (v' := .tuple ⟨[.string fr, .string nx, .int .i64 0]⟩) (qt_callF rfl (fun _ => chFrame_ok _ _ (linkB ts j) t (hk0.le hM1) hlk ht8)) (by rw [hfr, hnx])) ?_)
    refine runL_as 3 (iv (placeB ts (j + 1))) rfl (congrArg (Value.int .i64) e1) ?_
    refine ro (st_callF rfl (fun _ => decode_ok _ _ t (by omega))) ?_
    rintro _ M2 L1 ⟨hM2, rfl, r, e, rfl, hr, hsr, hd⟩
    repeat (first | refine zz ?_ | refine zx fun _ => ?_)
    rename_i b10
    have hM02 := Mem.le_trans hM1 hM2
    have hI2 := hmono _ _ _ _ hM2 hI1
    have hafter : ∀ (y : En), y.e = placeB ts (j + 1) → RcOk M2 y.r → (Dec t y.r.re ∨ (y.r.kind = 0 ∧ ∀ z, ¬ Dec t z)) →
        YieldTo Tryz.prog lp [.agg ⟨enC y⟩] M2 ((b10, .cells ⟨rcC y.r⟩ 35 (0, 0)) :: L1) (fun v M3 Lt => ∃ L2, Lt = [(b10, .cells ⟨rcC y.r⟩ 35 (0, 0))] ++ L2 ∧ M2.le M3 ∧ ((v = .bool true ∧ I (j + 1) M3 L2) ∨ (v = .bool false ∧ X j M3 L2))) := fun y h1 h2 h3 =>
      hyield j _ M2 L1 [(b10, .cells ⟨rcC y.r⟩ 35 (0, 0))] ⟨hlt, y, t, rfl, h2, h1, ht, h3⟩ hM02 hI2
    refine run_cut (fun σ' M' L' => M2 = M' ∧ ∃ y : En, y.e = placeB ts (j + 1) ∧ RcOk M2 y.r ∧ (Dec t y.r.re ∨ (y.r.kind = 0 ∧ ∀ z, ¬ Dec t z)) ∧ L' = (b10, .cells ⟨rcC y.r⟩ 35 (0, 0)) :: L1 ∧ σ' = [(10, pt b10), (3, iv (placeB ts (j + 1))), (0, yv lp), (4, .string nx), (15, iv j), (14, iv ts.length), (13, .slice (some ⟨b, off, none⟩) ts.length cap)]) ?_ ?_
    rotate_left
    · intro hmid
      rcases hd with ⟨rfl, hd⟩ | ⟨rfl, rfl, hd⟩
      · refine run_cond (t := false) rfl (fun h => by cases h) (fun _ => ?_)
        refine run_skip ?_
        exact run_sub' (hmid _ _ _ ⟨rfl, ⟨r, placeB ts (j + 1)⟩, rfl, hr, .inl hd, rfl, rfl⟩) ⟨rfl, rfl, rfl, rfl, rfl, rfl, rfl, trivial⟩
      · refine run_cond (t := true) rfl (fun _ => ?_) (fun h => by cases h)
        (refine run_region ?_; (repeat (first | refine zq ?_ | refine zx fun _ => ?_)); refine runL_nil ?_)
        exact run_sub' (hmid _ _ _ ⟨rfl, ⟨rc0, placeB ts (j + 1)⟩, rfl, hr, .inr ⟨rfl, hd⟩, rfl, rfl⟩) ⟨rfl, rfl, rfl, rfl, rfl, rfl, rfl, trivial⟩
    rintro _ _ _ ⟨rfl, y, hye, hyo, hyd, rfl, rfl⟩
    refine run_seq ?_
    refine run_region ?_
    repeat (first | refine wq ?_ | refine wg ?_)
    refine runL_as 42 (.agg ⟨enC y⟩) rfl (by rw [← hye]; rfl) ?_
    refine ro (st_yield rfl rfl (fun _ => hafter y hye hyo hyd)) ?_
    rintro v M3 _ ⟨L3, rfl, hM3, hv⟩
    have hM03 := Mem.le_trans hM02 hM3
    rcases hv with ⟨rfl, hI3⟩ | ⟨rfl, hX⟩
    · repeat (first | refine zc ?_ | refine zk ?_ | refine zx fun _ => ?_)
      refine run_cond rfl (fun hc => by cases hc) (fun _ => ?_)
      repeat (first | refine zz ?_ | refine zx fun _ => ?_)
      exact run_mem (fun _ h => h.drop) (run_sub' (hnext _ _ _ ⟨hlt, hM03, hI3, rfl⟩) ⟨lk_succ rfl (by omega), rfl, rfl, rfl, rfl, rfl, trivial⟩)
    · repeat (first | refine zc ?_ | refine zk ?_ | refine zx fun _ => ?_)
      refine run_cond rfl (fun _ => ?_) (fun hc => by cases hc)
      exact run_ret hC (rs := []) rfl resN (fun _ h => h.drop) ⟨hM03, .inr ⟨_, hX⟩⟩
  have hje : j = ts.length := by simp at h; omega
  subst hje
  repeat (first | refine zz ?_ | refine zx fun _ => ?_)
  exact run_end hC (rs := []) rfl resN (fun _ h => h) ⟨hM1, .inl hI1⟩
end Go.Proofs.YtkjljcgbnikmkaaGreatDoor
namespace Go.Proofs.YtkjljcgbnikmkaaGreatDoor
open Go.Chi
set_option maxRecDepth 10000
structure EsOk (ts : List ByteArray) (es : List (Re × Nat)) : Prop where
  len : es.length = ts.length
  at_ : ∀ (j : Nat) (t : ByteArray) (p : Re × Nat), ts[j]? = some t → es[j]? = some p → Dec t p.1 ∧ p.2 = placeB ts (j + 1)
theorem dCut_ok {x : Ds} (hx : DsOk x) (n : Nat) : DsOk (dCut x n).2 := by
  have h2 := hx.fit
  refine wr_ok hx ?_
  split
  · exact hx
  · rename_i h
    have hs := ext0_size (s := x.s) (n := n) (by omega)
    exact ⟨by show n ≤ (x.s.extract 0 n).size; omega, by show (x.s.extract 0 n).size ≤ x.room; omega, hx.room⟩
theorem dCut_left (x : Ds) (n : Nat) : (dCut x n).2.left ≤ x.left := wr_left (by split <;> exact Nat.le_refl _)
theorem dCut_zero {x : Ds} {n : Nat} (h : (dCut x n).1 = 0) : (dCut x n).2.s = x.s.extract 0 n ∧ (dCut x n).2.syn = n ∧ (dCut x n).2.room = x.room ∧ n ≤ x.s.size := by
  unfold dCut at h ⊢
  by_cases h1 : x.s.size < n
  · exfalso
    rw [if_pos h1] at h
    unfold wr at h
    split at h
    · cases h
    · split at h
      · rename_i h2; cases h2.1
      · cases h
  · rw [if_neg h1] at h ⊢
    unfold wr at h ⊢
    by_cases h2 : x.armed = true ∧ x.left = 0
    · rw [if_pos h2] at h; cases h
    · rw [if_neg h2]
      split <;> exact ⟨rfl, rfl, rfl, by omega⟩
def openX (x : Ds) (n : Nat) : Int × Ds := if n < x.s.size then dCut x n else (0, x)
def OpK (M : Mem) (bd : Nat) (x : Ds) (ts : List ByteArray) (L0 : HL) (v : Value) (M' : Mem) (L' : HL) : Prop :=
  M.le M' ∧ (((∃ t ∈ ts, ∀ z, ¬ Dec t z) ∧ v = .tuple ⟨[.pointer none, .int .i64 7]⟩ ∧ ∃ a cap, L' = dkB bd x a cap :: L0 ∧ BV M' a cap x.s) ∨
    ((∀ t ∈ ts, ∃ z, Dec t z) ∧ (((openX x (frsB firstB ts).size).1 ≠ 0 ∧ v = .tuple ⟨[.pointer none, .int .i64 (openX x (frsB firstB ts).size).1]⟩ ∧ ∃ a cap, L' = dkB bd (openX x (frsB firstB ts).size).2 a cap :: L0 ∧ BV M' a cap (openX x (frsB firstB ts).size).2.s) ∨
      ((openX x (frsB firstB ts).size).1 = 0 ∧ ∃ bl es, v = .tuple ⟨[pt bl, .int .i64 0]⟩ ∧ EsOk ts es ∧ WlOwn M' bl bd ⟨es, headB firstB ts, (openX x (frsB firstB ts).size).2⟩ L0 L'))))
theorem perm6 (d D p7 g p3 p2 : Nat × Obj) (N B : HL) : (d :: D :: p7 :: g :: p3 :: p2 :: (N ++ B)).Perm (D :: p7 :: p3 :: p2 :: g :: (N ++ (d :: B))) :=
  ((List.perm_middle (l₁ := D :: p7 :: g :: p3 :: p2 :: N)).symm).trans (List.Perm.cons _ (List.Perm.cons _ (List.perm_middle (l₁ := [p3, p2])).symm))
set_option maxHeartbeats 16000000 in
theorem wOpen_ok (M : Mem) (L0 : HL) (bd : Nat) (x : Ds) (a : Option Addr) (cap : Nat) (ts : List ByteArray) (rest : ByteArray) (hk : KM M) (hx : DsOk x) (hv : BV M a cap x.s) (hl : x.left < 9223372036854775808) (h : Scn firstB x.s ts rest) :
    Tr Tryz.prog 14 [pt bd] M (dkB bd x a cap :: L0) (OpK M bd x ts L0) := by
  have hfit := hx.fit
  have hroom := hx.room
  have hfs : (frsB firstB ts).size ≤ x.s.size := by
    have := congrArg ByteArray.size h.eq
    rw [app_size] at this; omega
  have htl := frsB_len firstB ts
  have hhd : (headB firstB ts).size = 32 := headB_size _ _ rfl
  refine Tr.intro 52 Tryz.func14 rfl rfl Tryz.call14 rfl ?_
  intro C hC hro
  repeat (first | refine zz ?_ | refine zx fun _ => ?_)
  rename_i b2 b3
  refine run_cond rfl (fun h => by cases h) (fun _ => ?_)
  refine run_skip ?_
  refine run_mem (L' := dkB bd x a cap :: (b3, .cells ⟨[.int .i64 0]⟩ 38 (0, 0)) :: (b2, .cells ⟨[.pointer none]⟩ 25 (0, 0)) :: L0) (fun _ h => h.perm (List.perm_middle (l₁ := [_, _]))) ?_
  repeat (first | refine zz ?_ | refine zx fun _ => ?_ | refine rq (qt_callF rfl (fun _ => dkBytes_ok M _ bd x a cap hv)) ?_ | (refine ro (st_callF rfl (fun _ => chScan_ok _ _ x.s rest ts hk h (by omega))) ?_; rintro _ M1 _ ⟨hM1, lv, N, rfl, rfl, hO⟩))
  rename_i bl b7
  let LL := fun (v res err : Value) (N R : HL) => (b7, Obj.cells ⟨[pt bl]⟩ 25 (0, 0)) :: lgB bl bd v (headB firstB ts) :: (b3, Obj.cells ⟨[err]⟩ 38 (0, 0)) :: (b2, Obj.cells ⟨[res]⟩ 25 (0, 0)) :: (N ++ (dkB bd x a cap :: R))
  refine runL_memE (fun M' L' => M1.le M' ∧ L' = LL (.slice none 0 0) (.pointer none) (.int .i64 0) [] L0 ∧ ∃ a2 c2, lv = .slice a2 ts.length c2 ∧ SlM M' 1 a2 ts.length (ts.map stC)) (fun w hw => ?_) ?_
  · obtain ⟨M', a2, c2, h1, h2, h3, h4⟩ := (hw.perm (pm2 _ _ N _)).freezeOS (ls := ts.map stC) hO (by simp) (stC_all ts)
    exact ⟨M', _, h2.perm (List.Perm.cons _ (List.Perm.cons _ (List.perm_middle (l₁ := [_, _])).symm)), h1, rfl, a2, c2, h3, h4⟩
  rintro M2 _ ⟨hM2, rfl, a2, c2, rfl, hsl⟩
  have hM02 := Mem.le_trans hM1 hM2
  repeat (first | refine wq ?_ | refine wg ?_)
  refine ro (st_callF rfl (fun _ => wentries_ok _ _ (.slice a2 ts.length c2))) ?_
  rintro _ M3 _ ⟨hM3, rfl, bs, rfl, hbs⟩
  have hM03 := Mem.le_trans hM02 hM3
  have hit := entries1_ok M3 bs a2 c2 ts (hk.le hM03) hbs (hsl.le hM3) h.sh (by omega)
  refine runL_nil ?_
  refine run_block ?_
  refine run_rangeQ hro rfl hit rfl (by rintro k M' _ ⟨y, t, rfl, _⟩; rfl)
    (fun k M' L' => M3.le M' ∧ k ≤ ts.length ∧ ∃ (es : List En) (v : Value) (N : HL), es.length = k ∧ (∀ (j : Nat) (y : En) (t : ByteArray), es[j]? = some y → ts[j]? = some t → Dec t y.r.re ∧ y.e = placeB ts (j + 1)) ∧ (∀ y ∈ es, RcOk M' y.r) ∧ OS 74 11 v k (es.map enC).flatten N ∧ L' = LL v (.pointer none) (.int .i64 0) N L0)
    (fun c _ M' L' => c = .ret ∧ M3.le M' ∧ (∃ t ∈ ts, ∀ z, ¬ Dec t z) ∧ ∃ v N, L' = LL v (.pointer none) (.int .i64 7) N L0)
    ?_ ?_ ?_ ?_ ?_
  · rintro k M4 M5 L5 hle ⟨h1, h2, es, v, N, h3, h4, h5, h6, h7⟩
    exact ⟨Mem.le_trans h1 hle, h2, es, v, N, h3, h4, fun y hy => (h5 y hy).le hle, h6, h7⟩
  · exact ⟨Mem.le_refl _, Nat.zero_le _, [], _, [], rfl, (fun j y t hy => by simp at hy), (fun y hy => by cases hy), OS.nil _ _, rfl⟩
  · rintro j _ M4 _ R R' C' ⟨hjl, y, t, rfl, hyo, hye, ht, hyd⟩ hM4 ⟨hM4', _, es, v, N, hel, hes, heo, hO2, rfl⟩ B
    obtain ⟨av, cv, rfl⟩ := osV hO2
    simp only [LL, List.cons_append, List.append_assoc]
    repeat (first | refine zz ?_ | refine zx fun _ => ?_)
    rename_i b8
    refine B.begin' ((b8, .cells ⟨enC y⟩ 74 (0, 0)) :: LL (.slice av j cv) (.pointer none) (.int .i64 0) N L0) (by simp [LL]; rfl) ?_
    simp only [LL, List.cons_append, List.append_assoc]
    repeat (first | refine zz ?_ | refine zx fun _ => ?_)
    refine run_cond rfl (fun hc => ?_) (fun hc => ?_)
    · have h0 : y.r.kind = 0 := by simpa using hc
      have hbad : ∃ t ∈ ts, ∀ z, ¬ Dec t z := by
        rcases hyd with hyd | hyd
        · exfalso
          have := hyd.1.kind
          have e : y.r.re.kind = y.r.kind := rfl
          omega
        · exact ⟨t, List.mem_of_getElem? ht, hyd.2⟩
      repeat (first | refine zz ?_ | refine zx fun _ => ?_)
      exact B.ret' (L2 := LL (.slice av j cv) (.pointer none) (.int .i64 7) N L0) (Mem.le_refl _) (fun w h => by simpa [LL, cellsL] using h.drop) ⟨rfl, hM4', hbad, _, N, rfl⟩
    · have h0 : y.r.kind ≠ 0 := by simpa using hc
      have hdy : Dec t y.r.re := hyd.resolve_right fun e => h0 e.1
      refine run_skip ?_
      refine prn_start mixed ?_
      refine pr_q 0 (by decide +kernel) rfl (ql tok rfl) rfl rfl rfl ?_
      refine pr_q 1 (by decide +kernel) rfl (ql tok rfl) rfl rfl rfl ?_
      refine pr_q 2 (by decide +kernel) rfl (qt_pev tok rfl) rfl rfl rfl ?_
      refine pr_q 3 (by decide +kernel) rfl (qt_pev tok rfl) rfl rfl rfl ?_
      refine pr_q 4 (by decide +kernel) rfl (ql tok rfl) rfl rfl rfl ?_
      refine pr_q 5 (by decide +kernel) rfl (qt_ld (v := .agg ⟨enC y⟩) tok rfl List.mem_cons_self rfl) rfl rfl rfl ?_
      refine pr_one 6 (by decide +kernel) (eff1 6 rfl (st_buildSlice tok rfl rfl rfl rfl rfl rfl rfl) (by decide +kernel) (qs := _) rfl rfl rfl rfl ?_)
      rintro _ _ _ ⟨b9, rfl, rfl, rfl⟩
      refine ⟨by (repeat (first | exact trivial | refine And.intro (pend_q rfl rfl rfl (qt_pev tok rfl)) ?_ | refine And.intro (pend_q rfl rfl rfl (ql tok rfl)) ?_)), ?_⟩
      refine pr_one 7 (by decide +kernel) (eff1 7 rfl (st_append (news := enC y) tok rfl rfl rfl rfl rfl rfl rfl rfl (pm6 _ _ _ _ _ _ N _) hO2 (.inr ⟨b9, 0, 1, rfl, cellsAll List.mem_cons_self, rfl⟩) (enC_one _) (by omega) (by omega)) (by decide +kernel) (qs := _) rfl rfl rfl rfl ?_)
      rintro _ _ _ ⟨N', rfl, rfl, hO3⟩
      obtain ⟨av', cv', rfl⟩ := osV hO3
      refine ⟨by (repeat (first | exact trivial | refine And.intro (pend_q rfl rfl rfl (qt_pev tok rfl)) ?_ | refine And.intro (pend_q rfl rfl rfl (ql tok rfl)) ?_)), ?_⟩
      refine pr_q 8 (by decide +kernel) rfl (qt_pev tok rfl) rfl rfl rfl ?_
      refine pr_q 9 (by decide +kernel) rfl (qt_pev tok rfl) rfl rfl rfl ?_
      refine pr_one 10 (by decide +kernel) (eff0 10 rfl (sst tok rfl rfl rfl rfl rfl) (by decide +kernel) (qs := _) rfl ?_)
      rintro _ _ _ ⟨rfl, rfl, rfl⟩
      refine ⟨by (repeat (first | exact trivial | refine And.intro (pend_q rfl rfl rfl (qt_pev tok rfl)) ?_ | refine And.intro (pend_q rfl rfl rfl (ql tok rfl)) ?_)), ?_⟩
      refine pr_end (by decide +kernel) (by decide +kernel) ?_
      refine run_inBlock ?_
      have hjt : j < ts.length := (List.getElem?_eq_some_iff.1 ht).1
      refine B.fin' (L2 := LL (.slice av' (j + 1) cv') (.pointer none) (.int .i64 0) N' L0) (Mem.le_refl _) (fun w h => ?_) ⟨hM4', hjt, es ++ [y], _, N', by simp [hel], ?_, ?_, ?_, rfl⟩
      · have h2 := ((h.perm List.perm_middle).drop.perm List.perm_middle).drop.perm (pm4 _ _ _ _ N' _).symm
        simpa [LL, cellsL] using h2
      · intro i z u hi hu
        by_cases e : i < es.length
        · rw [List.getElem?_append_left e] at hi; exact hes i z u hi hu
        · rw [List.getElem?_append_right (by omega)] at hi
          have h1 := (List.getElem?_eq_some_iff.1 hi).1
          simp at h1
          have : i = j := by omega
          subst this
          rw [hel, Nat.sub_self] at hi
          simp at hi
          subst hi
          rw [ht] at hu; cases hu
          exact ⟨hdy, hye⟩
      · intro z hz
        rcases List.mem_append.1 hz with hz | hz
        · exact heo z hz
        · simp at hz; subst hz; exact hyo
      · rw [List.map_append, List.flatten_append]
        have e : ([y].map enC).flatten = enC y := by simp
        rw [e]; exact hO3
  · rintro D M4 _ hM4 ⟨hM4', _, es, v, N, hel, hes, heo, hO2, rfl⟩
    have hM04 := Mem.le_trans hM03 hM4'
    obtain ⟨av, cv, rfl⟩ := osV hO2
    have hall : ∀ t ∈ ts, ∃ z, Dec t z := fun t ht => by
      obtain ⟨i, hi, he⟩ := List.mem_iff_getElem.1 ht
      have hi2 : i < es.length := by omega
      exact ⟨_, (hes i es[i] t (List.getElem?_eq_getElem hi2) (by rw [List.getElem?_eq_getElem hi, he])).1⟩
    have hEs : EsOk ts (es.map En.abs) := ⟨by simp [hel], fun i t p h1 h2 => by
      rw [List.getElem?_map, Option.map_eq_some_iff] at h2
      obtain ⟨z, hz, rfl⟩ := h2
      exact hes i z t hz h1⟩
    have hv4 := hv.mono hM04
    refine run_mem (L' := dkB bd x a cap :: (D, .deferred (some [])) :: (b7, Obj.cells ⟨[pt bl]⟩ 25 (0, 0)) :: lgB bl bd (.slice av ts.length cv) (headB firstB ts) :: (b3, Obj.cells ⟨[.int .i64 0]⟩ 38 (0, 0)) :: (b2, Obj.cells ⟨[.pointer none]⟩ 25 (0, 0)) :: (N ++ L0)) (fun _ h => h.perm (List.perm_middle (l₁ := _ :: _ :: _ :: _ :: _ :: N))) ?_
    have hWl : ∀ (x' : Ds) (a' : Option Addr) (cap' : Nat) (M5 : Mem), M4.le M5 → DsOk x' → x'.left < 9223372036854775808 → BV M5 a' cap' x'.s → (frsB firstB ts).size ≤ x'.s.size → WlOwn M5 bl bd ⟨es.map En.abs, headB firstB ts, x'⟩ L0 (lgB bl bd (.slice av ts.length cv) (headB firstB ts) :: (N ++ (dkB bd x' a' cap' :: L0))) :=
      fun x' a' cap' M5 h1 h2 h3 h4 h5 => ⟨⟨es, _, N, a', cap', rfl, by rw [hel]; exact hO2, rfl, fun y hy => (heo y hy).le h1, h4⟩, hhd, h2, by show (es.map En.abs).length ≤ x'.s.size; rw [List.length_map]; omega, h3⟩
    repeat (first | refine zz ?_ | refine zx fun _ => ?_ | refine rq (qt_callF rfl (fun _ => dkLen_ok M4 _ bd x a cap)) ?_)
    refine run_cond rfl (fun hc => ?_) (fun hc => ?_)
    · have hlt : (frsB firstB ts).size < x.s.size := by simp at hc; omega
      have hox : openX x (frsB firstB ts).size = dCut x (frsB firstB ts).size := by rw [openX, if_pos hlt]
      unfold OpK at hC
      rw [hox] at hC
      have hz := @dCut_zero x (frsB firstB ts).size
      have hdk1 := dCut_ok hx (frsB firstB ts).size
      have hl1 := Nat.lt_of_le_of_lt (dCut_left x (frsB firstB ts).size) hl
      repeat (first | refine zz ?_ | refine zx fun _ => ?_ | refine ro (st_callF rfl (fun _ => dkCut_ok M4 _ bd _ x a cap hx hv4 hl)) ?_; rintro _ M5 _ ⟨hM5, a5, c5, rfl, rfl, hv5⟩)
      generalize hdd : dCut x (frsB firstB ts).size = dd at hC hz hdk1 hl1 hv5
      obtain ⟨e, x1⟩ := dd
      simp only at hC hz hdk1 hl1 hv5
      have hM05 := Mem.le_trans hM04 hM5
      refine run_cond (t := (e != 0)) rfl (fun h2 => ?_) (fun h2 => ?_)
      · have h0 : e ≠ 0 := by simpa using h2
        repeat (first | refine zz ?_ | refine zx fun _ => ?_)
        exact run_ret1 hC (by (repeat (first | with_reducible apply Upd.here | with_reducible apply Upd.there | with_reducible apply Upd.append_left))) (rs := [.cell 2 25, .cell 3 38]) rfl (rl tok rfl (rl tok rfl resN)) (L' := dkB bd x1 a5 c5 :: L0) (fun w h => (((((h.perm (List.Perm.swap _ _ _)).drop.perm (List.Perm.swap _ _ _)).drop.perm (List.Perm.swap _ _ _)).drop.perm (List.Perm.swap _ _ _)).drop.perm (List.Perm.swap _ _ _)).drop.perm (List.perm_middle (l₁ := N)).symm |>.dropAll) ⟨hM05, .inr ⟨hall, .inl ⟨h0, rfl, a5, c5, rfl, hv5⟩⟩⟩
      · have h0 : e = 0 := by simpa using h2
        obtain ⟨z1, z2, z3, z4⟩ := hz h0
        repeat (first | refine zz ?_ | refine zx fun _ => ?_)
        refine run_ret1 hC (by (repeat (first | with_reducible apply Upd.here | with_reducible apply Upd.there | with_reducible apply Upd.append_left))) (rs := [.cell 2 25, .cell 3 38]) rfl (rl tok rfl (rl tok rfl resN)) (L' := lgB bl bd (.slice av ts.length cv) (headB firstB ts) :: (N ++ (dkB bd x1 a5 c5 :: L0))) (fun w h => (h.perm (perm6 _ _ _ _ _ _ N L0)).drop.drop.drop.drop) ⟨hM05, .inr ⟨hall, .inr ⟨h0, bl, _, rfl, hEs, hWl x1 a5 c5 M5 hM5 hdk1 hl1 hv5 (by rw [z1, ext0_size z4]; exact Nat.le_refl _)⟩⟩⟩
    · have hge : ¬ (frsB firstB ts).size < x.s.size := by simp at hc; omega
      have hox : openX x (frsB firstB ts).size = (0, x) := by rw [openX, if_neg hge]
      unfold OpK at hC
      rw [hox] at hC
      repeat (first | refine zz ?_ | refine zx fun _ => ?_)
      refine run_ret1 hC (by (repeat (first | with_reducible apply Upd.here | with_reducible apply Upd.there | with_reducible apply Upd.append_left))) (rs := [.cell 2 25, .cell 3 38]) rfl (rl tok rfl (rl tok rfl resN)) (L' := lgB bl bd (.slice av ts.length cv) (headB firstB ts) :: (N ++ (dkB bd x a cap :: L0))) (fun w h => (h.perm (perm6 _ _ _ _ _ _ N L0)).drop.drop.drop.drop) ⟨hM04, .inr ⟨hall, .inr ⟨rfl, bl, _, rfl, hEs, hWl x a cap M4 (Mem.le_refl _) hx hl hv4 hfs⟩⟩⟩
  · rintro _ j D M4 _ hM4 ⟨rfl, hM4', hbad, v, N, rfl⟩
    simp only [LL]
    exact run_ret1 hC (by (repeat (first | with_reducible apply Upd.here | with_reducible apply Upd.there | with_reducible apply Upd.append_left))) (rs := [.cell 2 25, .cell 3 38]) rfl (rl tok rfl (rl tok rfl resN)) (L' := dkB bd x a cap :: L0) (fun w h => h.drop.drop.drop.drop.drop.dropAll) ⟨Mem.le_trans hM03 hM4', .inl ⟨hbad, rfl, a, cap, rfl, hv.mono (Mem.le_trans hM03 hM4')⟩⟩
end Go.Proofs.YtkjljcgbnikmkaaGreatDoor
namespace Go.Proofs.YtkjljcgbnikmkaaGreatDoor
open Go.Chi
theorem nofr_nil (l : ByteArray) : NoFr l bz := by
  intro u y hu e
  have h2 := congrArg ByteArray.size e
  rw [app_size, frB_size] at h2
  have : bz.size = 0 := rfl
  omega
theorem nofr_short {l t rest z : ByteArray} (ht : t.size ≤ 8192) (h : frB l t = rest ++ z) (hz : z.size ≠ 0) : NoFr l rest := by
  intro u y hu e
  rw [e, app_assoc] at h
  have h3 := (fr_uniq (x := bz) (y := y ++ z) ht hu (by rw [show frB l t ++ bz = frB l t from app_nil _]; exact h)).2
  have h2 := congrArg ByteArray.size h3
  rw [app_size] at h2
  have : bz.size = 0 := rfl
  omega
theorem cut_left {a b : ByteArray} {k : Nat} (h : k ≤ a.size) : (a ++ b).extract 0 k = a.extract 0 k := by
  apply ba_ext
  rw [ba_extract, ba_extract, ba_app, List.take_append_of_le_length (by rw [ba_len]; exact h)]
theorem cut_right {a b : ByteArray} {k : Nat} (h : a.size ≤ k) : (a ++ b).extract 0 k = a ++ b.extract 0 (k - a.size) := by
  apply ba_ext
  rw [ba_extract, ba_app, ba_app, ba_extract, List.drop_zero, List.drop_zero, List.take_append, ba_len, List.take_of_length_le (by rw [ba_len]; exact h)]
theorem scn_cut : ∀ (ts : List ByteArray) (l : ByteArray) (k : Nat), AllSh ts → k ≤ (frsB l ts).size → ∃ m rest, m ≤ ts.length ∧ Scn l ((frsB l ts).extract 0 k) (ts.take m) rest ∧ (∀ j, j ≤ ts.length → (frsB l (ts.take j)).size ≤ k → j ≤ m) ∧ (frsB l (ts.take m)).size ≤ k
  | [], l, k, _, hk => by
    have h0 : (frsB l []).size = 0 := rfl
    have : k = 0 := by omega
    subst this
    refine ⟨0, bz, Nat.le_refl _, ⟨rfl, (fun t ht => by cases ht), nofr_nil _⟩, fun j hj _ => by simpa using hj, Nat.le_refl _⟩
  | t :: ts, l, k, hs, hk => by
    have ht := hs t List.mem_cons_self
    rw [frsB] at hk ⊢
    by_cases h : k < (frB l t).size
    · refine ⟨0, (frB l t).extract 0 k, Nat.zero_le _, ⟨?_, (fun t ht => by cases ht), ?_⟩, fun j hj hjk => ?_, Nat.zero_le _⟩
      · rw [cut_left (by omega)]; exact (nil_app _).symm
      · show NoFr l _
        refine nofr_short ht (z := (frB l t).extract k (frB l t).size) (ext_split _ (by omega)) ?_
        rw [← ba_len, ba_extract, List.length_drop, List.take_of_length_le (by rw [ba_len]; exact Nat.le_refl _), ba_len]
        omega
      · rcases j with _ | j
        · omega
        · exfalso
          rw [List.take_succ_cons, frsB, app_size] at hjk
          omega
    · obtain ⟨m, rest, h1, h2, h3, h4⟩ := scn_cut ts (nextB l t) (k - (frB l t).size) (fun u hu => hs u (List.mem_cons_of_mem _ hu)) (by rw [app_size] at hk; omega)
      refine ⟨m + 1, rest, by simp; omega, ⟨?_, ?_, ?_⟩, fun j hj hjk => ?_, ?_⟩
      · rw [cut_right (by omega), h2.eq, List.take_succ_cons, frsB, app_assoc]
      · intro u hu
        rw [List.take_succ_cons] at hu
        rcases List.mem_cons.1 hu with rfl | hu
        · exact ht
        · exact h2.sh u hu
      · rw [List.take_succ_cons]; exact h2.no
      · rcases j with _ | j
        · omega
        · rw [List.take_succ_cons, frsB, app_size] at hjk
          have := h3 j (by simpa using hj) (by omega)
          omega
      · rw [List.take_succ_cons, frsB, app_size]; omega
structure Keeps (S : Wl) (ts : List ByteArray) : Prop where
  sh : AllSh ts
  s : S.x.s = frsB firstB ts
  hd : S.head = headB firstB ts
  es : EsOk ts S.es
def SureP (x : Ds) (ts : List ByteArray) (n : Nat) : Prop := n ≤ ts.length ∧ placeB ts n ≤ x.syn
theorem place_app {ts : List ByteArray} (us : List ByteArray) {n : Nat} (h : n ≤ ts.length) : placeB (ts ++ us) n = placeB ts n := by
  unfold placeB; rw [List.take_append_of_le_length h]
theorem place_all (ts : List ByteArray) : placeB ts ts.length = (frsB firstB ts).size := by
  unfold placeB; rw [List.take_of_length_le (Nat.le_refl _)]
theorem place_take (ts : List ByteArray) {n m : Nat} (h : n ≤ m) : placeB (ts.take m) n = placeB ts n := by
  unfold placeB; rw [List.take_take, Nat.min_eq_left h]
theorem place_mono (ts : List ByteArray) {n m : Nat} (h : n ≤ m) : placeB ts n ≤ placeB ts m := by
  rw [← place_take ts h]; exact place_le2 (ts.take m) n
theorem EsOk.ext {ts us : List ByteArray} {es fs : List (Re × Nat)} (h : EsOk ts es) (k : EsOk us fs) (m : Nat) (hu : us = ts.take m) : fs.map Prod.fst = (es.map Prod.fst).take m := by
  subst hu
  have h1 := h.len
  have h2 := k.len
  rw [List.length_take] at h2
  apply List.ext_getElem?
  intro j
  rw [List.getElem?_take]
  split
  · rename_i hj
    rw [List.getElem?_map, List.getElem?_map]
    by_cases hl : j < ts.length
    · have hf : j < fs.length := by omega
      have he : j < es.length := by omega
      rw [List.getElem?_eq_getElem hf, List.getElem?_eq_getElem he]
      have ht := List.getElem?_eq_getElem hl
      have d1 := (h.at_ j _ _ ht (List.getElem?_eq_getElem he)).1
      have d2 := (k.at_ j _ _ (by rw [List.getElem?_take_of_lt hj]; exact ht) (List.getElem?_eq_getElem hf)).1
      simp [d2.uniq d1]
    · rw [List.getElem?_eq_none (by omega), List.getElem?_eq_none (by omega)]
  · rw [List.getElem?_eq_none (by rw [List.length_map]; omega)]
theorem firstN_ge {α : Type} {q : α → Bool} : ∀ {l : List α} {n : Nat}, n ≤ l.length → (∀ (i : Nat) (y : α), i < n → l[i]? = some y → q y = true) → n ≤ firstN q l
  | _, 0, _, _ => Nat.zero_le _
  | [], n + 1, h, _ => by simp at h
  | x :: l, n + 1, h, hq => by
    have h0 := hq 0 x (by omega) rfl
    have := firstN_ge (l := l) (n := n) (q := q) (by simpa using h) (fun i y hi hy => hq (i + 1) y (by omega) (by simpa using hy))
    unfold firstN at this ⊢
    rw [List.takeWhile_cons, h0]
    simp only [if_true, List.length_cons]
    omega
theorem sure_syn {S : Wl} {ts : List ByteArray} {n : Nat} (h : Keeps S ts) (hs : SureP S.x ts n) : n ≤ synW S := by
  refine firstN_ge (by rw [h.es.len]; exact hs.1) fun i y hi hy => ?_
  have hl : i < ts.length := by have := hs.1; omega
  have e := (h.es.at_ i _ y (List.getElem?_eq_getElem hl) hy).2
  have h1 := place_mono ts (n := i + 1) (m := n) (by omega)
  have h2 := hs.2
  rw [decide_eq_true_eq, e]
  omega
theorem wr_fail {x : Ds} {r : Int × Ds} (h : (wr x r).1 ≠ 0) (hr : r.1 ≠ 0 → r.2.s = x.s ∧ r.2.syn = x.syn) : (wr x r).2.s = x.s ∧ (wr x r).2.syn = x.syn := by
  unfold wr at h ⊢
  split
  · exact ⟨rfl, rfl⟩
  · rename_i h1
    rw [if_neg h1] at h
    split
    · rename_i h2; rw [if_pos h2] at h; exact absurd rfl h
    · rename_i h2; rw [if_neg h2] at h; exact hr h
theorem keeps_app {S : Wl} {ts : List ByteArray} {M : Mem} {r : Rc} (h : Keeps S ts) (hr : RcOk M r) :
    ((wApp S r).1 = 0 ∧ (encE r).2 = 0 ∧ Keeps (wApp S r).2 (ts ++ [(encE r).1]) ∧ (wApp S r).2.es.map Prod.fst = S.es.map Prod.fst ++ [r.re] ∧ (wApp S r).2.x.syn = S.x.syn) ∨
    ((wApp S r).1 ≠ 0 ∧ Keeps (wApp S r).2 ts ∧ (wApp S r).2.es = S.es ∧ (wApp S r).2.x.syn = S.x.syn) := by
  unfold wApp encF
  by_cases he : (encE r).2 = 0
  · rw [if_neg (by simpa using he)]
    by_cases hd : (dApp S.x (frB S.head (encE r).1)).1 = 0
    · rw [if_neg (by simpa using hd)]
      obtain ⟨z1, z2, z3, z4⟩ := dApp_zero hd
      have hs8 := encE_size he
      have hs2 : (dApp S.x (frB S.head (encE r).1)).2.s = frsB firstB (ts ++ [(encE r).1]) := by
        rw [z1, h.s, h.hd, frsB_app, frsB_one]
      refine .inl ⟨rfl, he, ⟨?_, hs2, ?_, ?_⟩, by simp, z2⟩
      · intro t ht
        rcases List.mem_append.1 ht with ht | ht
        · exact h.sh t ht
        · simp at ht; subst ht; exact hs8
      · show nextB S.head _ = _
        rw [headB_app, ← h.hd]; rfl
      · refine ⟨by simp [h.es.len], fun j t p hj hp => ?_⟩
        by_cases hl : j < ts.length
        · rw [List.getElem?_append_left hl] at hj
          rw [List.getElem?_append_left (by rw [h.es.len]; exact hl)] at hp
          rw [place_app _ (by omega)]
          exact h.es.at_ j t p hj hp
        · have hjl := (List.getElem?_eq_some_iff.1 hj).1
          simp at hjl
          have : j = ts.length := by omega
          subst this
          rw [List.getElem?_append_right (Nat.le_refl _), Nat.sub_self] at hj
          rw [List.getElem?_append_right (by rw [h.es.len]; exact Nat.le_refl _), h.es.len, Nat.sub_self] at hp
          simp at hj hp
          subst hj hp
          refine ⟨enc_ok hr he, ?_⟩
          have e := place_all (ts ++ [(encE r).1])
          rw [List.length_append] at e
          show (dApp S.x (frB S.head (encE r).1)).2.s.size = _
          rw [hs2, ← e]; rfl
    · rw [if_pos hd]
      have hf := wr_fail (x := S.x) (r := if S.x.room - S.x.s.size < (frB S.head (encE r).1).size then (4, S.x) else (0, { S.x with s := S.x.s ++ frB S.head (encE r).1 })) hd (by
        split
        · exact fun _ => ⟨rfl, rfl⟩
        · exact fun h => absurd rfl h)
      exact .inr ⟨hd, ⟨h.sh, hf.1.trans h.s, h.hd, h.es⟩, rfl, hf.2⟩
  · rw [if_pos he]
    exact .inr ⟨he, h, rfl, rfl⟩
theorem keeps_sync {S : Wl} {ts : List ByteArray} (h : Keeps S ts) (hx : DsOk S.x) : Keeps (wSync S).2 ts ∧ (∀ n, SureP S.x ts n → SureP (wSync S).2.x ts n) ∧ ((wSync S).1 = 0 → SureP (wSync S).2.x ts ts.length) := by
  have hsyn : (dSync S.x).2.syn = S.x.syn ∨ (dSync S.x).2.syn = S.x.s.size := by
    unfold dSync wr
    split
    · exact .inl rfl
    · split <;> exact .inr rfl
  have h1 := hx.syn
  refine ⟨⟨h.sh, (dSync_s S.x).trans h.s, h.hd, h.es⟩, fun n hn => ⟨hn.1, ?_⟩, fun h0 => ⟨Nat.le_refl _, ?_⟩⟩
  · have := hn.2
    show _ ≤ (dSync S.x).2.syn
    omega
  · rw [place_all, ← h.s]
    show _ ≤ (dSync S.x).2.syn
    have h0 : (dSync S.x).1 = 0 := h0
    unfold dSync wr at h0 ⊢
    split
    · rename_i hc; rw [if_pos hc] at h0; cases h0
    · split <;> exact Nat.le_refl _
theorem keeps_arm {S : Wl} {ts : List ByteArray} (n : Int) (h : Keeps S ts) : Keeps { S with x := dArm S.x n } ts := ⟨h.sh, h.s, h.hd, h.es⟩
theorem openX_crash {x : Ds} {keep : Int} {n : Nat} (hn : n ≤ (dCrash x keep).s.size) (hs : (dCrash x keep).syn = (dCrash x keep).s.size) : (openX (dCrash x keep) n).1 = 0 ∧ (openX (dCrash x keep) n).2.s = (dCrash x keep).s.extract 0 n ∧ (openX (dCrash x keep) n).2.syn = n := by
  unfold openX
  split
  · have h0 : (dCut (dCrash x keep) n).1 = 0 := by
      unfold dCut
      rw [if_neg (by omega)]
      unfold wr
      rw [if_neg (by intro h; cases h.1), if_neg (by intro h; cases h.2)]
    obtain ⟨z1, z2, _, _⟩ := dCut_zero h0
    exact ⟨h0, z1, z2⟩
  · have e : n = (dCrash x keep).s.size := by omega
    subst e
    exact ⟨rfl, (ext_all _).symm, hs⟩
theorem dCrash_syn {x : Ds} (hx : DsOk x) (keep : Int) : (dCrash x keep).syn = (dCrash x keep).s.size := (ext0_size (crashN_le hx keep)).symm
theorem keeps_crash {S : Wl} {ts : List ByteArray} (h : Keeps S ts) (hx : DsOk S.x) (keep : Int) : ∃ m rest, m ≤ ts.length ∧ Scn firstB (dCrash S.x keep).s (ts.take m) rest ∧ (∀ t ∈ ts.take m, ∃ z, Dec t z) ∧ (∀ n, SureP S.x ts n → n ≤ m) ∧ (∀ n, SureP S.x ts n → SureP (dCrash S.x keep) (ts.take m) n) ∧ placeB ts m ≤ crashN S.x keep ∧
    (openX (dCrash S.x keep) (frsB firstB (ts.take m)).size).1 = 0 ∧ ∀ es, EsOk (ts.take m) es → Keeps ⟨es, headB firstB (ts.take m), (openX (dCrash S.x keep) (frsB firstB (ts.take m)).size).2⟩ (ts.take m) ∧ es.map Prod.fst = (S.es.map Prod.fst).take m ∧ SureP (openX (dCrash S.x keep) (frsB firstB (ts.take m)).size).2 (ts.take m) m := by
  have hk := crashN_le hx keep
  have hks : S.x.syn ≤ crashN S.x keep := by
    have := hx.syn
    unfold crashN; split <;> omega
  have e0 : (dCrash S.x keep).s = (frsB firstB ts).extract 0 (crashN S.x keep) := by rw [← h.s]; rfl
  obtain ⟨m, rest, h1, h2, h3, h4⟩ := scn_cut ts firstB (crashN S.x keep) h.sh (by rw [← h.s]; exact hk)
  have hle : (frsB firstB (ts.take m)).size ≤ (dCrash S.x keep).s.size := by
    have e : (dCrash S.x keep).s.size = crashN S.x keep := (dCrash_syn hx keep).symm
    omega
  obtain ⟨o1, o2, o3⟩ := openX_crash hle (dCrash_syn hx keep)
  rw [← e0] at h2
  have hpm : placeB ts m = (frsB firstB (ts.take m)).size := rfl
  refine ⟨m, rest, h1, h2, fun t ht => ?_, fun n hn => h3 n hn.1 (by have := hn.2; unfold placeB at this; omega), fun n hn => ?_, h4, o1, fun es he => ⟨⟨h2.sh, ?_, rfl, he⟩, EsOk.ext h.es he m rfl, ?_⟩⟩
  · obtain ⟨i, hi, e⟩ := List.mem_iff_getElem.1 (List.mem_of_mem_take ht)
    have hi2 : i < S.es.length := by rw [h.es.len]; exact hi
    exact ⟨_, (h.es.at_ i t S.es[i] (by rw [List.getElem?_eq_getElem hi, e]) (List.getElem?_eq_getElem hi2)).1⟩
  · have hnm : n ≤ m := h3 n hn.1 (by have := hn.2; unfold placeB at this; omega)
    refine ⟨by rw [List.length_take]; omega, ?_⟩
    rw [place_take ts hnm]
    have := hn.2
    show _ ≤ crashN S.x keep
    omega
  · show (openX (dCrash S.x keep) (frsB firstB (ts.take m)).size).2.s = _
    rw [o2, h2.eq, ext_left]
  · refine ⟨by rw [List.length_take]; omega, ?_⟩
    rw [o3, place_take ts (Nat.le_refl _), hpm]
    exact Nat.le_refl _
end Go.Proofs.YtkjljcgbnikmkaaGreatDoor
namespace Go.Proofs.YtkjljcgbnikmkaaGreatDoor
open Go.Chi
set_option maxRecDepth 10000
theorem OS.mem {e size : Nat} {v : Value} {n : Nat} {ls : List (List Value)} {N : HL} (h : OS e size v n ls.flatten N) (hsz : ∀ l ∈ ls, l.length = size) (hl : ls.length = n) {k : Nat} {c : List Value} (hk : ls[k]? = some c) :
    ∃ b cap cs, v = .slice (some ⟨b, 0, none⟩) n cap ∧ (b, Obj.cells ⟨cs⟩ e (0, 0)) ∈ N ∧ SegAt cs (0 + k * size) c := by
  obtain ⟨be, cape, cse, he, hN, _, _, hseg⟩ := OS.at_ h hsz hl hk
  exact ⟨be, cape, cse, he, by rw [hN]; exact List.mem_cons_self, hseg⟩
set_option maxHeartbeats 4000000 in
theorem dsameRows_ok (M : Mem) (L N : HL) (v w : Value) (n : Nat) (rs : List Rc) (hv : RcS M v (rs.map Rc.re)) (hO : OS 35 10 w n (rs.map rcC).flatten N) (hN : ∀ p ∈ N, p ∈ L) (hrl : rs.length = n) (hrs : ∀ r ∈ rs, RcOk M r) (hn : n < 10000000) : TrQ Tryz.prog 16 [v, w] M L (.bool true) := by
  obtain ⟨a, cap, qs, rfl, hsl, heq, hqs⟩ := hv
  obtain ⟨aw, cw, rfl⟩ := osV hO
  have hll : qs.length = n := by have := congrArg List.length heq; rw [List.length_map, List.length_map] at this; omega
  refine Tr.intro 27 Tryz.func16 rfl rfl Tryz.call16 rfl ?_
  intro C hC hro
  repeat (first | refine zz ?_ | refine zx fun _ => ?_)
  refine run_cond rfl (fun h => ?_) (fun h => ?_)
  · simp [hll] at h
  repeat (first | refine zz ?_ | refine zx fun _ => ?_)
  refine run_loopN (fun j σ1 M1 L1 => j ≤ qs.length ∧ M = M1 ∧ L = L1 ∧ σ1 = [(5, .int .i64 (j : Int)), (0, .slice a qs.length cap), (1, .slice aw n cw)]) qs.length [(5, .int .i64 ((0 : Nat) : Int)), (0, .slice a qs.length cap), (1, .slice aw n cw)] ?_ ⟨Nat.zero_le _, rfl, rfl, rfl⟩ (fun j _ _ _ h => h.1) ?_
  · exact ⟨rfl, rfl, rfl, trivial⟩
  rintro j _ _ _ ⟨hj, rfl, rfl, rfl⟩ hnext
  repeat (first | refine zz ?_ | refine zx fun _ => ?_)
  refine run_cond rfl (fun h => ?_) (fun h => ?_)
  · have hlt : j < qs.length := by simpa using h
    have hlt2 : j < rs.length := by omega
    have hq := List.getElem?_eq_getElem hlt
    have hr := List.getElem?_eq_getElem hlt2
    generalize qs[j] = q at hq
    generalize rs[j] = r at hr
    have hqo := hqs q (List.mem_of_getElem? hq)
    have hro' := hrs r (List.mem_of_getElem? hr)
    have hsame : sameRc q r = true := sameRc_true (by
      have e2 := congrArg (fun l : List Re => l[j]?) heq
      simp only [List.getElem?_map, hq, hr, Option.map_some] at e2
      exact Option.some.inj e2)
    obtain ⟨b, off, c, rfl, hc, _, hcells⟩ := hsl.at_ hlt
    have hcq : c = rcC q := by rw [List.getElem?_map, hq] at hc; exact (Option.some.inj hc).symm
    subst hcq
    obtain ⟨be, cape, cse, he, hNe, hseg⟩ := OS.mem (ls := rs.map rcC) hO (rcF_all rs) (by rw [List.length_map, hrl]) (k := j) (c := rcC r) (by rw [List.getElem?_map, hr]; rfl)
    cases he
    have hbe := hN _ hNe
    repeat (first | refine zz ?_ | refine zx fun _ => ?_ | refine dd ?_ | refine dz ?_ | refine dx fun _ => ?_ | refine pq rfl (qt_indexN tok rfl rfl rfl rfl (fun _ => hlt)) ?_ | refine pq rfl (qt_indexN tok rfl rfl rfl rfl (fun _ => by omega)) ?_ | refine pq rfl (qt_ldM0 (cs := rcC q) (v := .agg ⟨rcC q⟩) tok rfl hcells rfl) ?_ | refine pq rfl (qt_ldB0 (xs := rcC r) (v := .agg ⟨rcC r⟩) tok rfl hseg hbe rfl) ?_ | refine pq rfl (qt_callF rfl (fun _ => dsame_ok _ _ q r hqo.mem hro'.mem hqo.tags hro'.tags)) ?_)
    refine run_cond rfl (fun h => ?_) (fun h => ?_)
    · simp [hsame] at h
    · repeat (first | refine zz ?_ | refine zx fun _ => ?_)
      exact run_sub' (hnext _ _ _ ⟨hlt, rfl, rfl, rfl⟩) ⟨lk_succ rfl (by omega), rfl, rfl, trivial⟩
  · repeat (first | refine zz ?_ | refine zx fun _ => ?_)
    exact run_ret hC (rs := [.tmp 4]) rfl (resT rfl resN) (fun _ h => h) ⟨rfl, rfl, rfl⟩
theorem scn_nil : Scn firstB bz [] bz := ⟨rfl, (fun t ht => by cases ht), nofr_nil _⟩
def ds0 (room : Nat) : Ds := ⟨bz, 0, false, false, 0, room⟩
def wl0 (room : Nat) : Wl := ⟨[], firstB, ds0 room⟩
theorem keeps0 (room : Nat) : Keeps (wl0 room) [] := ⟨(fun t ht => by cases ht), rfl, rfl, ⟨rfl, fun j t p h => by simp at h⟩⟩
theorem ds0_ok {room : Nat} (h : room ≤ 1048576) : DsOk (ds0 room) := ⟨Nat.le_refl _, Nat.zero_le _, h⟩
theorem dkNewN_ok (M : Mem) (L : HL) (room : Nat) (h : room ≤ 1048576) : Tr Tryz.prog 26 [iv room] M L (fun v M' L' => M = M' ∧ ∃ b, v = .tuple ⟨[pt b, .int .i64 0]⟩ ∧ L' = dkB b (ds0 room) none 0 :: L) := by
  refine (dkNew_ok M L room).mono ?_
  rintro v M' L' ⟨rfl, ⟨h1, _⟩ | ⟨_, b, rfl, rfl⟩⟩
  · omega
  · exact ⟨rfl, b, rfl, rfl⟩
theorem wOpenG_ok (M : Mem) (L0 : HL) (bd : Nat) (x : Ds) (a : Option Addr) (cap : Nat) (ts : List ByteArray) (rest : ByteArray) (hk : KM M) (hx : DsOk x) (hv : BV M a cap x.s) (hl : x.left < 9223372036854775808) (h : Scn firstB x.s ts rest) (hd : ∀ t ∈ ts, ∃ z, Dec t z) (h0 : (openX x (frsB firstB ts).size).1 = 0) :
    Tr Tryz.prog 14 [pt bd] M (dkB bd x a cap :: L0) (fun v M' L' => M.le M' ∧ ∃ bl es, v = .tuple ⟨[pt bl, .int .i64 0]⟩ ∧ EsOk ts es ∧ WlOwn M' bl bd ⟨es, headB firstB ts, (openX x (frsB firstB ts).size).2⟩ L0 L') := by
  refine (wOpen_ok M L0 bd x a cap ts rest hk hx hv hl h).mono ?_
  rintro v M' L' ⟨h1, ⟨⟨t, ht, h2⟩, _⟩ | ⟨_, ⟨h3, _⟩ | ⟨_, bl, es, rfl, h4, h5⟩⟩⟩
  · obtain ⟨z, hz⟩ := hd t ht
    exact absurd hz (h2 z)
  · exact absurd h0 h3
  · exact ⟨h1, bl, es, rfl, h4, h5⟩
theorem esOk_nil {es : List (Re × Nat)} (h : EsOk [] es) : es = [] := List.length_eq_zero_iff.1 h.len
set_option maxHeartbeats 4000000 in
theorem begun_ok (M : Mem) (L : HL) (room : Nat) (hr : room ≤ 1048576) (hk : KM M) : Tr Tryz.prog 8 [iv room] M L (fun v M' L' => M.le M' ∧ ∃ bl bd, v = .tuple ⟨[pt bl, pt bd]⟩ ∧ WlOwn M' bl bd (wl0 room) L L') := by
  refine Tr.intro 31 Tryz.func8 rfl rfl Tryz.call8 rfl ?_
  intro C hC hro
  repeat (first | refine zz ?_ | refine zx fun _ => ?_ | (refine ro (st_callF rfl (fun _ => dkNewN_ok _ _ room hr)) ?_; rintro _ _ _ ⟨rfl, bd, rfl, rfl⟩))
  refine run_cond rfl (fun h => by cases h) (fun _ => ?_)
  repeat (first | refine zz ?_ | refine zx fun _ => ?_ | (refine ro (st_callF rfl (fun _ => wOpenG_ok _ _ bd (ds0 room) none 0 [] bz hk (ds0_ok hr) ⟨Nat.le_refl _, by decide, .inl ⟨rfl, rfl⟩⟩ (by show (0 : Nat) < _; decide) scn_nil (fun t ht => by cases ht) rfl)) ?_; rintro _ M1 _ ⟨hM1, bl, es, rfl, hes, hw⟩))
  refine run_cond rfl (fun h => by cases h) (fun _ => ?_)
  repeat (first | refine zz ?_ | refine zx fun _ => ?_)
  have := esOk_nil hes
  subst this
  exact run_ret hC (rs := [.tmp 2, .tmp 3]) rfl (resT rfl (resT rfl resN)) (fun _ h => h) ⟨hM1, bl, bd, rfl, hw⟩
def WlP (M : Mem) (bl bd : Nat) (S : Wl) (W : HL) : Prop := ∀ L0, WlOwn M bl bd S L0 (W ++ L0)
theorem WlOwn.p {M : Mem} {bl bd : Nat} {S : Wl} {L0 L : HL} (h : WlOwn M bl bd S L0 L) : ∃ W, L = W ++ L0 ∧ WlP M bl bd S W := by
  obtain ⟨⟨es, v, N, a, cap, rfl, h1, h2, h3, h4⟩, h5, h6, h7, h8⟩ := h
  exact ⟨lgB bl bd v S.head :: (N ++ [dkB bd S.x a cap]), by simp, fun L1 => ⟨⟨es, v, N, a, cap, by simp, h1, h2, h3, h4⟩, h5, h6, h7, h8⟩⟩
theorem WlP.le {M M' : Mem} {bl bd : Nat} {S : Wl} {W : HL} (hm : M.le M') (h : WlP M bl bd S W) : WlP M' bl bd S W := fun L0 => by
  obtain ⟨⟨es, v, N, a, cap, h0, h1, h2, h3, h4⟩, h5, h6, h7, h8⟩ := h L0
  exact ⟨⟨es, v, N, a, cap, h0, h1, h2, fun y hy => (h3 y hy).le hm, h4.mono hm⟩, h5, h6, h7, h8⟩
structure Stp where
  d : Int
  n : Int
  r : Rc
def stpC (s : Stp) : List Value := [.int .u8 s.d, .int .i64 s.n] ++ rcC s.r
structure StpIn (M : Mem) (s : Stp) : Prop where
  r : RcIn M s.r
  n : s.n < 9223372036854775808
structure Stps where
  a : Option Addr
  len : Nat
  cap : Nat
  xs : List Stp
abbrev Stps.v (s : Stps) : Value := .slice s.a s.len s.cap
structure StpsIn (M : Mem) (s : Stps) : Prop where
  sl : SlM M 12 s.a s.len (s.xs.map stpC)
  all : ∀ x ∈ s.xs, StpIn M x
theorem StpsIn.at_ {M : Mem} {s : Stps} (h : StpsIn M s) {k : Nat} (hk : k < s.len) : ∃ b off x, s.a = some ⟨b, off, none⟩ ∧ s.xs[k]? = some x ∧ Cells M [] b (off + k * 12) (stpC x) ∧ StpIn M x := by
  obtain ⟨b, off, c, h1, h2, _, h4⟩ := h.sl.at_ hk
  rw [List.getElem?_map, Option.map_eq_some_iff] at h2
  obtain ⟨x, hx, rfl⟩ := h2
  exact ⟨b, off, x, h1, hx, h4, h.all x (List.mem_of_getElem? hx)⟩
theorem StpsIn.len {M : Mem} {s : Stps} (h : StpsIn M s) : s.xs.length = s.len := by have := h.sl.1; simpa using this
def heavyS (s : Stps) : Bool := decide ((s.len : Int) > 60) || s.xs.any fun x => longR x.r
set_option maxHeartbeats 4000000 in
theorem heavy_ok (M : Mem) (L : HL) (s : Stps) (h : StpsIn M s) : TrQ Tryz.prog 6 [s.v] M L (.bool (heavyS s)) := by
  have hx := h.len
  refine Tr.intro 19 Tryz.func6 rfl rfl Tryz.call6 rfl ?_
  intro C hC hro
  repeat (first | refine zz ?_ | refine zx fun _ => ?_)
  refine run_cond rfl (fun hh => ?_) (fun hh => ?_)
  · repeat (first | refine zz ?_ | refine zx fun _ => ?_)
    exact run_ret hC (rs := [.tmp 2]) rfl (resT rfl resN) (fun _ h => h) ⟨by rw [heavyS, hh]; rfl, rfl, rfl⟩
  have h60 : s.len ≤ 60 := by simp at hh; omega
  rw [heavyS, hh, Bool.false_or] at hC
  repeat (first | refine zz ?_ | refine zx fun _ => ?_)
  refine run_loopN (fun j σ1 M1 L1 => j ≤ s.len ∧ M = M1 ∧ L = L1 ∧ ((s.xs.take j).any fun x => longR x.r) = false ∧ σ1 = [(3, .int .i64 (j : Int)), (0, s.v)]) s.len [(3, .int .i64 ((0 : Nat) : Int)), (0, s.v)] ?_ ⟨Nat.zero_le _, rfl, rfl, by simp, rfl⟩ (fun j _ _ _ h => h.1) ?_
  · exact ⟨rfl, rfl, trivial⟩
  rintro j _ _ _ ⟨hj, rfl, rfl, hpre, rfl⟩ hnext
  repeat (first | refine zz ?_ | refine zx fun _ => ?_)
  refine run_cond rfl (fun h1 => ?_) (fun h1 => ?_)
  · have hlt : j < s.len := by simpa using h1
    obtain ⟨b, off, x, ha, hm, hc, hxi⟩ := h.at_ hlt
    have hv : s.v = .slice (some ⟨b, off, none⟩) s.len s.cap := by rw [← ha]
    refine run_as 0 (.slice (some ⟨b, off, none⟩) s.len s.cap) rfl hv ?_
    repeat (first | refine zz ?_ | refine zx fun _ => ?_ | refine rq (qt_indexN tok rfl rfl rfl rfl (fun _ => hlt)) ?_ | refine rq (qt_ldM (k := 2) (cs := stpC x) (v := .agg ⟨rcC x.r⟩) tok rfl hc rfl) ?_ | refine rq (qt_callF rfl (fun _ => dlong_ok _ _ x.r hxi.r)) ?_)
    refine run_cond rfl (fun h2 => ?_) (fun h2 => ?_)
    · rw [any_true (fun x : Stp => longR x.r) hm h2] at hC
      repeat (first | refine zz ?_ | refine zx fun _ => ?_)
      exact run_ret hC (rs := [.tmp 2]) rfl (resT rfl resN) (fun _ h => h) ⟨rfl, rfl, rfl⟩
    · repeat (first | refine zz ?_ | refine zx fun _ => ?_)
      exact run_sub' (hnext _ _ _ ⟨hlt, rfl, rfl, by rw [any_snoc _ hm hpre]; exact h2, rfl⟩) ⟨lk_succ rfl (by omega), by rw [hv]; rfl, trivial⟩
  have hge : j = s.len := by simp at h1; omega
  rw [hge, List.take_of_length_le (by omega)] at hpre
  rw [hpre] at hC
  repeat (first | refine zz ?_ | refine zx fun _ => ?_)
  exact run_ret hC (rs := [.tmp 2]) rfl (resT rfl resN) (fun _ h => h) ⟨rfl, rfl, rfl⟩
end Go.Proofs.YtkjljcgbnikmkaaGreatDoor
namespace Go.Proofs.YtkjljcgbnikmkaaGreatDoor
open Go.Chi
set_option maxRecDepth 10000
theorem wArm_ok (M : Mem) (L0 L : HL) (bl bd : Nat) (S : Wl) (n : Int) (hn : n < 9223372036854775808) (ho : WlOwn M bl bd S L0 L) : Tr Tryz.prog 12 [pt bd, .int .i64 n] M L (fun _ M' L' => M = M' ∧ WlOwn M bl bd { S with x := dArm S.x n } L0 L') := by
  obtain ⟨⟨es, v, N, a, cap, rfl, hO, habs, hes, hv⟩, hhd, hdk, hlen, hleft⟩ := ho
  refine (dkArm_ok M (lgB bl bd v S.head :: (N ++ L0)) bd n S.x a cap).perm (pmD _ _ N L0) ?_
  rintro _ M' L' ⟨rfl, rfl⟩
  exact ⟨_, (pmD _ _ N L0).symm, rfl, ⟨⟨es, v, N, a, cap, rfl, hO, habs, hes, hv⟩, hhd, ⟨hdk.syn, hdk.fit, hdk.room⟩, hlen, by show n.toNat < _; omega⟩⟩
theorem wCrash_ok (M : Mem) (L0 L : HL) (bl bd : Nat) (S : Wl) (n : Int) (ho : WlOwn M bl bd S L0 L) : Tr Tryz.prog 13 [pt bd, .int .i64 n] M L (fun _ M' L' => M = M' ∧ ∃ a cap G, L' = dkB bd (dCrash S.x n) a cap :: (G ++ L0) ∧ BV M a cap (dCrash S.x n).s) := by
  obtain ⟨⟨es, v, N, a, cap, rfl, hO, habs, hes, hv⟩, hhd, hdk, hlen, hleft⟩ := ho
  refine (dkCrash_ok M (lgB bl bd v S.head :: (N ++ L0)) bd n S.x a cap hdk hv).perm (pmD _ _ N L0) ?_
  rintro _ M' L' ⟨rfl, a', c', rfl, hv'⟩
  exact ⟨_, List.Perm.refl _, rfl, a', c', lgB bl bd v S.head :: N, rfl, hv'⟩
theorem crash_dk {x : Ds} (hx : DsOk x) (n : Int) : DsOk (dCrash x n) := by
  have h1 := crashN_le hx n
  have h2 := hx.fit
  have h3 : (dCrash x n).s.size = crashN x n := ext0_size h1
  exact ⟨by rw [h3]; exact Nat.le_refl _, by rw [h3]; show _ ≤ x.room; omega, hx.room⟩
theorem wReopen_ok (M : Mem) (L0 : HL) (_bl bd : Nat) (S : Wl) (n : Int) (ts : List ByteArray) (a : Option Addr) (cap : Nat) (hk : KM M) (hx : DsOk S.x) (h : Keeps S ts) (hv : BV M a cap (dCrash S.x n).s) :
    ∃ m, m ≤ ts.length ∧ (∀ k, SureP S.x ts k → k ≤ m) ∧ placeB ts m ≤ crashN S.x n ∧ Tr Tryz.prog 14 [pt bd] M (dkB bd (dCrash S.x n) a cap :: L0) (fun v M' L' => M.le M' ∧ ∃ bl S', v = .tuple ⟨[pt bl, .int .i64 0]⟩ ∧ Keeps S' (ts.take m) ∧ S'.es.map Prod.fst = (S.es.map Prod.fst).take m ∧ SureP S'.x (ts.take m) m ∧ WlOwn M' bl bd S' L0 L') := by
  obtain ⟨m, rest, h1, h2, h3, h4, _, h5, h6, h7⟩ := keeps_crash h hx n
  refine ⟨m, h1, h4, h5, (wOpenG_ok M L0 bd _ a cap _ rest hk (crash_dk hx n) hv (by show (0 : Nat) < _; decide) h2 h3 h6).mono ?_⟩
  rintro v M' L' ⟨hM, bl', es, rfl, he, hw⟩
  obtain ⟨k1, k2, k3⟩ := h7 es he
  exact ⟨hM, bl', _, rfl, k1, k2, k3, hw⟩
def rcEp (n : Int) : Rc := ⟨1, n, ⟨0, 0, 0⟩, false, 0, nilM, nilS, ⟨#[]⟩⟩
theorem rcEp_ok (M : Mem) (n : Int) : RcOk M (rcEp n) := ⟨MbOk.nil M, StOk.nil M, (fun m hm => by cases hm), (fun m hm => by cases hm), by show (0 : Nat) < _; decide⟩
theorem rcEp_short (n : Int) : Short (rcEp n).re := ⟨(fun m hm => by cases hm), (fun m hm => by cases hm), Nat.zero_le _⟩
def epB (n : Int) : ByteArray := bytesI [1] ++ nB n
theorem epB_size {n : Int} (h : n < 248) : (epB n).size = 2 := by
  rw [epB, app_size, nB, numB, if_pos (by omega), bytesI_one, bytesI_one]
theorem rcEp_enc (M : Mem) {n : Int} (h1 : 1 ≤ n) (h : n < 248) : encE (rcEp n) = (epB n, 0) := by
  have h0 : recE (rcEp n) = 0 := (recE_re (rcEp_ok M n)).2 (RecP.epoch n h1 (by omega))
  have hB : recB (rcEp n).re = epB n := rfl
  have hs := epB_size h
  rw [encE, if_neg (by rw [h0]; decide), hB, if_neg (by omega)]
theorem epF_size {l : ByteArray} {n : Int} (h : n < 248) : (frB l (epB n)).size = 35 := by
  have hs := epB_size h
  rw [frB_size, textB, app_size, hs, numB, if_pos (by decide), bytesI_one]
theorem wApp_good (M : Mem) {S : Wl} {n : Int} (h1 : 1 ≤ n) (h : n < 248) (ha : S.x.armed = false) (hr : S.x.s.size + 35 ≤ S.x.room) : ∃ S', wApp S (rcEp n) = (0, S') ∧ S'.x.armed = false ∧ S'.x.s.size = S.x.s.size + 35 ∧ S'.x.room = S.x.room := by
  have hs := epF_size (l := S.head) h
  have hd : dApp S.x (frB S.head (epB n)) = (0, { S.x with s := S.x.s ++ frB S.head (epB n) }) := by
    unfold dApp
    rw [if_neg (by omega)]
    unfold wr
    rw [if_neg (by rw [ha]; intro h; cases h.1), if_neg (by intro h; have := h.2; rw [show ({ S.x with s := S.x.s ++ frB S.head (epB n) } : Ds).armed = S.x.armed from rfl, ha] at this; cases this)]
  refine ⟨⟨S.es ++ [((rcEp n).re, S.x.s.size + 35)], nextB S.head (epB n), { S.x with s := S.x.s ++ frB S.head (epB n) }⟩, ?_, ha, ?_, rfl⟩
  · unfold wApp
    rw [rcEp_enc M h1 h]
    unfold encF
    rw [if_neg (show ¬ ((0 : Int) ≠ 0) by decide)]
    simp only [hd]
    rw [if_neg (show ¬ ((0 : Int) ≠ 0) by decide), app_size, hs]
  · show (S.x.s ++ frB S.head (epB n)).size = _
    rw [app_size, hs]
theorem wSync_good {S : Wl} (ha : S.x.armed = false) : ∃ S', wSync S = (0, S') ∧ S'.x.armed = false ∧ S'.x.s = S.x.s ∧ S'.x.room = S.x.room ∧ S'.es = S.es := by
  refine ⟨{ S with x := { S.x with syn := S.x.s.size } }, ?_, ha, rfl, rfl, rfl⟩
  unfold wSync dSync wr
  rw [if_neg (by rw [ha]; intro h; cases h.1), if_neg (by intro h; have := h.2; rw [show ({ S.x with syn := S.x.s.size } : Ds).armed = S.x.armed from rfl, ha] at this; cases this)]
theorem al_play (M : Mem) : ∃ S1 S2 S3 : Wl, wApp (wl0 1000) (rcEp 1) = (0, S1) ∧ wSync S1 = (0, S2) ∧ wApp S2 (rcEp 2) = (0, S3) ∧ Keeps S3 [epB 1, epB 2] ∧ S3.es.map Prod.fst = [(rcEp 1).re, (rcEp 2).re] ∧ S3.x.syn = 35 ∧ S3.x.s.size = 70 ∧ placeB [epB 1, epB 2] 1 = 35 ∧ placeB [epB 1, epB 2] 2 = 70 := by
  obtain ⟨S1, e1, a1, z1, r1⟩ := wApp_good M (S := wl0 1000) (n := 1) (by decide) (by decide) rfl (by decide)
  obtain ⟨S2, e2, a2, z2, r2, w2⟩ := wSync_good (S := S1) a1
  have y1 : S1.x.s.size = 35 := z1
  have q1 : S1.x.room = 1000 := r1
  obtain ⟨S3, e3, a3, z3, r3⟩ := wApp_good M (S := S2) (n := 2) (by decide) (by decide) a2 (by rw [z2, r2, y1, q1]; decide)
  have k1 := keeps_app (M := M) (keeps0 1000) (rcEp_ok _ 1)
  rw [e1, rcEp_enc M (by decide) (by decide)] at k1
  obtain ⟨_, _, k1, m1, s1⟩ := k1.resolve_right (fun h => h.1 rfl)
  have k1 : Keeps S1 [epB 1] := k1
  have m1 : S1.es.map Prod.fst = [(rcEp 1).re] := m1
  have s1 : S1.x.syn = 0 := s1
  obtain ⟨k2, _, hs2⟩ := keeps_sync k1 ⟨by omega, by omega, by omega⟩
  rw [e2] at k2 hs2
  have k2 : Keeps S2 [epB 1] := k2
  have hs2 := (hs2 rfl).2
  have hp1 : placeB [epB 1] 1 = 35 := by
    have : placeB [epB 1] 1 = (frsB firstB [epB 1]).size := rfl
    rw [this, frsB_one, epF_size (by decide)]
  have hs2 : placeB [epB 1] 1 ≤ S2.x.syn := hs2
  have k3 := keeps_app (M := M) k2 (rcEp_ok _ 2)
  rw [e3, rcEp_enc M (by decide) (by decide)] at k3
  obtain ⟨_, _, k3, m3, s3⟩ := k3.resolve_right (fun h => h.1 rfl)
  have hsy : S2.x.syn = 35 := by
    have e : S2.x.syn = S1.x.s.size := by
      have e := congrArg (fun r : Int × Wl => r.2.x.syn) e2
      have h2 : (wSync S1).2.x.syn = S1.x.s.size := by
        unfold wSync dSync wr
        rw [if_neg (by rw [a1]; intro h; cases h.1)]
        split <;> rfl
      exact e.symm.trans h2
    rw [e, y1]
  have k3 : Keeps S3 [epB 1, epB 2] := k3
  have z70 : S3.x.s.size = 70 := by rw [z3, z2, y1]
  refine ⟨S1, S2, S3, e1, e2, e3, k3, ?_, s3.trans hsy, z70, ?_, ?_⟩
  · have m3 : S3.es.map Prod.fst = S2.es.map Prod.fst ++ [(rcEp 2).re] := m3
    rw [m3, w2, m1]; rfl
  · exact (place_app (ts := [epB 1]) [epB 2] (n := 1) (Nat.le_refl _)).trans hp1
  · rw [show placeB [epB 1, epB 2] 2 = (frsB firstB [epB 1, epB 2]).size from rfl, ← k3.s, z70]
end Go.Proofs.YtkjljcgbnikmkaaGreatDoor
namespace Go.Proofs.YtkjljcgbnikmkaaGreatDoor
open Go.Chi
set_option maxRecDepth 10000
theorem wAppG_ok (M : Mem) (L0 L : HL) (bl bd : Nat) (S S' : Wl) (r : Rc) (e : wApp S r = (0, S')) (hk : KM M) (ho : WlOwn M bl bd S L0 L) (hr : RcOk M r) (hsh : Short r.re) :
    Tr Tryz.prog 9 [pt bl, .agg ⟨rcC r⟩] M L (fun v M' L' => M.le M' ∧ v = .int .i64 0 ∧ ∃ W, L' = W ++ L0 ∧ WlP M' bl bd S' W) := by
  refine (wAppend_ok M L0 L bl bd S r hk ho hr hsh).mono ?_
  rw [e]
  rintro v M' L' ⟨h1, rfl, h2⟩
  exact ⟨h1, rfl, h2.p⟩
theorem wSyncG_ok (M : Mem) (L0 L : HL) (bl bd : Nat) (S S' : Wl) (e : wSync S = (0, S')) (ho : WlOwn M bl bd S L0 L) :
    Tr Tryz.prog 11 [pt bl] M L (fun v M' L' => M.le M' ∧ v = .int .i64 0 ∧ ∃ W, L' = W ++ L0 ∧ WlP M' bl bd S' W) := by
  refine (wSync_ok M L0 L bl bd S ho).mono ?_
  rw [e]
  rintro v M' L' ⟨h1, rfl, h2⟩
  exact ⟨h1, rfl, h2.p⟩
theorem perm34 (x y : Nat × Obj) (W L : HL) : (x :: y :: (W ++ L)).Perm (W ++ (x :: y :: L)) := (List.perm_middle (l₁ := W)).symm.cons _ |>.trans (List.perm_middle (l₁ := W)).symm
theorem wListP_ok (M : Mem) (L : HL) (bl bd : Nat) (S : Wl) (W R : HL) (h : WlP M bl bd S W) (hp : L.Perm (W ++ R)) : Tr Tryz.prog 15 [pt bl] M L (fun v M' L' => M.le M' ∧ L' = L ∧ RcS M' v (S.es.map Prod.fst)) := by
  refine (wList_ok M R _ bl bd S (h R)).perm hp ?_
  rintro v M' L' ⟨h1, rfl, h2⟩
  exact ⟨L, hp.symm, h1, rfl, h2⟩
theorem wSyncedP_ok (M : Mem) (L : HL) (bl bd : Nat) (S : Wl) (W R : HL) (h : WlP M bl bd S W) (hp : L.Perm (W ++ R)) : TrQ Tryz.prog 17 [pt bl] M L (iv (synW S)) :=
  trq_perm (wSynced_ok M R _ bl bd S (h R)) hp
theorem pend_gK {P : Program} {ops : Array Oper} {σ : Env} {δ : Den} {M : Mem} {L : HL} {ro : Option Nat} {q d j s : Nat} {want : Bool} {op : Op} {ty : TypeId} {pos : String} {aft : Array Edge} {v : Value} (ho : ops[q]? = some ⟨some d, op, ty, pos, aft, some (j, want)⟩) (hpl : plainOp op = true) (hj : slotOf ops j = some s) (hg : knows σ s want = true) (hv : lks σ d = some v) (hq : Qt P ro ⟨some d, op, ty, pos, aft, some (j, want)⟩ σ δ [] M L v) : ∀ a, Sees σ δ a → Pend P ro ops q a M L :=
  fun a hs => ⟨_, d, ho, rfl, hpl, fun _ => ⟨v, hs.s _ _ hv, fun w hw => (hq a w hs (holds_nil a) hw).mono fun u w' ⟨M', L', h1, h2, h3, h4⟩ => ⟨h2, by subst h3 h4; exact h1⟩⟩, fun hw => by
    have h : Region.wanted ⟨some d, op, ty, pos, aft, some (j, want)⟩ (yielded ops a.tmps) = true := by
      simp only [Region.wanted]; exact beq_some_bool.2 ((yielded_some hj).2 (knows_sound hs hg))
    rw [h] at hw; cases hw⟩
theorem syn_le (S : Wl) : synW S ≤ S.es.length := firstN_le _ _
set_option maxHeartbeats 8000000 in
theorem alive17_ok (M : Mem) (L : HL) (hk : KM M) : Tr Tryz.prog 7 [] M L (fun v M' L' => M.le M' ∧ L' = L ∧ v = .bool true) := by
  obtain ⟨S1, S2, S3, e1, e2, e3, k3, m3, sy, z70, p1, p2⟩ := al_play M
  refine Tr.intro 63 Tryz.func7 rfl rfl Tryz.call7 rfl ?_
  intro C hC hro
  repeat (first | refine zz ?_ | refine zx fun _ => ?_ | (refine ro (st_callF rfl (fun _ => begun_ok _ _ 1000 (by decide) hk)) ?_; rintro _ M1 _ ⟨hM1, bl, bd, rfl, hw0⟩))
  refine run_cond rfl (fun h => by cases h) (fun _ => ?_)
  obtain ⟨W0, rfl, hW0⟩ := hw0.p
  repeat (first | refine zz ?_ | refine zx fun _ => ?_)
  rename_i b3 b4
  refine run_mem (L' := W0 ++ ((b4, .cells ⟨rcC (rcEp 2)⟩ 35 (0, 0)) :: (b3, .cells ⟨rcC (rcEp 1)⟩ 35 (0, 0)) :: L)) (fun _ h => h.perm (perm34 _ _ W0 L)) ?_
  refine prn_start mixed ?_
  refine pr_q 0 (by decide +kernel) rfl (qt_pev tok rfl) rfl rfl rfl ?_
  refine pr_q 1 (by decide +kernel) rfl (qt_ld (v := .agg ⟨rcC (rcEp 1)⟩) tok rfl (List.mem_append_right _ (List.mem_cons_of_mem _ List.mem_cons_self)) rfl) rfl rfl rfl ?_
  refine pr_q 3 (by decide +kernel) rfl (qt_pev tok rfl) rfl rfl rfl ?_
  refine pr_q 5 (by decide +kernel) rfl (qt_pev tok rfl) rfl rfl rfl ?_
  refine pr_q 6 (by decide +kernel) rfl (qt_ld (v := .agg ⟨rcC (rcEp 2)⟩) tok rfl (List.mem_append_right _ List.mem_cons_self) rfl) rfl rfl rfl ?_
  refine pr_one 2 (by decide +kernel) (eff1 2 rfl (st_callF rfl (fun _ => wAppG_ok _ _ _ bl bd _ S1 (rcEp 1) e1 (hk.le hM1) (hW0 _) (rcEp_ok _ _) (rcEp_short _))) (by decide +kernel) (qs := _) rfl rfl rfl rfl ?_)
  rintro _ M2 _ ⟨hM2, rfl, W1, rfl, hW1⟩
  refine ⟨by (repeat (first | exact trivial | refine And.intro (pend_q rfl rfl rfl (qt_pev tok rfl)) ?_ | refine And.intro (pend_q rfl rfl rfl (ql tok rfl)) ?_)), ?_⟩
  refine pr_one 4 (by decide +kernel) (eff1 4 rfl (st_callF rfl (fun _ => wSyncG_ok _ _ _ bl bd _ S2 e2 (hW1 _))) (by decide +kernel) (qs := _) rfl rfl rfl rfl ?_)
  rintro _ M3 _ ⟨hM3, rfl, W2, rfl, hW2⟩
  refine ⟨by (repeat (first | exact trivial | refine And.intro (pend_q rfl rfl rfl (qt_pev tok rfl)) ?_ | refine And.intro (pend_q rfl rfl rfl (ql tok rfl)) ?_)), ?_⟩
  have hM13 := Mem.le_trans hM1 (Mem.le_trans hM2 hM3)
  refine pr_one 7 (by decide +kernel) (eff1 7 rfl (st_callF rfl (fun _ => wAppG_ok _ _ _ bl bd _ S3 (rcEp 2) e3 (hk.le hM13) (hW2 _) (rcEp_ok _ _) (rcEp_short _))) (by decide +kernel) (qs := _) rfl rfl rfl rfl ?_)
  rintro _ M4 _ ⟨hM4, rfl, W3, rfl, hW3⟩
  refine ⟨by (repeat (first | exact trivial | refine And.intro (pend_q rfl rfl rfl (qt_pev tok rfl)) ?_ | refine And.intro (pend_q rfl rfl rfl (ql tok rfl)) ?_)), ?_⟩
  refine pr_q 8 (by decide +kernel) rfl (qt_pev tok rfl) rfl rfl rfl ?_
  refine pr_q 9 (by decide +kernel) rfl (qt_pev tok rfl) rfl rfl rfl ?_
  refine pr_q 10 (by decide +kernel) rfl (qt_pev tok rfl) rfl rfl rfl ?_
  refine pr_end (by decide +kernel) (by decide +kernel) ?_
  have hM14 := Mem.le_trans hM13 hM4
  repeat (first | refine zz ?_ | refine zx fun _ => ?_ | (refine ro (st_callF rfl (fun _ => wCrash_ok _ _ _ bl bd S3 5 (hW3 _))) ?_; rintro _ _ _ ⟨rfl, a, cap, G, rfl, hv⟩))
  refine runL_mem (L' := dkB bd (dCrash S3.x 5) a cap :: ((b4, .cells ⟨rcC (rcEp 2)⟩ 35 (0, 0)) :: (b3, .cells ⟨rcC (rcEp 1)⟩ 35 (0, 0)) :: L)) (fun w h => (h.perm (List.perm_middle (l₁ := G)).symm).dropAll) ?_
  obtain ⟨m, hm1, hm2, hm3, hop⟩ := wReopen_ok M4 ((b4, .cells ⟨rcC (rcEp 2)⟩ 35 (0, 0)) :: (b3, .cells ⟨rcC (rcEp 1)⟩ 35 (0, 0)) :: L) bl bd S3 5 [epB 1, epB 2] a cap (hk.le hM14) (hW3 L).dk k3 hv
  have hge : 1 ≤ m := hm2 1 ⟨by decide, by omega⟩
  have hle : m ≤ 1 := by
    rcases Nat.lt_or_ge m 2 with h | h
    · omega
    · exfalso
      have : m = 2 := by have : m ≤ 2 := hm1; omega
      subst this
      have : crashN S3.x 5 = 40 := by unfold crashN; rw [sy, z70]; rfl
      omega
  have hm : m = 1 := by omega
  subst hm
  repeat (first | refine zz ?_ | refine zx fun _ => ?_ | (refine ro (st_callF rfl (fun _ => hop)) ?_; rintro _ M5 _ ⟨hM5, bm, S4, rfl, k4, m4, hs4, hw4⟩))
  rw [m3] at m4
  have hm4 : S4.es.map Prod.fst = [(rcEp 1).re] := m4
  have hsyn : synW S4 = 1 := by
    have h1 := sure_syn k4 hs4
    have h2 := syn_le S4
    have h3 := congrArg List.length hm4
    rw [List.length_map] at h3
    have : S4.es.length = 1 := h3
    omega
  obtain ⟨W4, rfl, hW4⟩ := hw4.p
  refine prn_start mixed ?_
  repeat (first | refine dq ?_ | refine dgK ?_)
  refine pr_gK 21 (by decide +kernel) rfl rfl rfl (qt_ld (v := .agg ⟨rcC (rcEp 1)⟩) tok rfl (List.mem_append_right _ (List.mem_cons_of_mem _ List.mem_cons_self)) rfl) rfl rfl rfl ?_
  have hmem : (b3, Obj.cells ⟨rcC (rcEp 1)⟩ 35 (0, 0)) ∈ W4 ++ ((b4, Obj.cells ⟨rcC (rcEp 2)⟩ 35 (0, 0)) :: (b3, Obj.cells ⟨rcC (rcEp 1)⟩ 35 (0, 0)) :: L) := List.mem_append_right _ (List.mem_cons_of_mem _ List.mem_cons_self)
  refine pr_two 20 22 (by decide +kernel) (eff1g 20 rfl rfl (st_callF rfl (fun _ => wListP_ok _ _ bm bd S4 W4 _ hW4 (List.Perm.refl _))) (by decide +kernel) (qs := _) rfl rfl rfl rfl ?_) (eff1g 22 rfl rfl (st_buildSlice tok rfl rfl rfl rfl rfl rfl rfl) (by decide +kernel) (qs := _) rfl rfl rfl rfl ?_)
  · rintro v53 M6 _ ⟨hM6, rfl, hrcs⟩
    refine ⟨by (repeat (first | exact trivial | refine And.intro (pend_q rfl rfl rfl (qt_pev tok rfl)) ?_ | refine And.intro (pend_q rfl rfl rfl (ql tok rfl)) ?_ | refine And.intro (pend_gK rfl rfl rfl rfl rfl (qt_pev tok rfl)) ?_ | refine And.intro (pend_gK rfl rfl rfl rfl rfl (qt_ld tok rfl hmem rfl)) ?_)), ?_⟩
    refine pr_one 22 (by decide +kernel) (eff1g 22 rfl rfl (st_buildSlice tok rfl rfl rfl rfl rfl rfl rfl) (by decide +kernel) (qs := _) rfl rfl rfl rfl ?_)
    rintro _ _ _ ⟨b9, rfl, rfl, rfl⟩
    refine ⟨by (repeat (first | exact trivial | refine And.intro (pend_q rfl rfl rfl (qt_pev tok rfl)) ?_ | refine And.intro (pend_q rfl rfl rfl (ql tok rfl)) ?_ | refine And.intro (pend_gK rfl rfl rfl rfl rfl (qt_pev tok rfl)) ?_ | refine And.intro (pend_gK rfl rfl rfl rfl rfl (qt_ld tok rfl (List.mem_cons_of_mem _ hmem) rfl)) ?_)), ?_⟩
    rw [hm4] at hrcs
    refine pr_gK 23 (by decide +kernel) rfl rfl rfl (qt_callF rfl (fun _ => dsameRows_ok _ _ _ _ _ 1 [rcEp 1] hrcs (.inr ⟨b9, 1, rcC (rcEp 1), rfl, rfl, Nat.le_refl _, rfl, rfl⟩) (fun p hp => by rw [List.mem_singleton] at hp; subst hp; exact List.mem_cons_self) rfl (fun r hr => by rw [List.mem_singleton] at hr; subst hr; exact rcEp_ok _ _) (by decide))) rfl rfl rfl ?_
    refine pr_q 24 (by decide +kernel) rfl (qt_pev tok rfl) rfl rfl rfl ?_
    refine pr_q 25 (by decide +kernel) rfl (qt_pev tok rfl) rfl rfl rfl ?_
    refine pr_gK 26 (by decide +kernel) rfl rfl rfl (qt_pev tok rfl) rfl rfl rfl ?_
    refine pr_gK 27 (by decide +kernel) rfl rfl rfl (qt_callF rfl (fun _ => wSyncedP_ok _ _ bm bd S4 W4 _ (hW4.le hM6) (List.perm_middle (l₁ := W4)).symm)) rfl rfl rfl ?_
    refine pr_gK 28 (by decide +kernel) rfl rfl rfl (qt_pev tok rfl) rfl rfl rfl ?_
    refine pr_q 29 (by decide +kernel) rfl (qt_pev tok rfl) rfl rfl rfl ?_
    refine pr_q 30 (by decide +kernel) rfl (qt_pev tok rfl) rfl rfl rfl ?_
    refine pr_end (by decide +kernel) (by decide +kernel) ?_
    exact run_ret hC (rs := [.tmp 0]) rfl (resT rfl resN) (fun w h => h.drop.dropAll.drop.drop) ⟨Mem.le_trans hM14 (Mem.le_trans hM5 hM6), rfl, by rw [hsyn]; rfl⟩
  · rintro _ _ _ ⟨b9, rfl, rfl, rfl⟩
    refine ⟨by (repeat (first | exact trivial | refine And.intro (pend_q rfl rfl rfl (qt_pev tok rfl)) ?_ | refine And.intro (pend_q rfl rfl rfl (ql tok rfl)) ?_ | refine And.intro (pend_gK rfl rfl rfl rfl rfl (qt_pev tok rfl)) ?_ | refine And.intro (pend_gK rfl rfl rfl rfl rfl (qt_ld tok rfl (List.mem_cons_of_mem _ hmem) rfl)) ?_)), ?_⟩
    refine pr_one 20 (by decide +kernel) (eff1g 20 rfl rfl (st_callF rfl (fun _ => wListP_ok _ _ bm bd S4 W4 _ hW4 (List.perm_middle (l₁ := W4)).symm)) (by decide +kernel) (qs := _) rfl rfl rfl rfl ?_)
    rintro v53 M6 _ ⟨hM6, rfl, hrcs⟩
    refine ⟨by (repeat (first | exact trivial | refine And.intro (pend_q rfl rfl rfl (qt_pev tok rfl)) ?_ | refine And.intro (pend_q rfl rfl rfl (ql tok rfl)) ?_ | refine And.intro (pend_gK rfl rfl rfl rfl rfl (qt_pev tok rfl)) ?_ | refine And.intro (pend_gK rfl rfl rfl rfl rfl (qt_ld tok rfl (List.mem_cons_of_mem _ hmem) rfl)) ?_)), ?_⟩
    rw [hm4] at hrcs
    refine pr_gK 23 (by decide +kernel) rfl rfl rfl (qt_callF rfl (fun _ => dsameRows_ok _ _ _ _ _ 1 [rcEp 1] hrcs (.inr ⟨b9, 1, rcC (rcEp 1), rfl, rfl, Nat.le_refl _, rfl, rfl⟩) (fun p hp => by rw [List.mem_singleton] at hp; subst hp; exact List.mem_cons_self) rfl (fun r hr => by rw [List.mem_singleton] at hr; subst hr; exact rcEp_ok _ _) (by decide))) rfl rfl rfl ?_
    refine pr_q 24 (by decide +kernel) rfl (qt_pev tok rfl) rfl rfl rfl ?_
    refine pr_q 25 (by decide +kernel) rfl (qt_pev tok rfl) rfl rfl rfl ?_
    refine pr_gK 26 (by decide +kernel) rfl rfl rfl (qt_pev tok rfl) rfl rfl rfl ?_
    refine pr_gK 27 (by decide +kernel) rfl rfl rfl (qt_callF rfl (fun _ => wSyncedP_ok _ _ bm bd S4 W4 _ (hW4.le hM6) (List.perm_middle (l₁ := W4)).symm)) rfl rfl rfl ?_
    refine pr_gK 28 (by decide +kernel) rfl rfl rfl (qt_pev tok rfl) rfl rfl rfl ?_
    refine pr_q 29 (by decide +kernel) rfl (qt_pev tok rfl) rfl rfl rfl ?_
    refine pr_q 30 (by decide +kernel) rfl (qt_pev tok rfl) rfl rfl rfl ?_
    refine pr_end (by decide +kernel) (by decide +kernel) ?_
    exact run_ret hC (rs := [.tmp 0]) rfl (resT rfl resN) (fun w h => h.drop.dropAll.drop.drop) ⟨Mem.le_trans hM14 (Mem.le_trans hM5 hM6), rfl, by rw [hsyn]; rfl⟩
end Go.Proofs.YtkjljcgbnikmkaaGreatDoor
namespace Go.Proofs.YtkjljcgbnikmkaaGreatDoor
open Go.Chi
set_option maxRecDepth 10000
theorem wAppP_ok (M : Mem) (L : HL) (bl bd : Nat) (S : Wl) (r : Rc) (W R : HL) (hk : KM M) (h : WlP M bl bd S W) (hp : L.Perm (W ++ R)) (hr : RcOk M r) (hsh : Short r.re) :
    Tr Tryz.prog 9 [pt bl, .agg ⟨rcC r⟩] M L (fun v M' L' => M.le M' ∧ v = .int .i64 (wApp S r).1 ∧ ∃ W', L' = W' ++ R ∧ WlP M' bl bd (wApp S r).2 W') := by
  refine (wAppend_ok M R _ bl bd S r hk (h R) hr hsh).perm hp ?_
  rintro v M' L' ⟨h1, rfl, h2⟩
  exact ⟨L', List.Perm.refl _, h1, rfl, h2.p⟩
theorem wSyncP_ok (M : Mem) (L : HL) (bl bd : Nat) (S : Wl) (W R : HL) (h : WlP M bl bd S W) (hp : L.Perm (W ++ R)) :
    Tr Tryz.prog 11 [pt bl] M L (fun v M' L' => M.le M' ∧ v = .int .i64 (wSync S).1 ∧ ∃ W', L' = W' ++ R ∧ WlP M' bl bd (wSync S).2 W') := by
  refine (wSync_ok M R _ bl bd S (h R)).perm hp ?_
  rintro v M' L' ⟨h1, rfl, h2⟩
  exact ⟨L', List.Perm.refl _, h1, rfl, h2.p⟩
theorem wArmP_ok (M : Mem) (L : HL) (bl bd : Nat) (S : Wl) (n : Int) (W R : HL) (hn : n < 9223372036854775808) (h : WlP M bl bd S W) (hp : L.Perm (W ++ R)) :
    Tr Tryz.prog 12 [pt bd, .int .i64 n] M L (fun _ M' L' => M = M' ∧ ∃ W', L' = W' ++ R ∧ WlP M bl bd { S with x := dArm S.x n } W') := by
  refine (wArm_ok M R _ bl bd S n hn (h R)).perm hp ?_
  rintro v M' L' ⟨rfl, h2⟩
  exact ⟨L', List.Perm.refl _, rfl, h2.p⟩
theorem wCrashP_ok (M : Mem) (L : HL) (bl bd : Nat) (S : Wl) (n : Int) (W R : HL) (h : WlP M bl bd S W) (hp : L.Perm (W ++ R)) :
    Tr Tryz.prog 13 [pt bd, .int .i64 n] M L (fun _ M' L' => M = M' ∧ ∃ a cap G, L' = dkB bd (dCrash S.x n) a cap :: (G ++ R) ∧ BV M a cap (dCrash S.x n).s) := by
  refine (wCrash_ok M R _ bl bd S n (h R)).perm hp ?_
  rintro v M' L' ⟨rfl, a, cap, G, rfl, h2⟩
  exact ⟨_, List.Perm.refl _, rfl, a, cap, G, rfl, h2⟩
theorem OS.cap {e size n c : Nat} {a : Option Addr} {xs : List Value} {N : HL} (h : OS e size (.slice a n c) n xs N) : n ≤ c := by
  rcases h with ⟨hv, rfl, _, _⟩ | ⟨b, cap, cs, hv, rfl, hle, _, _⟩
  · omega
  · cases hv; exact hle
end Go.Proofs.YtkjljcgbnikmkaaGreatDoor
namespace Go.Proofs.YtkjljcgbnikmkaaGreatDoor
open Go.Chi
set_option maxRecDepth 10000
section
variable {H : Type} {enc : TypeId × Value → H} {W : World} {cs : List Value}
theorem uInt : Tryz.prog.underlying 3 = some (.int .i64) := und_ok tok (t := 3) rfl
theorem uBool : Tryz.prog.underlying 4 = some .bool := und_ok tok (t := 4) rfl
theorem uU8 : Tryz.prog.underlying 5 = some (.int .u8) := und_ok tok (t := 5) rfl
theorem uStr : Tryz.prog.underlying 9 = some .string := und_ok tok (t := 9) rfl
theorem rd_tx (h : RD enc Tryz.prog W 31 cs) : ∃ t : Tx, cs = txC t := by
  obtain ⟨_, _, rfl, h0, _, _, rfl, h1, _, _, rfl, h2, rfl⟩ := h.struct (und_ok tok (t := 31) rfl) (by kernel_rfl)
  obtain ⟨a, rfl, _⟩ := h0.int uInt
  obtain ⟨b, rfl, _⟩ := h1.int uInt
  obtain ⟨c, rfl, _⟩ := h2.int uInt
  exact ⟨⟨a, b, c⟩, rfl⟩
theorem rd_mb (h : RD enc Tryz.prog W 98 cs) : ∃ m : Mb, cs = mbC m ∧ True := by
  obtain ⟨_, _, rfl, h0, _, _, rfl, h1, rfl⟩ := h.struct (und_ok tok (t := 98) rfl) (by kernel_rfl)
  obtain ⟨a, rfl, _⟩ := h0.int uInt
  obtain ⟨b, rfl, _⟩ := h1.string uStr
  exact ⟨⟨a, b⟩, rfl, trivial⟩
theorem rd_smb (h : RD enc Tryz.prog W 32 cs) : ∃ s : SMb, cs = [s.v] ∧ s.Ok (memOf W) := by
  obtain ⟨a, len, cap, ls, rfl, _, _, hs, hel⟩ := h.slice (und_ok tok (t := 32) rfl) (size := 2) (by kernel_rfl) (by omega)
  obtain ⟨xs, rfl, _⟩ := list_of (f := mbC) (Q := fun _ => True) fun c hc => rd_mb (hel c hc)
  exact ⟨⟨a, len, cap, xs⟩, rfl, hs⟩
theorem rd_st (h : RD enc Tryz.prog W 9 cs) : ∃ s : ByteArray, cs = stC s ∧ True := by
  obtain ⟨b, rfl, _⟩ := h.string uStr
  exact ⟨b, rfl, trivial⟩
theorem rd_sstr (h : RD enc Tryz.prog W 33 cs) : ∃ s : SStr, cs = [s.v] ∧ s.Ok (memOf W) := by
  obtain ⟨a, len, cap, ls, rfl, _, _, hs, hel⟩ := h.slice (und_ok tok (t := 33) rfl) (size := 1) (by kernel_rfl) (by omega)
  obtain ⟨xs, rfl, _⟩ := list_of (f := stC) (Q := fun _ => True) fun c hc => rd_st (hel c hc)
  exact ⟨⟨a, len, cap, xs⟩, rfl, hs⟩
theorem rd_rc (h : RD enc Tryz.prog W 35 cs) : ∃ r : Rc, cs = rcC r ∧ RcIn (memOf W) r := by
  obtain ⟨_, _, rfl, h0, _, _, rfl, h1, _, _, rfl, h2, _, _, rfl, h3, _, _, rfl, h4, _, _, rfl, h5, _, _, rfl, h6, _, _, rfl, h7, rfl⟩ := h.struct (und_ok tok (t := 35) rfl) (by kernel_rfl)
  obtain ⟨k, rfl, _⟩ := h0.int uU8
  obtain ⟨e, rfl, _⟩ := h1.int uInt
  obtain ⟨t, rfl⟩ := rd_tx h2
  obtain ⟨y, rfl⟩ := h3.bool uBool
  obtain ⟨a, rfl, _⟩ := h4.int uInt
  obtain ⟨m, rfl, hm⟩ := rd_smb h5
  obtain ⟨g, rfl, hg⟩ := rd_sstr h6
  obtain ⟨b, rfl, _⟩ := h7.string uStr
  exact ⟨⟨k, e, t, y, a, m, g, b⟩, rfl, ⟨hm, hg⟩⟩
theorem i64_lt {n : Int} (h : (Lit.int .i64 n).wf = true) : n < 9223372036854775808 := by
  have h' : (decide (IntKind.min .i64 ≤ n) && decide (n ≤ IntKind.max .i64)) = true := h
  simp only [Bool.and_eq_true, decide_eq_true_eq] at h'
  have e2 : IntKind.max .i64 = 9223372036854775807 := by kernel_rfl
  omega
theorem rd_stp (h : RD enc Tryz.prog W 37 cs) : ∃ x : Stp, cs = stpC x ∧ StpIn (memOf W) x := by
  obtain ⟨_, _, rfl, h0, _, _, rfl, h1, _, _, rfl, h2, rfl⟩ := h.struct (und_ok tok (t := 37) rfl) (by kernel_rfl)
  obtain ⟨d, rfl, _⟩ := h0.int uU8
  obtain ⟨n, rfl, hn⟩ := h1.int uInt
  obtain ⟨r, rfl, hr⟩ := rd_rc h2
  exact ⟨⟨d, n, r⟩, rfl, ⟨hr, i64_lt hn⟩⟩
theorem rd_stps (h : RD enc Tryz.prog W 22 cs) : ∃ s : Stps, cs = [s.v] ∧ StpsIn (memOf W) s := by
  obtain ⟨a, len, cap, ls, rfl, _, _, hs, hel⟩ := h.slice (und_ok tok (t := 22) rfl) (size := 12) (by kernel_rfl) (by omega)
  obtain ⟨xs, rfl, hq⟩ := list_of (f := stpC) (Q := fun x : Stp => StpIn (memOf W) x) fun c hc => rd_stp (hel c hc)
  exact ⟨⟨a, len, cap, xs⟩, rfl, ⟨hs, hq⟩⟩
def kZ : List Int := kL.map fun n : Nat => (n : Int)
theorem kZ_all : ∀ j, j < 64 → kZ.getD j 0 = ((kT j).toNat : Int) := by decide +kernel
theorem gK : Tryz.prog.globalNamed "chirograph/sha.k" = some 0 := by kernel_rfl
theorem km_of (h : Lib.TabIs Tryz.prog W "chirograph/sha.k" .u32 kZ) : KM (memOf W) := by
  have hc : ∀ i, i < 64 → W.cell? ⟨0, i, none⟩ = some (wU (kT i)) := fun i hi => by
    rw [h.cell gK i hi, kZ_all i hi]; rfl
  have hb : ∃ cells ty fz, W.heap[(0 : Nat)]? = some (.cells cells ty fz) := by
    have h1 := hc 0 (by omega)
    unfold World.cell? at h1
    split at h1
    · rename_i c1 t1 f1 he; exact ⟨c1, t1, f1, he⟩
    · cases h1
  obtain ⟨cells, ty, fz, hb⟩ := hb
  refine ⟨cells, ty, fz, .inr hb, fun j v hv => ?_⟩
  have hj : j < 64 := by have := (List.getElem?_eq_some_iff.1 hv).1; rw [fc_len] at this; exact this
  rw [fc_get hj] at hv
  cases hv
  have := hc j hj
  simpa [World.cell?, hb] using this
end
theorem own : ownKnob Tryz.prog.godebug = none := by kernel_rfl
theorem laid : laidOutB Tryz.prog = true := by kernel_rfl
end Go.Proofs.YtkjljcgbnikmkaaGreatDoor
namespace Go.Proofs.YtkjljcgbnikmkaaGreatDoor
open Go.Chi
set_option maxRecDepth 10000
theorem bw_or (x : B32) (n : Nat) : (x >>> n) ||| (x <<< (32 - n)) = rotr x n := by unfold rotr; exact BitVec.or_comm _ _
theorem bw_ch (e f g : B32) : (e &&& f) ^^^ (~~~e &&& g) = g ^^^ (e &&& (f ^^^ g)) := by
  apply BitVec.eq_of_getLsbD_eq
  intro i hi
  simp only [BitVec.getLsbD_xor, BitVec.getLsbD_and, BitVec.getLsbD_not, hi, decide_true, Bool.true_and]
  cases e.getLsbD i <;> cases f.getLsbD i <;> cases g.getLsbD i <;> rfl
theorem bw_maj (a b c : B32) : ((a &&& b) ^^^ (a &&& c)) ^^^ (b &&& c) = (a &&& (b ||| c)) ||| (b &&& c) := by
  apply BitVec.eq_of_getLsbD_eq
  intro i hi
  simp only [BitVec.getLsbD_xor, BitVec.getLsbD_and, BitVec.getLsbD_or]
  cases a.getLsbD i <;> cases b.getLsbD i <;> cases c.getLsbD i <;> rfl
theorem bw_word (a b c d : B32) : (((a <<< 24) ||| (b <<< 16)) ||| (c <<< 8)) ||| d = ((((((0 : B32) <<< 8 ||| a) <<< 8) ||| b) <<< 8 ||| c) <<< 8) ||| d := by
  simp only [BitVec.shiftLeft_or_distrib, ← BitVec.shiftLeft_add]
  have : (0 : B32) <<< (8 + 8 + 8 + 8) = 0 := by decide
  rw [this, show ∀ x : B32, (0 : B32) ||| x = x from fun x => BitVec.zero_or]
set_option maxHeartbeats 4000000 in
theorem turn_ok (M : Mem) (L : HL) (x : B32) (n : Nat) (h0 : n ≠ 0) (h : n < 32) : TrQ Tryz.prog 134 [wU x, .int .u64 (n : Int)] M L (wU (rotr x n)) := by
  unfold wU
  refine Tr.intro 13 Tryz.func134 rfl rfl Tryz.call134 rfl ?_
  intro C hC hro
  have e2 : IntKind.u64.wrap (32 - (n : Int)) = ((32 - n : Nat) : Int) := by rw [u64_wrap]; omega
  repeat (first | refine zz ?_ | refine zx fun _ => ?_ | refine rq (qt_shr rfl rfl (fun _ => by omega)) ?_)
  refine runL_as 10 (.int .u64 ((32 - n : Nat) : Int)) rfl (congrArg (Value.int .u64) e2) ?_
  repeat (first | refine zz ?_ | refine zx fun _ => ?_ | refine rq (qt_shl rfl rfl (fun _ => by omega)) ?_)
  refine run_ret hC (rs := [.tmp 4]) rfl (resT rfl resN) (fun _ h => h) ⟨?_, rfl, rfl⟩
  show Value.int .u32 (ior .u32 (ishr .u32 (U x) (n : Int)) (ishl .u32 (U x) ((32 - n : Nat) : Int))) = _
  rw [u_shl _ (by omega), u_shr _ h, u_or, bw_or]
theorem consts_ok (M : Mem) (L : HL) : TrQ Tryz.prog 133 [] M L (.agg ⟨fc (fun t => wU (kT t)) 64⟩) := by
  refine Tr.intro 2 Tryz.func133 rfl rfl Tryz.call133 rfl ?_
  intro C hC hro
  repeat (first | refine zz ?_ | refine zx fun _ => ?_ | refine rq (Qt.as (v' := .agg ⟨fc (fun t => wU (kT t)) 64⟩) (qt_buildArr tok rfl rfl rfl rfl rfl rfl) (by kernel_rfl)) ?_)
  exact run_ret hC (rs := [.cell 0 166]) rfl (rl tok rfl resN) (fun _ h => h.drop) ⟨rfl, rfl, rfl⟩
def w64 (f : Nat → B32) : List Value := fc (fun i => wU (f i)) 64
theorem w64_get {f : Nat → B32} {j : Nat} (h : j < 64) : ldE tt 153 (w64 f) (0 + j * 1) = some (wU (f j)) := ldE_at rfl (by rw [Nat.zero_add, Nat.mul_one]; exact fc_get h)
theorem w64_put {f : Nat → B32} {j : Nat} {z : Int} (w : B32) (h : j < 64) (hz : z = U w) : setE (w64 f) (0 + j * 1) (cellsL (.int .u32 z)) = some (w64 (fput f j w)) := by
  subst hz
  rw [Nat.zero_add, Nat.mul_one]
  refine (fc_put (wU w) h).trans ?_
  unfold w64
  congr 1
  exact fc_ext fun i _ => by
    by_cases e : i = j
    · subst e; rw [fput_same, fput_same]
    · rw [fput_ne _ _ e, fput_ne _ _ e]
def bytF (s : ByteArray) (i : Nat) : UInt8 := s.data.toList.getD i 0
theorem bytF_at {s : ByteArray} {i : Nat} (h : i < s.size) : s[i]? = some (bytF s i) := by
  have h1 : i < s.data.toList.length := by rw [ba_len]; exact h
  rw [getElem?_pos s i h, bytF, List.getD_eq_getElem?_getD, List.getElem?_eq_getElem h1]
  rfl
theorem u_b (c : UInt8) : IntKind.u32.wrap (c.toNat : Int) = U (bB c) := by
  have := c.toNat_lt
  rw [u32_wrap]; unfold U bB
  rw [BitVec.toNat_ofNat]; omega
theorem word_val (m : Nat → UInt8) (t : Nat) : ior .u32 (ior .u32 (ior .u32 (ishl .u32 (IntKind.u32.wrap ((m (4 * t)).toNat : Int)) 24) (ishl .u32 (IntKind.u32.wrap ((m (4 * t + 1)).toNat : Int)) 16)) (ishl .u32 (IntKind.u32.wrap ((m (4 * t + 2)).toNat : Int)) 8)) (IntKind.u32.wrap ((m (4 * t + 3)).toNat : Int)) = U (wrd m t) := by
  rw [u_b, u_b, u_b, u_b]
  have h1 : ∀ x : B32, ishl .u32 (U x) 24 = U (x <<< 24) := fun x => u_shl x (n := 24) (by decide)
  have h2 : ∀ x : B32, ishl .u32 (U x) 16 = U (x <<< 16) := fun x => u_shl x (n := 16) (by decide)
  have h3 : ∀ x : B32, ishl .u32 (U x) 8 = U (x <<< 8) := fun x => u_shl x (n := 8) (by decide)
  rw [h1, h2, h3, u_or, u_or, u_or, bw_word]
  rfl
theorem wd_val (a x c y : B32) : IntKind.u32.wrap (IntKind.u32.wrap (IntKind.u32.wrap (U a + ixor .u32 (ixor .u32 (U (rotr x 7)) (U (rotr x 18))) (ishr .u32 (U x) 3)) + U c) + ixor .u32 (ixor .u32 (U (rotr y 17)) (U (rotr y 19))) (ishr .u32 (U y) 10)) = U (a + ((sg0 x + c) + sg1 y)) := by
  rw [u_shr3, u_shr10, u_xor, u_xor, u_xor, u_xor, u_add, u_add, u_add]
  show U (((a + sg0 x) + c) + sg1 y) = _
  rw [BitVec.add_assoc, BitVec.add_assoc, BitVec.add_assoc]
theorem sub_w {t c : Nat} (h : c ≤ t) (ht : t < 1000) : IntKind.i64.wrap ((t : Int) - (c : Int)) = ((t - c : Nat) : Int) := by
  rw [show (t : Int) - (c : Int) = ((t - c : Nat) : Int) by omega]; exact wrap64_nat (by omega)
set_option maxHeartbeats 8000000 in
theorem words_ok (M : Mem) (L : HL) (s : ByteArray) (hs : s.size = 64) : TrQ Tryz.prog 132 [.string s] M L (.agg ⟨w64 (fun t => Wd (wrd (bytF s)) t)⟩) := by
  have hat : ∀ i, i < 64 → s[i]? = some (bytF s i) := fun i hi => bytF_at (by omega)
  refine Tr.intro 85 Tryz.func132 rfl rfl Tryz.call132 rfl ?_
  intro C hC hro
  repeat (first | refine zz ?_ | refine zx fun _ => ?_)
  rename_i b2 b3
  refine run_mem (L' := (b3, .cells ⟨w64 (fun _ => 0)⟩ 166 (0, 0)) :: (b2, .cells ⟨w64 (fun _ => 0)⟩ 166 (0, 0)) :: L) (fun _ h => h) ?_
  refine run_loopN (fun j σ1 M1 L1 => j ≤ 16 ∧ M = M1 ∧ ∃ f : Nat → B32, (∀ i, i < j → f i = wrd (bytF s) i) ∧ L1 = (b3, .cells ⟨w64 f⟩ 166 (0, 0)) :: (b2, .cells ⟨w64 (fun _ => 0)⟩ 166 (0, 0)) :: L ∧ σ1 = [(4, iv j), (3, pt b3), (2, pt b2), (0, .string s)]) 16 [(4, iv 0), (3, pt b3), (2, pt b2), (0, .string s)] ?_ ⟨Nat.zero_le _, rfl, fun _ => 0, (fun i hi => absurd hi (Nat.not_lt_zero _)), rfl, rfl⟩ (fun j _ _ _ h => h.1) ?_
  · exact ⟨rfl, rfl, rfl, rfl, trivial⟩
  rintro j _ _ _ ⟨hj, rfl, f, hf, rfl, rfl⟩ hnext
  repeat (first | refine zz ?_ | refine zx fun _ => ?_)
  refine run_cond rfl (fun h => ?_) (fun h => ?_)
  · have hlt : j < 16 := by simp at h; omega
    have e1 : IntKind.i64.wrap (4 * (j : Int)) = ((4 * j : Nat) : Int) := by
      have : (4 * (j : Int)) = ((4 * j : Nat) : Int) := by omega
      rw [this]; exact wrap64_nat (by omega)
    have e2 : ∀ c : Nat, c < 4 → IntKind.i64.wrap (IntKind.i64.wrap (4 * (j : Int)) + (c : Int)) = ((4 * j + c : Nat) : Int) := fun c hc => by
      rw [e1]; exact wrap64_nat (n := 4 * j + c) (by omega)
    repeat (first | refine zz ?_ | refine zx fun _ => ?_)
    refine prn_start mixed ?_
    repeat (first | refine dz ?_ | refine dx fun _ => ?_)
    refine pr_as 15 (iv (4 * j)) rfl (congrArg (Value.int .i64) e1) ?_
    refine pq rfl (qt_strIndex (n := 4 * j) tok rfl rfl rfl (fun _ => hat _ (by omega))) ?_
    repeat (first | refine dz ?_ | refine dx fun _ => ?_)
    refine pq rfl (qt_shl rfl rfl (fun _ => by decide)) ?_
    repeat (first | refine dz ?_ | refine dx fun _ => ?_)
    refine pr_as 22 (iv (4 * j + 1)) rfl (congrArg (Value.int .i64) (e2 1 (by decide))) ?_
    refine pq rfl (qt_strIndex (n := 4 * j + 1) tok rfl rfl rfl (fun _ => hat _ (by omega))) ?_
    repeat (first | refine dz ?_ | refine dx fun _ => ?_)
    refine pq rfl (qt_shl rfl rfl (fun _ => by decide)) ?_
    repeat (first | refine dz ?_ | refine dx fun _ => ?_)
    refine pr_as 30 (iv (4 * j + 2)) rfl (congrArg (Value.int .i64) (e2 2 (by decide))) ?_
    refine pq rfl (qt_strIndex (n := 4 * j + 2) tok rfl rfl rfl (fun _ => hat _ (by omega))) ?_
    repeat (first | refine dz ?_ | refine dx fun _ => ?_)
    refine pq rfl (qt_shl rfl rfl (fun _ => by decide)) ?_
    repeat (first | refine dz ?_ | refine dx fun _ => ?_)
    refine pr_as 38 (iv (4 * j + 3)) rfl (congrArg (Value.int .i64) (e2 3 (by decide))) ?_
    refine pq rfl (qt_strIndex (n := 4 * j + 3) tok rfl rfl rfl (fun _ => hat _ (by omega))) ?_
    repeat (first | refine dz ?_ | refine dx fun _ => ?_)
    refine pq rfl (qt_indexA tok rfl rfl rfl rfl (fun _ => by omega)) ?_
    refine prn_e0 rfl (sst tok rfl rfl rfl rfl rfl (by (repeat (first | with_reducible apply Upd.here | with_reducible apply Upd.there | with_reducible apply Upd.append_left))) (w64_put (wrd (bytF s) j) (by omega) (word_val _ _))) (by decide +kernel) ?_
    rintro _ _ _ ⟨rfl, rfl, rfl⟩
    refine prn_end (by decide +kernel) ?_
    repeat (first | refine zz ?_ | refine zx fun _ => ?_)
    refine run_sub' (hnext _ _ _ ⟨hlt, rfl, _, fun x hx => ?_, rfl, rfl⟩) ⟨lk_succ rfl (by omega), rfl, rfl, rfl, trivial⟩
    by_cases e : x = j
    · subst e; rw [fput_same]
    · rw [fput_ne _ _ e]; exact hf x (by omega)
  have : j = 16 := by simp at h; omega
  subst this
  clear hnext
  repeat (first | refine zz ?_ | refine zx fun _ => ?_)
  have hf0 : ∀ i, i < 16 → f i = Wd (wrd (bytF s)) i := fun i hi => by rw [Wd, if_pos hi]; exact hf i hi
  refine run_loopN (fun j σ1 M1 L1 => j ≤ 48 ∧ M = M1 ∧ ∃ g : Nat → B32, (∀ i, i < 16 + j → g i = Wd (wrd (bytF s)) i) ∧ L1 = (b3, .cells ⟨w64 g⟩ 166 (0, 0)) :: (b2, .cells ⟨w64 (fun _ => 0)⟩ 166 (0, 0)) :: L ∧ σ1 = [(5, iv (16 + j)), (3, pt b3), (2, pt b2)]) 48 [(5, iv 16), (3, pt b3), (2, pt b2)] ?_ ⟨Nat.zero_le _, rfl, f, hf0, rfl, rfl⟩ (fun j _ _ _ h => h.1) ?_
  · exact ⟨rfl, rfl, rfl, trivial⟩
  rintro j _ _ _ ⟨hj, rfl, g, hg, rfl, rfl⟩ hnext
  repeat (first | refine zz ?_ | refine zx fun _ => ?_)
  refine run_cond rfl (fun h => ?_) (fun h => ?_)
  · have hlt : j < 48 := by simp at h; omega
    have e15 := sub_w (t := 16 + j) (c := 15) (by omega) (by omega)
    have e2 := sub_w (t := 16 + j) (c := 2) (by omega) (by omega)
    have e16 := sub_w (t := 16 + j) (c := 16) (by omega) (by omega)
    have e7 := sub_w (t := 16 + j) (c := 7) (by omega) (by omega)
    have r15 := hg (16 + j - 15) (by omega)
    have r2 := hg (16 + j - 2) (by omega)
    have r16 := hg (16 + j - 16) (by omega)
    have r7 := hg (16 + j - 7) (by omega)
    repeat (first | refine zz ?_ | refine zx fun _ => ?_)
    refine prn_start mixed ?_
    repeat (first | refine dz ?_ | refine dx fun _ => ?_)
    refine pr_as 48 (iv (16 + j - 15)) rfl (congrArg (Value.int .i64) e15) ?_
    refine pq rfl (qt_indexA tok rfl rfl rfl rfl (fun _ => by omega)) ?_
    refine pq rfl (qt_ld tok rfl (by (repeat (first | with_reducible apply List.mem_cons_self | with_reducible assumption | with_reducible apply List.mem_cons_of_mem | with_reducible apply List.mem_append_right))) (w64_get (by omega))) ?_
    repeat (first | refine dz ?_ | refine dx fun _ => ?_)
    refine pr_as 52 (iv (16 + j - 2)) rfl (congrArg (Value.int .i64) e2) ?_
    refine pq rfl (qt_indexA tok rfl rfl rfl rfl (fun _ => by omega)) ?_
    refine pq rfl (qt_ld tok rfl (by (repeat (first | with_reducible apply List.mem_cons_self | with_reducible assumption | with_reducible apply List.mem_cons_of_mem | with_reducible apply List.mem_append_right))) (w64_get (by omega))) ?_
    repeat (first | refine dz ?_ | refine dx fun _ => ?_)
    refine prn_end (by decide +kernel) ?_
    refine prn_start mixed ?_
    repeat (first | refine dz ?_ | refine dx fun _ => ?_)
    refine pr_as 57 (iv (16 + j - 16)) rfl (congrArg (Value.int .i64) e16) ?_
    refine pq rfl (qt_indexA tok rfl rfl rfl rfl (fun _ => by omega)) ?_
    refine pq rfl (qt_ld tok rfl (by (repeat (first | with_reducible apply List.mem_cons_self | with_reducible assumption | with_reducible apply List.mem_cons_of_mem | with_reducible apply List.mem_append_right))) (w64_get (by omega))) ?_
    repeat (first | refine dz ?_ | refine dx fun _ => ?_)
    refine pq rfl (qt_callF rfl (fun _ => turn_ok _ _ (g (16 + j - 15)) 7 (by decide) (by decide))) ?_
    repeat (first | refine dz ?_ | refine dx fun _ => ?_)
    refine pq rfl (qt_callF rfl (fun _ => turn_ok _ _ (g (16 + j - 15)) 18 (by decide) (by decide))) ?_
    repeat (first | refine dz ?_ | refine dx fun _ => ?_)
    refine pq rfl (qt_shr rfl rfl (fun _ => by decide)) ?_
    repeat (first | refine dz ?_ | refine dx fun _ => ?_)
    refine pr_as 70 (iv (16 + j - 7)) rfl (congrArg (Value.int .i64) e7) ?_
    refine pq rfl (qt_indexA tok rfl rfl rfl rfl (fun _ => by omega)) ?_
    refine pq rfl (qt_ld tok rfl (by (repeat (first | with_reducible apply List.mem_cons_self | with_reducible assumption | with_reducible apply List.mem_cons_of_mem | with_reducible apply List.mem_append_right))) (w64_get (by omega))) ?_
    repeat (first | refine dz ?_ | refine dx fun _ => ?_)
    refine pq rfl (qt_callF rfl (fun _ => turn_ok _ _ (g (16 + j - 2)) 17 (by decide) (by decide))) ?_
    repeat (first | refine dz ?_ | refine dx fun _ => ?_)
    refine pq rfl (qt_callF rfl (fun _ => turn_ok _ _ (g (16 + j - 2)) 19 (by decide) (by decide))) ?_
    repeat (first | refine dz ?_ | refine dx fun _ => ?_)
    refine pq rfl (qt_shr rfl rfl (fun _ => by decide)) ?_
    repeat (first | refine dz ?_ | refine dx fun _ => ?_)
    refine pq rfl (qt_indexA tok rfl rfl rfl rfl (fun _ => by omega)) ?_
    refine prn_e0 rfl (sst tok rfl rfl rfl rfl rfl (by (repeat (first | with_reducible apply Upd.here | with_reducible apply Upd.there | with_reducible apply Upd.append_left))) (w64_put (Wd (wrd (bytF s)) (16 + j)) (by omega) ((wd_val _ _ _ _).trans (by rw [r15, r2, r16, r7, Wd.eq_1 _ (16 + j), if_neg (by omega)])))) (by decide +kernel) ?_
    rintro _ _ _ ⟨rfl, rfl, rfl⟩
    refine prn_end (by decide +kernel) ?_
    repeat (first | refine zz ?_ | refine zx fun _ => ?_)
    refine run_sub' (hnext _ _ _ ⟨hlt, rfl, _, fun x hx => ?_, rfl, rfl⟩) ⟨?_, rfl, rfl, trivial⟩
    · by_cases e : x = 16 + j
      · subst e; rw [fput_same]
      · rw [fput_ne _ _ e]; exact hg x (by omega)
    · exact lk_succ (j := 16 + j) rfl (by omega)
  have : j = 48 := by simp at h; omega
  subst this
  have hfin : w64 g = w64 (fun t => Wd (wrd (bytF s)) t) := by
    unfold w64
    exact fc_ext fun i hi => by rw [hg i (by omega)]
  rw [hfin]
  repeat (first | refine zz ?_ | refine zx fun _ => ?_)
  exact run_ret hC (rs := [.cell 2 166]) rfl (rl tok rfl resN) (fun _ h => h.drop.drop) ⟨rfl, rfl, rfl⟩
end Go.Proofs.YtkjljcgbnikmkaaGreatDoor
namespace Go.Proofs.YtkjljcgbnikmkaaGreatDoor
open Go.Chi
set_option maxRecDepth 10000
def c8 (q : Nat → B32) : List Value := fc (fun i => wU (q i)) 8
theorem c8_get {q : Nat → B32} {j : Nat} (h : j < 8) : ldE tt 153 (c8 q) (0 + j * 1) = some (wU (q j)) := ldE_at rfl (by rw [Nat.zero_add, Nat.mul_one]; exact fc_get h)
theorem c8_put {q : Nat → B32} {j : Nat} {z : Int} (w : B32) (h : j < 8) (hz : z = U w) : setE (c8 q) (0 + j * 1) (cellsL (.int .u32 z)) = some (c8 (fput q j w)) := by
  subst hz
  rw [Nat.zero_add, Nat.mul_one]
  refine (fc_put (wU w) h).trans ?_
  unfold c8
  congr 1
  exact fc_ext fun i _ => by
    by_cases e : i = j
    · subst e; rw [fput_same, fput_same]
    · rw [fput_ne _ _ e, fput_ne _ _ e]
theorem u_not (a : B32) : ixor .u32 4294967295 (U a) = U (~~~a) := by
  have e : (4294967295 : Int) = U (BitVec.allOnes 32) := rfl
  rw [e, u_xor, BitVec.allOnes_xor]
theorem qt_unxor {P : Program} {ro : Option Nat} {σ : Env} {δ : Den} {cur : Path} {M : Mem} {L : HL} {d : Option Nat} {t ty : TypeId} {pos : String} {aft : Array Edge} {g : Option (Nat × Bool)} {x : Operand} {n : Int} (hx : ev σ δ cur x = some (.int .u32 n)) :
    Qt P ro ⟨d, .unOp .xor t x, ty, pos, aft, g⟩ σ δ cur M L (.int .u32 (ixor .u32 4294967295 n)) :=
  qt_of_run (semAt_of (by intro c e; cases e)) fun a w hs hcur hp => by
    simp only [execOp, ev_sound hs hcur hx]
    rfl
set_option maxHeartbeats 16000000 in
theorem took_ok (M : Mem) (L : HL) (s : S8) (t : ByteArray) (ht : t.size = 64) : TrQ Tryz.prog 128 [.agg ⟨s.cells⟩, .string t] M L (.agg ⟨(takeS s (bytF t)).cells⟩) := by
  refine Tr.intro 114 Tryz.func128 rfl rfl Tryz.call128 rfl ?_
  intro C hC hro
  repeat (first | refine zz ?_ | refine zx fun _ => ?_ | refine rq (qt_callF rfl (fun _ => words_ok _ _ t ht)) ?_ | refine rq (qt_callF rfl (fun _ => consts_ok _ _)) ?_)
  rename_i b2 b4 b5 b6 b7
  let W := Wd (wrd (bytF t))
  let LL := fun (r : List Value) => (b7, Obj.cells ⟨r⟩ 154 (0, 0)) :: (b6, Obj.cells ⟨w64 kT⟩ 166 (0, 0)) :: (b5, Obj.cells ⟨w64 W⟩ 166 (0, 0)) :: (b4, Obj.cells ⟨c8 (fun _ => 0)⟩ 154 (0, 0)) :: (b2, Obj.cells ⟨s.cells⟩ 154 (0, 0)) :: L
  refine run_mem (L' := LL s.cells) (fun _ h => h) ?_
  refine run_loopN (fun j σ1 M1 L1 => j ≤ 64 ∧ M = M1 ∧ L1 = LL (rnds kT W j s).cells ∧ σ1 = [(8, iv j), (7, pt b7), (6, pt b6), (5, pt b5), (4, pt b4), (2, pt b2)]) 64 [(8, iv 0), (7, pt b7), (6, pt b6), (5, pt b5), (4, pt b4), (2, pt b2)] ?_ ⟨Nat.zero_le _, rfl, rfl, rfl⟩ (fun j _ _ _ h => h.1) ?_
  · exact ⟨rfl, rfl, rfl, rfl, rfl, rfl, trivial⟩
  rintro j _ _ _ ⟨hj, rfl, rfl, rfl⟩ hnext
  have hs : rnds kT W (j + 1) s = rnd (kT j) (W j) (rnds kT W j s) := rfl
  rw [hs] at hnext
  generalize hr : rnds kT W j s = r at hnext
  simp only [LL]
  repeat (first | refine zz ?_ | refine zx fun _ => ?_)
  refine run_cond rfl (fun h => ?_) (fun h => ?_)
  · have hlt : j < 64 := by simp at h; omega
    repeat (first | refine zz ?_ | refine zx fun _ => ?_)
    refine prn_start mixed ?_
    refine pq rfl (qt_indexC tok rfl rfl rfl rfl (fun _ => by decide)) ?_
    repeat (first | refine dz ?_ | refine dx fun _ => ?_)
    refine pq rfl (qt_indexC tok rfl rfl rfl rfl (fun _ => by decide)) ?_
    repeat (first | refine dz ?_ | refine dx fun _ => ?_)
    refine prn_end (by decide +kernel) ?_
    refine run_seq ?_
    refine prn_start mixed ?_
    refine pq rfl (qt_indexC tok rfl rfl rfl rfl (fun _ => by decide)) ?_
    repeat (first | refine dz ?_ | refine dx fun _ => ?_)
    refine pq rfl (qt_callF rfl (fun _ => turn_ok _ _ _ 6 (by decide) (by decide))) ?_
    repeat (first | refine dz ?_ | refine dx fun _ => ?_)
    refine pq rfl (qt_callF rfl (fun _ => turn_ok _ _ _ 11 (by decide) (by decide))) ?_
    repeat (first | refine dz ?_ | refine dx fun _ => ?_)
    refine pq rfl (qt_callF rfl (fun _ => turn_ok _ _ _ 25 (by decide) (by decide))) ?_
    repeat (first | refine dz ?_ | refine dx fun _ => ?_)
    refine pq rfl (qt_indexC tok rfl rfl rfl rfl (fun _ => by decide)) ?_
    repeat (first | refine dz ?_ | refine dx fun _ => ?_)
    refine pq rfl (qt_unxor rfl) ?_
    refine pq rfl (qt_indexC tok rfl rfl rfl rfl (fun _ => by decide)) ?_
    repeat (first | refine dz ?_ | refine dx fun _ => ?_)
    refine pq rfl (qt_indexA tok rfl rfl rfl rfl (fun _ => hlt)) ?_
    refine pq rfl (qt_ld tok rfl (by (repeat (first | with_reducible apply List.mem_cons_self | with_reducible assumption | with_reducible apply List.mem_cons_of_mem | with_reducible apply List.mem_append_right))) (w64_get hlt)) ?_
    repeat (first | refine dz ?_ | refine dx fun _ => ?_)
    refine pq rfl (qt_indexA tok rfl rfl rfl rfl (fun _ => hlt)) ?_
    refine pq rfl (qt_ld tok rfl (by (repeat (first | with_reducible apply List.mem_cons_self | with_reducible assumption | with_reducible apply List.mem_cons_of_mem | with_reducible apply List.mem_append_right))) (w64_get hlt)) ?_
    repeat (first | refine dz ?_ | refine dx fun _ => ?_)
    refine prn_end (by decide +kernel) ?_
    refine run_seq ?_
    refine prn_start mixed ?_
    repeat (first | refine dz ?_ | refine dx fun _ => ?_)
    refine pq rfl (qt_callF rfl (fun _ => turn_ok _ _ _ 2 (by decide) (by decide))) ?_
    repeat (first | refine dz ?_ | refine dx fun _ => ?_)
    refine pq rfl (qt_callF rfl (fun _ => turn_ok _ _ _ 13 (by decide) (by decide))) ?_
    repeat (first | refine dz ?_ | refine dx fun _ => ?_)
    refine pq rfl (qt_callF rfl (fun _ => turn_ok _ _ _ 22 (by decide) (by decide))) ?_
    repeat (first | refine dz ?_ | refine dx fun _ => ?_)
    refine pq rfl (qt_indexC tok rfl rfl rfl rfl (fun _ => by decide)) ?_
    repeat (first | refine dz ?_ | refine dx fun _ => ?_)
    refine pq rfl (qt_indexC tok rfl rfl rfl rfl (fun _ => by decide)) ?_
    repeat (first | refine dz ?_ | refine dx fun _ => ?_)
    refine pq rfl (qt_indexC tok rfl rfl rfl rfl (fun _ => by decide)) ?_
    repeat (first | refine dz ?_ | refine dx fun _ => ?_)
    refine pq rfl (qt_indexC tok rfl rfl rfl rfl (fun _ => by decide)) ?_
    repeat (first | refine dz ?_ | refine dx fun _ => ?_)
    refine prn_end (by decide +kernel) ?_
    refine run_as 11 (wU (one8 (kT j) (W j) r)) rfl (congrArg (Value.int .u32) (by simp only [u_not, u_xor, u_and, u_add]; unfold one8; rw [← bw_ch]; rfl)) ?_
    refine run_as 12 (wU (two8 r)) rfl (congrArg (Value.int .u32) (by simp only [u_xor, u_and, u_add]; unfold two8; rw [← bw_maj]; rfl)) ?_
    repeat (first | refine zz ?_ | refine zx fun _ => ?_ | refine rq (qt_indexC tok rfl rfl rfl rfl (fun _ => by decide)) ?_)
    refine runL_as 82 (wU (one8 (kT j) (W j) r + two8 r)) rfl (congrArg (Value.int .u32) (u_add _ _)) ?_
    refine runL_as 92 (wU (r.d + one8 (kT j) (W j) r)) rfl (congrArg (Value.int .u32) (u_add _ _)) ?_
    refine rq (Qt.as (v' := .agg ⟨(rnd (kT j) (W j) r).cells⟩) (qt_buildArr tok rfl rfl rfl rfl rfl rfl) rfl) ?_
    repeat (first | refine zz ?_ | refine zx fun _ => ?_)
    exact run_sub' (hnext _ _ _ ⟨hlt, rfl, rfl, rfl⟩) ⟨lk_succ rfl (by omega), rfl, rfl, rfl, rfl, rfl, trivial⟩
  have : j = 64 := by simp at h; omega
  subst this
  clear hnext
  repeat (first | refine zz ?_ | refine zx fun _ => ?_)
  let L2 := fun (q : Nat → B32) => (b7, Obj.cells ⟨c8 q⟩ 154 (0, 0)) :: (b6, Obj.cells ⟨w64 kT⟩ 166 (0, 0)) :: (b5, Obj.cells ⟨w64 W⟩ 166 (0, 0)) :: (b4, Obj.cells ⟨c8 (fun _ => 0)⟩ 154 (0, 0)) :: (b2, Obj.cells ⟨c8 s.get⟩ 154 (0, 0)) :: L
  refine run_mem (L' := L2 r.get) (fun _ h => h) ?_
  refine run_loopN (fun j σ1 M1 L1 => j ≤ 8 ∧ M = M1 ∧ ∃ q : Nat → B32, (∀ i, i < j → q i = s.get i + r.get i) ∧ (∀ i, j ≤ i → q i = r.get i) ∧ L1 = L2 q ∧ σ1 = [(13, iv j), (7, pt b7), (4, pt b4), (2, pt b2)]) 8 [(13, iv 0), (7, pt b7), (4, pt b4), (2, pt b2)] ?_ ⟨Nat.zero_le _, rfl, r.get, (fun i hi => absurd hi (Nat.not_lt_zero _)), (fun i hi => rfl), rfl, rfl⟩ (fun j _ _ _ h => h.1) ?_
  · exact ⟨rfl, rfl, rfl, rfl, trivial⟩
  rintro j _ _ _ ⟨hj, rfl, q, hq1, hq2, rfl, rfl⟩ hnext
  simp only [L2]
  repeat (first | refine zz ?_ | refine zx fun _ => ?_)
  refine run_cond rfl (fun h => ?_) (fun h => ?_)
  · have hlt : j < 8 := by simp at h; omega
    repeat (first | refine zz ?_ | refine zx fun _ => ?_)
    refine prn_start mixed ?_
    repeat (first | refine dz ?_ | refine dx fun _ => ?_)
    refine pq rfl (qt_indexA tok rfl rfl rfl rfl (fun _ => hlt)) ?_
    refine pq rfl (qt_ld tok rfl (by (repeat (first | with_reducible apply List.mem_cons_self | with_reducible assumption | with_reducible apply List.mem_cons_of_mem | with_reducible apply List.mem_append_right))) (c8_get hlt)) ?_
    repeat (first | refine dz ?_ | refine dx fun _ => ?_)
    refine pq rfl (qt_indexA tok rfl rfl rfl rfl (fun _ => hlt)) ?_
    refine pq rfl (qt_ld tok rfl (by (repeat (first | with_reducible apply List.mem_cons_self | with_reducible assumption | with_reducible apply List.mem_cons_of_mem | with_reducible apply List.mem_append_right))) (c8_get hlt)) ?_
    repeat (first | refine dz ?_ | refine dx fun _ => ?_)
    refine pq rfl (qt_indexA tok rfl rfl rfl rfl (fun _ => hlt)) ?_
    refine prn_e0 rfl (sst tok rfl rfl rfl rfl rfl (by (repeat (first | with_reducible apply Upd.here | with_reducible apply Upd.there | with_reducible apply Upd.append_left))) (c8_put (q j + s.get j) hlt (u_add _ _))) (by decide +kernel) ?_
    rintro _ _ _ ⟨rfl, rfl, rfl⟩
    refine prn_end (by decide +kernel) ?_
    repeat (first | refine zz ?_ | refine zx fun _ => ?_)
    refine run_sub' (hnext _ _ _ ⟨hlt, rfl, _, ?_, ?_, rfl, rfl⟩) ⟨lk_succ rfl (by omega), rfl, rfl, rfl, trivial⟩
    · intro x hx
      by_cases e : x = j
      · subst e; rw [fput_same, hq2 x (Nat.le_refl _)]; exact BitVec.add_comm _ _
      · rw [fput_ne _ _ e]; exact hq1 x (by omega)
    · intro x hx
      rw [fput_ne _ _ (by omega)]; exact hq2 x (by omega)
  have : j = 8 := by simp at h; omega
  subst this
  clear hnext
  repeat (first | refine zz ?_ | refine zx fun _ => ?_)
  have e : c8 q = (takeS s (bytF t)).cells := by
    rw [S8.cells_fc]
    exact fc_ext fun i hi => by
      rw [hq1 i hi]
      have : i = 0 ∨ i = 1 ∨ i = 2 ∨ i = 3 ∨ i = 4 ∨ i = 5 ∨ i = 6 ∨ i = 7 := by omega
      rcases this with rfl | rfl | rfl | rfl | rfl | rfl | rfl | rfl <;> (rw [← hr]; rfl)
  exact run_ret hC (rs := [.cell 4 154]) rfl (rl tok rfl resN) (fun _ h => h.drop.drop.drop.drop.drop) ⟨by rw [← e]; rfl, rfl, rfl⟩
end Go.Proofs.YtkjljcgbnikmkaaGreatDoor
namespace Go.Chi
def OSm (e size : Nat) (v : Value) (n : Nat) (xs : List Value) (N : HL) : Prop :=
  ∃ b cap cs fz, v = .slice (some ⟨b, 0, none⟩) n cap ∧ N = [(b, .cells ⟨cs⟩ e fz)] ∧ n ≤ cap ∧ cs.length = cap * size ∧ cs.take (n * size) = xs ∧ (fz = (0, 0) ∨ cap * size ≤ fz.1)
theorem OSm.len {e size : Nat} {v : Value} {n : Nat} {xs : List Value} {N : HL} (h : OSm e size v n xs N) : xs.length = n * size := by
  obtain ⟨b, cap, cs, fz, _, _, hle, hl, rfl, _⟩ := h
  rw [List.length_take, hl]; exact Nat.min_eq_left (Nat.mul_le_mul_right _ hle)
theorem run_storeCells_atM (P : Program) (g o : Nat) (t : TypeId) (fz : Nat × Nat) : ∀ (vs : List Value) (i : Nat) (cur : Array Value) (w : World), w.heap[g]? = some (.cells cur t fz) → (fz = (0, 0) ∨ cur.size ≤ fz.1) → o + i + vs.length ≤ cur.size → (∀ v ∈ vs, v.oneCell' = true) →
    (storeCells ⟨g, o, none⟩ vs i).run P w = .ok () (w.setRow g (cur.toList.take (o + i) ++ vs ++ cur.toList.drop (o + i + vs.length)).toArray)
  | [], i, cur, w, hg, _, _, _ => by
    simp only [storeCells, List.append_nil, List.length_nil, Nat.add_zero, List.take_append_drop, Array.toArray_toList]
    rw [setRow_self w g cur t fz hg]
    rfl
  | v :: rest, i, cur, w, hg, hfz, hl, h1 => by
    have hi : o + i < cur.size := by simp at hl; omega
    have hadd : (⟨g, o, none⟩ : Addr).add i = ⟨g, o + i, none⟩ := by unfold Addr.add; split <;> simp_all
    have hcell : w.cell? ⟨g, o + i, none⟩ = some cur[o + i] := by simp [World.cell?, hg, hi]
    have hfro : w.frozen? ⟨g, o + i, none⟩ = false := by
      rcases hfz with rfl | hfz
      · simp [World.frozen?, hg]
      · obtain ⟨lo, hi'⟩ := fz
        simp only [World.frozen?, hg, Bool.and_eq_false_iff, decide_eq_false_iff_not]
        left
        simp only at hfz
        omega
    have hst : (store ((⟨g, o, none⟩ : Addr).add i) v).run P w = .ok () (w.setRow g (cur.setIfInBounds (o + i) v)) := by
      rw [hadd, run_store P w _ v _ (h1 v (by simp)), hcell]
      simp [hfro, setCell_eq_setRow w g (o + i) cur t fz v hg]
    have ih := run_storeCells_atM P g o t fz rest (i + 1) (cur.setIfInBounds (o + i) v) (w.setRow g (cur.setIfInBounds (o + i) v)) (setRow_heap w g cur _ t _ hg) (by simpa using hfz) (by simp at hl ⊢; omega) (fun x hx => h1 x (by simp [hx]))
    simp only [storeCells, Sem.run_bind, hst, Result.andThen_ok, ih, setRow_setRow]
    congr 3
    have e := list_seg_step cur.toList (o + i) v rest (by simp at hl ⊢; omega)
    simpa [Array.toList_setIfInBounds, Nat.add_assoc] using e
section
variable {P : Program} {T : TT} {ro : Option Nat} {σ : Env} {δ : Den} {cur : Path} {M : Mem} {L : HL} {d : Option Nat} {op : Op} {ty : TypeId} {pos : String} {aft : Array Edge} {g : Option (Nat × Bool)} {v : Value}
theorem st_appendM' (hT : TOk P T) {s x : Operand} {t e : TypeId} {i : TypeInfo} {z : Value} {n m : Nat} {xs news : List Value} {xv : Value} {N L0 : HL}
    (hs : ev σ δ cur s = some v) (hx : ev σ δ cur x = some xv) (ht : und T t = some (.slice e)) (hi : tlk T e = some i) (hz : i.zero = some z) (hzs : (cellsL z).length = i.size) (hby : i.bytes ≠ 0)
    (hL : L.Perm (N ++ L0)) (ho : OSm e i.size v n xs N) (hsrc : SrcG M L i.size xv m news) (h1 : ∀ u ∈ news, u.oneCell' = true) (hroom : (2 * (n + m) + 192) * i.bytes ≤ 281474976710656) (h63 : n + m < 9223372036854775808) :
    St P ro ⟨d, .call ⟨.builtin .append, #[s, x], #[t, t]⟩, ty, pos, aft, g⟩ σ δ cur M L (fun v' M' L' => ∃ N', M = M' ∧ L' = N' ++ L0 ∧ OSm e i.size v' (n + m) (xs ++ news) N') := fun a w hse hcur hp => by
  have hlen := OSm.len ho
  have hes := ev_sound hse hcur hs
  have hex := ev_sound hse hcur hx
  have hp' := hp.perm hL
  have hfirst := run_firstCells (P := P) hp hsrc
  have hlx : ∀ w, (Builtin.lenOf xv).run P w = .ok m w := fun w => by
    rcases hsrc with ⟨_, _, rfl, rfl, _⟩ | ⟨b, off, cap, rfl, _⟩ <;> simp [Builtin.lenOf]
  -- the slice, its base and capacity
  obtain ⟨base, cap, rfl⟩ : ∃ base cap, v = .slice base n cap := by
    obtain ⟨b, cap, cs, fz, rfl, _⟩ := ho
    exact ⟨_, cap, rfl⟩
  have hexec : ∀ (r : Result Value), (Builtin.append_ #[t, t] ty #[.slice base n cap, xv]).run P w = r → (execOp a.eval ⟨d, .call ⟨.builtin .append, #[s, x], #[t, t]⟩, ty, pos, aft, g⟩).run P w = r.andThen fun v w' => .ok (.value v) w' := fun r hr => by
    simp only [execOp, resolve, Sem.run_bind, Sem.run_pure, Result.andThen_ok, invoke, builtin, List.map_toArray, List.map_cons, List.map_nil, hes, hex, hr]
  have hund := run_und hT ht
  by_cases hcap : n + m ≤ cap
  · -- in place
    obtain ⟨b, cap', cs, fz, hv, rfl, hle, hcl, hxs, hfz⟩ := ho
    · injection hv with e1 e2 e3
      subst e1 e3
      have hnl : news.length = m * i.size := by
        rcases hsrc with ⟨_, _, _, rfl, rfl⟩ | ⟨_, _, _, _, _, h⟩
        · simp
        · exact h
      have hb : w.heap[b]? = some (.cells ⟨cs⟩ e fz) := hp'.own (b, .cells ⟨cs⟩ e fz) (by simp)
      have hle2 : n * i.size + news.length ≤ cs.length := by rw [hnl, hcl, ← Nat.add_mul]; exact Nat.mul_le_mul_right _ hcap
      have hrun := run_storeCells_atM P b (n * i.size) e fz news 0 ⟨cs⟩ w hb (hfz.imp id fun h => by rw [← hcl] at h; exact h) (by simpa using hle2) h1
      simp only [Nat.add_zero] at hrun
      refine opWp_value (v := .slice (some ⟨b, 0, none⟩) (n + m) cap) (w' := w.setRow b ⟨setSeg cs (n * i.size) news⟩) ?_ ⟨M, (b, .cells ⟨setSeg cs (n * i.size) news⟩ e fz) :: L0, ?_, [(b, .cells ⟨setSeg cs (n * i.size) news⟩ e fz)], rfl, rfl, ⟨b, cap, _, fz, rfl, rfl, hcap, ?_, ?_, hfz⟩⟩
      · rw [semAt_of (by intro c e; cases e), hexec (.ok (.slice (some ⟨b, 0, none⟩) (n + m) cap) (w.setRow b ⟨setSeg cs (n * i.size) news⟩))]
        · rfl
        · simp only [Builtin.append_, Sem.run_bind, run_size hT hi, hlx, hfirst, Result.andThen_ok, hund, hcap, if_true, Sem.run_pure, Bool.false_eq_true, if_false, Bool.not_false, List.getElem?_toArray, List.getElem?_cons_zero, List.getElem?_cons_succ, add_none, Nat.zero_add, hrun]
          simp [setSeg]
      · exact hp'.setRow (Upd.here _ _ _ _)
      · simp [setSeg]; omega
      · rw [Nat.add_mul, ← hnl]
        have hx' : xs.length = n * i.size := hlen
        unfold setSeg
        rw [hxs, List.take_append_of_le_length (by simp; omega)]
        rw [← hx', ← List.length_append]
        exact List.take_length
  · -- a new array
    have hold : ∀ w, Hp M L w → (Builtin.firstCells i.size n (.slice base n cap)).run P w = .ok ⟨xs⟩ w := fun w hw => by
      refine run_firstCells hw ?_
      obtain ⟨b, cap', cs, fz, hv, rfl, hle, hcl, hxs, hfz⟩ := ho
      · refine .inr ⟨b, 0, cap, ?_, ?_, hlen⟩
        · injection hv with e1 e2 e3; rw [e1]
        · refine ⟨⟨cs⟩, e, fz, .inl (hL.mem_iff.2 (by simp)), fun j u hu => ?_⟩
          rw [← hxs, List.getElem?_take] at hu
          split at hu
          · simpa using hu
          · cases hu
    have hlt : cap < n + m := by omega
    have hnext : ¬ Builtin.nextslicecap (n + m) cap * i.bytes > 2 ^ 48 := by
      have h2 := Nat.mul_le_mul_right i.bytes (nextcap_le hlt)
      have : (2 : Nat) ^ 48 = 281474976710656 := by decide
      omega
    obtain ⟨nc, hnc, hnc2⟩ : ∃ nc, nc = (Question.appendCap (n + m) cap e).cut (w.tape w.drawn (.appendCap (n + m) cap e)) ∧ n + m ≤ nc := ⟨_, rfl, by simp [Question.cut]⟩
    have hd := hp.drawn (w.drawn + 1)
    have hfirst' := run_firstCells (P := P) hd hsrc
    have hold' := hold _ hd
    have hnl : news.length = m * i.size := by
      rcases hsrc with ⟨_, _, _, rfl, rfl⟩ | ⟨_, _, _, _, _, h⟩
      · simp
      · exact h
    let nb : Array Value := ⟨xs⟩ ++ ⟨news⟩ ++ Builtin.zeroCells z.cells (nc - (n + m))
    have hnb : nb = ⟨nb.toList⟩ := rfl
    have hpush := hd.push (.cells nb e (0, 0))
    refine opWp_value (v := .slice (some ⟨w.heap.size, 0, none⟩) (n + m) nc) (w' := { w with drawn := w.drawn + 1, heap := w.heap.push (.cells nb e (0, 0)) }) ?_ ⟨M, (w.heap.size, .cells nb e (0, 0)) :: L0, ?_, [(w.heap.size, .cells nb e (0, 0))], rfl, rfl, ⟨w.heap.size, nc, nb.toList, (0, 0), rfl, rfl, hnc2, ?_, ?_, .inl rfl⟩⟩
    · rw [semAt_of (by intro c e; cases e), hexec (.ok (.slice (some ⟨w.heap.size, 0, none⟩) (n + m) nc) { w with drawn := w.drawn + 1, heap := w.heap.push (.cells nb e (0, 0)) })]
      · rfl
      · have hbz : ¬ (i.bytes = 0) := hby
        simp only [Builtin.append_, Sem.run_bind, run_size hT hi, hlx, Result.andThen_ok, hund, hcap, if_false, Sem.run_pure, Bool.false_eq_true, Bool.not_false, if_true, List.getElem?_toArray, List.getElem?_cons_zero, List.getElem?_cons_succ, run_info hT hi, hbz, or_self, and_false, Sem.run_ite, hnext, run_choose, Question.forced, run_askRoom, ← hnc, hold', hfirst', zeroValue, hz]
        rfl
    · have h3 : Hp M ((w.heap.size, .cells nb e (0, 0)) :: (N ++ L0)) { w with drawn := w.drawn + 1, heap := w.heap.push (.cells nb e (0, 0)) } := hpush.perm (List.Perm.cons _ hL)
      have h4 : Hp M (N ++ ((w.heap.size, .cells nb e (0, 0)) :: L0)) { w with drawn := w.drawn + 1, heap := w.heap.push (.cells nb e (0, 0)) } := h3.perm (by simpa using List.perm_middle.symm)
      exact h4.dropAll
    · have hzc : z.cells.size = i.size := by rw [cellsL_eq]; exact hzs
      have : nb.toList.length = xs.length + news.length + (nc - (n + m)) * i.size := by
        rw [Array.length_toList]
        show ((⟨xs⟩ : Array Value) ++ ⟨news⟩ ++ Builtin.zeroCells z.cells (nc - (n + m))).size = _
        rw [Array.size_append, Array.size_append, zeroCells_size, hzc]
        rfl
      rw [this, hlen, hnl, ← Nat.add_mul, ← Nat.add_mul]
      congr 1; omega
    · have : nb.toList = (xs ++ news) ++ (Builtin.zeroCells z.cells (nc - (n + m))).toList := by simp [nb]
      rw [this]
      have hl2 : (xs ++ news).length = (n + m) * i.size := by rw [List.length_append, hlen, hnl, Nat.add_mul]
      rw [← hl2, List.take_left']
      rfl
theorem st_appendM (hT : TOk P T) {s x : Operand} {t e sz by_ : Nat} {z : Value} {n m : Nat} {xs news : List Value} {xv : Value} {N L0 : HL}
    (hs : ev σ δ cur s = some v) (hx : ev σ δ cur x = some xv) (ht : und T t = some (.slice e)) (hi : sizeT T e = some sz) (hz : zeroT T e = some z) (hzs : (cellsL z).length = sz) (hb : bytesT T e = some by_) (hby : Nat.ble 1 by_ = true)
    (hL : L.Perm (N ++ L0)) (ho : OSm e sz v n xs N) (hsrc : SrcG M L sz xv m news) (h1 : ∀ u ∈ news, u.oneCell' = true) (hroom : (2 * (n + m) + 192) * by_ ≤ 281474976710656) (h63 : n + m < 9223372036854775808) :
    St P ro ⟨d, .call ⟨.builtin .append, #[s, x], #[t, t]⟩, ty, pos, aft, g⟩ σ δ cur M L (fun v' M' L' => ∃ N', M = M' ∧ L' = N' ++ L0 ∧ OSm e sz v' (n + m) (xs ++ news) N') := by
  obtain ⟨i, hi1, rfl⟩ := sizeT_ok hi
  obtain ⟨i2, hi2, hz2⟩ := zeroT_ok hz
  obtain ⟨i3, hi3, rfl⟩ := bytesT_ok hb
  rw [hi1] at hi2 hi3
  cases hi2
  cases hi3
  exact st_appendM' hT hs hx ht hi1 hz2 hzs (by have := Nat.le_of_ble_eq_true hby; omega) hL ho hsrc h1 hroom h63
theorem st_strBytes (hT : TOk P T) {s t e : TypeId} {x : Operand} {str : ByteArray} (hs' : und T s = some .string) (ht : und T t = some (.slice e)) (he : und T e = some (.int .u8)) (hx : ev σ δ cur x = some (.string str)) :
    St P ro ⟨d, .convert s t x, ty, pos, aft, g⟩ σ δ cur M L (fun v M' L' => ∃ N, M = M' ∧ L' = N ++ L ∧ OSm e 1 v str.size (bC str.data.toList) N) := fun a w hse hcur hp => by
  have hrun := run_bytes_of_string (P := P) w s t e str (und_ok hT hs') (und_ok hT ht) (und_ok hT he)
  have hle : str.size ≤ grownCap w str.size 0 e := by unfold grownCap; simp [Question.cut]
  generalize grownCap w str.size 0 e = cap at hrun hle
  have hrow : (bytesRow str cap).toList = bC str.data.toList ++ List.replicate (cap - str.size) (.int .u8 0) := by
    simp [bytesRow, bC]
  have hbl : (bC str.data.toList).length = str.size := by simp [bC]
  have hd := hp.drawn (w.drawn + 1)
  refine opWp_value (v := .slice (some ⟨w.heap.size, 0, none⟩) str.size cap) (w' := w.drew.alloc (.cells (bytesRow str cap) e ((bytesRow str cap).size, (bytesRow str cap).size + 1))) ?_ ⟨M, _, hd.push (.cells (bytesRow str cap) e ((bytesRow str cap).size, (bytesRow str cap).size + 1)), [(w.heap.size, .cells (bytesRow str cap) e ((bytesRow str cap).size, (bytesRow str cap).size + 1))], rfl, rfl, ⟨w.heap.size, cap, (bytesRow str cap).toList, _, rfl, rfl, hle, ?_, ?_, .inr ?_⟩⟩
  · rw [semAt_of (by intro c e; cases e)]
    simp only [execOp, ev_sound hse hcur hx, Sem.run_bind, hrun, Result.andThen_ok, Sem.run_pure]
  · rw [hrow, List.length_append, hbl, List.length_replicate]; omega
  · rw [hrow, Nat.mul_one, ← hbl, List.take_left' rfl]
  · show cap * 1 ≤ (bytesRow str cap).size
    rw [← Array.length_toList, hrow, List.length_append, hbl, List.length_replicate]; omega
end
end Go.Chi
namespace Go.Proofs.YtkjljcgbnikmkaaGreatDoor
open Go.Chi
set_option maxRecDepth 10000
theorem osm_cells {M : Mem} {e n : Nat} {v : Value} {xs : List Value} {N : HL} (h : OSm e 1 v n xs N) : ∃ b cap, v = .slice (some ⟨b, 0, none⟩) n cap ∧ ∀ L : HL, (∀ p ∈ N, p ∈ L) → Cells M L b 0 xs := by
  obtain ⟨b, cap, cs, fz, rfl, rfl, hle, hcl, hxs, _⟩ := h
  refine ⟨b, cap, rfl, fun L hL => ⟨⟨cs⟩, e, fz, .inl (hL _ List.mem_cons_self), fun i u hu => ?_⟩⟩
  rw [← hxs, List.getElem?_take] at hu
  split at hu
  · simpa using hu
  · cases hu
theorem bC_append (a b : List UInt8) : bC (a ++ b) = bC a ++ bC b := by unfold bC; rw [List.map_append]
theorem lenB_val (n j : Nat) (_hj : j < 8) : IntKind.u8.wrap (ishr .u64 ((8 * n : Nat) : Int) ((56 - 8 * j : Nat) : Int)) = ((UInt8.ofNat (IntKind.u8.wrap (ishr .u64 ((8 * n : Nat) : Int) ((56 - 8 * j : Nat) : Int))).toNat).toNat : Int) := by
  generalize ishr .u64 ((8 * n : Nat) : Int) ((56 - 8 * j : Nat) : Int) = z
  have h : IntKind.u8.wrap z = z % 256 := by
    simp only [IntKind.wrap, IntKind.signed, IntKind.bits]
    simp
  rw [h]
  have h2 : (UInt8.ofNat (z % 256).toNat).toNat = (z % 256).toNat := by
    simp only [UInt8.toNat_ofNat']
    omega
  rw [h2]; omega
set_option maxHeartbeats 16000000 in
theorem padded_ok (M : Mem) (L : HL) (s : ByteArray) (hs : s.size < 100000000000) : TrQ Tryz.prog 127 [.string s] M L (.string ⟨(padL s.data.toList).toArray⟩) := by
  have hsl : s.data.toList.length = s.size := ba_len s
  generalize hT : s.data.toList = T at hsl
  generalize hn : s.size = n at hsl
  rw [hn] at hs
  refine Tr.intro 36 Tryz.func127 rfl rfl Tryz.call127 rfl ?_
  intro C hC hro
  repeat (first | refine zz ?_ | refine zx fun _ => ?_ | (refine ro (st_strBytes tok rfl rfl rfl rfl) ?_; rintro _ _ _ ⟨N, rfl, rfl, hO⟩))
  rename_i b8
  rw [hT, hn] at hO
  refine ro (st_appendM (news := [.int .u8 128]) tok rfl rfl rfl rfl rfl rfl rfl rfl (pm1 _ N _) hO (.inr ⟨b8, 0, 1, rfl, cellsAll List.mem_cons_self, rfl⟩) (by intro u hu; exact oneL_ok (vs := _) (by rfl) u hu) (by omega) (by omega)) ?_
  rintro v _ _ ⟨N', rfl, rfl, hO'⟩
  refine runL_mem (fun _ h => (h.perm (List.perm_middle)).drop) ?_
  have hO1 : OSm 5 1 v (n + 1 + 0) (bC (T ++ ([128] ++ List.replicate 0 0))) N' := by rw [bC_append]; exact hO'
  clear hO hO'
  repeat (first | refine zz ?_ | refine zx fun _ => ?_)
  refine run_loopN (fun j σ1 M1 L1 => j ≤ padZ n ∧ M = M1 ∧ ∃ v N, OSm 5 1 v (n + 1 + j) (bC (T ++ ([128] ++ List.replicate j 0))) N ∧ L1 = N ++ L ∧ σ1 = [(3, v), (0, .string s)]) (padZ n) [(3, v), (0, .string s)] ?_ ⟨Nat.zero_le _, rfl, v, N', hO1, rfl, rfl⟩ (fun j _ _ _ h => h.1) ?_
  · exact ⟨rfl, rfl, trivial⟩
  clear hO1
  rintro j _ _ _ ⟨hj, rfl, v, N, hO, rfl, rfl⟩ hnext
  obtain ⟨b, cap, rfl, _⟩ := osm_cells (M := M) hO
  have hpz : padZ n ≤ 63 ∧ (n + 1 + padZ n) % 64 = 56 ∧ (j < padZ n → (n + 1 + j) % 64 ≠ 56) := by unfold padZ at hj ⊢; omega
  refine run_seq ?_
  refine run_seq ?_
  refine run_region ?_
  repeat (first | refine wq ?_ | refine wg ?_)
  refine rq (Qt.as (v' := iv ((n + 1 + j) % 64)) (qt_rem rfl rfl (fun _ => by decide)) (congrArg (Value.int .i64) (tmod64 _))) ?_
  repeat (first | refine wq ?_ | refine wg ?_)
  refine runL_nil ?_
  refine run_cond rfl (fun h => ?_) (fun h => ?_)
  · have hne : (n + 1 + j) % 64 ≠ 56 := by simp at h; omega
    have hlt : j < padZ n := by
      refine Nat.lt_of_le_of_ne hj (fun e => ?_)
      rw [e] at hne; exact hne hpz.2.1
    repeat (first | refine zz ?_ | refine zx fun _ => ?_)
    rename_i b9
    refine ro (st_appendM (news := [.int .u8 0]) tok rfl rfl rfl rfl rfl rfl rfl rfl (pm1 _ N _) hO (.inr ⟨b9, 0, 1, rfl, cellsAll List.mem_cons_self, rfl⟩) (by intro u hu; exact oneL_ok (vs := _) (by rfl) u hu) (by omega) (by omega)) ?_
    rintro v' _ _ ⟨N', rfl, rfl, hO'⟩
    refine runL_mem (fun _ h => (h.perm (List.perm_middle)).drop) ?_
    repeat (first | refine zz ?_ | refine zx fun _ => ?_)
    refine run_sub' (hnext _ _ _ ⟨hlt, rfl, v', N', ?_, rfl, rfl⟩) ⟨rfl, rfl, trivial⟩
    rw [rep_snoc, ← List.append_assoc, ← List.append_assoc, bC_append]
    rw [← List.append_assoc] at hO'
    exact hO'
  have hje : j = padZ n := by
    have : (n + 1 + j) % 64 = 56 := by simp at h; omega
    by_cases hlt : j < padZ n
    · exact absurd this (hpz.2.2 hlt)
    · omega
  subst hje
  clear hnext
  have hbits : IntKind.u64.wrap (8 * IntKind.u64.wrap (n : Int)) = ((8 * n : Nat) : Int) := by
    have e : IntKind.u64.wrap (n : Int) = (n : Int) := by rw [u64_wrap]; omega
    rw [e, u64_wrap]; omega
  repeat (first | refine zz ?_ | refine zx fun _ => ?_)
  refine run_as 4 (.int .u64 ((8 * n : Nat) : Int)) rfl (congrArg (Value.int .u64) (by rw [hn]; exact hbits)) ?_
  have hO2 : OSm 5 1 (.slice (some ⟨b, 0, none⟩) (n + 1 + padZ n) cap) (n + 1 + padZ n + 0) (bC (T ++ ([128] ++ (List.replicate (padZ n) 0 ++ lenB n 0)))) N := by
    rw [show lenB n 0 = [] from rfl, List.append_nil]; exact hO
  clear hO
  repeat (first | refine zz ?_ | refine zx fun _ => ?_)
  refine run_loopN (fun j σ1 M1 L1 => j ≤ 8 ∧ M = M1 ∧ ∃ v N, OSm 5 1 v (n + 1 + padZ n + j) (bC (T ++ ([128] ++ (List.replicate (padZ n) 0 ++ lenB n j)))) N ∧ L1 = N ++ L ∧ σ1 = [(5, .int .i64 (7 - (j : Int))), (4, .int .u64 ((8 * n : Nat) : Int)), (3, v)]) 8 [(5, .int .i64 7), (4, .int .u64 ((8 * n : Nat) : Int)), (3, .slice (some ⟨b, 0, none⟩) (n + 1 + padZ n) cap)] ?_ ⟨Nat.zero_le _, rfl, _, N, hO2, rfl, rfl⟩ (fun j _ _ _ h => h.1) ?_
  · exact ⟨rfl, rfl, rfl, trivial⟩
  clear hO2
  rintro j _ _ _ ⟨hj, rfl, v, N, hO, rfl, rfl⟩ hnext
  obtain ⟨b, cap, rfl, hcells⟩ := osm_cells (M := M) hO
  refine run_seq ?_
  refine run_seq ?_
  (refine run_region ?_; (repeat (first | refine zq ?_ | refine zx fun _ => ?_)); refine runL_nil ?_)
  refine run_cond rfl (fun h => ?_) (fun h => ?_)
  · have hlt : j < 8 := by simp at h; omega
    have e1 : IntKind.u64.wrap (IntKind.i64.wrap (8 * (7 - (j : Int)))) = ((56 - 8 * j : Nat) : Int) := by
      rw [show 8 * (7 - (j : Int)) = ((56 - 8 * j : Nat) : Int) by omega, wrap64_nat (by omega), u64_wrap]; omega
    have hpz : padZ n ≤ 63 := by unfold padZ; omega
    refine run_skip ?_
    repeat (first | refine zz ?_ | refine zx fun _ => ?_)
    refine runL_as 29 (.int .u64 ((56 - 8 * j : Nat) : Int)) rfl (congrArg (Value.int .u64) e1) ?_
    refine rq (qt_shr rfl rfl (fun _ => by omega)) ?_
    repeat (first | refine zz ?_ | refine zx fun _ => ?_)
    rename_i b9
    refine ro (st_appendM (news := [.int .u8 (IntKind.u8.wrap (ishr .u64 ((8 * n : Nat) : Int) ((56 - 8 * j : Nat) : Int)))]) tok rfl rfl rfl rfl rfl rfl rfl rfl (pm1 _ N _) hO (.inr ⟨b9, 0, 1, rfl, cellsAll List.mem_cons_self, rfl⟩) (by intro u hu; exact oneL_ok (vs := _) (by rfl) u hu) (by omega) (by omega)) ?_
    rintro v' _ _ ⟨N', rfl, rfl, hO'⟩
    refine runL_mem (fun _ h => (h.perm (List.perm_middle)).drop) ?_
    repeat (first | refine zz ?_ | refine zx fun _ => ?_)
    refine run_as 5 (.int .i64 (7 - ((j + 1 : Nat) : Int))) rfl (congrArg (Value.int .i64) ?_) ?_
    · rw [IntWalk.i64_in _ (by omega)]; omega
    refine run_sub' (hnext _ _ _ ⟨hlt, rfl, v', N', ?_, rfl, rfl⟩) ⟨rfl, rfl, rfl, trivial⟩
    rw [lenB_val n j hlt] at hO'
    rw [lenB, ← List.append_assoc, ← List.append_assoc, ← List.append_assoc, bC_append]
    rw [← List.append_assoc, ← List.append_assoc] at hO'
    exact hO'
  have hj8 : j = 8 := by simp at h; omega
  subst hj8
  clear hnext
  have hpad : T ++ ([128] ++ (List.replicate (padZ n) 0 ++ lenB n 8)) = padL T := by rw [← hsl]; rfl
  rw [hpad] at hcells
  have hplen : (padL T).length = n + 1 + padZ n + 8 := by
    rw [← hpad]; simp [lenB_length, hsl]; omega
  repeat (first | refine zz ?_ | refine zx fun _ => ?_)
  refine rq (qt_bytesT ⟨(padL T).toArray⟩ rfl rfl rfl rfl (hcells _ (fun p hp => List.mem_append_left _ hp)) hplen) ?_
  repeat (first | refine zz ?_ | refine zx fun _ => ?_)
  exact run_ret hC (rs := [.tmp 2]) rfl (resT rfl resN) (fun _ h => h.dropAll) ⟨rfl, rfl, rfl⟩
end Go.Proofs.YtkjljcgbnikmkaaGreatDoor
namespace Go.Proofs.YtkjljcgbnikmkaaGreatDoor
open Go.Chi
set_option maxRecDepth 10000
theorem osV5 {e size n : Nat} {v : Value} {xs : List Value} {N : HL} (h : OS e size v n xs N) : ∃ a c, v = .slice a n c := by
  rcases h with ⟨rfl, rfl, _, _⟩ | ⟨b, cap, cs, rfl, _⟩
  · exact ⟨none, 0, rfl⟩
  · exact ⟨_, cap, rfl⟩
theorem bytF_ext {s : ByteArray} {a i : Nat} (hi : i < 64) : bytF (s.extract a (a + 64)) i = s.data.toList.getD (a + i) 0 := by
  unfold bytF
  rw [ba_extract, List.getD_eq_getElem?_getD, List.getD_eq_getElem?_getD, List.getElem?_drop, List.getElem?_take, if_pos (by omega)]
set_option maxHeartbeats 16000000 in
theorem refSum_ok (M : Mem) (L : HL) (s : ByteArray) (hs : s.size < 100000000000) : TrQ Tryz.prog 114 [.string s] M L (.string (sumB s.data.toList)) := by
  refine Tr.intro 52 Tryz.func114 rfl rfl Tryz.call114 rfl ?_
  intro C hC hro
  generalize hT : padL s.data.toList = T
  have hl64 : T.length % 64 = 0 := by rw [← hT]; exact padL_length _
  have hlt12 : T.length < 1000000000000 := by
    rw [← hT]; unfold padL padZ; simp only [List.length_append, List.length_replicate, lenB_length, List.length_cons, List.length_nil, ba_len]; omega
  repeat (first | refine zz ?_ | refine zx fun _ => ?_ | refine rq (qt_callF rfl (fun _ => padded_ok _ _ s hs)) ?_ | refine rq (Qt.as (v' := .agg ⟨iv8.cells⟩) (qt_buildArr tok rfl rfl rfl rfl rfl rfl) rfl) ?_)
  rename_i b4
  rw [hT]
  refine run_loopN (fun j σ1 M1 L1 => j ≤ T.length / 64 ∧ M = M1 ∧ L1 = (b4, .cells ⟨(foldB T j).cells⟩ 154 (0, 0)) :: L ∧ σ1 = [(5, iv (64 * j)), (4, pt b4), (3, .string ⟨T.toArray⟩)]) (T.length / 64) [(5, iv 0), (4, pt b4), (3, .string ⟨T.toArray⟩)] ?_ ⟨Nat.zero_le _, rfl, rfl, rfl⟩ (fun j _ _ _ h => h.1) ?_
  · exact ⟨rfl, rfl, rfl, trivial⟩
  rintro j _ _ _ ⟨hj, rfl, rfl, rfl⟩ hnext
  repeat (first | refine zz ?_ | refine zx fun _ => ?_)
  have hTs : (⟨T.toArray⟩ : ByteArray).size = T.length := rfl
  refine run_cond rfl (fun h => ?_) (fun h => ?_)
  · rw [hTs] at h
    have hlt : j < T.length / 64 := by simp at h; omega
    have e1 : IntKind.i64.wrap (((64 * j : Nat) : Int) + 64) = ((64 * j + 64 : Nat) : Int) := wrap64_nat (n := 64 * j + 64) (by omega)
    have hxs : ((⟨T.toArray⟩ : ByteArray).extract (64 * j) (64 * j + 64)).size = 64 := by
      rw [← ba_len, ba_extract, List.length_drop, List.length_take, ba_len, hTs]; omega
    have hstep : takeS (foldB T j) (bytF ((⟨T.toArray⟩ : ByteArray).extract (64 * j) (64 * j + 64))) = foldB T (j + 1) := by
      rw [foldB]
      exact takeS_congr _ fun i hi => bytF_ext hi
    repeat (first | refine zz ?_ | refine zx fun _ => ?_)
    refine prn_start mixed ?_
    refine pq rfl (qt_ld (v := .agg ⟨(foldB T j).cells⟩) tok rfl List.mem_cons_self rfl) ?_
    repeat (first | refine dz ?_ | refine dx fun _ => ?_)
    refine pr_as 21 (iv (64 * j + 64)) rfl (congrArg (Value.int .i64) e1) ?_
    refine pq rfl (qt_strMid tok rfl rfl rfl rfl (fun _ => ⟨by omega, by rw [hTs]; omega⟩)) ?_
    refine pq rfl (qt_callF rfl (fun _ => took_ok _ _ (foldB T j) _ hxs)) ?_
    rw [hstep]
    repeat (first | refine dz ?_ | refine dx fun _ => ?_)
    refine prn_end (by decide +kernel) ?_
    repeat (first | refine zz ?_ | refine zx fun _ => ?_)
    exact run_sub' (hnext _ _ _ ⟨hlt, rfl, rfl, rfl⟩) ⟨congrArg (fun z => some (Value.int .i64 z)) e1, rfl, rfl, trivial⟩
  rw [hTs] at h
  have hje : j = T.length / 64 := by simp at h; omega
  subst hje
  clear hnext
  generalize hst : foldB T (T.length / 64) = s4
  repeat (first | refine zz ?_ | refine zx fun _ => ?_)
  refine run_loopN (fun j σ1 M1 L1 => j ≤ 8 ∧ M = M1 ∧ ∃ v N, OS 5 1 v (4 * j) ((outI s4 j).map (Value.int .u8)) N ∧ L1 = N ++ ((b4, .cells ⟨c8 s4.get⟩ 154 (0, 0)) :: L) ∧ σ1 = [(7, iv j), (6, v), (4, pt b4)]) 8 [(7, iv 0), (6, .slice none 0 0), (4, pt b4)] ?_ ⟨Nat.zero_le _, rfl, _, [], OS.nil _ _, rfl, rfl⟩ (fun j _ _ _ h => h.1) ?_
  · exact ⟨rfl, rfl, rfl, trivial⟩
  rintro j _ _ _ ⟨hj, rfl, v, N, hO, rfl, rfl⟩ hnext
  repeat (first | refine zz ?_ | refine zx fun _ => ?_)
  refine run_cond rfl (fun h => ?_) (fun h => ?_)
  · have hlt : j < 8 := by simp at h; omega
    obtain ⟨av, cv, rfl⟩ := osV5 hO
    repeat (first | refine zz ?_ | refine zx fun _ => ?_)
    refine prn_start mixed ?_
    repeat (first | refine dz ?_ | refine dx fun _ => ?_)
    refine pq rfl (qt_indexA tok rfl rfl rfl rfl (fun _ => hlt)) ?_
    refine pq rfl (qt_ld tok rfl (List.mem_append_right _ List.mem_cons_self) (c8_get hlt)) ?_
    refine pq rfl (qt_shr rfl rfl (fun _ => by decide)) ?_
    repeat (first | refine dz ?_ | refine dx fun _ => ?_)
    refine pq rfl (qt_indexA tok rfl rfl rfl rfl (fun _ => hlt)) ?_
    refine pq rfl (qt_ld tok rfl (List.mem_append_right _ List.mem_cons_self) (c8_get hlt)) ?_
    refine pq rfl (qt_shr rfl rfl (fun _ => by decide)) ?_
    repeat (first | refine dz ?_ | refine dx fun _ => ?_)
    refine pq rfl (qt_indexA tok rfl rfl rfl rfl (fun _ => hlt)) ?_
    refine pq rfl (qt_ld tok rfl (List.mem_append_right _ List.mem_cons_self) (c8_get hlt)) ?_
    refine pq rfl (qt_shr rfl rfl (fun _ => by decide)) ?_
    repeat (first | refine dz ?_ | refine dx fun _ => ?_)
    refine pq rfl (qt_indexA tok rfl rfl rfl rfl (fun _ => hlt)) ?_
    refine pq rfl (qt_ld tok rfl (List.mem_append_right _ List.mem_cons_self) (c8_get hlt)) ?_
    repeat (first | refine dz ?_ | refine dx fun _ => ?_)
    rename_i b9
    refine prn_e1 rfl (st_append (news := (wbI (s4.get j)).map (Value.int .u8)) tok rfl rfl rfl rfl rfl rfl rfl rfl (pm1 _ N _) hO (.inr ⟨b9, 0, 4, rfl, cellsAll List.mem_cons_self, rfl⟩) (by intro u hu; exact oneL_ok (vs := _) (by rfl) u hu) (by omega) (by omega)) (by decide +kernel) rfl rfl rfl ?_
    rintro v5 _ _ ⟨N', rfl, rfl, hO'⟩
    obtain ⟨a5, c5, rfl⟩ := osV5 hO'
    repeat (first | refine dz ?_ | refine dx fun _ => ?_)
    refine prn_end (by decide +kernel) ?_
    refine run_mem (L' := N' ++ ((b4, .cells ⟨c8 s4.get⟩ 154 (0, 0)) :: L)) (fun _ h => (h.perm (List.perm_middle)).drop) ?_
    repeat (first | refine zz ?_ | refine zx fun _ => ?_)
    refine run_sub' (hnext _ _ _ ⟨hlt, rfl, _, N', ?_, rfl, rfl⟩) ⟨lk_succ rfl (by omega), rfl, rfl, trivial⟩
    rw [outI, List.map_append]
    exact hO'
  have hj8 : j = 8 := by simp at h; omega
  subst hj8
  clear hnext
  rcases hO with ⟨_, h0, _, _⟩ | ⟨bo, cap, cs, rfl, rfl, hcap, hcl, htk⟩
  · omega
  have hcells : ∀ Lx : HL, (bo, Obj.cells ⟨cs⟩ 5 (0, 0)) ∈ Lx → Cells M Lx bo 0 ((outI s4 8).map (Value.int .u8)) := fun Lx hm => ⟨⟨cs⟩, _, _, .inl hm, fun i u hu => by
    rw [← htk, List.getElem?_take] at hu
    split at hu
    · simpa using hu
    · cases hu⟩
  repeat (first | refine zz ?_ | refine zx fun _ => ?_ | refine rq (qt_bytesStr tok (outI s4 8) rfl rfl rfl rfl (hcells _ List.mem_cons_self) (outI_length s4 8)) ?_)
  refine run_ret hC (rs := [.tmp 2]) rfl (resT rfl resN) (fun _ h => h.drop.drop) ⟨?_, rfl, rfl⟩
  show Value.string (bytesI (outI s4 8)) = _
  rw [← hst, ← hT, sumB]
end Go.Proofs.YtkjljcgbnikmkaaGreatDoor
namespace Go.Proofs.YtkjljcgbnikmkaaGreatDoor
open Go.Chi
set_option maxRecDepth 10000
theorem refNext_ok (M : Mem) (L : HL) (l r : ByteArray) (hl : l.size ≤ 32) (hr : r.size ≤ 10000) : TrQ Tryz.prog 82 [.string l, .string r] M L (.string (nextB l r)) := by
  have hsz : (l ++ r).size < 100000000000 := by rw [app_size]; omega
  have e : sumB (l ++ r).data.toList = nextB l r := by rw [ba_app]; rfl
  refine Tr.intro 9 Tryz.func82 rfl rfl Tryz.call82 rfl ?_
  intro C hC hro
  repeat (first | refine zz ?_ | refine zx fun _ => ?_ | refine rq (qt_concat rfl rfl (by omega)) ?_ | refine rq (qt_callF rfl (fun _ => refSum_ok _ _ (l ++ r) hsz)) ?_)
  exact run_ret hC (rs := [.tmp 4]) rfl (resT rfl resN) (fun _ h => h) ⟨by rw [← e]; rfl, rfl, rfl⟩
theorem refFrame_ok (M : Mem) (L : HL) (l r : ByteArray) (hl : l.size ≤ 32) (hr : r.size ≤ 10000) : TrQ Tryz.prog 53 [.string l, .string r] M L (.string (frB l r)) := by
  have hts := textB_size r
  have htl : (textB r).size ≤ r.size + 9 := by
    have := numB_size (v := r.size) (by omega)
    rw [textB, app_size]; omega
  have hns := nextB_size l r
  refine Tr.intro 11 Tryz.func53 rfl rfl Tryz.call53 rfl ?_
  intro C hC hro
  repeat (first | refine zz ?_ | refine zx fun _ => ?_ | refine rq (qt_callF rfl (fun _ => dtext_ok _ _ r (by omega))) ?_ | refine rq (qt_callF rfl (fun _ => refNext_ok _ _ l r hl hr)) ?_ | refine rq (qt_concat rfl rfl (by omega)) ?_)
  exact run_ret hC (rs := [.tmp 4]) rfl (resT rfl resN) (fun _ h => h) ⟨rfl, rfl, rfl⟩
theorem refFirst_ok (M : Mem) (L : HL) : TrQ Tryz.prog 100 [] M L (.string firstB) := by
  refine Tr.intro 3 Tryz.func100 rfl rfl Tryz.call100 rfl ?_
  intro C hC hro
  repeat (first | refine zz ?_ | refine zx fun _ => ?_)
  refine ro (st_makeSlice (n := 32) tok rfl rfl rfl rfl rfl rfl rfl (by decide) (by decide)) ?_
  rintro _ _ _ ⟨b, rfl, rfl, rfl⟩
  have hc : Cells M ((b, .cells ⟨List.replicate 32 (.int .u8 0)⟩ 5 (0, 0)) :: L) b 0 (bC firstB.data.toList) := cellsAll List.mem_cons_self
  refine rq (qt_bytesT firstB rfl rfl rfl rfl hc rfl) ?_
  repeat (first | refine zz ?_ | refine zx fun _ => ?_)
  exact run_ret hC (rs := [.tmp 0]) rfl (resT rfl resN) (fun _ h => h.drop) ⟨rfl, rfl, rfl⟩
theorem frs_le : ∀ (ts : List ByteArray) (l : ByteArray), AllSh ts → (frsB l ts).size ≤ 8233 * ts.length
  | [], _, _ => Nat.zero_le _
  | t :: ts, l, h => by
    have h1 := frs_le ts (nextB l t) (fun u hu => h u (List.mem_cons_of_mem _ hu))
    have h2 := h t List.mem_cons_self
    have h3 := numB_size (v := t.size) (by omega)
    rw [frsB, app_size, frB_size, textB, app_size, List.length_cons]
    omega
theorem frs_next {ts : List ByteArray} {j : Nat} {t : ByteArray} (ht : ts[j]? = some t) : frsB firstB (ts.take (j + 1)) = frsB firstB (ts.take j) ++ frB (linkB ts j) t ∧ linkB ts (j + 1) = nextB (linkB ts j) t := by
  unfold linkB
  rw [take_snoc ht, frsB_app, frsB_one, headB_app]
  exact ⟨rfl, rfl⟩
set_option maxHeartbeats 8000000 in
theorem refFrames_ok (M : Mem) (L : HL) (s : SStr) (hs : StOk M s) (hsh : AllSh s.xs) : TrQ Tryz.prog 78 [s.v] M L (.tuple ⟨[.string (frsB firstB s.xs), .string (headB firstB s.xs), .int .i64 0]⟩) := by
  have hx1 := hs.len
  have hlt6 := hs.2
  refine Tr.intro 37 Tryz.func78 rfl rfl Tryz.call78 rfl ?_
  intro C hC hro
  repeat (first | refine zz ?_ | refine zx fun _ => ?_ | refine rq (qt_callF rfl (fun _ => refFirst_ok _ _)) ?_)
  refine run_loopN (fun j σ1 M1 L1 => j ≤ s.len ∧ M = M1 ∧ L = L1 ∧ σ1 = [(7, iv j), (6, .string (linkB s.xs j)), (5, .string (frsB firstB (s.xs.take j))), (0, s.v)]) s.len [(7, iv 0), (6, .string firstB), (5, .string ⟨#[]⟩), (0, s.v)] ?_ ⟨Nat.zero_le _, rfl, rfl, rfl⟩ (fun j _ _ _ h => h.1) ?_
  · exact ⟨rfl, rfl, rfl, rfl, trivial⟩
  rintro j _ _ _ ⟨hj, rfl, rfl, rfl⟩ hnext
  repeat (first | refine zz ?_ | refine zx fun _ => ?_)
  refine run_cond rfl (fun h => ?_) (fun h => ?_)
  · have hlt : j < s.len := by simpa using h
    obtain ⟨b, off, t, ha, ht, hc⟩ := SStr.at_ hs.1 hlt
    have hv : s.v = .slice (some ⟨b, off, none⟩) s.len s.cap := by rw [← ha]; rfl
    have hts := hsh t (List.mem_of_getElem? ht)
    have hls : (linkB s.xs j).size = 32 := headB_size _ _ rfl
    obtain ⟨e1, e2⟩ := frs_next ht
    have hfl := frs_le (s.xs.take j) firstB (fun u hu => hsh u (List.mem_of_mem_take hu))
    rw [List.length_take] at hfl
    have hfs : (frB (linkB s.xs j) t).size ≤ 8233 := by
      have h3 := numB_size (v := t.size) (by omega)
      rw [frB_size, textB, app_size]; omega
    refine run_as 0 (.slice (some ⟨b, off, none⟩) s.len s.cap) rfl hv ?_
    repeat (first | refine zz ?_ | refine zx fun _ => ?_ | refine runL_q (qt_indexN tok rfl rfl rfl rfl (fun _ => by omega)) rfl rfl rfl ?_ | refine runL_g rfl rfl (qt_indexN tok rfl rfl rfl rfl (fun _ => by omega)) rfl rfl rfl rfl rfl ?_ | refine runL_q (qt_ldM tok rfl hc rfl) rfl rfl rfl ?_ | refine runL_g rfl rfl (qt_ldM tok rfl hc rfl) rfl rfl rfl rfl rfl ?_ | refine runL_q (qt_ldM0 tok rfl hc rfl) rfl rfl rfl ?_ | refine runL_g rfl rfl (qt_ldM0 tok rfl hc rfl) rfl rfl rfl rfl rfl ?_)
    refine run_cond rfl (fun h => ?_) (fun h => ?_)
    · exfalso; simp at h; omega
    repeat (first | refine zz ?_ | refine zx fun _ => ?_ | refine runL_q (qt_indexN tok rfl rfl rfl rfl (fun _ => by omega)) rfl rfl rfl ?_ | refine runL_g rfl rfl (qt_indexN tok rfl rfl rfl rfl (fun _ => by omega)) rfl rfl rfl rfl rfl ?_ | refine runL_q (qt_ldM tok rfl hc rfl) rfl rfl rfl ?_ | refine runL_g rfl rfl (qt_ldM tok rfl hc rfl) rfl rfl rfl rfl rfl ?_ | refine runL_q (qt_ldM0 tok rfl hc rfl) rfl rfl rfl ?_ | refine runL_g rfl rfl (qt_ldM0 tok rfl hc rfl) rfl rfl rfl rfl rfl ?_ | refine rq (qt_callF rfl (fun _ => refFrame_ok _ _ (linkB s.xs j) t (by omega) (by omega))) ?_ | refine rq (qt_callF rfl (fun _ => refNext_ok _ _ (linkB s.xs j) t (by omega) (by omega))) ?_ | refine rq (qt_concat rfl rfl (by omega)) ?_)
    exact run_sub' (hnext _ _ _ ⟨hlt, rfl, rfl, rfl⟩) ⟨lk_succ rfl (by omega), by rw [e2]; rfl, by rw [e1]; rfl, by rw [hv]; rfl, trivial⟩
  · have hge : j = s.len := by simp at h; omega
    subst hge
    have e1 : s.xs.take s.len = s.xs := List.take_of_length_le (by omega)
    repeat (first | refine zz ?_ | refine zx fun _ => ?_)
    exact run_ret hC (rs := [.tmp 2, .tmp 3, .tmp 4]) rfl (resT rfl (resT rfl (resT rfl resN))) (fun _ h => h) ⟨by unfold linkB; rw [e1]; rfl, rfl, rfl⟩
end Go.Proofs.YtkjljcgbnikmkaaGreatDoor
namespace Go.Proofs.YtkjljcgbnikmkaaGreatDoor
open Go.Chi
set_option maxRecDepth 10000
theorem fc_succ {α : Type} (f : Nat → α) (n : Nat) : fc f (n + 1) = fc f n ++ [f n] := by unfold fc; rw [List.range_succ, List.map_append]; rfl
def endC (ts : List ByteArray) (k : Nat) : List Value := [iv (placeB ts (k + 1))]
theorem place_text {ts : List ByteArray} {j : Nat} {t : ByteArray} (ht : ts[j]? = some t) : placeB ts (j + 1) = placeB ts j + (textB t).size + 32 := by
  unfold placeB
  rw [(frs_next ht).1, app_size, frB_size]; omega
set_option maxHeartbeats 8000000 in
theorem refEnds_ok (M : Mem) (L : HL) (s : SStr) (hs : StOk M s) (hsh : AllSh s.xs) : Tr Tryz.prog 76 [s.v] M L (fun v M' L' => M.le M' ∧ L' = L ∧ ∃ a cap, v = .slice a s.len cap ∧ SlM M' 1 a s.len (fc (endC s.xs) s.len)) := by
  have hx1 := hs.len
  have hlt6 := hs.2
  refine Tr.intro 26 Tryz.func76 rfl rfl Tryz.call76 rfl ?_
  intro C hC hro
  repeat (first | refine zz ?_ | refine zx fun _ => ?_)
  refine run_loopN (fun j σ1 M1 L1 => j ≤ s.len ∧ M = M1 ∧ ∃ v N, OS 3 1 v j (fc (endC s.xs) j).flatten N ∧ L1 = N ++ L ∧ σ1 = [(5, iv j), (4, iv (placeB s.xs j)), (3, v), (0, s.v)]) s.len [(5, iv 0), (4, iv 0), (3, .slice none 0 0), (0, s.v)] ?_ ⟨Nat.zero_le _, rfl, _, [], OS.nil _ _, rfl, rfl⟩ (fun j _ _ _ h => h.1) ?_
  · exact ⟨rfl, rfl, rfl, rfl, trivial⟩
  rintro j _ _ _ ⟨hj, rfl, v, N, hO, rfl, rfl⟩ hnext
  repeat (first | refine zz ?_ | refine zx fun _ => ?_)
  refine run_cond rfl (fun h => ?_) (fun h => ?_)
  · have hlt : j < s.len := by simpa using h
    obtain ⟨b, off, t, ha, ht, hc⟩ := SStr.at_ hs.1 hlt
    have hv : s.v = .slice (some ⟨b, off, none⟩) s.len s.cap := by rw [← ha]; rfl
    have hts := hsh t (List.mem_of_getElem? ht)
    have hnx := place_text ht
    have hfl := frs_le (s.xs.take (j + 1)) firstB (fun u hu => hsh u (List.mem_of_mem_take hu))
    rw [List.length_take] at hfl
    have hpl : placeB s.xs (j + 1) ≤ 8233 * (j + 1) := by unfold placeB; omega
    obtain ⟨av, cv, rfl⟩ := osV5 hO
    have e1 : IntKind.i64.wrap (IntKind.i64.wrap ((placeB s.xs j : Int) + ((textB t).size : Int)) + 32) = (placeB s.xs (j + 1) : Int) := by
      rw [show (placeB s.xs j : Int) + ((textB t).size : Int) = ((placeB s.xs j + (textB t).size : Nat) : Int) by omega, wrap64_nat (by omega), show ((placeB s.xs j + (textB t).size : Nat) : Int) + 32 = (placeB s.xs (j + 1) : Int) by omega]
      exact wrap64_nat (by omega)
    refine run_as 0 (.slice (some ⟨b, off, none⟩) s.len s.cap) rfl hv ?_
    refine run_skip ?_
    refine run_seq ?_
    refine run_block ?_
    refine run_seq ?_
    (refine run_region ?_; (repeat (first | refine zq ?_ | refine zx fun _ => ?_ | refine runL_q (qt_indexN tok rfl rfl rfl rfl (fun _ => by omega)) rfl rfl rfl ?_ | refine runL_g rfl rfl (qt_indexN tok rfl rfl rfl rfl (fun _ => by omega)) rfl rfl rfl rfl rfl ?_ | refine runL_q (qt_ldM tok rfl hc rfl) rfl rfl rfl ?_ | refine runL_g rfl rfl (qt_ldM tok rfl hc rfl) rfl rfl rfl rfl rfl ?_ | refine runL_q (qt_ldM0 tok rfl hc rfl) rfl rfl rfl ?_ | refine runL_g rfl rfl (qt_ldM0 tok rfl hc rfl) rfl rfl rfl rfl rfl ?_ | refine rq (qt_callF rfl (fun _ => dtext_ok _ _ t (by omega))) ?_)); refine runL_nil ?_)
    refine run_as 4 (iv (placeB s.xs (j + 1))) rfl (congrArg (Value.int .i64) e1) ?_
    refine run_region ?_
    repeat (first | refine zq ?_ | refine zx fun _ => ?_)
    rename_i b9
    refine ro (st_append (news := endC s.xs j) tok rfl rfl rfl rfl rfl rfl rfl rfl (pm1 _ N _) hO (.inr ⟨b9, 0, 1, rfl, cellsAll List.mem_cons_self, rfl⟩) (by intro u hu; exact oneL_ok (vs := _) (by rfl) u hu) (by omega) (by omega)) ?_
    rintro v5 _ _ ⟨N', rfl, rfl, hO'⟩
    obtain ⟨a5, c5, rfl⟩ := osV5 hO'
    refine runL_mem (L' := N' ++ L) (fun _ h => (h.perm List.perm_middle).drop) ?_
    repeat (first | refine zq ?_ | refine zx fun _ => ?_)
    refine runL_nil ?_
    repeat (first | refine zz ?_ | refine zx fun _ => ?_)
    refine run_sub' (hnext _ _ _ ⟨hlt, rfl, _, N', ?_, rfl, rfl⟩) ⟨lk_succ rfl (by omega), rfl, rfl, by rw [hv]; rfl, trivial⟩
    rw [fc_succ, List.flatten_append]
    have e : [endC s.xs j].flatten = endC s.xs j := by simp
    rw [e]; exact hO'
  have hje : j = s.len := by simp at h; omega
  subst hje
  repeat (first | refine zz ?_ | refine zx fun _ => ?_)
  refine run_retE hC (rs := [.tmp 2]) rfl (resT rfl resN) fun w hw => ?_
  obtain ⟨M2, a2, c2, h1, h2, h3, h4⟩ := hw.freezeOS (ls := fc (endC s.xs) s.len) hO (fc_len _ _) (by intro l hl; obtain ⟨k, _, rfl⟩ := List.mem_map.1 hl; rfl)
  exact ⟨M2, L, h2, h1, rfl, a2, c2, h3, h4⟩
end Go.Proofs.YtkjljcgbnikmkaaGreatDoor
namespace Go.Proofs.YtkjljcgbnikmkaaGreatDoor
open Go.Chi
set_option maxRecDepth 10000
section
variable {C : Cx} {n : Nat} {k : List Item} {ds : List Deferred} {σ : Env} {δ : Den} {M : Mem} {L : HL} {ops : Array Oper} {X : List Nat} {d i : Nat} {op : Op} {ty : TypeId} {pos : String} {aft : Array Edge} {j s : Nat} {want : Bool}
theorem dgF (h : PR Tryz.prog C n ops k ds (dn (i + 1)) X ((d, undef) :: σ) δ M L) (ho : ops[i]? = some ⟨some d, op, ty, pos, aft, some (j, want)⟩ := by exact rfl)
    (hj : slotOf ops j = some s := by exact rfl) (hg : knows σ s (!want) = true := by exact rfl)
    (hchk : chkQ ops (dn i) i = true := by decide +kernel) (hd : Nat.blt d n = true := by exact rfl) (hn : lkd δ d = none := by exact rfl) (hu : unNamed δ d = true := by exact rfl) : PR Tryz.prog C n ops k ds (dn i) X σ δ M L := pr_gF i hchk ho hj hg hd hn hu h
end
theorem ext_cut {s : ByteArray} {a m : Nat} (h : a + m ≤ s.size) : s.extract a (a + m) = (s.extract a s.size).extract 0 m := by
  apply ba_ext
  rw [ba_extract, ba_extract, ba_extract, List.drop_zero, List.drop_take, List.drop_take, Nat.add_sub_cancel_left, List.take_take, Nat.min_eq_left (by rw [Nat.le_sub_iff_add_le (by omega)]; omega)]
theorem refRead_ok (M : Mem) (L : HL) (s : ByteArray) (hs : s.size < 4611686018427387904) : TrQ Tryz.prog 101 [.string s, .int .i64 8192] M L (.tuple ⟨[.string (textR s 8192).1, .int .i64 (textR s 8192).2.1, .int .i64 (textR s 8192).2.2]⟩) := by
  have h := refText_ok M L s 8192 hs (by decide)
  rw [refText_eq] at h
  exact h
theorem len_w {s : ByteArray} {a n : Nat} (h : a + n ≤ s.size) (hs : s.size < 10000000) : IntKind.i64.wrap (IntKind.i64.wrap ((s.size : Int) - (a : Int)) - (n : Int)) = ((s.size - a - n : Nat) : Int) := by
  rw [show (s.size : Int) - (a : Int) = ((s.size - a : Nat) : Int) by omega, wrap64_nat (by omega), show ((s.size - a : Nat) : Int) - (n : Int) = ((s.size - a - n : Nat) : Int) by omega]
  exact wrap64_nat (by omega)
theorem sum_w {a n : Nat} (h : a + n + 32 < 100000000) : IntKind.i64.wrap (IntKind.i64.wrap ((a : Int) + (n : Int)) + 32) = ((a + n + 32 : Nat) : Int) := by
  rw [show (a : Int) + (n : Int) = ((a + n : Nat) : Int) by omega, wrap64_nat (by omega), show ((a + n : Nat) : Int) + 32 = ((a + n + 32 : Nat) : Int) by omega]
  exact wrap64_nat (by omega)
set_option maxHeartbeats 16000000 in
theorem refScan_ok (M : Mem) (L : HL) (s rest : ByteArray) (ts : List ByteArray) (h : Scn firstB s ts rest) (hs : s.size < 10000000) :
    Tr Tryz.prog 74 [.string s] M L (fun v M' L' => M = M' ∧ ∃ lv N, v = .tuple ⟨[lv, .string (headB firstB ts), iv (frsB firstB ts).size]⟩ ∧ L' = N ++ L ∧ OS 9 1 lv ts.length (ts.map stC).flatten N) := by
  have hsl := h.len
  have hpl : placeB ts ts.length = (frsB firstB ts).size ∧ linkB ts ts.length = headB firstB ts := by
    unfold placeB linkB
    rw [List.take_of_length_le (Nat.le_refl _)]
    exact ⟨rfl, rfl⟩
  refine Tr.intro 58 Tryz.func74 rfl rfl Tryz.call74 rfl ?_
  intro C hC hro
  repeat (first | refine zz ?_ | refine zx fun _ => ?_ | refine rq (qt_callF rfl (fun _ => refFirst_ok _ _)) ?_)
  refine run_loopN (fun j σ1 M1 L1 => j ≤ ts.length ∧ M = M1 ∧ ∃ v N, OS 9 1 v j ((ts.take j).map stC).flatten N ∧ L1 = N ++ L ∧ σ1 = [(7, iv (placeB ts j)), (6, .string (linkB ts j)), (5, v), (0, .string s)]) ts.length [(7, iv 0), (6, .string firstB), (5, .slice none 0 0), (0, .string s)] ?_ ⟨Nat.zero_le _, rfl, _, [], OS.nil _ _, rfl, rfl⟩ (fun j _ _ _ h => h.1) ?_
  · exact ⟨rfl, rfl, rfl, rfl, trivial⟩
  rintro j _ _ _ ⟨hj, rfl, v, N, hO, rfl, rfl⟩ hnext
  obtain ⟨av, cv, rfl⟩ := osV5 hO
  have hple := place_le h j
  have hlk : (linkB ts j).size = 32 := headB_size _ _ rfl
  have hxs : (s.extract (placeB ts j) s.size).size = s.size - placeB ts j := by simp
  have hrd := fun L => refRead_ok M L (s.extract (placeB ts j) s.size) (by omega)
  by_cases hjl : j < ts.length
  · obtain ⟨t, ht⟩ : ∃ t, ts[j]? = some t := ⟨_, List.getElem?_eq_getElem hjl⟩
    obtain ⟨y, hx, hp1, hl1⟩ := at_split h ht
    have hts := h.sh t (List.mem_of_getElem? ht)
    have hns := nextB_size (linkB ts j) t
    have hsz := congrArg ByteArray.size hx
    rw [hxs, app_size, app_size, hns] at hsz
    have hread := text_read hts (by decide) (nextB (linkB ts j) t ++ y)
    rw [← hx] at hread
    rw [hread] at hrd
    have hex : s.extract (placeB ts j) (placeB ts j + (textB t).size + 32) = frB (linkB ts j) t := by
      rw [Nat.add_assoc, ext_cut (by omega), hx, frB, ← hns, ← app_assoc, ← app_size, ext_left]
    repeat (first | refine zz ?_ | refine zx fun _ => ?_ | refine rq (qt_strLo tok rfl rfl rfl (fun _ => hple)) ?_ | refine rq (qt_callF rfl (fun _ => hrd _)) ?_)
    have ew := len_w (s := s) (a := placeB ts j) (n := (textB t).size) (by omega) hs
    have es := sum_w (a := placeB ts j) (n := (textB t).size) (by omega)
    refine prn_start mixed ?_
    repeat (first | refine dq ?_ | refine dgK ?_)
    refine pr_as 31 (.bool false) rfl (by rw [ew]; simp; omega) ?_
    repeat (first | refine dq ?_ | refine dgK ?_)
    refine pr_as 37 (iv (placeB ts j + (textB t).size + 32)) rfl (congrArg (Value.int .i64) es) ?_
    refine prn_gK rfl rfl rfl (Qt.as (qt_strMid (m := placeB ts j) (n := placeB ts j + (textB t).size + 32) tok rfl rfl rfl rfl (fun _ => ⟨by omega, by omega⟩)) (congrArg Value.string hex)) (by decide +kernel) rfl rfl rfl ?_
    repeat (first | refine dq ?_ | refine dgK ?_)
    refine prn_gK rfl rfl rfl (qt_callF rfl (fun _ => refFrame_ok _ _ (linkB ts j) t (by omega) (by omega))) (by decide +kernel) rfl rfl rfl ?_
    repeat (first | refine dq ?_ | refine dgK ?_)
    refine prn_end (by decide +kernel) ?_
    refine run_cond rfl (fun h => ?_) (fun _ => ?_)
    · exfalso
      simp at h
    repeat (first | refine zz ?_ | refine zx fun _ => ?_)
    rename_i b9
    refine ro (st_append (news := stC t) tok rfl rfl rfl rfl rfl rfl rfl rfl (pm1 _ N _) hO (.inr ⟨b9, 0, 1, rfl, cellsAll List.mem_cons_self, rfl⟩) (by intro u hu; exact oneL_ok (vs := _) (by rfl) u hu) (by omega) (by omega)) ?_
    rintro v5 _ _ ⟨N', rfl, rfl, hO'⟩
    obtain ⟨a5, c5, rfl⟩ := osV5 hO'
    refine runL_mem (L' := N' ++ L) (fun _ h => (h.perm List.perm_middle).drop) ?_
    repeat (first | refine zz ?_ | refine zx fun _ => ?_ | refine rq (qt_callF rfl (fun _ => refNext_ok _ _ (linkB ts j) t (by omega) (by omega))) ?_)
    refine run_sub' (hnext _ _ _ ⟨hjl, rfl, _, N', ?_, rfl, rfl⟩) ⟨congrArg (fun z => some (Value.int .i64 z)) (es.trans (by rw [hp1])), by rw [hl1]; rfl, rfl, rfl, trivial⟩
    rw [take_snoc ht, List.map_append, List.flatten_append]
    have e : ([t].map stC).flatten = stC t := by simp
    rw [e]; exact hO'
  have hje : j = ts.length := by omega
  subst hje
  clear hnext
  obtain ⟨hx, hl1⟩ := at_end h
  have hno := h.no
  rw [← hl1] at hno
  rw [List.take_of_length_le (Nat.le_refl _)] at hO
  repeat (first | refine zz ?_ | refine zx fun _ => ?_ | refine rq (qt_strLo tok rfl rfl rfl (fun _ => hple)) ?_ | refine rq (qt_callF rfl (fun _ => hrd _)) ?_)
  by_cases he : (textR (s.extract (placeB ts ts.length) s.size) 8192).2.2 = 0
  · obtain ⟨t, hts, hread, hsp⟩ := text_back he
    rw [hx] at hsp
    have hrs : rest.size = s.size - placeB ts ts.length := by rw [← hx]; exact hxs
    have htl : (textB t).size ≤ rest.size := by
      have := congrArg ByteArray.size hsp
      rw [app_size] at this; omega
    generalize hz : rest.extract (textB t).size rest.size = z at hsp
    have hzs : z.size = rest.size - (textB t).size := by
      have := congrArg ByteArray.size hsp
      rw [app_size] at this; omega
    rw [hread]
    have ew := len_w (s := s) (a := placeB ts ts.length) (n := (textB t).size) (by omega) hs
    have es := sum_w (a := placeB ts ts.length) (n := (textB t).size) (by omega)
    refine prn_start mixed ?_
    repeat (first | refine dq ?_ | refine dgK ?_)
    by_cases h32 : z.size < 32
    · refine pr_as 31 (.bool true) rfl (by rw [ew]; simp; omega) ?_
      repeat (first | refine dq ?_ | refine dgF ?_)
      refine prn_end (by decide +kernel) ?_
      refine run_cond (t := true) rfl (fun _ => ?_) (fun h => by cases h)
      repeat (first | refine zz ?_ | refine zx fun _ => ?_)
      exact run_ret hC (rs := [.tmp 2, .tmp 3, .tmp 4]) rfl (resT rfl (resT rfl (resT rfl resN))) (fun _ h => h) ⟨rfl, .slice av ts.length cv, N, by rw [← hpl.1, ← hpl.2]; rfl, rfl, hO⟩
    have hex : s.extract (placeB ts ts.length) (placeB ts ts.length + (textB t).size + 32) = textB t ++ z.extract 0 32 := by
      rw [Nat.add_assoc, ext_cut (by omega), hx, hsp, cut_right (by omega), Nat.add_sub_cancel_left]
    refine pr_as 31 (.bool false) rfl (by rw [ew]; simp; omega) ?_
    repeat (first | refine dq ?_ | refine dgK ?_)
    refine pr_as 37 (iv (placeB ts ts.length + (textB t).size + 32)) rfl (congrArg (Value.int .i64) es) ?_
    refine prn_gK rfl rfl rfl (Qt.as (qt_strMid (m := placeB ts ts.length) (n := placeB ts ts.length + (textB t).size + 32) tok rfl rfl rfl rfl (fun _ => ⟨by omega, by omega⟩)) (congrArg Value.string hex)) (by decide +kernel) rfl rfl rfl ?_
    repeat (first | refine dq ?_ | refine dgK ?_)
    refine prn_gK rfl rfl rfl (qt_callF rfl (fun _ => refFrame_ok _ _ (linkB ts ts.length) t (by omega) (by omega))) (by decide +kernel) rfl rfl rfl ?_
    repeat (first | refine dq ?_ | refine dgK ?_)
    refine prn_end (by decide +kernel) ?_
    refine run_cond rfl (fun _ => ?_) (fun h => ?_)
    · repeat (first | refine zz ?_ | refine zx fun _ => ?_)
      exact run_ret hC (rs := [.tmp 2, .tmp 3, .tmp 4]) rfl (resT rfl (resT rfl (resT rfl resN))) (fun _ h => h) ⟨rfl, .slice av ts.length cv, N, by rw [← hpl.1, ← hpl.2]; rfl, rfl, hO⟩
    · exfalso
      have e : textB t ++ z.extract 0 32 = frB (linkB ts ts.length) t := by simpa [bytes_beq] using h
      have hzz : z = z.extract 0 32 ++ z.extract 32 z.size := ext_split _ (by omega)
      exact hno t (z.extract 32 z.size) hts (by rw [hsp]; conv => lhs; rw [hzz]; rw [← app_assoc, e])
  · refine prn_start mixed ?_
    refine dq ?_
    refine dq ?_
    refine dq ?_
    refine pr_as 22 (.bool true) rfl (by simp [he]) ?_
    repeat (first | refine dq ?_ | refine dgF ?_)
    refine prn_end (by decide +kernel) ?_
    refine run_cond (t := true) rfl (fun _ => ?_) (fun h => by cases h)
    repeat (first | refine zz ?_ | refine zx fun _ => ?_)
    exact run_ret hC (rs := [.tmp 2, .tmp 3, .tmp 4]) rfl (resT rfl (resT rfl (resT rfl resN))) (fun _ h => h) ⟨rfl, .slice av ts.length cv, N, by rw [← hpl.1, ← hpl.2]; rfl, rfl, hO⟩
end Go.Proofs.YtkjljcgbnikmkaaGreatDoor
namespace Go.Proofs.YtkjljcgbnikmkaaGreatDoor
open Go.Chi
set_option maxRecDepth 10000
abbrev rlB (b bo : Nat) (v : Value) : Nat × Obj := (b, .cells ⟨[pt bo, v]⟩ 93 (0, 0))
structure RsOf (M : Mem) (rs : List Rc) (ts : List ByteArray) : Prop where
  ok : ∀ r ∈ rs, RcOk M r
  len : rs.length = ts.length
  dec : ∀ (j : Nat) (r : Rc) (t : ByteArray), rs[j]? = some r → ts[j]? = some t → Dec t r.re
  lt : rs.length < 1000000
set_option maxHeartbeats 8000000 in
theorem rlTexts_ok (M : Mem) (L N : HL) (b bo : Nat) (v : Value) (rs : List Rc) (ts : List ByteArray) (hm : rlB b bo v ∈ L) (hN : ∀ p ∈ N, p ∈ L) (hO : OS 35 10 v rs.length (rs.map rcC).flatten N) (h : RsOf M rs ts) :
    Tr Tryz.prog 77 [pt b] M L (fun v' M' L' => M.le M' ∧ L' = L ∧ ∃ s : SStr, v' = s.v ∧ StOk M' s ∧ s.xs = ts) := by
  obtain ⟨aw, cw, rfl⟩ := osV hO
  have hlt6 := h.lt
  refine Tr.intro 32 Tryz.func77 rfl rfl Tryz.call77 rfl ?_
  intro C hC hro
  repeat (first | refine zz ?_ | refine zx fun _ => ?_)
  refine run_loopN (fun j σ1 M1 L1 => j ≤ rs.length ∧ M = M1 ∧ ∃ v2 NA, OS 9 1 v2 j ((ts.take j).map stC).flatten NA ∧ L1 = NA ++ L ∧ σ1 = [(4, iv j), (3, v2), (0, pt b)]) rs.length [(4, iv 0), (3, .slice none 0 0), (0, pt b)] ?_ ⟨Nat.zero_le _, rfl, _, [], OS.nil _ _, rfl, rfl⟩ (fun j _ _ _ h => h.1) ?_
  · exact ⟨rfl, rfl, rfl, trivial⟩
  rintro j _ _ _ ⟨hj, rfl, v2, NA, hO2, rfl, rfl⟩ hnext
  obtain ⟨a2, c2, rfl⟩ := osV hO2
  repeat (first | refine zz ?_ | refine zx fun _ => ?_ | refine rq (qt_ld tok rfl (List.mem_append_right _ hm) rfl) ?_)
  refine run_cond rfl (fun h1 => ?_) (fun h1 => ?_)
  · have hlt : j < rs.length := by simpa using h1
    obtain ⟨r, hr⟩ : ∃ r, rs[j]? = some r := ⟨_, List.getElem?_eq_getElem hlt⟩
    obtain ⟨t, ht⟩ : ∃ t, ts[j]? = some t := ⟨_, List.getElem?_eq_getElem (by rw [← h.len]; exact hlt)⟩
    have hd := h.dec j r t hr ht
    have hro' := h.ok r (List.mem_of_getElem? hr)
    have hsh := short_of hd.1 (by rw [hd.2.1]; exact hd.2.2)
    have henc := (dec_enc hro' hd).2
    have hcall := fun L => dencode_ok M L r hro' (lim_of hsh)
    rw [henc] at hcall
    obtain ⟨be, cape, cse, he, hNe, hseg⟩ := OS.mem (ls := rs.map rcC) hO (rcF_all rs) (by rw [List.length_map]) (k := j) (c := rcC r) (by rw [List.getElem?_map, hr]; rfl)
    cases he
    have hbe := hN _ hNe
    repeat (first | refine zz ?_ | refine zx fun _ => ?_ | refine rq (qt_ld tok rfl (List.mem_append_right _ hm) rfl) ?_ | refine rq (qt_indexN tok rfl rfl rfl rfl (fun _ => hlt)) ?_ | refine rq (qt_ldB0 (xs := rcC r) (v := .agg ⟨rcC r⟩) tok rfl hseg (List.mem_append_right _ hbe) rfl) ?_ | refine rq (qt_callF rfl (fun _ => hcall _)) ?_)
    rename_i b9
    refine ro (st_append (news := stC t) tok rfl rfl rfl rfl rfl rfl rfl rfl (pm1 _ NA _) hO2 (.inr ⟨b9, 0, 1, rfl, cellsAll List.mem_cons_self, rfl⟩) (by intro u hu; exact oneL_ok (vs := _) (by rfl) u hu) (by omega) (by omega)) ?_
    rintro v5 _ _ ⟨N', rfl, rfl, hO'⟩
    obtain ⟨a5, c5, rfl⟩ := osV hO'
    refine runL_mem (L' := N' ++ L) (fun _ h => (h.perm List.perm_middle).drop) ?_
    repeat (first | refine zz ?_ | refine zx fun _ => ?_)
    refine run_sub' (hnext _ _ _ ⟨hlt, rfl, _, N', ?_, rfl, rfl⟩) ⟨lk_succ rfl (by omega), rfl, rfl, trivial⟩
    rw [take_snoc ht, List.map_append, List.flatten_append]
    have e : ([t].map stC).flatten = stC t := by simp
    rw [e]; exact hO'
  have hje : j = rs.length := by simp at h1; omega
  subst hje
  rw [List.take_of_length_le (by rw [h.len]; exact Nat.le_refl _)] at hO2
  repeat (first | refine zz ?_ | refine zx fun _ => ?_)
  refine run_retE hC (rs := [.tmp 2]) rfl (resT rfl resN) fun w hw => ?_
  obtain ⟨M2, a3, c3, h1, h2, h3, h4⟩ := hw.freezeOS (ls := ts.map stC) hO2 (by rw [List.length_map, h.len]) (stC_all ts)
  exact ⟨M2, L, h2, h1, rfl, ⟨a3, rs.length, c3, ts⟩, h3, ⟨h4, hlt6⟩, rfl⟩
theorem rlHead_ok (M : Mem) (L N : HL) (b bo : Nat) (v : Value) (rs : List Rc) (ts : List ByteArray) (hm : rlB b bo v ∈ L) (hN : ∀ p ∈ N, p ∈ L) (hO : OS 35 10 v rs.length (rs.map rcC).flatten N) (h : RsOf M rs ts) (hsh : AllSh ts) :
    Tr Tryz.prog 49 [pt b] M L (fun v' M' L' => M.le M' ∧ L' = L ∧ v' = .string (headB firstB ts)) := by
  refine Tr.intro 14 Tryz.func49 rfl rfl Tryz.call49 rfl ?_
  intro C hC hro
  repeat (first | refine zz ?_ | refine zx fun _ => ?_ | (refine ro (st_callF rfl (fun _ => rlTexts_ok _ _ N b bo v rs ts hm hN hO h)) ?_; rintro _ M1 _ ⟨hM1, rfl, s, rfl, hs, hsx⟩) | refine rq (qt_callF rfl (fun _ => refFrames_ok _ _ s hs (by rw [hsx]; exact hsh))) ?_)
  exact run_ret hC (rs := [.tmp 2]) rfl (resT rfl resN) (fun _ h => h) ⟨hM1, rfl, by rw [hsx]; rfl⟩
end Go.Proofs.YtkjljcgbnikmkaaGreatDoor
