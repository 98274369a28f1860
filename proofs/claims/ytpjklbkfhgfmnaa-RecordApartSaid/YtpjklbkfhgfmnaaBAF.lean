import Derived.Test.YtpjklbkfhgfmnaaBAA
import Derived.Test.YtpjklbkfhgfmnaaBAE
import Derived.Test.YtpjklbkfhgfmnaaBAB
import Derived.KernelRfl
import Derived.ChangeMaps5
namespace Go.Proofs.Ytpjklbkfhgfmnaa
open Go.Chi

theorem rMbAll (xs : List Mb) : ∀ l ∈ xs.map mbC, l.length = 2 := by intro l hl; obtain ⟨p, _, rfl⟩ := List.mem_map.1 hl; rfl
theorem rStAll (xs : List ByteArray) : ∀ l ∈ xs.map stC, l.length = 1 := by intro l hl; obtain ⟨p, _, rfl⟩ := List.mem_map.1 hl; rfl
theorem rMbOne (r : Mb) : ∀ u ∈ mbC r, u.oneCell' = true := by intro u hu; simp [mbC] at hu; rcases hu with rfl | rfl <;> rfl
theorem rStOne (r : ByteArray) : ∀ u ∈ stC r, u.oneCell' = true := by intro u hu; simp [stC] at hu; subst hu; rfl
theorem rOsSl {e size n : Nat} {v : Value} {xs : List Value} {N : HL} (h : OS e size v n xs N) : ∃ a cap, v = .slice a n cap := by
  rcases h with ⟨rfl, rfl, _, _⟩ | ⟨b, cap, cs, rfl, _⟩
  · exact ⟨_, _, rfl⟩
  · exact ⟨_, _, rfl⟩
theorem rFlat {α : Type} (f : α → List Value) (l : List α) (x : α) : (l.map f).flatten ++ f x = ((l ++ [x]).map f).flatten := by simp
section
variable {C : Cx} {n : Nat} {ops : Array Oper} {k : List Item} {ds : List Deferred} {σ : Env} {δ : Den} {M : Mem} {L : HL} {bx : Nat} {q : Rd} {s : ByteArray} {i d : Nat} {ty : TypeId} {pos : String} {aft : Array Edge} {args : Array Operand} {tys : Array TypeId} {X : List Nat}
theorem prn_rtext (ho : ops[i]? = some ⟨some d, .call ⟨.value (.func 113), args, tys⟩, ty, pos, aft, none⟩) (hchk : (acyc ops && chkC ops (dn i) [i] && chkE1 ops (dn i) i) = true)
    (ha : evs σ δ [] args.toList = some [.pointer (some ⟨bx, 0, none⟩)]) (hs : s.size < 4611686018427387904) (hd : Nat.blt d n = true) (hn : lkd δ d = none) (hu : unNamed δ d = true)
    (h1 : pT s = none → RunX Try.prog C n (.panicking panR) ds [] M (rdB bx q s :: L))
    (h0 : ∀ v s', pT s = some (v, s') → PendAll Try.prog C.b.roundOf ops σ δ M (rdB bx q s' :: L) (open_ ops (dn i) X i) ∧ PR Try.prog C n ops k ds (dn (i + 1)) (i :: X) ((d, .string v) :: σ) δ M (rdB bx q s' :: L)) :
    PR Try.prog C n ops k ds (dn i) X σ δ M (rdB bx q s :: L) := by
  refine prn_callE ho hchk ha (rtext_ok M L bx q s hs) hd hn hu ?_ ?_
  · rintro v _ _ ⟨rfl, hv⟩
    cases hp : pT s with
    | some x => rw [hp] at hv; cases hv.1
    | none =>
      rw [hp] at hv
      obtain ⟨hv, rfl⟩ := hv
      rw [Ending.panicked.injEq] at hv
      subst hv
      exact h1 hp
  · rintro v _ _ ⟨rfl, hv⟩
    cases hp : pT s with
    | none => rw [hp] at hv; cases hv.1
    | some x =>
      rw [hp] at hv
      obtain ⟨hv, rfl⟩ := hv
      rw [Ending.returned.injEq] at hv
      subst hv
      exact h0 x.1 x.2 hp
end
def stMembers (r : Re) (s : ByteArray) : Option (Re × ByteArray) := (pMs s).bind fun x => some ({ r with mem := x.1 }, x.2)
set_option maxRecDepth 10000 in
set_option maxHeartbeats 16000000 in
theorem rmembers_ok (M : Mem) (L : HL) (bx : Nat) (q : Rd) (r : Re) (s : ByteArray) (hs : s.size < 4611686018427387904) (hq : Rr M q r) (h0 : r.mem = []) :
    TrE Try.prog 108 [.pointer (some ⟨bx, 0, none⟩)] M (rdB bx q s :: L) (rmK (stMembers r s) bx M L) := by
  have hnil := hq.nilM h0
  refine TrE.intro 25 Try.func108 rfl rfl Try.call108 rfl ?_
  intro C hC hro
  repeat (first | with_reducible (first | refine run_seq ?_ | refine run_region ?_ | refine runL_nil ?_ | refine run_skip ?_ | refine run_block ?_ | refine run_inBlock ?_) | refine run_exit rfl ?_ | refine runL_q (qt_pev tok rfl) rfl rfl rfl ?_ | refine runL_g rfl rfl (qt_pev tok rfl) rfl rfl rfl rfl rfl ?_ | refine runL_q (ql tok rfl) rfl rfl rfl ?_ | refine runL_g rfl rfl (ql tok rfl) rfl rfl rfl rfl rfl ?_ | (refine runL_op0 (sst tok rfl rfl rfl rfl rfl) ?_; rintro _ _ _ ⟨rfl, rfl, rfl⟩) | (refine runL_op (st_box rfl) rfl rfl rfl ?_; rintro _ _ _ ⟨_, rfl, rfl, rfl⟩) | (refine runL_op (st_alloc tok rfl) rfl rfl rfl ?_; rintro _ _ _ ⟨_, rfl, rfl, rfl⟩) | (refine runL_op (st_buildSlice tok rfl rfl rfl rfl rfl rfl rfl) rfl rfl rfl ?_; rintro _ _ _ ⟨_, rfl, rfl, rfl⟩))
  refine runL_rnum (most := 6) rfl (by decide) hs rfl rfl rfl (fun v s1 hp1 => ?_) (fun hp => ?_)
  rotate_left
  · refine runX_pan hC (fun _ h => h.drop) ?_
    rw [stMembers, pMs, hp]
    exact rmK_none
  have hz1 := pN_size hp1
  obtain ⟨hv0, hv6, _⟩ := pN_back hp1
  obtain ⟨cnt, rfl⟩ : ∃ c : Nat, v = c := ⟨v.toNat, by omega⟩
  have hst : stMembers r s = (pMb cnt s1).bind fun x => some ({ r with mem := x.1 }, x.2) := by
    rw [stMembers, pMs, hp1, Option.bind_some, Int.toNat_natCast]
  repeat (first | with_reducible (first | refine run_seq ?_ | refine run_region ?_ | refine runL_nil ?_ | refine run_skip ?_ | refine run_block ?_ | refine run_inBlock ?_) | refine run_exit rfl ?_ | refine runL_q (qt_pev tok rfl) rfl rfl rfl ?_ | refine runL_g rfl rfl (qt_pev tok rfl) rfl rfl rfl rfl rfl ?_ | refine runL_q (ql tok rfl) rfl rfl rfl ?_ | refine runL_g rfl rfl (ql tok rfl) rfl rfl rfl rfl rfl ?_ | (refine runL_op0 (sst tok rfl rfl rfl rfl rfl) ?_; rintro _ _ _ ⟨rfl, rfl, rfl⟩) | (refine runL_op (st_box rfl) rfl rfl rfl ?_; rintro _ _ _ ⟨_, rfl, rfl, rfl⟩) | (refine runL_op (st_alloc tok rfl) rfl rfl rfl ?_; rintro _ _ _ ⟨_, rfl, rfl, rfl⟩) | (refine runL_op (st_buildSlice tok rfl rfl rfl rfl rfl rfl rfl) rfl rfl rfl ?_; rintro _ _ _ ⟨_, rfl, rfl, rfl⟩))
  refine run_loopN (fun j σ1 M1 L1 => j ≤ cnt ∧ ∃ (xs : List Mb) (sj : ByteArray) (mvj : Value) (N : HL), xs.length = j ∧ (pMb cnt s1 = (pMb (cnt - j) sj).bind fun z => some (xs ++ z.1, z.2)) ∧ sj.size ≤ s.size ∧ (xs = [] → mvj = .slice none 0 0) ∧ OS 43 2 mvj j (xs.map mbC).flatten N ∧ M = M1 ∧ L1 = rdB bx { q with mv := mvj } sj :: (N ++ L) ∧ σ1 = [(5, .int .i64 (j : Int)), (4, .int .i64 (cnt : Int)), (0, .pointer (some ⟨bx, 0, none⟩))]) cnt [(5, .int .i64 ((0 : Nat) : Int)), (4, .int .i64 (cnt : Int)), (0, .pointer (some ⟨bx, 0, none⟩))] ?_ ⟨Nat.zero_le _, [], s1, .slice none 0 0, [], rfl, by rw [Nat.sub_zero]; cases pMb cnt s1 <;> rfl, hz1, fun _ => rfl, OS.nil _ _, rfl, by rw [← hnil]; rfl, rfl⟩ (fun j _ _ _ h => h.1) ?_
  · exact ⟨rfl, rfl, rfl, trivial⟩
  rintro j _ _ _ ⟨hj, xs, sj, mvj, N, hxl, hpj, hsj, hnj, hO, rfl, rfl, rfl⟩ hnext
  repeat (first | with_reducible (first | refine run_seq ?_ | refine run_region ?_ | refine runL_nil ?_ | refine run_skip ?_ | refine run_block ?_ | refine run_inBlock ?_) | refine run_exit rfl ?_ | refine runL_q (qt_pev tok rfl) rfl rfl rfl ?_ | refine runL_g rfl rfl (qt_pev tok rfl) rfl rfl rfl rfl rfl ?_ | refine runL_q (ql tok rfl) rfl rfl rfl ?_ | refine runL_g rfl rfl (ql tok rfl) rfl rfl rfl rfl rfl ?_ | (refine runL_op0 (sst tok rfl rfl rfl rfl rfl) ?_; rintro _ _ _ ⟨rfl, rfl, rfl⟩) | (refine runL_op (st_box rfl) rfl rfl rfl ?_; rintro _ _ _ ⟨_, rfl, rfl, rfl⟩) | (refine runL_op (st_alloc tok rfl) rfl rfl rfl ?_; rintro _ _ _ ⟨_, rfl, rfl, rfl⟩) | (refine runL_op (st_buildSlice tok rfl rfl rfl rfl rfl rfl rfl) rfl rfl rfl ?_; rintro _ _ _ ⟨_, rfl, rfl, rfl⟩))
  refine run_cond rfl (fun h => ?_) (fun h => ?_)
  · have hlt : j < cnt := by simpa using h
    have hc1 : cnt - j = (cnt - (j + 1)) + 1 := by omega
    rw [hc1, pMb] at hpj
    repeat (first | with_reducible (first | refine run_seq ?_ | refine run_region ?_ | refine runL_nil ?_ | refine run_skip ?_ | refine run_block ?_ | refine run_inBlock ?_) | refine run_exit rfl ?_ | refine runL_q (qt_pev tok rfl) rfl rfl rfl ?_ | refine runL_g rfl rfl (qt_pev tok rfl) rfl rfl rfl rfl rfl ?_ | refine runL_q (ql tok rfl) rfl rfl rfl ?_ | refine runL_g rfl rfl (ql tok rfl) rfl rfl rfl rfl rfl ?_ | (refine runL_op0 (sst tok rfl rfl rfl rfl rfl) ?_; rintro _ _ _ ⟨rfl, rfl, rfl⟩) | (refine runL_op (st_box rfl) rfl rfl rfl ?_; rintro _ _ _ ⟨_, rfl, rfl, rfl⟩) | (refine runL_op (st_alloc tok rfl) rfl rfl rfl ?_; rintro _ _ _ ⟨_, rfl, rfl, rfl⟩) | (refine runL_op (st_buildSlice tok rfl rfl rfl rfl rfl rfl rfl) rfl rfl rfl ?_; rintro _ _ _ ⟨_, rfl, rfl, rfl⟩))
    refine runL_rnum (most := 7) rfl (by decide) (by omega) rfl rfl rfl (fun v2 s2 hp2 => ?_) (fun hp => ?_)
    rotate_left
    · refine runX_pan hC (fun _ h => h.drop.dropAll) ?_
      rw [hst, hpj, hp]
      exact rmK_none
    have hz2 := pN_size hp2
    rw [hp2, Option.bind_some] at hpj
    repeat (first | with_reducible (first | refine run_seq ?_ | refine run_region ?_ | refine runL_nil ?_ | refine run_skip ?_ | refine run_block ?_ | refine run_inBlock ?_) | refine run_exit rfl ?_ | refine runL_q (qt_pev tok rfl) rfl rfl rfl ?_ | refine runL_g rfl rfl (qt_pev tok rfl) rfl rfl rfl rfl rfl ?_ | refine runL_q (ql tok rfl) rfl rfl rfl ?_ | refine runL_g rfl rfl (ql tok rfl) rfl rfl rfl rfl rfl ?_ | (refine runL_op0 (sst tok rfl rfl rfl rfl rfl) ?_; rintro _ _ _ ⟨rfl, rfl, rfl⟩) | (refine runL_op (st_box rfl) rfl rfl rfl ?_; rintro _ _ _ ⟨_, rfl, rfl, rfl⟩) | (refine runL_op (st_alloc tok rfl) rfl rfl rfl ?_; rintro _ _ _ ⟨_, rfl, rfl, rfl⟩) | (refine runL_op (st_buildSlice tok rfl rfl rfl rfl rfl rfl rfl) rfl rfl rfl ?_; rintro _ _ _ ⟨_, rfl, rfl, rfl⟩) | refine prn_start mixed ?_ | refine prn_end (by decide +kernel) ?_ | refine prn_q rfl (qt_pev tok rfl) (by decide +kernel) rfl rfl rfl ?_ | refine prn_g rfl rfl rfl (qt_pev tok rfl) (by decide +kernel) rfl rfl rfl rfl rfl ?_ | refine prn_q rfl (ql tok rfl) (by decide +kernel) rfl rfl rfl ?_ | refine prn_g rfl rfl rfl (ql tok rfl) (by decide +kernel) rfl rfl rfl rfl rfl ?_ | (refine prn_e0 rfl (sst tok rfl rfl rfl rfl rfl) (by decide +kernel) ?_; rintro _ _ _ ⟨rfl, rfl, rfl⟩) | (refine prn_e1 rfl (st_box rfl) (by decide +kernel) rfl rfl rfl ?_; rintro _ _ _ ⟨_, rfl, rfl, rfl⟩) | (refine prn_e1 rfl (st_alloc tok rfl) (by decide +kernel) rfl rfl rfl ?_; rintro _ _ _ ⟨_, rfl, rfl, rfl⟩) | (refine prn_e1 rfl (st_buildSlice tok rfl rfl rfl rfl rfl rfl rfl) (by decide +kernel) rfl rfl rfl ?_; rintro _ _ _ ⟨_, rfl, rfl, rfl⟩) | (refine prn_o0 rfl (sst tok rfl rfl rfl rfl rfl) (by decide +kernel) ?_; rintro _ _ _ ⟨rfl, rfl, rfl⟩; refine ⟨by (repeat (first | exact trivial | refine And.intro (pend_q rfl rfl rfl (qt_pev tok rfl)) ?_ | refine And.intro (pend_q rfl rfl rfl (ql tok rfl)) ?_)), ?_⟩) | (refine prn_o1 rfl (st_box rfl) (by decide +kernel) rfl rfl rfl ?_; rintro _ _ _ ⟨_, rfl, rfl, rfl⟩; refine ⟨by (repeat (first | exact trivial | refine And.intro (pend_q rfl rfl rfl (qt_pev tok rfl)) ?_ | refine And.intro (pend_q rfl rfl rfl (ql tok rfl)) ?_)), ?_⟩) | (refine prn_o1 rfl (st_alloc tok rfl) (by decide +kernel) rfl rfl rfl ?_; rintro _ _ _ ⟨_, rfl, rfl, rfl⟩; refine ⟨by (repeat (first | exact trivial | refine And.intro (pend_q rfl rfl rfl (qt_pev tok rfl)) ?_ | refine And.intro (pend_q rfl rfl rfl (ql tok rfl)) ?_)), ?_⟩) | (refine prn_o1 rfl (st_buildSlice tok rfl rfl rfl rfl rfl rfl rfl) (by decide +kernel) rfl rfl rfl ?_; rintro _ _ _ ⟨_, rfl, rfl, rfl⟩; refine ⟨by (repeat (first | exact trivial | refine And.intro (pend_q rfl rfl rfl (qt_pev tok rfl)) ?_ | refine And.intro (pend_q rfl rfl rfl (ql tok rfl)) ?_)), ?_⟩) | (refine prn_e1 rfl (qt_pev tok rfl) (by decide +kernel) rfl rfl rfl ?_; rintro _ _ _ ⟨rfl, rfl, rfl⟩))
    refine prn_rtext rfl (by decide +kernel) rfl (by omega) rfl rfl rfl (fun hp => ?_) (fun t s3 hp3 => ?_)
    · refine runX_pan hC (fun _ h => h.drop.dropAll) ?_
      rw [hst, hpj, hp]
      exact rmK_none
    have hz3 := pT_size hp3
    rw [hp3, Option.bind_some] at hpj
    refine ⟨by (repeat (first | exact trivial | refine And.intro (pend_q rfl rfl rfl (qt_pev tok rfl)) ?_ | refine And.intro (pend_q rfl rfl rfl (ql tok rfl)) ?_)), ?_⟩
    repeat (first | with_reducible (first | refine run_seq ?_ | refine run_region ?_ | refine runL_nil ?_ | refine run_skip ?_ | refine run_block ?_ | refine run_inBlock ?_) | refine run_exit rfl ?_ | refine runL_q (qt_pev tok rfl) rfl rfl rfl ?_ | refine runL_g rfl rfl (qt_pev tok rfl) rfl rfl rfl rfl rfl ?_ | refine runL_q (ql tok rfl) rfl rfl rfl ?_ | refine runL_g rfl rfl (ql tok rfl) rfl rfl rfl rfl rfl ?_ | (refine runL_op0 (sst tok rfl rfl rfl rfl rfl) ?_; rintro _ _ _ ⟨rfl, rfl, rfl⟩) | (refine runL_op (st_box rfl) rfl rfl rfl ?_; rintro _ _ _ ⟨_, rfl, rfl, rfl⟩) | (refine runL_op (st_alloc tok rfl) rfl rfl rfl ?_; rintro _ _ _ ⟨_, rfl, rfl, rfl⟩) | (refine runL_op (st_buildSlice tok rfl rfl rfl rfl rfl rfl rfl) rfl rfl rfl ?_; rintro _ _ _ ⟨_, rfl, rfl, rfl⟩) | refine prn_start mixed ?_ | refine prn_end (by decide +kernel) ?_ | refine prn_q rfl (qt_pev tok rfl) (by decide +kernel) rfl rfl rfl ?_ | refine prn_g rfl rfl rfl (qt_pev tok rfl) (by decide +kernel) rfl rfl rfl rfl rfl ?_ | refine prn_q rfl (ql tok rfl) (by decide +kernel) rfl rfl rfl ?_ | refine prn_g rfl rfl rfl (ql tok rfl) (by decide +kernel) rfl rfl rfl rfl rfl ?_ | (refine prn_e0 rfl (sst tok rfl rfl rfl rfl rfl) (by decide +kernel) ?_; rintro _ _ _ ⟨rfl, rfl, rfl⟩) | (refine prn_e1 rfl (st_box rfl) (by decide +kernel) rfl rfl rfl ?_; rintro _ _ _ ⟨_, rfl, rfl, rfl⟩) | (refine prn_e1 rfl (st_alloc tok rfl) (by decide +kernel) rfl rfl rfl ?_; rintro _ _ _ ⟨_, rfl, rfl, rfl⟩) | (refine prn_e1 rfl (st_buildSlice tok rfl rfl rfl rfl rfl rfl rfl) (by decide +kernel) rfl rfl rfl ?_; rintro _ _ _ ⟨_, rfl, rfl, rfl⟩) | (refine prn_o0 rfl (sst tok rfl rfl rfl rfl rfl) (by decide +kernel) ?_; rintro _ _ _ ⟨rfl, rfl, rfl⟩; refine ⟨by (repeat (first | exact trivial | refine And.intro (pend_q rfl rfl rfl (qt_pev tok rfl)) ?_ | refine And.intro (pend_q rfl rfl rfl (ql tok rfl)) ?_)), ?_⟩) | (refine prn_o1 rfl (st_box rfl) (by decide +kernel) rfl rfl rfl ?_; rintro _ _ _ ⟨_, rfl, rfl, rfl⟩; refine ⟨by (repeat (first | exact trivial | refine And.intro (pend_q rfl rfl rfl (qt_pev tok rfl)) ?_ | refine And.intro (pend_q rfl rfl rfl (ql tok rfl)) ?_)), ?_⟩) | (refine prn_o1 rfl (st_alloc tok rfl) (by decide +kernel) rfl rfl rfl ?_; rintro _ _ _ ⟨_, rfl, rfl, rfl⟩; refine ⟨by (repeat (first | exact trivial | refine And.intro (pend_q rfl rfl rfl (qt_pev tok rfl)) ?_ | refine And.intro (pend_q rfl rfl rfl (ql tok rfl)) ?_)), ?_⟩) | (refine prn_o1 rfl (st_buildSlice tok rfl rfl rfl rfl rfl rfl rfl) (by decide +kernel) rfl rfl rfl ?_; rintro _ _ _ ⟨_, rfl, rfl, rfl⟩; refine ⟨by (repeat (first | exact trivial | refine And.intro (pend_q rfl rfl rfl (qt_pev tok rfl)) ?_ | refine And.intro (pend_q rfl rfl rfl (ql tok rfl)) ?_)), ?_⟩) | (refine prn_e1 rfl (qt_pev tok rfl) (by decide +kernel) rfl rfl rfl ?_; rintro _ _ _ ⟨rfl, rfl, rfl⟩))
    rename_i bn
    refine prn_o1 rfl (st_append (n := j) (m := 1) (news := mbC ⟨v2, t⟩) tok rfl rfl rfl rfl rfl rfl rfl rfl (pm2 _ _ N _) hO (.inr ⟨bn, 0, 1, rfl, cellsAll List.mem_cons_self, rfl⟩) (rMbOne _) (by omega) (by omega)) (by decide +kernel) rfl rfl rfl ?_
    rintro mv' _ _ ⟨N', rfl, rfl, hO'⟩
    obtain ⟨aa, ca, rfl⟩ := rOsSl hO'
    refine ⟨by (repeat (first | exact trivial | refine And.intro (pend_q rfl rfl rfl (qt_pev tok rfl)) ?_ | refine And.intro (pend_q rfl rfl rfl (ql tok rfl)) ?_)), ?_⟩
    repeat (first | with_reducible (first | refine run_seq ?_ | refine run_region ?_ | refine runL_nil ?_ | refine run_skip ?_ | refine run_block ?_ | refine run_inBlock ?_) | refine run_exit rfl ?_ | refine runL_q (qt_pev tok rfl) rfl rfl rfl ?_ | refine runL_g rfl rfl (qt_pev tok rfl) rfl rfl rfl rfl rfl ?_ | refine runL_q (ql tok rfl) rfl rfl rfl ?_ | refine runL_g rfl rfl (ql tok rfl) rfl rfl rfl rfl rfl ?_ | (refine runL_op0 (sst tok rfl rfl rfl rfl rfl) ?_; rintro _ _ _ ⟨rfl, rfl, rfl⟩) | (refine runL_op (st_box rfl) rfl rfl rfl ?_; rintro _ _ _ ⟨_, rfl, rfl, rfl⟩) | (refine runL_op (st_alloc tok rfl) rfl rfl rfl ?_; rintro _ _ _ ⟨_, rfl, rfl, rfl⟩) | (refine runL_op (st_buildSlice tok rfl rfl rfl rfl rfl rfl rfl) rfl rfl rfl ?_; rintro _ _ _ ⟨_, rfl, rfl, rfl⟩) | refine prn_start mixed ?_ | refine prn_end (by decide +kernel) ?_ | refine prn_q rfl (qt_pev tok rfl) (by decide +kernel) rfl rfl rfl ?_ | refine prn_g rfl rfl rfl (qt_pev tok rfl) (by decide +kernel) rfl rfl rfl rfl rfl ?_ | refine prn_q rfl (ql tok rfl) (by decide +kernel) rfl rfl rfl ?_ | refine prn_g rfl rfl rfl (ql tok rfl) (by decide +kernel) rfl rfl rfl rfl rfl ?_ | (refine prn_e0 rfl (sst tok rfl rfl rfl rfl rfl) (by decide +kernel) ?_; rintro _ _ _ ⟨rfl, rfl, rfl⟩) | (refine prn_e1 rfl (st_box rfl) (by decide +kernel) rfl rfl rfl ?_; rintro _ _ _ ⟨_, rfl, rfl, rfl⟩) | (refine prn_e1 rfl (st_alloc tok rfl) (by decide +kernel) rfl rfl rfl ?_; rintro _ _ _ ⟨_, rfl, rfl, rfl⟩) | (refine prn_e1 rfl (st_buildSlice tok rfl rfl rfl rfl rfl rfl rfl) (by decide +kernel) rfl rfl rfl ?_; rintro _ _ _ ⟨_, rfl, rfl, rfl⟩) | (refine prn_o0 rfl (sst tok rfl rfl rfl rfl rfl) (by decide +kernel) ?_; rintro _ _ _ ⟨rfl, rfl, rfl⟩; refine ⟨by (repeat (first | exact trivial | refine And.intro (pend_q rfl rfl rfl (qt_pev tok rfl)) ?_ | refine And.intro (pend_q rfl rfl rfl (ql tok rfl)) ?_)), ?_⟩) | (refine prn_o1 rfl (st_box rfl) (by decide +kernel) rfl rfl rfl ?_; rintro _ _ _ ⟨_, rfl, rfl, rfl⟩; refine ⟨by (repeat (first | exact trivial | refine And.intro (pend_q rfl rfl rfl (qt_pev tok rfl)) ?_ | refine And.intro (pend_q rfl rfl rfl (ql tok rfl)) ?_)), ?_⟩) | (refine prn_o1 rfl (st_alloc tok rfl) (by decide +kernel) rfl rfl rfl ?_; rintro _ _ _ ⟨_, rfl, rfl, rfl⟩; refine ⟨by (repeat (first | exact trivial | refine And.intro (pend_q rfl rfl rfl (qt_pev tok rfl)) ?_ | refine And.intro (pend_q rfl rfl rfl (ql tok rfl)) ?_)), ?_⟩) | (refine prn_o1 rfl (st_buildSlice tok rfl rfl rfl rfl rfl rfl rfl) (by decide +kernel) rfl rfl rfl ?_; rintro _ _ _ ⟨_, rfl, rfl, rfl⟩; refine ⟨by (repeat (first | exact trivial | refine And.intro (pend_q rfl rfl rfl (qt_pev tok rfl)) ?_ | refine And.intro (pend_q rfl rfl rfl (ql tok rfl)) ?_)), ?_⟩) | (refine prn_e1 rfl (qt_pev tok rfl) (by decide +kernel) rfl rfl rfl ?_; rintro _ _ _ ⟨rfl, rfl, rfl⟩))
    refine run_mem (fun _ h => (h.perm (pm2 _ _ N' _).symm).drop) (run_sub' (hnext _ _ _ ⟨hlt, xs ++ [⟨v2, t⟩], s3, _, N', by simp [hxl], ?_, by omega, by simp, by rw [← rFlat]; exact hO', rfl, rfl, rfl⟩) ⟨lk_succ rfl (by omega), rfl, rfl, trivial⟩)
    rw [hpj, Option.bind_assoc]
    simp
  · have hge : j = cnt := by simp at h; omega
    rw [hge, Nat.sub_self, pMb, Option.bind_some, List.append_nil] at hpj
    repeat (first | with_reducible (first | refine run_seq ?_ | refine run_region ?_ | refine runL_nil ?_ | refine run_skip ?_ | refine run_block ?_ | refine run_inBlock ?_) | refine run_exit rfl ?_ | refine runL_q (qt_pev tok rfl) rfl rfl rfl ?_ | refine runL_g rfl rfl (qt_pev tok rfl) rfl rfl rfl rfl rfl ?_ | refine runL_q (ql tok rfl) rfl rfl rfl ?_ | refine runL_g rfl rfl (ql tok rfl) rfl rfl rfl rfl rfl ?_ | (refine runL_op0 (sst tok rfl rfl rfl rfl rfl) ?_; rintro _ _ _ ⟨rfl, rfl, rfl⟩) | (refine runL_op (st_box rfl) rfl rfl rfl ?_; rintro _ _ _ ⟨_, rfl, rfl, rfl⟩) | (refine runL_op (st_alloc tok rfl) rfl rfl rfl ?_; rintro _ _ _ ⟨_, rfl, rfl, rfl⟩) | (refine runL_op (st_buildSlice tok rfl rfl rfl rfl rfl rfl rfl) rfl rfl rfl ?_; rintro _ _ _ ⟨_, rfl, rfl, rfl⟩))
    refine run_memE (fun M' L' => M.le M' ∧ ∃ sm : SMb, MbOk M' sm ∧ sm.xs = xs ∧ (xs = [] → sm.v = .slice none 0 0) ∧ L' = rdB bx { q with mv := sm.v } sj :: L) (fun w hw => ?_) ?_
    · obtain ⟨M', a', c', h1, h2, h3, h4⟩ := (hw.perm (pm1 _ N _)).freezeOS hO (by simpa using hxl) (rMbAll _)
      exact ⟨M', _, h2, h1, ⟨a', j, c', xs⟩, ⟨h4, by show j < _; omega⟩, rfl, fun hx => by rw [← hnj hx, h3]; rfl, by rw [h3]; rfl⟩
    · rintro M' _ ⟨hM', sm, hsm, rfl, hn', rfl⟩
      refine run_endX hro ?_
      refine runX_ret hC (rs := []) rfl (vs := []) trivial (fun _ h => h) ?_
      rw [hst, hpj, Option.bind_some]
      exact rmK_some hM' { hq.le hM' with mem := ⟨sm, rfl, hsm, rfl⟩, nilM := hn' }
end Go.Proofs.Ytpjklbkfhgfmnaa
namespace Go.Proofs.Ytpjklbkfhgfmnaa
open Go.Chi

def stMore (r : Re) (s : ByteArray) : Option (Re × ByteArray) :=
  if r.yes = true then (pAM s).bind fun x => (pTs x.1.2.length x.2).bind fun u => some ({ r with auditor := x.1.1, mem := x.1.2, tags := u.1 }, u.2) else some (r, s)
set_option maxRecDepth 10000 in
set_option maxHeartbeats 16000000 in
theorem rmore_ok (M : Mem) (L : HL) (bx : Nat) (q : Rd) (r : Re) (s : ByteArray) (hs : s.size < 4611686018427387904) (hq : Rr M q r) (h0 : r.mem = []) (h00 : r.tags = []) :
    TrE Try.prog 109 [.pointer (some ⟨bx, 0, none⟩)] M (rdB bx q s :: L) (rmK (stMore r s) bx M L) := by
  refine TrE.intro 34 Try.func109 rfl rfl Try.call109 rfl ?_
  intro C hC hro
  have hy := hq.yes
  repeat (first | with_reducible (first | refine run_seq ?_ | refine run_region ?_ | refine runL_nil ?_ | refine run_skip ?_ | refine run_block ?_ | refine run_inBlock ?_) | refine run_exit rfl ?_ | refine runL_q (qt_pev tok rfl) rfl rfl rfl ?_ | refine runL_g rfl rfl (qt_pev tok rfl) rfl rfl rfl rfl rfl ?_ | refine runL_q (ql tok rfl) rfl rfl rfl ?_ | refine runL_g rfl rfl (ql tok rfl) rfl rfl rfl rfl rfl ?_ | (refine runL_op0 (sst tok rfl rfl rfl rfl rfl) ?_; rintro _ _ _ ⟨rfl, rfl, rfl⟩) | (refine runL_op (st_box rfl) rfl rfl rfl ?_; rintro _ _ _ ⟨_, rfl, rfl, rfl⟩) | (refine runL_op (st_alloc tok rfl) rfl rfl rfl ?_; rintro _ _ _ ⟨_, rfl, rfl, rfl⟩) | (refine runL_op (st_buildSlice tok rfl rfl rfl rfl rfl rfl rfl) rfl rfl rfl ?_; rintro _ _ _ ⟨_, rfl, rfl, rfl⟩))
  refine run_cond rfl (fun h => ?_) (fun h => ?_)
  · have h1 : ¬ r.yes = true := by rw [← hy]; simpa using h
    repeat (first | with_reducible (first | refine run_seq ?_ | refine run_region ?_ | refine runL_nil ?_ | refine run_skip ?_ | refine run_block ?_ | refine run_inBlock ?_) | refine run_exit rfl ?_ | refine runL_q (qt_pev tok rfl) rfl rfl rfl ?_ | refine runL_g rfl rfl (qt_pev tok rfl) rfl rfl rfl rfl rfl ?_ | refine runL_q (ql tok rfl) rfl rfl rfl ?_ | refine runL_g rfl rfl (ql tok rfl) rfl rfl rfl rfl rfl ?_ | (refine runL_op0 (sst tok rfl rfl rfl rfl rfl) ?_; rintro _ _ _ ⟨rfl, rfl, rfl⟩) | (refine runL_op (st_box rfl) rfl rfl rfl ?_; rintro _ _ _ ⟨_, rfl, rfl, rfl⟩) | (refine runL_op (st_alloc tok rfl) rfl rfl rfl ?_; rintro _ _ _ ⟨_, rfl, rfl, rfl⟩) | (refine runL_op (st_buildSlice tok rfl rfl rfl rfl rfl rfl rfl) rfl rfl rfl ?_; rintro _ _ _ ⟨_, rfl, rfl, rfl⟩))
    refine run_retX hro ?_
    refine runX_ret hC (rs := []) rfl (vs := []) trivial (fun _ h => h) ?_
    rw [stMore, if_neg h1]
    exact rmK_some (Mem.le_refl _) hq
  have h1 : r.yes = true := by rw [← hy]; simpa using h
  repeat (first | with_reducible (first | refine run_seq ?_ | refine run_region ?_ | refine runL_nil ?_ | refine run_skip ?_ | refine run_block ?_ | refine run_inBlock ?_) | refine run_exit rfl ?_ | refine runL_q (qt_pev tok rfl) rfl rfl rfl ?_ | refine runL_g rfl rfl (qt_pev tok rfl) rfl rfl rfl rfl rfl ?_ | refine runL_q (ql tok rfl) rfl rfl rfl ?_ | refine runL_g rfl rfl (ql tok rfl) rfl rfl rfl rfl rfl ?_ | (refine runL_op0 (sst tok rfl rfl rfl rfl rfl) ?_; rintro _ _ _ ⟨rfl, rfl, rfl⟩) | (refine runL_op (st_box rfl) rfl rfl rfl ?_; rintro _ _ _ ⟨_, rfl, rfl, rfl⟩) | (refine runL_op (st_alloc tok rfl) rfl rfl rfl ?_; rintro _ _ _ ⟨_, rfl, rfl, rfl⟩) | (refine runL_op (st_buildSlice tok rfl rfl rfl rfl rfl rfl rfl) rfl rfl rfl ?_; rintro _ _ _ ⟨_, rfl, rfl, rfl⟩))
  refine runL_callE rfl (rauditor_ok M L bx q r s hs hq) rfl rfl rfl ?_ ?_
  rotate_left
  · rintro ch M1 L1 ⟨hM1, hv⟩
    cases hp : pN 7 s with
    | some x => rw [stAuditor, hp] at hv; cases hv.1
    | none =>
      rw [stAuditor, hp] at hv
      obtain ⟨hv, rfl⟩ := hv
      rw [Ending.panicked.injEq] at hv
      subst hv
      refine runX_pan hC (fun _ h => h) ?_
      rw [stMore, if_pos h1, pAM, hp]
      exact ⟨hM1, rfl, rfl⟩
  rintro v0 M1 L1 ⟨hM1, hv⟩
  cases hp1 : pN 7 s with
  | none => rw [stAuditor, hp1] at hv; cases hv.1
  | some x1 =>
  rw [stAuditor, hp1] at hv
  obtain ⟨hv, q1, hq1, rfl⟩ := hv
  rw [Ending.returned.injEq] at hv
  subst hv
  obtain ⟨a1, s1⟩ := x1
  have hz1 := pN_size hp1
  repeat (first | with_reducible (first | refine run_seq ?_ | refine run_region ?_ | refine runL_nil ?_ | refine run_skip ?_ | refine run_block ?_ | refine run_inBlock ?_) | refine run_exit rfl ?_ | refine runL_q (qt_pev tok rfl) rfl rfl rfl ?_ | refine runL_g rfl rfl (qt_pev tok rfl) rfl rfl rfl rfl rfl ?_ | refine runL_q (ql tok rfl) rfl rfl rfl ?_ | refine runL_g rfl rfl (ql tok rfl) rfl rfl rfl rfl rfl ?_ | (refine runL_op0 (sst tok rfl rfl rfl rfl rfl) ?_; rintro _ _ _ ⟨rfl, rfl, rfl⟩) | (refine runL_op (st_box rfl) rfl rfl rfl ?_; rintro _ _ _ ⟨_, rfl, rfl, rfl⟩) | (refine runL_op (st_alloc tok rfl) rfl rfl rfl ?_; rintro _ _ _ ⟨_, rfl, rfl, rfl⟩) | (refine runL_op (st_buildSlice tok rfl rfl rfl rfl rfl rfl rfl) rfl rfl rfl ?_; rintro _ _ _ ⟨_, rfl, rfl, rfl⟩))
  refine runL_callE rfl (rmembers_ok M1 L bx q1 { r with auditor := a1 } s1 (by omega) hq1 h0) rfl rfl rfl ?_ ?_
  rotate_left
  · rintro ch M2 L2 ⟨hM2, hv⟩
    cases hp : pMs s1 with
    | some x => rw [stMembers, hp] at hv; cases hv.1
    | none =>
      rw [stMembers, hp] at hv
      obtain ⟨hv, rfl⟩ := hv
      rw [Ending.panicked.injEq] at hv
      subst hv
      refine runX_pan hC (fun _ h => h) ?_
      rw [stMore, if_pos h1, pAM, hp1, Option.bind_some, hp]
      exact ⟨Mem.le_trans hM1 hM2, rfl, rfl⟩
  rintro v0 M2 L2 ⟨hM2, hv⟩
  cases hp2 : pMs s1 with
  | none => rw [stMembers, hp2] at hv; cases hv.1
  | some x2 =>
  rw [stMembers, hp2] at hv
  obtain ⟨hv, q2, hq2, rfl⟩ := hv
  rw [Ending.returned.injEq] at hv
  subst hv
  obtain ⟨l2, s2⟩ := x2
  have hz2 : s2.size ≤ s1.size := by rw [pMs_back hp2, app_size]; omega
  have hst : stMore r s = (pTs l2.length s2).bind fun u => some ({ r with auditor := a1, mem := l2, tags := u.1 }, u.2) := by
    rw [stMore, if_pos h1, pAM, hp1, Option.bind_some, hp2]
    rfl
  have hnil := hq2.nilT h00
  obtain ⟨sm, hmv, hsm, hxs⟩ := hq2.mem
  have hsl := hsm.len
  have hs6 := hsm.2
  simp only at hxs
  have hM02 := Mem.le_trans hM1 hM2
  obtain ⟨k2, e2, t2, y2, a2, mv2, tv2, b2⟩ := q2
  simp only at hmv hnil
  subst hmv hnil
  repeat (first | with_reducible (first | refine run_seq ?_ | refine run_region ?_ | refine runL_nil ?_ | refine run_skip ?_ | refine run_block ?_ | refine run_inBlock ?_) | refine run_exit rfl ?_ | refine runL_q (qt_pev tok rfl) rfl rfl rfl ?_ | refine runL_g rfl rfl (qt_pev tok rfl) rfl rfl rfl rfl rfl ?_ | refine runL_q (ql tok rfl) rfl rfl rfl ?_ | refine runL_g rfl rfl (ql tok rfl) rfl rfl rfl rfl rfl ?_ | (refine runL_op0 (sst tok rfl rfl rfl rfl rfl) ?_; rintro _ _ _ ⟨rfl, rfl, rfl⟩) | (refine runL_op (st_box rfl) rfl rfl rfl ?_; rintro _ _ _ ⟨_, rfl, rfl, rfl⟩) | (refine runL_op (st_alloc tok rfl) rfl rfl rfl ?_; rintro _ _ _ ⟨_, rfl, rfl, rfl⟩) | (refine runL_op (st_buildSlice tok rfl rfl rfl rfl rfl rfl rfl) rfl rfl rfl ?_; rintro _ _ _ ⟨_, rfl, rfl, rfl⟩))
  refine run_loopN (fun j σ1 M3 L1 => j ≤ sm.len ∧ ∃ (xs : List ByteArray) (sj : ByteArray) (tvj : Value) (N : HL), xs.length = j ∧ (pTs l2.length s2 = (pTs (sm.len - j) sj).bind fun z => some (xs ++ z.1, z.2)) ∧ sj.size ≤ s.size ∧ (xs = [] → tvj = .slice none 0 0) ∧ OS 9 1 tvj j (xs.map stC).flatten N ∧ M2 = M3 ∧ L1 = rdB bx ⟨k2, e2, t2, y2, a2, sm.v, tvj, b2⟩ sj :: (N ++ L) ∧ σ1 = [(18, .int .i64 (j : Int)), (17, .int .i64 (sm.len : Int)), (0, .pointer (some ⟨bx, 0, none⟩))]) sm.len [(18, .int .i64 ((0 : Nat) : Int)), (17, .int .i64 (sm.len : Int)), (0, .pointer (some ⟨bx, 0, none⟩))] ?_ ⟨Nat.zero_le _, [], s2, .slice none 0 0, [], rfl, by rw [Nat.sub_zero, ← hxs, hsl]; cases pTs sm.len s2 <;> rfl, by omega, fun _ => rfl, OS.nil _ _, rfl, rfl, rfl⟩ (fun j _ _ _ h => h.1) ?_
  · exact ⟨rfl, rfl, rfl, trivial⟩
  rintro j _ _ _ ⟨hj, xs, sj, tvj, N, hxl, hpj, hsj, hnj, hO, rfl, rfl, rfl⟩ hnext
  repeat (first | with_reducible (first | refine run_seq ?_ | refine run_region ?_ | refine runL_nil ?_ | refine run_skip ?_ | refine run_block ?_ | refine run_inBlock ?_) | refine run_exit rfl ?_ | refine runL_q (qt_pev tok rfl) rfl rfl rfl ?_ | refine runL_g rfl rfl (qt_pev tok rfl) rfl rfl rfl rfl rfl ?_ | refine runL_q (ql tok rfl) rfl rfl rfl ?_ | refine runL_g rfl rfl (ql tok rfl) rfl rfl rfl rfl rfl ?_ | (refine runL_op0 (sst tok rfl rfl rfl rfl rfl) ?_; rintro _ _ _ ⟨rfl, rfl, rfl⟩) | (refine runL_op (st_box rfl) rfl rfl rfl ?_; rintro _ _ _ ⟨_, rfl, rfl, rfl⟩) | (refine runL_op (st_alloc tok rfl) rfl rfl rfl ?_; rintro _ _ _ ⟨_, rfl, rfl, rfl⟩) | (refine runL_op (st_buildSlice tok rfl rfl rfl rfl rfl rfl rfl) rfl rfl rfl ?_; rintro _ _ _ ⟨_, rfl, rfl, rfl⟩))
  refine run_cond rfl (fun h => ?_) (fun h => ?_)
  · have hlt : j < sm.len := by simpa using h
    have hc1 : sm.len - j = (sm.len - (j + 1)) + 1 := by omega
    rw [hc1, pTs] at hpj
    repeat (first | with_reducible (first | refine run_seq ?_ | refine run_region ?_ | refine runL_nil ?_ | refine run_skip ?_ | refine run_block ?_ | refine run_inBlock ?_) | refine run_exit rfl ?_ | refine runL_q (qt_pev tok rfl) rfl rfl rfl ?_ | refine runL_g rfl rfl (qt_pev tok rfl) rfl rfl rfl rfl rfl ?_ | refine runL_q (ql tok rfl) rfl rfl rfl ?_ | refine runL_g rfl rfl (ql tok rfl) rfl rfl rfl rfl rfl ?_ | (refine runL_op0 (sst tok rfl rfl rfl rfl rfl) ?_; rintro _ _ _ ⟨rfl, rfl, rfl⟩) | (refine runL_op (st_box rfl) rfl rfl rfl ?_; rintro _ _ _ ⟨_, rfl, rfl, rfl⟩) | (refine runL_op (st_alloc tok rfl) rfl rfl rfl ?_; rintro _ _ _ ⟨_, rfl, rfl, rfl⟩) | (refine runL_op (st_buildSlice tok rfl rfl rfl rfl rfl rfl rfl) rfl rfl rfl ?_; rintro _ _ _ ⟨_, rfl, rfl, rfl⟩))
    repeat (first | with_reducible (first | refine run_seq ?_ | refine run_region ?_ | refine runL_nil ?_ | refine run_skip ?_ | refine run_block ?_ | refine run_inBlock ?_) | refine run_exit rfl ?_ | refine runL_q (qt_pev tok rfl) rfl rfl rfl ?_ | refine runL_g rfl rfl (qt_pev tok rfl) rfl rfl rfl rfl rfl ?_ | refine runL_q (ql tok rfl) rfl rfl rfl ?_ | refine runL_g rfl rfl (ql tok rfl) rfl rfl rfl rfl rfl ?_ | (refine runL_op0 (sst tok rfl rfl rfl rfl rfl) ?_; rintro _ _ _ ⟨rfl, rfl, rfl⟩) | (refine runL_op (st_box rfl) rfl rfl rfl ?_; rintro _ _ _ ⟨_, rfl, rfl, rfl⟩) | (refine runL_op (st_alloc tok rfl) rfl rfl rfl ?_; rintro _ _ _ ⟨_, rfl, rfl, rfl⟩) | (refine runL_op (st_buildSlice tok rfl rfl rfl rfl rfl rfl rfl) rfl rfl rfl ?_; rintro _ _ _ ⟨_, rfl, rfl, rfl⟩) | refine prn_start mixed ?_ | refine prn_end (by decide +kernel) ?_ | refine prn_q rfl (qt_pev tok rfl) (by decide +kernel) rfl rfl rfl ?_ | refine prn_g rfl rfl rfl (qt_pev tok rfl) (by decide +kernel) rfl rfl rfl rfl rfl ?_ | refine prn_q rfl (ql tok rfl) (by decide +kernel) rfl rfl rfl ?_ | refine prn_g rfl rfl rfl (ql tok rfl) (by decide +kernel) rfl rfl rfl rfl rfl ?_ | (refine prn_e0 rfl (sst tok rfl rfl rfl rfl rfl) (by decide +kernel) ?_; rintro _ _ _ ⟨rfl, rfl, rfl⟩) | (refine prn_e1 rfl (st_box rfl) (by decide +kernel) rfl rfl rfl ?_; rintro _ _ _ ⟨_, rfl, rfl, rfl⟩) | (refine prn_e1 rfl (st_alloc tok rfl) (by decide +kernel) rfl rfl rfl ?_; rintro _ _ _ ⟨_, rfl, rfl, rfl⟩) | (refine prn_e1 rfl (st_buildSlice tok rfl rfl rfl rfl rfl rfl rfl) (by decide +kernel) rfl rfl rfl ?_; rintro _ _ _ ⟨_, rfl, rfl, rfl⟩) | (refine prn_o0 rfl (sst tok rfl rfl rfl rfl rfl) (by decide +kernel) ?_; rintro _ _ _ ⟨rfl, rfl, rfl⟩; refine ⟨by (repeat (first | exact trivial | refine And.intro (pend_q rfl rfl rfl (qt_pev tok rfl)) ?_ | refine And.intro (pend_q rfl rfl rfl (ql tok rfl)) ?_)), ?_⟩) | (refine prn_o1 rfl (st_box rfl) (by decide +kernel) rfl rfl rfl ?_; rintro _ _ _ ⟨_, rfl, rfl, rfl⟩; refine ⟨by (repeat (first | exact trivial | refine And.intro (pend_q rfl rfl rfl (qt_pev tok rfl)) ?_ | refine And.intro (pend_q rfl rfl rfl (ql tok rfl)) ?_)), ?_⟩) | (refine prn_o1 rfl (st_alloc tok rfl) (by decide +kernel) rfl rfl rfl ?_; rintro _ _ _ ⟨_, rfl, rfl, rfl⟩; refine ⟨by (repeat (first | exact trivial | refine And.intro (pend_q rfl rfl rfl (qt_pev tok rfl)) ?_ | refine And.intro (pend_q rfl rfl rfl (ql tok rfl)) ?_)), ?_⟩) | (refine prn_o1 rfl (st_buildSlice tok rfl rfl rfl rfl rfl rfl rfl) (by decide +kernel) rfl rfl rfl ?_; rintro _ _ _ ⟨_, rfl, rfl, rfl⟩; refine ⟨by (repeat (first | exact trivial | refine And.intro (pend_q rfl rfl rfl (qt_pev tok rfl)) ?_ | refine And.intro (pend_q rfl rfl rfl (ql tok rfl)) ?_)), ?_⟩) | (refine prn_e1 rfl (qt_pev tok rfl) (by decide +kernel) rfl rfl rfl ?_; rintro _ _ _ ⟨rfl, rfl, rfl⟩))
    refine prn_rtext rfl (by decide +kernel) rfl (by omega) rfl rfl rfl (fun hp => ?_) (fun t s3 hp3 => ?_)
    · refine runX_pan hC (fun _ h => h.drop.dropAll) ?_
      rw [hst, hpj, hp]
      exact ⟨hM02, rfl, rfl⟩
    have hz3 := pT_size hp3
    rw [hp3, Option.bind_some] at hpj
    refine ⟨by (repeat (first | exact trivial | refine And.intro (pend_q rfl rfl rfl (qt_pev tok rfl)) ?_ | refine And.intro (pend_q rfl rfl rfl (ql tok rfl)) ?_)), ?_⟩
    repeat (first | with_reducible (first | refine run_seq ?_ | refine run_region ?_ | refine runL_nil ?_ | refine run_skip ?_ | refine run_block ?_ | refine run_inBlock ?_) | refine run_exit rfl ?_ | refine runL_q (qt_pev tok rfl) rfl rfl rfl ?_ | refine runL_g rfl rfl (qt_pev tok rfl) rfl rfl rfl rfl rfl ?_ | refine runL_q (ql tok rfl) rfl rfl rfl ?_ | refine runL_g rfl rfl (ql tok rfl) rfl rfl rfl rfl rfl ?_ | (refine runL_op0 (sst tok rfl rfl rfl rfl rfl) ?_; rintro _ _ _ ⟨rfl, rfl, rfl⟩) | (refine runL_op (st_box rfl) rfl rfl rfl ?_; rintro _ _ _ ⟨_, rfl, rfl, rfl⟩) | (refine runL_op (st_alloc tok rfl) rfl rfl rfl ?_; rintro _ _ _ ⟨_, rfl, rfl, rfl⟩) | (refine runL_op (st_buildSlice tok rfl rfl rfl rfl rfl rfl rfl) rfl rfl rfl ?_; rintro _ _ _ ⟨_, rfl, rfl, rfl⟩) | refine prn_start mixed ?_ | refine prn_end (by decide +kernel) ?_ | refine prn_q rfl (qt_pev tok rfl) (by decide +kernel) rfl rfl rfl ?_ | refine prn_g rfl rfl rfl (qt_pev tok rfl) (by decide +kernel) rfl rfl rfl rfl rfl ?_ | refine prn_q rfl (ql tok rfl) (by decide +kernel) rfl rfl rfl ?_ | refine prn_g rfl rfl rfl (ql tok rfl) (by decide +kernel) rfl rfl rfl rfl rfl ?_ | (refine prn_e0 rfl (sst tok rfl rfl rfl rfl rfl) (by decide +kernel) ?_; rintro _ _ _ ⟨rfl, rfl, rfl⟩) | (refine prn_e1 rfl (st_box rfl) (by decide +kernel) rfl rfl rfl ?_; rintro _ _ _ ⟨_, rfl, rfl, rfl⟩) | (refine prn_e1 rfl (st_alloc tok rfl) (by decide +kernel) rfl rfl rfl ?_; rintro _ _ _ ⟨_, rfl, rfl, rfl⟩) | (refine prn_e1 rfl (st_buildSlice tok rfl rfl rfl rfl rfl rfl rfl) (by decide +kernel) rfl rfl rfl ?_; rintro _ _ _ ⟨_, rfl, rfl, rfl⟩) | (refine prn_o0 rfl (sst tok rfl rfl rfl rfl rfl) (by decide +kernel) ?_; rintro _ _ _ ⟨rfl, rfl, rfl⟩; refine ⟨by (repeat (first | exact trivial | refine And.intro (pend_q rfl rfl rfl (qt_pev tok rfl)) ?_ | refine And.intro (pend_q rfl rfl rfl (ql tok rfl)) ?_)), ?_⟩) | (refine prn_o1 rfl (st_box rfl) (by decide +kernel) rfl rfl rfl ?_; rintro _ _ _ ⟨_, rfl, rfl, rfl⟩; refine ⟨by (repeat (first | exact trivial | refine And.intro (pend_q rfl rfl rfl (qt_pev tok rfl)) ?_ | refine And.intro (pend_q rfl rfl rfl (ql tok rfl)) ?_)), ?_⟩) | (refine prn_o1 rfl (st_alloc tok rfl) (by decide +kernel) rfl rfl rfl ?_; rintro _ _ _ ⟨_, rfl, rfl, rfl⟩; refine ⟨by (repeat (first | exact trivial | refine And.intro (pend_q rfl rfl rfl (qt_pev tok rfl)) ?_ | refine And.intro (pend_q rfl rfl rfl (ql tok rfl)) ?_)), ?_⟩) | (refine prn_o1 rfl (st_buildSlice tok rfl rfl rfl rfl rfl rfl rfl) (by decide +kernel) rfl rfl rfl ?_; rintro _ _ _ ⟨_, rfl, rfl, rfl⟩; refine ⟨by (repeat (first | exact trivial | refine And.intro (pend_q rfl rfl rfl (qt_pev tok rfl)) ?_ | refine And.intro (pend_q rfl rfl rfl (ql tok rfl)) ?_)), ?_⟩) | (refine prn_e1 rfl (qt_pev tok rfl) (by decide +kernel) rfl rfl rfl ?_; rintro _ _ _ ⟨rfl, rfl, rfl⟩))
    rename_i bn
    refine prn_o1 rfl (st_append (n := j) (m := 1) (news := stC t) tok rfl rfl rfl rfl rfl rfl rfl rfl (pm2 _ _ N _) hO (.inr ⟨bn, 0, 1, rfl, cellsAll List.mem_cons_self, rfl⟩) (rStOne _) (by omega) (by omega)) (by decide +kernel) rfl rfl rfl ?_
    rintro mv' _ _ ⟨N', rfl, rfl, hO'⟩
    obtain ⟨aa, ca, rfl⟩ := rOsSl hO'
    refine ⟨by (repeat (first | exact trivial | refine And.intro (pend_q rfl rfl rfl (qt_pev tok rfl)) ?_ | refine And.intro (pend_q rfl rfl rfl (ql tok rfl)) ?_)), ?_⟩
    repeat (first | with_reducible (first | refine run_seq ?_ | refine run_region ?_ | refine runL_nil ?_ | refine run_skip ?_ | refine run_block ?_ | refine run_inBlock ?_) | refine run_exit rfl ?_ | refine runL_q (qt_pev tok rfl) rfl rfl rfl ?_ | refine runL_g rfl rfl (qt_pev tok rfl) rfl rfl rfl rfl rfl ?_ | refine runL_q (ql tok rfl) rfl rfl rfl ?_ | refine runL_g rfl rfl (ql tok rfl) rfl rfl rfl rfl rfl ?_ | (refine runL_op0 (sst tok rfl rfl rfl rfl rfl) ?_; rintro _ _ _ ⟨rfl, rfl, rfl⟩) | (refine runL_op (st_box rfl) rfl rfl rfl ?_; rintro _ _ _ ⟨_, rfl, rfl, rfl⟩) | (refine runL_op (st_alloc tok rfl) rfl rfl rfl ?_; rintro _ _ _ ⟨_, rfl, rfl, rfl⟩) | (refine runL_op (st_buildSlice tok rfl rfl rfl rfl rfl rfl rfl) rfl rfl rfl ?_; rintro _ _ _ ⟨_, rfl, rfl, rfl⟩) | refine prn_start mixed ?_ | refine prn_end (by decide +kernel) ?_ | refine prn_q rfl (qt_pev tok rfl) (by decide +kernel) rfl rfl rfl ?_ | refine prn_g rfl rfl rfl (qt_pev tok rfl) (by decide +kernel) rfl rfl rfl rfl rfl ?_ | refine prn_q rfl (ql tok rfl) (by decide +kernel) rfl rfl rfl ?_ | refine prn_g rfl rfl rfl (ql tok rfl) (by decide +kernel) rfl rfl rfl rfl rfl ?_ | (refine prn_e0 rfl (sst tok rfl rfl rfl rfl rfl) (by decide +kernel) ?_; rintro _ _ _ ⟨rfl, rfl, rfl⟩) | (refine prn_e1 rfl (st_box rfl) (by decide +kernel) rfl rfl rfl ?_; rintro _ _ _ ⟨_, rfl, rfl, rfl⟩) | (refine prn_e1 rfl (st_alloc tok rfl) (by decide +kernel) rfl rfl rfl ?_; rintro _ _ _ ⟨_, rfl, rfl, rfl⟩) | (refine prn_e1 rfl (st_buildSlice tok rfl rfl rfl rfl rfl rfl rfl) (by decide +kernel) rfl rfl rfl ?_; rintro _ _ _ ⟨_, rfl, rfl, rfl⟩) | (refine prn_o0 rfl (sst tok rfl rfl rfl rfl rfl) (by decide +kernel) ?_; rintro _ _ _ ⟨rfl, rfl, rfl⟩; refine ⟨by (repeat (first | exact trivial | refine And.intro (pend_q rfl rfl rfl (qt_pev tok rfl)) ?_ | refine And.intro (pend_q rfl rfl rfl (ql tok rfl)) ?_)), ?_⟩) | (refine prn_o1 rfl (st_box rfl) (by decide +kernel) rfl rfl rfl ?_; rintro _ _ _ ⟨_, rfl, rfl, rfl⟩; refine ⟨by (repeat (first | exact trivial | refine And.intro (pend_q rfl rfl rfl (qt_pev tok rfl)) ?_ | refine And.intro (pend_q rfl rfl rfl (ql tok rfl)) ?_)), ?_⟩) | (refine prn_o1 rfl (st_alloc tok rfl) (by decide +kernel) rfl rfl rfl ?_; rintro _ _ _ ⟨_, rfl, rfl, rfl⟩; refine ⟨by (repeat (first | exact trivial | refine And.intro (pend_q rfl rfl rfl (qt_pev tok rfl)) ?_ | refine And.intro (pend_q rfl rfl rfl (ql tok rfl)) ?_)), ?_⟩) | (refine prn_o1 rfl (st_buildSlice tok rfl rfl rfl rfl rfl rfl rfl) (by decide +kernel) rfl rfl rfl ?_; rintro _ _ _ ⟨_, rfl, rfl, rfl⟩; refine ⟨by (repeat (first | exact trivial | refine And.intro (pend_q rfl rfl rfl (qt_pev tok rfl)) ?_ | refine And.intro (pend_q rfl rfl rfl (ql tok rfl)) ?_)), ?_⟩) | (refine prn_e1 rfl (qt_pev tok rfl) (by decide +kernel) rfl rfl rfl ?_; rintro _ _ _ ⟨rfl, rfl, rfl⟩))
    refine run_mem (fun _ h => (h.perm (pm2 _ _ N' _).symm).drop) (run_sub' (hnext _ _ _ ⟨hlt, xs ++ [t], s3, _, N', by simp [hxl], ?_, by omega, by simp, by rw [← rFlat]; exact hO', rfl, rfl, rfl⟩) ⟨lk_succ rfl (by omega), rfl, rfl, trivial⟩)
    rw [hpj, Option.bind_assoc]
    simp
  · have hge : j = sm.len := by simp at h; omega
    rw [hge, Nat.sub_self, pTs, Option.bind_some, List.append_nil] at hpj
    repeat (first | with_reducible (first | refine run_seq ?_ | refine run_region ?_ | refine runL_nil ?_ | refine run_skip ?_ | refine run_block ?_ | refine run_inBlock ?_) | refine run_exit rfl ?_ | refine runL_q (qt_pev tok rfl) rfl rfl rfl ?_ | refine runL_g rfl rfl (qt_pev tok rfl) rfl rfl rfl rfl rfl ?_ | refine runL_q (ql tok rfl) rfl rfl rfl ?_ | refine runL_g rfl rfl (ql tok rfl) rfl rfl rfl rfl rfl ?_ | (refine runL_op0 (sst tok rfl rfl rfl rfl rfl) ?_; rintro _ _ _ ⟨rfl, rfl, rfl⟩) | (refine runL_op (st_box rfl) rfl rfl rfl ?_; rintro _ _ _ ⟨_, rfl, rfl, rfl⟩) | (refine runL_op (st_alloc tok rfl) rfl rfl rfl ?_; rintro _ _ _ ⟨_, rfl, rfl, rfl⟩) | (refine runL_op (st_buildSlice tok rfl rfl rfl rfl rfl rfl rfl) rfl rfl rfl ?_; rintro _ _ _ ⟨_, rfl, rfl, rfl⟩))
    refine run_memE (fun M' L' => M2.le M' ∧ ∃ st : SStr, StOk M' st ∧ st.xs = xs ∧ (xs = [] → st.v = .slice none 0 0) ∧ L' = rdB bx ⟨k2, e2, t2, y2, a2, sm.v, st.v, b2⟩ sj :: L) (fun w hw => ?_) ?_
    · obtain ⟨M', a', c', h1, h2, h3, h4⟩ := (hw.perm (pm1 _ N _)).freezeOS hO (by simpa using hxl) (rStAll _)
      exact ⟨M', _, h2, h1, ⟨a', j, c', xs⟩, ⟨h4, by show j < _; omega⟩, rfl, fun hx => by rw [← hnj hx, h3]; rfl, by rw [h3]; rfl⟩
    · rintro M' _ ⟨hM', st, hst', rfl, hn', rfl⟩
      refine run_endX hro ?_
      refine runX_ret hC (rs := []) rfl (vs := []) trivial (fun _ h => h) ?_
      rw [hst, hpj, Option.bind_some]
      have hq3 := hq2.le hM'
      exact rmK_some (Mem.le_trans hM02 hM') { hq3 with tags := ⟨st, rfl, hst', rfl⟩, nilT := hn' }
end Go.Proofs.Ytpjklbkfhgfmnaa
namespace Go.Proofs.Ytpjklbkfhgfmnaa
open Go.Chi

/-! ### a method of the reader, and all of a kind -/
def mNames : List String := ["chirograph/record.epoch", "chirograph/record.txn", "chirograph/record.yes", "chirograph/record.auditor", "chirograph/record.members", "chirograph/record.body", "chirograph/record.more"]
theorem methL_sub {k : Int} {nm : String} (h : nm ∈ methL k) : nm ∈ mNames := by
  unfold methL at h
  unfold mNames
  repeat' split at h
  all_goals simp only [List.mem_cons, List.not_mem_nil, or_false] at h ⊢
  · exact .inl h
  · rcases h with h | h | h | h | h <;> simp [h]
  · rcases h with h | h | h <;> simp [h]
  · rcases h with h | h <;> simp [h]
def stepR (nm : String) (r : Re) (s : ByteArray) : Option (Re × ByteArray) :=
  if nm = "chirograph/record.epoch" then stEpoch r s else
  if nm = "chirograph/record.txn" then stTxn r s else
  if nm = "chirograph/record.yes" then stYes r s else
  if nm = "chirograph/record.auditor" then stAuditor r s else
  if nm = "chirograph/record.members" then stMembers r s else
  if nm = "chirograph/record.body" then stBody r s else stMore r s
theorem s_epoch : stepR "chirograph/record.epoch" = stEpoch := by funext r s; rw [stepR, if_pos rfl]
theorem s_txn : stepR "chirograph/record.txn" = stTxn := by funext r s; rw [stepR, if_neg (by decide), if_pos rfl]
theorem s_yes : stepR "chirograph/record.yes" = stYes := by funext r s; rw [stepR, if_neg (by decide), if_neg (by decide), if_pos rfl]
theorem s_auditor : stepR "chirograph/record.auditor" = stAuditor := by funext r s; rw [stepR, if_neg (by decide), if_neg (by decide), if_neg (by decide), if_pos rfl]
theorem s_members : stepR "chirograph/record.members" = stMembers := by funext r s; rw [stepR, if_neg (by decide), if_neg (by decide), if_neg (by decide), if_neg (by decide), if_pos rfl]
theorem s_body : stepR "chirograph/record.body" = stBody := by funext r s; rw [stepR, if_neg (by decide), if_neg (by decide), if_neg (by decide), if_neg (by decide), if_neg (by decide), if_pos rfl]
theorem s_more : stepR "chirograph/record.more" = stMore := by funext r s; rw [stepR, if_neg (by decide), if_neg (by decide), if_neg (by decide), if_neg (by decide), if_neg (by decide), if_neg (by decide)]
def listy (nm : String) : Prop := nm = "chirograph/record.members" ∨ nm = "chirograph/record.more"
theorem mNames_cases {q : String → Prop} (h1 : q "chirograph/record.epoch") (h2 : q "chirograph/record.txn") (h3 : q "chirograph/record.yes") (h4 : q "chirograph/record.auditor") (h5 : q "chirograph/record.members") (h6 : q "chirograph/record.body") (h7 : q "chirograph/record.more") {nm : String} (h : nm ∈ mNames) : q nm := by
  simp only [mNames, List.mem_cons, List.not_mem_nil, or_false] at h
  rcases h with rfl | rfl | rfl | rfl | rfl | rfl | rfl <;> assumption
theorem rmeth_ok {nm : String} (hn : nm ∈ mNames) : ∃ f, MethOk Try.prog 59 nm f ∧ ∀ (M : Mem) (L : HL) (bx : Nat) (q : Rd) (r : Re) (s : ByteArray), s.size < 4611686018427387904 → Rr M q r → (listy nm → r.mem = [] ∧ r.tags = []) →
    TrE Try.prog f [.pointer (some ⟨bx, 0, none⟩)] M (rdB bx q s :: L) (rmK (stepR nm r s) bx M L) := by
  refine mNames_cases (q := fun nm => ∃ f, MethOk Try.prog 59 nm f ∧ ∀ (M : Mem) (L : HL) (bx : Nat) (q : Rd) (r : Re) (s : ByteArray), s.size < 4611686018427387904 → Rr M q r → (listy nm → r.mem = [] ∧ r.tags = []) →
    TrE Try.prog f [.pointer (some ⟨bx, 0, none⟩)] M (rdB bx q s :: L) (rmK (stepR nm r s) bx M L)) ?_ ?_ ?_ ?_ ?_ ?_ ?_ hn
  · exact ⟨_, mr_epoch, fun M L bx q r s hs hq _ => by rw [s_epoch]; exact repoch_ok M L bx q r s hs hq⟩
  · exact ⟨_, mr_txn, fun M L bx q r s hs hq _ => by rw [s_txn]; exact rtxn_ok M L bx q r s hs hq⟩
  · exact ⟨_, mr_yes, fun M L bx q r s hs hq _ => by rw [s_yes]; exact ryes_ok M L bx q r s hs hq⟩
  · exact ⟨_, mr_auditor, fun M L bx q r s hs hq _ => by rw [s_auditor]; exact rauditor_ok M L bx q r s hs hq⟩
  · exact ⟨_, mr_members, fun M L bx q r s hs hq h => by rw [s_members]; exact rmembers_ok M L bx q r s hs hq (h (.inl rfl)).1⟩
  · exact ⟨_, mr_body, fun M L bx q r s hs hq _ => by rw [s_body]; exact rbody_ok M L bx q r s hs hq⟩
  · exact ⟨_, mr_more, fun M L bx q r s hs hq h => by rw [s_more]; exact rmore_ok M L bx q r s hs hq (h (.inr rfl)).1 (h (.inr rfl)).2⟩
theorem pTx_size {s x : ByteArray} {t : Tx} (h : pTx s = some (t, x)) : x.size ≤ s.size := by rw [pTx_back h, app_size]; omega
theorem pMs_size {s x : ByteArray} {l : List Mb} (h : pMs s = some (l, x)) : x.size ≤ s.size := by rw [pMs_back h, app_size]; omega
theorem pAM_size {s x : ByteArray} {z : Int × List Mb} (h : pAM s = some (z, x)) : x.size ≤ s.size := by rw [pAM_back h, app_size, app_size]; omega
theorem pTs_size {n : Nat} {s x : ByteArray} {l : List ByteArray} (h : pTs n s = some (l, x)) : x.size ≤ s.size := by rw [(pTs_back n h).2, app_size]; omega
/-- what a step leaves -/
theorem step_keeps {nm : String} (hn : nm ∈ mNames) {r r' : Re} {s s' : ByteArray} (h : stepR nm r s = some (r', s')) : s'.size ≤ s.size ∧ (¬ listy nm → r'.mem = r.mem ∧ r'.tags = r.tags) := by
  revert h
  refine mNames_cases (q := fun nm => stepR nm r s = some (r', s') → s'.size ≤ s.size ∧ (¬ listy nm → r'.mem = r.mem ∧ r'.tags = r.tags)) ?_ ?_ ?_ ?_ ?_ ?_ ?_ hn
  · rw [s_epoch]; intro h
    obtain ⟨⟨v, x⟩, h1, h2⟩ := Option.bind_eq_some_iff.1 h
    cases h2; exact ⟨pN_size h1, fun _ => ⟨rfl, rfl⟩⟩
  · rw [s_txn]; intro h
    obtain ⟨⟨v, x⟩, h1, h2⟩ := Option.bind_eq_some_iff.1 h
    cases h2; exact ⟨pTx_size h1, fun _ => ⟨rfl, rfl⟩⟩
  · rw [s_yes]; intro h
    obtain ⟨⟨v, x⟩, h1, h2⟩ := Option.bind_eq_some_iff.1 h
    cases h2; exact ⟨pN_size h1, fun _ => ⟨rfl, rfl⟩⟩
  · rw [s_auditor]; intro h
    obtain ⟨⟨v, x⟩, h1, h2⟩ := Option.bind_eq_some_iff.1 h
    cases h2; exact ⟨pN_size h1, fun _ => ⟨rfl, rfl⟩⟩
  · rw [s_members]; intro h
    obtain ⟨⟨v, x⟩, h1, h2⟩ := Option.bind_eq_some_iff.1 h
    cases h2; exact ⟨pMs_size h1, fun hl => absurd (.inl rfl) hl⟩
  · rw [s_body]; intro h
    obtain ⟨⟨v, x⟩, h1, h2⟩ := Option.bind_eq_some_iff.1 h
    cases h2; exact ⟨pT_size h1, fun _ => ⟨rfl, rfl⟩⟩
  · rw [s_more]; intro h
    unfold stMore at h
    refine ⟨?_, fun hl => absurd (.inr rfl) hl⟩
    split at h
    · obtain ⟨⟨v, x⟩, h1, h2⟩ := Option.bind_eq_some_iff.1 h
      obtain ⟨⟨u, y⟩, h3, h4⟩ := Option.bind_eq_some_iff.1 h2
      cases h4
      exact Nat.le_trans (pTs_size h3) (pAM_size h1)
    · cases h; exact Nat.le_refl _
def goR : List String → Re → ByteArray → Option (Re × ByteArray)
  | [], r, s => some (r, s)
  | nm :: l, r, s => (stepR nm r s).bind fun x => goR l x.1 x.2
def re0 (k : Int) : Re := ⟨k, 0, ⟨0, 0, 0⟩, false, 0, [], [], bz⟩
theorem go_rec (k : Int) (s : ByteArray) : goR (methL k) (re0 k) s = pRec k s := by
  by_cases k1 : k = 1
  · subst k1
    rw [meth1]
    simp only [goR, s_epoch, stEpoch, Option.bind_assoc, Option.bind_some]
    rfl
  by_cases k2 : k = 2
  · subst k2
    rw [meth2]
    simp only [goR, s_txn, s_yes, s_auditor, s_members, s_body, stTxn, stYes, stAuditor, stMembers, stBody, Option.bind_assoc, Option.bind_some, pRec, if_neg k1, if_true, pY, pAM]
    rfl
  by_cases k3 : k = 3
  · subst k3
    rw [meth3]
    simp only [goR, s_txn, s_yes, s_more, stTxn, stYes, stMore, Option.bind_assoc, Option.bind_some, pRec, if_neg k1, if_neg k2, if_true, pY]
    cases pTx s with
    | none => rfl
    | some x =>
      simp only [Option.bind_some]
      cases pN 1 x.2 with
      | none => rfl
      | some y =>
        simp only [Option.bind_some]
        by_cases hy : (y.1 == 1) = true
        · rw [if_pos hy, if_pos hy, Option.bind_assoc]
          simp only [hy, Option.bind_assoc, Option.bind_some]
          rfl
        · rw [if_neg hy, if_neg hy, Option.bind_some]
          have hy : (y.1 == 1) = false := by simpa using hy
          simp only [hy]
          rfl
  by_cases k4 : k = 4
  · subst k4
    rw [meth4]
    simp only [goR, s_txn, s_yes, stTxn, stYes, Option.bind_assoc, Option.bind_some, pRec, if_neg k1, if_neg k2, if_neg k3, if_true, pY]
    rfl
  rw [methL, if_neg k1, if_neg k2, if_neg k3, if_neg k4, pRec, if_neg k1, if_neg k2, if_neg k3, if_neg k4]
  rfl
/-- lists are read once -/
theorem methL_once (k : Int) : ∀ (j : Nat) (nm : String), (methL k)[j]? = some nm → listy nm → ∀ nm' ∈ (methL k).drop (j + 1), ¬ listy nm' := by
  unfold methL listy
  repeat' split
  all_goals intro j nm hj hl nm' hn'
  · rcases j with _ | j
    · simp at hn'
    · simp at hj
  · rcases j with _ | _ | _ | _ | _ | j <;> simp at hj <;> subst hj <;> simp at hl hn' <;> subst hn' <;> simp
  · rcases j with _ | _ | _ | j <;> simp at hj <;> subst hj <;> simp at hl hn'
  · rcases j with _ | _ | j <;> simp at hj <;> subst hj <;> simp at hl
  · simp at hj
end Go.Proofs.Ytpjklbkfhgfmnaa
namespace Go.Proofs.Ytpjklbkfhgfmnaa
open Go.Chi

theorem rmK_mono {o : Option (Re × ByteArray)} {bx : Nat} {M M1 : Mem} {L : HL} {en : Ending} {M' : Mem} {L' : HL} (hm : M.le M1) (h : rmK o bx M1 L en M' L') : rmK o bx M L en M' L' := ⟨Mem.le_trans hm h.1, h.2⟩
theorem TrE.perm {P : Program} {f : FuncId} {args : List Value} {M : Mem} {L L' : HL} {K : Ending → Mem → HL → Prop} (hp : L.Perm L') (h : TrE P f args M L' K) : TrE P f args M L K := ⟨h.1, fun w hw => h.2 w (hw.perm hp)⟩
set_option maxRecDepth 10000 in
set_option maxHeartbeats 16000000 in
theorem decode1_ok (M : Mem) (L : HL) (bx bs bp : Nat) (q : Rd) (s s1 : ByteArray) (hs0 : 0 < s.size) (hs : s1.size < 4611686018427387904) (hbs : Cells M [] bs 0 [.string s]) (hbp : Cells M [] bp 0 [.pointer (some ⟨bx, 0, none⟩)]) (hq : Rr M q (re0 (byte s 0))) :
    TrE Try.prog 41 [.pointer (some ⟨bs, 0, none⟩), .pointer (some ⟨bp, 0, none⟩)] M (rdB bx q s1 :: L) (rmK (pRec (byte s 0) s1) bx M L) := by
  obtain ⟨b0, hb0, hb0'⟩ := byte_at hs0
  rw [← go_rec]
  generalize hk : byte s 0 = k at hq ⊢
  have hkb : (b0.toNat : Int) = k := by rw [← hk, hb0']
  refine TrE.intro 17 Try.func41 rfl rfl Try.call41 rfl ?_
  intro C hC hro
  repeat (first | with_reducible (first | refine run_seq ?_ | refine run_region ?_ | refine runL_nil ?_ | refine run_skip ?_ | refine run_block ?_ | refine run_inBlock ?_) | refine run_exit rfl ?_ | refine runL_q (qt_pev tok rfl) rfl rfl rfl ?_ | refine runL_g rfl rfl (qt_pev tok rfl) rfl rfl rfl rfl rfl ?_ | refine runL_q (ql tok rfl) rfl rfl rfl ?_ | refine runL_g rfl rfl (ql tok rfl) rfl rfl rfl rfl rfl ?_ | (refine runL_op0 (sst tok rfl rfl rfl rfl rfl) ?_; rintro _ _ _ ⟨rfl, rfl, rfl⟩) | (refine runL_op (st_box rfl) rfl rfl rfl ?_; rintro _ _ _ ⟨_, rfl, rfl, rfl⟩) | (refine runL_op (st_alloc tok rfl) rfl rfl rfl ?_; rintro _ _ _ ⟨_, rfl, rfl, rfl⟩) | (refine runL_op (st_buildSlice tok rfl rfl rfl rfl rfl rfl rfl) rfl rfl rfl ?_; rintro _ _ _ ⟨_, rfl, rfl, rfl⟩) | refine prn_start mixed ?_ | refine prn_end (by decide +kernel) ?_ | refine prn_q rfl (qt_pev tok rfl) (by decide +kernel) rfl rfl rfl ?_ | refine prn_g rfl rfl rfl (qt_pev tok rfl) (by decide +kernel) rfl rfl rfl rfl rfl ?_ | refine prn_q rfl (ql tok rfl) (by decide +kernel) rfl rfl rfl ?_ | refine prn_g rfl rfl rfl (ql tok rfl) (by decide +kernel) rfl rfl rfl rfl rfl ?_ | (refine prn_e0 rfl (sst tok rfl rfl rfl rfl rfl) (by decide +kernel) ?_; rintro _ _ _ ⟨rfl, rfl, rfl⟩) | (refine prn_e1 rfl (st_box rfl) (by decide +kernel) rfl rfl rfl ?_; rintro _ _ _ ⟨_, rfl, rfl, rfl⟩) | (refine prn_e1 rfl (st_alloc tok rfl) (by decide +kernel) rfl rfl rfl ?_; rintro _ _ _ ⟨_, rfl, rfl, rfl⟩) | (refine prn_e1 rfl (st_buildSlice tok rfl rfl rfl rfl rfl rfl rfl) (by decide +kernel) rfl rfl rfl ?_; rintro _ _ _ ⟨_, rfl, rfl, rfl⟩) | (refine prn_o0 rfl (sst tok rfl rfl rfl rfl rfl) (by decide +kernel) ?_; rintro _ _ _ ⟨rfl, rfl, rfl⟩; refine ⟨by (repeat (first | exact trivial | refine And.intro (pend_q rfl rfl rfl (qt_pev tok rfl)) ?_ | refine And.intro (pend_q rfl rfl rfl (ql tok rfl)) ?_)), ?_⟩) | (refine prn_o1 rfl (st_box rfl) (by decide +kernel) rfl rfl rfl ?_; rintro _ _ _ ⟨_, rfl, rfl, rfl⟩; refine ⟨by (repeat (first | exact trivial | refine And.intro (pend_q rfl rfl rfl (qt_pev tok rfl)) ?_ | refine And.intro (pend_q rfl rfl rfl (ql tok rfl)) ?_)), ?_⟩) | (refine prn_o1 rfl (st_alloc tok rfl) (by decide +kernel) rfl rfl rfl ?_; rintro _ _ _ ⟨_, rfl, rfl, rfl⟩; refine ⟨by (repeat (first | exact trivial | refine And.intro (pend_q rfl rfl rfl (qt_pev tok rfl)) ?_ | refine And.intro (pend_q rfl rfl rfl (ql tok rfl)) ?_)), ?_⟩) | (refine prn_o1 rfl (st_buildSlice tok rfl rfl rfl rfl rfl rfl rfl) (by decide +kernel) rfl rfl rfl ?_; rintro _ _ _ ⟨_, rfl, rfl, rfl⟩; refine ⟨by (repeat (first | exact trivial | refine And.intro (pend_q rfl rfl rfl (qt_pev tok rfl)) ?_ | refine And.intro (pend_q rfl rfl rfl (ql tok rfl)) ?_)), ?_⟩) | (refine prn_e1 rfl (qt_pev tok rfl) (by decide +kernel) rfl rfl rfl ?_; rintro _ _ _ ⟨rfl, rfl, rfl⟩) | refine prn_q rfl (qt_ldM (k := 0) tok rfl hbs rfl) (by decide +kernel) rfl rfl rfl ?_ | refine prn_q rfl (qt_ldM (k := 0) tok rfl hbp rfl) (by decide +kernel) rfl rfl rfl ?_ | refine prn_q rfl (qt_strIndex (n := 0) tok rfl rfl rfl (fun _ => hb0)) (by decide +kernel) rfl rfl rfl ?_ | refine prn_q rfl (qt_makeIfaceC tok rfl rfl rfl) (by decide +kernel) rfl rfl rfl ?_)
  refine pr_as 5 (.int .u8 k) rfl (by rw [hkb]) ?_
  refine pr_q 6 (by decide +kernel) rfl (qt_pev tok rfl) rfl rfl rfl ?_
  refine pr_one 4 (by decide +kernel) (eff1 4 rfl (st_callF rfl (fun _ => of_ok _ _ _ _ _)) (by decide +kernel) (qs := _) rfl rfl rfl rfl ?_)
  rintro _ M1 _ ⟨hM1, rfl, a, c, rfl, hsl⟩
  refine ⟨by (repeat (first | exact trivial | refine And.intro (pend_q rfl rfl rfl (qt_pev tok rfl)) ?_ | refine And.intro (pend_q rfl rfl rfl (ql tok rfl)) ?_)), ?_⟩
  refine pr_q 5 (by decide +kernel) rfl (qt_pev tok rfl) rfl rfl rfl ?_
  refine pr_end (by decide +kernel) (by decide +kernel) ?_
  repeat (first | with_reducible (first | refine run_seq ?_ | refine run_region ?_ | refine runL_nil ?_ | refine run_skip ?_ | refine run_block ?_ | refine run_inBlock ?_) | refine run_exit rfl ?_ | refine runL_q (qt_pev tok rfl) rfl rfl rfl ?_ | refine runL_g rfl rfl (qt_pev tok rfl) rfl rfl rfl rfl rfl ?_ | refine runL_q (ql tok rfl) rfl rfl rfl ?_ | refine runL_g rfl rfl (ql tok rfl) rfl rfl rfl rfl rfl ?_ | (refine runL_op0 (sst tok rfl rfl rfl rfl rfl) ?_; rintro _ _ _ ⟨rfl, rfl, rfl⟩) | (refine runL_op (st_box rfl) rfl rfl rfl ?_; rintro _ _ _ ⟨_, rfl, rfl, rfl⟩) | (refine runL_op (st_alloc tok rfl) rfl rfl rfl ?_; rintro _ _ _ ⟨_, rfl, rfl, rfl⟩) | (refine runL_op (st_buildSlice tok rfl rfl rfl rfl rfl rfl rfl) rfl rfl rfl ?_; rintro _ _ _ ⟨_, rfl, rfl, rfl⟩) | refine prn_start mixed ?_ | refine prn_end (by decide +kernel) ?_ | refine prn_q rfl (qt_pev tok rfl) (by decide +kernel) rfl rfl rfl ?_ | refine prn_g rfl rfl rfl (qt_pev tok rfl) (by decide +kernel) rfl rfl rfl rfl rfl ?_ | refine prn_q rfl (ql tok rfl) (by decide +kernel) rfl rfl rfl ?_ | refine prn_g rfl rfl rfl (ql tok rfl) (by decide +kernel) rfl rfl rfl rfl rfl ?_ | (refine prn_e0 rfl (sst tok rfl rfl rfl rfl rfl) (by decide +kernel) ?_; rintro _ _ _ ⟨rfl, rfl, rfl⟩) | (refine prn_e1 rfl (st_box rfl) (by decide +kernel) rfl rfl rfl ?_; rintro _ _ _ ⟨_, rfl, rfl, rfl⟩) | (refine prn_e1 rfl (st_alloc tok rfl) (by decide +kernel) rfl rfl rfl ?_; rintro _ _ _ ⟨_, rfl, rfl, rfl⟩) | (refine prn_e1 rfl (st_buildSlice tok rfl rfl rfl rfl rfl rfl rfl) (by decide +kernel) rfl rfl rfl ?_; rintro _ _ _ ⟨_, rfl, rfl, rfl⟩) | (refine prn_o0 rfl (sst tok rfl rfl rfl rfl rfl) (by decide +kernel) ?_; rintro _ _ _ ⟨rfl, rfl, rfl⟩; refine ⟨by (repeat (first | exact trivial | refine And.intro (pend_q rfl rfl rfl (qt_pev tok rfl)) ?_ | refine And.intro (pend_q rfl rfl rfl (ql tok rfl)) ?_)), ?_⟩) | (refine prn_o1 rfl (st_box rfl) (by decide +kernel) rfl rfl rfl ?_; rintro _ _ _ ⟨_, rfl, rfl, rfl⟩; refine ⟨by (repeat (first | exact trivial | refine And.intro (pend_q rfl rfl rfl (qt_pev tok rfl)) ?_ | refine And.intro (pend_q rfl rfl rfl (ql tok rfl)) ?_)), ?_⟩) | (refine prn_o1 rfl (st_alloc tok rfl) (by decide +kernel) rfl rfl rfl ?_; rintro _ _ _ ⟨_, rfl, rfl, rfl⟩; refine ⟨by (repeat (first | exact trivial | refine And.intro (pend_q rfl rfl rfl (qt_pev tok rfl)) ?_ | refine And.intro (pend_q rfl rfl rfl (ql tok rfl)) ?_)), ?_⟩) | (refine prn_o1 rfl (st_buildSlice tok rfl rfl rfl rfl rfl rfl rfl) (by decide +kernel) rfl rfl rfl ?_; rintro _ _ _ ⟨_, rfl, rfl, rfl⟩; refine ⟨by (repeat (first | exact trivial | refine And.intro (pend_q rfl rfl rfl (qt_pev tok rfl)) ?_ | refine And.intro (pend_q rfl rfl rfl (ql tok rfl)) ?_)), ?_⟩) | (refine prn_e1 rfl (qt_pev tok rfl) (by decide +kernel) rfl rfl rfl ?_; rintro _ _ _ ⟨rfl, rfl, rfl⟩))
  refine run_loopN (fun j σ1 M2 L1 => j ≤ (methL k).length ∧ ∃ (rj : Re) (sj : ByteArray) (qj : Rd), M1.le M2 ∧ Rr M2 qj rj ∧ goR (methL k) (re0 k) s1 = goR ((methL k).drop j) rj sj ∧ (∀ nm ∈ (methL k).drop j, listy nm → rj.mem = [] ∧ rj.tags = []) ∧ sj.size ≤ s1.size ∧ L1 = rdB bx qj sj :: L ∧ σ1 = [(10, .int .i64 (j : Int)), (9, .int .i64 ((methL k).length : Int)), (8, .slice a (methL k).length c)]) (methL k).length [(10, .int .i64 ((0 : Nat) : Int)), (9, .int .i64 ((methL k).length : Int)), (8, .slice a (methL k).length c)] ?_ ⟨Nat.zero_le _, re0 k, s1, q, Mem.le_refl _, hq.le hM1, rfl, fun _ _ _ => ⟨rfl, rfl⟩, Nat.le_refl _, rfl, rfl⟩ (fun j _ _ _ h => h.1) ?_
  · exact ⟨rfl, rfl, rfl, trivial⟩
  rintro j _ M2 _ ⟨hj, rj, sj, qj, hM2, hqj, hgo, hli, hsj, rfl, rfl⟩ hnext
  repeat (first | with_reducible (first | refine run_seq ?_ | refine run_region ?_ | refine runL_nil ?_ | refine run_skip ?_ | refine run_block ?_ | refine run_inBlock ?_) | refine run_exit rfl ?_ | refine runL_q (qt_pev tok rfl) rfl rfl rfl ?_ | refine runL_g rfl rfl (qt_pev tok rfl) rfl rfl rfl rfl rfl ?_ | refine runL_q (ql tok rfl) rfl rfl rfl ?_ | refine runL_g rfl rfl (ql tok rfl) rfl rfl rfl rfl rfl ?_ | (refine runL_op0 (sst tok rfl rfl rfl rfl rfl) ?_; rintro _ _ _ ⟨rfl, rfl, rfl⟩) | (refine runL_op (st_box rfl) rfl rfl rfl ?_; rintro _ _ _ ⟨_, rfl, rfl, rfl⟩) | (refine runL_op (st_alloc tok rfl) rfl rfl rfl ?_; rintro _ _ _ ⟨_, rfl, rfl, rfl⟩) | (refine runL_op (st_buildSlice tok rfl rfl rfl rfl rfl rfl rfl) rfl rfl rfl ?_; rintro _ _ _ ⟨_, rfl, rfl, rfl⟩))
  refine run_cond rfl (fun h => ?_) (fun h => ?_)
  · have hlt : j < (methL k).length := by simpa using h
    have hl5 := methL_len k
    obtain ⟨b, off, cl, rfl, hcl, _, hcells⟩ := (hsl.le hM2).at_ hlt
    obtain ⟨nm, hnm, rfl⟩ : ∃ nm, (methL k)[j]? = some nm ∧ [mv 59 (.pointer (some ⟨bx, 0, none⟩)) nm] = cl := by simpa using hcl
    have hmn := methL_sub (List.mem_of_getElem? hnm)
    obtain ⟨f, hf, htr⟩ := rmeth_ok hmn
    have hdr : (methL k).drop j = nm :: (methL k).drop (j + 1) := by
      obtain ⟨hl, he⟩ := List.getElem?_eq_some_iff.1 hnm
      rw [← he]; exact (List.getElem_cons_drop (h := hl)).symm
    rw [hdr, goR] at hgo
    rw [hdr] at hli
    repeat (first | with_reducible (first | refine run_seq ?_ | refine run_region ?_ | refine runL_nil ?_ | refine run_skip ?_ | refine run_block ?_ | refine run_inBlock ?_) | refine run_exit rfl ?_ | refine runL_q (qt_pev tok rfl) rfl rfl rfl ?_ | refine runL_g rfl rfl (qt_pev tok rfl) rfl rfl rfl rfl rfl ?_ | refine runL_q (ql tok rfl) rfl rfl rfl ?_ | refine runL_g rfl rfl (ql tok rfl) rfl rfl rfl rfl rfl ?_ | (refine runL_op0 (sst tok rfl rfl rfl rfl rfl) ?_; rintro _ _ _ ⟨rfl, rfl, rfl⟩) | (refine runL_op (st_box rfl) rfl rfl rfl ?_; rintro _ _ _ ⟨_, rfl, rfl, rfl⟩) | (refine runL_op (st_alloc tok rfl) rfl rfl rfl ?_; rintro _ _ _ ⟨_, rfl, rfl, rfl⟩) | (refine runL_op (st_buildSlice tok rfl rfl rfl rfl rfl rfl rfl) rfl rfl rfl ?_; rintro _ _ _ ⟨_, rfl, rfl, rfl⟩) | refine runL_q (qt_indexN tok rfl rfl rfl rfl (fun _ => by omega)) rfl rfl rfl ?_ | refine runL_g rfl rfl (qt_indexN tok rfl rfl rfl rfl (fun _ => by omega)) rfl rfl rfl rfl rfl ?_ | refine runL_q (qt_ldM tok rfl hcells rfl) rfl rfl rfl ?_ | refine runL_g rfl rfl (qt_ldM tok rfl hcells rfl) rfl rfl rfl rfl rfl ?_ | refine runL_q (qt_ldM0 tok rfl hcells rfl) rfl rfl rfl ?_ | refine runL_g rfl rfl (qt_ldM0 tok rfl hcells rfl) rfl rfl rfl rfl rfl ?_)
    refine runL_callME rfl rfl hf (htr M2 L bx qj rj sj (by omega) hqj (hli nm List.mem_cons_self)) rfl rfl rfl ?_ ?_
    · rintro v M3 L3 ⟨hM3, hv⟩
      cases hst : stepR nm rj sj with
      | none => rw [hst] at hv; cases hv.1
      | some x =>
        rw [hst] at hv
        obtain ⟨hv, q3, hq3, rfl⟩ := hv
        rw [Ending.returned.injEq] at hv
        subst hv
        rw [hst, Option.bind_some] at hgo
        obtain ⟨r3, s3⟩ := x
        obtain ⟨hk1, hk2⟩ := step_keeps hmn hst
        repeat (first | with_reducible (first | refine run_seq ?_ | refine run_region ?_ | refine runL_nil ?_ | refine run_skip ?_ | refine run_block ?_ | refine run_inBlock ?_) | refine run_exit rfl ?_ | refine runL_q (qt_pev tok rfl) rfl rfl rfl ?_ | refine runL_g rfl rfl (qt_pev tok rfl) rfl rfl rfl rfl rfl ?_ | refine runL_q (ql tok rfl) rfl rfl rfl ?_ | refine runL_g rfl rfl (ql tok rfl) rfl rfl rfl rfl rfl ?_ | (refine runL_op0 (sst tok rfl rfl rfl rfl rfl) ?_; rintro _ _ _ ⟨rfl, rfl, rfl⟩) | (refine runL_op (st_box rfl) rfl rfl rfl ?_; rintro _ _ _ ⟨_, rfl, rfl, rfl⟩) | (refine runL_op (st_alloc tok rfl) rfl rfl rfl ?_; rintro _ _ _ ⟨_, rfl, rfl, rfl⟩) | (refine runL_op (st_buildSlice tok rfl rfl rfl rfl rfl rfl rfl) rfl rfl rfl ?_; rintro _ _ _ ⟨_, rfl, rfl, rfl⟩))
        refine run_sub' (hnext _ _ _ ⟨hlt, r3, s3, q3, Mem.le_trans hM2 hM3, hq3, hgo, ?_, by omega, rfl, rfl⟩) ⟨lk_succ rfl (by omega), rfl, rfl, trivial⟩
        intro nm' hn' hl'
        have hnl : ¬ listy nm := fun hl => methL_once k j nm hnm hl nm' hn' hl'
        obtain ⟨h5, h6⟩ := hk2 hnl
        rw [h5, h6]
        exact hli nm' (List.mem_cons_of_mem _ hn') hl'
    · rintro ch M3 L3 ⟨hM3, hv⟩
      cases hst : stepR nm rj sj with
      | some x => rw [hst] at hv; cases hv.1
      | none =>
        rw [hst] at hv
        obtain ⟨hv, rfl⟩ := hv
        rw [Ending.panicked.injEq] at hv
        subst hv
        rw [hst] at hgo
        refine runX_pan hC (fun _ h => h) ?_
        rw [hgo]
        exact ⟨Mem.le_trans hM1 (Mem.le_trans hM2 hM3), rfl, rfl⟩
  · have hge : j = (methL k).length := by simp at h; omega
    subst hge
    rw [List.drop_length, goR] at hgo
    repeat (first | with_reducible (first | refine run_seq ?_ | refine run_region ?_ | refine runL_nil ?_ | refine run_skip ?_ | refine run_block ?_ | refine run_inBlock ?_) | refine run_exit rfl ?_ | refine runL_q (qt_pev tok rfl) rfl rfl rfl ?_ | refine runL_g rfl rfl (qt_pev tok rfl) rfl rfl rfl rfl rfl ?_ | refine runL_q (ql tok rfl) rfl rfl rfl ?_ | refine runL_g rfl rfl (ql tok rfl) rfl rfl rfl rfl rfl ?_ | (refine runL_op0 (sst tok rfl rfl rfl rfl rfl) ?_; rintro _ _ _ ⟨rfl, rfl, rfl⟩) | (refine runL_op (st_box rfl) rfl rfl rfl ?_; rintro _ _ _ ⟨_, rfl, rfl, rfl⟩) | (refine runL_op (st_alloc tok rfl) rfl rfl rfl ?_; rintro _ _ _ ⟨_, rfl, rfl, rfl⟩) | (refine runL_op (st_buildSlice tok rfl rfl rfl rfl rfl rfl rfl) rfl rfl rfl ?_; rintro _ _ _ ⟨_, rfl, rfl, rfl⟩))
    refine run_endX hro ?_
    refine runX_ret hC (rs := []) rfl (vs := []) trivial (fun _ h => h) ?_
    rw [hgo]
    exact rmK_some (Mem.le_trans hM1 hM2) hqj
end Go.Proofs.Ytpjklbkfhgfmnaa
namespace Go.Proofs.Ytpjklbkfhgfmnaa
open Go.Chi

def caughtK (o : Option (Re × ByteArray)) (bx : Nat) (M : Mem) (L : HL) (v : Value) (M' : Mem) (L' : HL) : Prop :=
  M.le M' ∧ match o with | some x => v = .int .i64 0 ∧ ∃ q, Rr M' q x.1 ∧ L' = rdB bx q x.2 :: L | none => v = .int .i64 7 ∧ L' = L
set_option maxRecDepth 10000 in
set_option maxHeartbeats 4000000 in
theorem rcaught_ok (M : Mem) (L : HL) (bx : Nat) (q : Rd) (s : ByteArray) (g : Nat) (cap : List Value) (o : Option (Re × ByteArray)) (hw : ∀ L, TrE Try.prog g cap M (rdB bx q s :: L) (rmK o bx M L)) :
    Tr Try.prog 40 [.func (.func g) ⟨[]⟩ ⟨cap⟩] M (rdB bx q s :: L) (caughtK o bx M L) := by
  refine TrE.tr (K := fun en M' L' => ∃ v, en = .returned v ∧ caughtK o bx M L v M' L') ?_ (fun e M' L' ⟨v, h1, h2⟩ => ⟨v, h1, h2⟩)
  refine TrE.intro 6 Try.func40 rfl rfl Try.call40 rfl ?_
  intro C hC hro
  repeat (first | with_reducible (first | refine run_seq ?_ | refine run_region ?_ | refine runL_nil ?_ | refine run_skip ?_ | refine run_block ?_ | refine run_inBlock ?_) | refine run_exit rfl ?_ | refine runL_q (qt_pev tok rfl) rfl rfl rfl ?_ | refine runL_g rfl rfl (qt_pev tok rfl) rfl rfl rfl rfl rfl ?_ | refine runL_q (ql tok rfl) rfl rfl rfl ?_ | refine runL_g rfl rfl (ql tok rfl) rfl rfl rfl rfl rfl ?_ | (refine runL_op0 (sst tok rfl rfl rfl rfl rfl) ?_; rintro _ _ _ ⟨rfl, rfl, rfl⟩) | (refine runL_op (st_box rfl) rfl rfl rfl ?_; rintro _ _ _ ⟨_, rfl, rfl, rfl⟩) | (refine runL_op (st_alloc tok rfl) rfl rfl rfl ?_; rintro _ _ _ ⟨_, rfl, rfl, rfl⟩) | (refine runL_op (st_buildSlice tok rfl rfl rfl rfl rfl rfl rfl) rfl rfl rfl ?_; rintro _ _ _ ⟨_, rfl, rfl, rfl⟩))
  rename_i b2
  have hthrow : ∀ M1, M.le M1 → o = none → RunX Try.prog C 6 (.panicking panR) [⟨.fn (.func 51) ⟨[.pointer (some ⟨b2, 0, none⟩)]⟩, #[]⟩] [(2, .pointer (some ⟨b2, 0, none⟩))] M1 ((b2, .cells ⟨[.int .i64 0]⟩ 31 (0, 0)) :: L) := by
    intro M1 hM1 ho
    refine runX_defer (args := [.pointer (some ⟨b2, 0, none⟩)]) 7 (by simp) Try.func51 rfl rfl Try.call51 rfl rfl ?_
    intro a0 k0 q1 q2 q3
    refine run_seq ?_
    refine run_region ?_
    refine runL_recover rfl rfl rfl ?_
    repeat (first | with_reducible (first | refine run_seq ?_ | refine run_region ?_ | refine runL_nil ?_ | refine run_skip ?_ | refine run_block ?_ | refine run_inBlock ?_) | refine run_exit rfl ?_ | refine runL_q (qt_pev tok rfl) rfl rfl rfl ?_ | refine runL_g rfl rfl (qt_pev tok rfl) rfl rfl rfl rfl rfl ?_ | refine runL_q (ql tok rfl) rfl rfl rfl ?_ | refine runL_g rfl rfl (ql tok rfl) rfl rfl rfl rfl rfl ?_ | (refine runL_op0 (sst tok rfl rfl rfl rfl rfl) ?_; rintro _ _ _ ⟨rfl, rfl, rfl⟩) | (refine runL_op (st_box rfl) rfl rfl rfl ?_; rintro _ _ _ ⟨_, rfl, rfl, rfl⟩) | (refine runL_op (st_alloc tok rfl) rfl rfl rfl ?_; rintro _ _ _ ⟨_, rfl, rfl, rfl⟩) | (refine runL_op (st_buildSlice tok rfl rfl rfl rfl rfl rfl rfl) rfl rfl rfl ?_; rintro _ _ _ ⟨_, rfl, rfl, rfl⟩))
    refine runL_q (qt_neNil (v := .int .i64 7) uAny rfl) rfl rfl rfl ?_
    repeat (first | with_reducible (first | refine run_seq ?_ | refine run_region ?_ | refine runL_nil ?_ | refine run_skip ?_ | refine run_block ?_ | refine run_inBlock ?_) | refine run_exit rfl ?_ | refine runL_q (qt_pev tok rfl) rfl rfl rfl ?_ | refine runL_g rfl rfl (qt_pev tok rfl) rfl rfl rfl rfl rfl ?_ | refine runL_q (ql tok rfl) rfl rfl rfl ?_ | refine runL_g rfl rfl (ql tok rfl) rfl rfl rfl rfl rfl ?_ | (refine runL_op0 (sst tok rfl rfl rfl rfl rfl) ?_; rintro _ _ _ ⟨rfl, rfl, rfl⟩) | (refine runL_op (st_box rfl) rfl rfl rfl ?_; rintro _ _ _ ⟨_, rfl, rfl, rfl⟩) | (refine runL_op (st_alloc tok rfl) rfl rfl rfl ?_; rintro _ _ _ ⟨_, rfl, rfl, rfl⟩) | (refine runL_op (st_buildSlice tok rfl rfl rfl rfl rfl rfl rfl) rfl rfl rfl ?_; rintro _ _ _ ⟨_, rfl, rfl, rfl⟩))
    refine run_cond rfl (fun _ => ?_) (fun h => ?_)
    rotate_left
    · cases h
    repeat (first | with_reducible (first | refine run_seq ?_ | refine run_region ?_ | refine runL_nil ?_ | refine run_skip ?_ | refine run_block ?_ | refine run_inBlock ?_) | refine run_exit rfl ?_ | refine runL_q (qt_pev tok rfl) rfl rfl rfl ?_ | refine runL_g rfl rfl (qt_pev tok rfl) rfl rfl rfl rfl rfl ?_ | refine runL_q (ql tok rfl) rfl rfl rfl ?_ | refine runL_g rfl rfl (ql tok rfl) rfl rfl rfl rfl rfl ?_ | (refine runL_op0 (sst tok rfl rfl rfl rfl rfl) ?_; rintro _ _ _ ⟨rfl, rfl, rfl⟩) | (refine runL_op (st_box rfl) rfl rfl rfl ?_; rintro _ _ _ ⟨_, rfl, rfl, rfl⟩) | (refine runL_op (st_alloc tok rfl) rfl rfl rfl ?_; rintro _ _ _ ⟨_, rfl, rfl, rfl⟩) | (refine runL_op (st_buildSlice tok rfl rfl rfl rfl rfl rfl rfl) rfl rfl rfl ?_; rintro _ _ _ ⟨_, rfl, rfl, rfl⟩) | refine runL_q (qt_assertC tok rfl rfl rfl) rfl rfl rfl ?_)
    refine run_endX rfl ?_
    refine runX_dret Try.func51 rfl q1 q2 q3 ?_
    show RunX _ _ _ .returning _ _ _ _
    refine runX_ret hC (rs := [.cell 2 31]) rfl (rl tok rfl resN) (fun _ h => h.drop) ⟨_, rfl, hM1, ?_⟩
    rw [ho]
    exact ⟨rfl, rfl⟩
  refine runL_defer hro rfl rfl ?_
  repeat (first | with_reducible (first | refine run_seq ?_ | refine run_region ?_ | refine runL_nil ?_ | refine run_skip ?_ | refine run_block ?_ | refine run_inBlock ?_) | refine run_exit rfl ?_ | refine runL_q (qt_pev tok rfl) rfl rfl rfl ?_ | refine runL_g rfl rfl (qt_pev tok rfl) rfl rfl rfl rfl rfl ?_ | refine runL_q (ql tok rfl) rfl rfl rfl ?_ | refine runL_g rfl rfl (ql tok rfl) rfl rfl rfl rfl rfl ?_ | (refine runL_op0 (sst tok rfl rfl rfl rfl rfl) ?_; rintro _ _ _ ⟨rfl, rfl, rfl⟩) | (refine runL_op (st_box rfl) rfl rfl rfl ?_; rintro _ _ _ ⟨_, rfl, rfl, rfl⟩) | (refine runL_op (st_alloc tok rfl) rfl rfl rfl ?_; rintro _ _ _ ⟨_, rfl, rfl, rfl⟩) | (refine runL_op (st_buildSlice tok rfl rfl rfl rfl rfl rfl rfl) rfl rfl rfl ?_; rintro _ _ _ ⟨_, rfl, rfl, rfl⟩))
  refine runL_callVE (vs := []) rfl rfl (TrE.perm (List.Perm.swap _ _ _) (hw ((b2, .cells ⟨[.int .i64 0]⟩ 31 (0, 0)) :: L))) rfl rfl rfl ?_ ?_
  · rintro v M1 L1 ⟨hM1, hv⟩
    cases o with
    | none => cases hv.1
    | some x =>
      obtain ⟨hv, q1, hq1, rfl⟩ := hv
      rw [Ending.returned.injEq] at hv
      subst hv
      repeat (first | with_reducible (first | refine run_seq ?_ | refine run_region ?_ | refine runL_nil ?_ | refine run_skip ?_ | refine run_block ?_ | refine run_inBlock ?_) | refine run_exit rfl ?_ | refine runL_q (qt_pev tok rfl) rfl rfl rfl ?_ | refine runL_g rfl rfl (qt_pev tok rfl) rfl rfl rfl rfl rfl ?_ | refine runL_q (ql tok rfl) rfl rfl rfl ?_ | refine runL_g rfl rfl (ql tok rfl) rfl rfl rfl rfl rfl ?_ | (refine runL_op0 (sst tok rfl rfl rfl rfl rfl) ?_; rintro _ _ _ ⟨rfl, rfl, rfl⟩) | (refine runL_op (st_box rfl) rfl rfl rfl ?_; rintro _ _ _ ⟨_, rfl, rfl, rfl⟩) | (refine runL_op (st_alloc tok rfl) rfl rfl rfl ?_; rintro _ _ _ ⟨_, rfl, rfl, rfl⟩) | (refine runL_op (st_buildSlice tok rfl rfl rfl rfl rfl rfl rfl) rfl rfl rfl ?_; rintro _ _ _ ⟨_, rfl, rfl, rfl⟩))
      refine run_retX hro ?_
      refine runX_sub (σ' := [(2, .pointer (some ⟨b2, 0, none⟩))]) ?_ ⟨rfl, trivial⟩
      refine runX_defer (args := [.pointer (some ⟨b2, 0, none⟩)]) 7 (by simp) Try.func51 rfl rfl Try.call51 rfl rfl ?_
      intro a0 k0 q1 q2 q3
      refine run_seq ?_
      refine run_region ?_
      refine runL_recover0 rfl rfl rfl ?_
      repeat (first | with_reducible (first | refine run_seq ?_ | refine run_region ?_ | refine runL_nil ?_ | refine run_skip ?_ | refine run_block ?_ | refine run_inBlock ?_) | refine run_exit rfl ?_ | refine runL_q (qt_pev tok rfl) rfl rfl rfl ?_ | refine runL_g rfl rfl (qt_pev tok rfl) rfl rfl rfl rfl rfl ?_ | refine runL_q (ql tok rfl) rfl rfl rfl ?_ | refine runL_g rfl rfl (ql tok rfl) rfl rfl rfl rfl rfl ?_ | (refine runL_op0 (sst tok rfl rfl rfl rfl rfl) ?_; rintro _ _ _ ⟨rfl, rfl, rfl⟩) | (refine runL_op (st_box rfl) rfl rfl rfl ?_; rintro _ _ _ ⟨_, rfl, rfl, rfl⟩) | (refine runL_op (st_alloc tok rfl) rfl rfl rfl ?_; rintro _ _ _ ⟨_, rfl, rfl, rfl⟩) | (refine runL_op (st_buildSlice tok rfl rfl rfl rfl rfl rfl rfl) rfl rfl rfl ?_; rintro _ _ _ ⟨_, rfl, rfl, rfl⟩) | refine runL_q (qt_neNil0 uAny rfl) rfl rfl rfl ?_)
      refine run_cond rfl (fun h => ?_) (fun _ => ?_)
      · cases h
      repeat (first | with_reducible (first | refine run_seq ?_ | refine run_region ?_ | refine runL_nil ?_ | refine run_skip ?_ | refine run_block ?_ | refine run_inBlock ?_) | refine run_exit rfl ?_ | refine runL_q (qt_pev tok rfl) rfl rfl rfl ?_ | refine runL_g rfl rfl (qt_pev tok rfl) rfl rfl rfl rfl rfl ?_ | refine runL_q (ql tok rfl) rfl rfl rfl ?_ | refine runL_g rfl rfl (ql tok rfl) rfl rfl rfl rfl rfl ?_ | (refine runL_op0 (sst tok rfl rfl rfl rfl rfl) ?_; rintro _ _ _ ⟨rfl, rfl, rfl⟩) | (refine runL_op (st_box rfl) rfl rfl rfl ?_; rintro _ _ _ ⟨_, rfl, rfl, rfl⟩) | (refine runL_op (st_alloc tok rfl) rfl rfl rfl ?_; rintro _ _ _ ⟨_, rfl, rfl, rfl⟩) | (refine runL_op (st_buildSlice tok rfl rfl rfl rfl rfl rfl rfl) rfl rfl rfl ?_; rintro _ _ _ ⟨_, rfl, rfl, rfl⟩))
      refine run_endX rfl ?_
      refine runX_dret Try.func51 rfl q1 q2 q3 ?_
      show RunX _ _ _ .returning _ _ _ _
      refine runX_ret hC (rs := [.cell 2 31]) rfl (rl tok rfl resN) (fun _ h => (h.perm (List.Perm.swap _ _ _)).drop) ⟨_, rfl, hM1, rfl, _, hq1, rfl⟩
  · rintro ch M1 L1 ⟨hM1, hv⟩
    cases o with
    | some x => cases hv.1
    | none =>
      obtain ⟨hv, rfl⟩ := hv
      rw [Ending.panicked.injEq] at hv
      subst hv
      exact runX_sub (hthrow M1 hM1 rfl) ⟨rfl, trivial⟩
end Go.Proofs.Ytpjklbkfhgfmnaa
namespace Go.Proofs.Ytpjklbkfhgfmnaa
open Go.Chi

/-! ### record.Decode -/
theorem pTs_short : ∀ (n : Nat) {s x : ByteArray} {l : List ByteArray}, pTs n s = some (l, x) → ∀ t ∈ l, t.size ≤ 8192
  | 0, s, x, l, h => by
    rw [pTs] at h
    cases h
    exact fun t ht => by cases ht
  | n + 1, s, x, l, h => by
    rw [pTs] at h
    obtain ⟨⟨d, s2⟩, h2, h⟩ := Option.bind_eq_some_iff.1 h
    obtain ⟨⟨l', s3⟩, h3, h⟩ := Option.bind_eq_some_iff.1 h
    cases h
    intro t ht
    rcases List.mem_cons.1 ht with rfl | ht
    · exact (pT_back h2).1
    · exact pTs_short n h3 t ht
theorem pAM_short {s x : ByteArray} {z : Int × List Mb} (h : pAM s = some (z, x)) : ∀ m ∈ z.2, m.digest.size ≤ 8192 := by
  rw [pAM] at h
  obtain ⟨⟨a, s1⟩, h1, h⟩ := Option.bind_eq_some_iff.1 h
  obtain ⟨⟨l, s2⟩, h2, h⟩ := Option.bind_eq_some_iff.1 h
  cases h
  rw [pMs] at h2
  obtain ⟨⟨c, s3⟩, h3, h2⟩ := Option.bind_eq_some_iff.1 h2
  exact fun m hm => ((pMb_back _ h2).2.2 m hm).2.2
theorem pRec_short {k : Int} {s x : ByteArray} {r : Re} (h : pRec k s = some (r, x)) : Short r := by
  unfold pRec at h
  split at h
  · obtain ⟨⟨a, s1⟩, h1, h⟩ := Option.bind_eq_some_iff.1 h
    cases h
    exact ⟨(fun m hm => by cases hm), (fun m hm => by cases hm), Nat.zero_le _⟩
  split at h
  · obtain ⟨⟨t, s1⟩, h1, h⟩ := Option.bind_eq_some_iff.1 h
    obtain ⟨⟨y, s2⟩, h2, h⟩ := Option.bind_eq_some_iff.1 h
    obtain ⟨⟨z, s3⟩, h3, h⟩ := Option.bind_eq_some_iff.1 h
    obtain ⟨⟨u, s4⟩, h4, h⟩ := Option.bind_eq_some_iff.1 h
    cases h
    exact ⟨pAM_short h3, (fun m hm => by cases hm), (pT_back h4).1⟩
  split at h
  · obtain ⟨⟨t, s1⟩, h1, h⟩ := Option.bind_eq_some_iff.1 h
    obtain ⟨⟨y, s2⟩, h2, h⟩ := Option.bind_eq_some_iff.1 h
    simp only at h
    split at h
    · obtain ⟨⟨z, s3⟩, h3, h⟩ := Option.bind_eq_some_iff.1 h
      obtain ⟨⟨u, s4⟩, h4, h⟩ := Option.bind_eq_some_iff.1 h
      cases h
      exact ⟨pAM_short h3, pTs_short _ h4, Nat.zero_le _⟩
    · cases h
      exact ⟨(fun m hm => by cases hm), (fun m hm => by cases hm), Nat.zero_le _⟩
  split at h
  · obtain ⟨⟨t, s1⟩, h1, h⟩ := Option.bind_eq_some_iff.1 h
    obtain ⟨⟨y, s2⟩, h2, h⟩ := Option.bind_eq_some_iff.1 h
    cases h
    exact ⟨(fun m hm => by cases hm), (fun m hm => by cases hm), Nat.zero_le _⟩
  · cases h
    exact ⟨(fun m hm => by cases hm), (fun m hm => by cases hm), Nat.zero_le _⟩
def rc0 : Rc := ⟨0, 0, ⟨0, 0, 0⟩, false, 0, nilM, nilS, ⟨#[]⟩⟩
/-- what record.Decode answers -/
def decK (s : ByteArray) (M : Mem) (L : HL) (v : Value) (M' : Mem) (L' : HL) : Prop :=
  M.le M' ∧ L' = L ∧ ∃ (r : Rc) (e : Int), v = .tuple ⟨[.agg ⟨rcC r⟩, .int .i64 e]⟩ ∧ RcOk M' r ∧ Short r.re ∧ ((e = 0 ∧ Dec s r.re) ∨ (e = 7 ∧ r = rc0 ∧ ∀ x, ¬ Dec s x))
theorem rc0_ok (M : Mem) : RcOk M rc0 := ⟨MbOk.nil M, StOk.nil M, (fun m hm => by cases hm), (fun m hm => by cases hm), by decide⟩
theorem rc0_short : Short rc0.re := ⟨(fun m hm => by cases hm), (fun m hm => by cases hm), by decide⟩
theorem decK_none {s : ByteArray} {M M' : Mem} {L : HL} (hm : M.le M') (h : ∀ x, ¬ Dec s x) : decK s M L (.tuple ⟨[.agg ⟨rcC rc0⟩, .int .i64 7]⟩) M' L := ⟨hm, rfl, rc0, 7, rfl, rc0_ok M', rc0_short, .inr ⟨rfl, rfl, h⟩⟩
theorem Rr.rc {M : Mem} {q : Rd} {r : Re} (h : Rr M q r) (hs : Short r) : ∃ rc : Rc, rc.re = r ∧ RcOk M rc ∧ ∀ s, rdC q s = rcC rc ++ [.string s] := by
  obtain ⟨sm, h1, h2, h3⟩ := h.mem
  obtain ⟨st, h4, h5, h6⟩ := h.tags
  obtain ⟨s1, s2, s3⟩ := hs
  obtain ⟨k, e, t, y, a, m, g, b⟩ := r
  obtain ⟨k1, k2, k3, k4, k5, k6, _, _, _, _⟩ := h
  simp only at k1 k2 k3 k4 k5 k6 h3 h6 s1 s2 s3
  refine ⟨⟨k, e, t, y, a, sm, st, b⟩, by simp only [Rc.re, h3, h6], ⟨h2, h5, fun m hm => ?_, fun t ht => ?_, by show b.size < _; omega⟩, fun s => ?_⟩
  · have := s1 m (by rw [← h3]; exact hm); omega
  · have := s2 t (by rw [← h6]; exact ht); omega
  · rw [rdC, h1, h4, k1, k2, k3, k4, k5, k6]; rfl
set_option maxRecDepth 10000 in
set_option maxHeartbeats 16000000 in
theorem decode_ok (M : Mem) (L : HL) (s : ByteArray) (hs : s.size < 4611686018427387904) : Tr Try.prog 16 [.string s] M L (decK s M L) := by
  refine Tr.intro 45 Try.func16 rfl rfl Try.call16 rfl ?_
  intro C hC hro
  repeat (first | with_reducible (first | refine run_seq ?_ | refine run_region ?_ | refine runL_nil ?_ | refine run_skip ?_ | refine run_block ?_ | refine run_inBlock ?_) | refine run_exit rfl ?_ | refine runL_q (qt_pev tok rfl) rfl rfl rfl ?_ | refine runL_g rfl rfl (qt_pev tok rfl) rfl rfl rfl rfl rfl ?_ | refine runL_q (ql tok rfl) rfl rfl rfl ?_ | refine runL_g rfl rfl (ql tok rfl) rfl rfl rfl rfl rfl ?_ | (refine runL_op0 (sst tok rfl rfl rfl rfl rfl) ?_; rintro _ _ _ ⟨rfl, rfl, rfl⟩) | (refine runL_op (st_box rfl) rfl rfl rfl ?_; rintro _ _ _ ⟨_, rfl, rfl, rfl⟩) | (refine runL_op (st_alloc tok rfl) rfl rfl rfl ?_; rintro _ _ _ ⟨_, rfl, rfl, rfl⟩) | (refine runL_op (st_buildSlice tok rfl rfl rfl rfl rfl rfl rfl) rfl rfl rfl ?_; rintro _ _ _ ⟨_, rfl, rfl, rfl⟩))
  refine run_cond rfl (fun h => ?_) (fun h => ?_)
  · have h0 : s.size = 0 ∨ 8192 < s.size := by
      rw [empty_beq] at h
      simp only [Bool.or_eq_true, decide_eq_true_eq] at h
      omega
    have hnd : ∀ x, ¬ Dec s x := fun x hx => by
      obtain ⟨h1, h2, _⟩ := dec_iff.1 hx
      omega
    repeat (first | with_reducible (first | refine run_seq ?_ | refine run_region ?_ | refine runL_nil ?_ | refine run_skip ?_ | refine run_block ?_ | refine run_inBlock ?_) | refine run_exit rfl ?_ | refine runL_q (qt_pev tok rfl) rfl rfl rfl ?_ | refine runL_g rfl rfl (qt_pev tok rfl) rfl rfl rfl rfl rfl ?_ | refine runL_q (ql tok rfl) rfl rfl rfl ?_ | refine runL_g rfl rfl (ql tok rfl) rfl rfl rfl rfl rfl ?_ | (refine runL_op0 (sst tok rfl rfl rfl rfl rfl) ?_; rintro _ _ _ ⟨rfl, rfl, rfl⟩) | (refine runL_op (st_box rfl) rfl rfl rfl ?_; rintro _ _ _ ⟨_, rfl, rfl, rfl⟩) | (refine runL_op (st_alloc tok rfl) rfl rfl rfl ?_; rintro _ _ _ ⟨_, rfl, rfl, rfl⟩) | (refine runL_op (st_buildSlice tok rfl rfl rfl rfl rfl rfl rfl) rfl rfl rfl ?_; rintro _ _ _ ⟨_, rfl, rfl, rfl⟩))
    exact run_ret hC (rs := [.cell 2 27, .tmp 3]) rfl (rl tok rfl (resT rfl resN)) (fun _ h => h.drop.drop) (decK_none (Mem.le_refl _) hnd)
  have h0 : s.size ≠ 0 ∧ s.size ≤ 8192 := by
    rw [empty_beq] at h
    simp only [Bool.or_eq_false_iff, decide_eq_false_iff_not] at h
    omega
  have hp : 0 < s.size := by omega
  obtain ⟨b0, hb0, hb0'⟩ := byte_at hp
  refine run_frz 1 rfl ?_
  intro M0 hM0 hb0s
  have hbs := Cells.ofBlk hb0s
  rename_i bs br
  have hbb : (b0.toNat : Int) = byte s 0 := hb0'.symm
  refine run_skip ?_
  refine run_seq ?_
  refine run_cut (fun σ' M' L' => ∃ bx bp, M0.le M' ∧ Cells M' [] bp 0 [.pointer (some ⟨bx, 0, none⟩)] ∧ σ' = [(4, .pointer (some ⟨bp, 0, none⟩)), (2, .pointer (some ⟨br, 0, none⟩)), (1, .pointer (some ⟨bs, 0, none⟩))] ∧ L' = rdB bx ⟨byte s 0, 0, ⟨0, 0, 0⟩, false, 0, .slice none 0 0, .slice none 0 0, ⟨#[]⟩⟩ (rest1 s) :: (br, .cells ⟨rcC rc0⟩ 27 (0, 0)) :: L) ?_ ?_
  rotate_left
  · intro hnext
    refine run_draw mixed ?_
    refine pr_q 0 (by decide +kernel) rfl (qt_ldM (k := 0) tok rfl hbs rfl) rfl rfl rfl ?_
    refine pr_q 1 (by decide +kernel) rfl (Qt.as (v' := .int .u8 (byte s 0)) (qt_strIndex (n := 0) tok rfl rfl rfl (fun _ => hb0)) (by rw [hb0'])) rfl rfl rfl ?_
    refine pr_q 2 (by decide +kernel) rfl (qt_pev tok rfl) rfl rfl rfl ?_
    refine pr_q 3 (by decide +kernel) rfl (qt_ldM (k := 0) tok rfl hbs rfl) rfl rfl rfl ?_
    refine pr_q 4 (by decide +kernel) rfl (qt_strLo (n := 1) tok rfl rfl rfl (fun _ => hp)) rfl rfl rfl ?_
    refine pr_q 5 (by decide +kernel) rfl (qt_pev tok rfl) rfl rfl rfl ?_
    refine pr_two 6 7 (by decide +kernel) ?_ ?_
    · refine eff1 6 rfl (st_box rfl) (by decide +kernel) (qs := _) rfl rfl rfl rfl ?_
      rintro _ _ _ ⟨bx, rfl, rfl, rfl⟩
      refine ⟨by (repeat (first | exact trivial | refine And.intro (pend_q rfl rfl rfl (qt_pev tok rfl)) ?_ | refine And.intro (pend_q rfl rfl rfl (ql tok rfl)) ?_ | refine And.intro (pend_q rfl rfl rfl (qt_ldM (k := 0) tok rfl hbs rfl)) ?_ | refine And.intro (pend_q rfl rfl rfl (Qt.as (qt_strIndex (n := 0) tok rfl rfl rfl (fun _ => hb0)) (by rw [hb0']))) ?_ | refine And.intro (pend_q rfl rfl rfl (qt_strLo (n := 1) tok rfl rfl rfl (fun _ => hp))) ?_)), ?_⟩
      refine pr_one 7 (by decide +kernel) (eff1 7 rfl (st_alloc tok rfl) (by decide +kernel) (qs := _) rfl rfl rfl rfl ?_)
      rintro _ _ _ ⟨bp, rfl, rfl, rfl⟩
      refine ⟨by (repeat (first | exact trivial | refine And.intro (pend_q rfl rfl rfl (qt_pev tok rfl)) ?_ | refine And.intro (pend_q rfl rfl rfl (ql tok rfl)) ?_ | refine And.intro (pend_q rfl rfl rfl (qt_ldM (k := 0) tok rfl hbs rfl)) ?_ | refine And.intro (pend_q rfl rfl rfl (Qt.as (qt_strIndex (n := 0) tok rfl rfl rfl (fun _ => hb0)) (by rw [hb0']))) ?_ | refine And.intro (pend_q rfl rfl rfl (qt_strLo (n := 1) tok rfl rfl rfl (fun _ => hp))) ?_)), ?_⟩
      refine pr_one 8 (by decide +kernel) (eff0 8 rfl (sst tok rfl rfl rfl rfl rfl) (by decide +kernel) (qs := _) rfl ?_)
      rintro _ _ _ ⟨rfl, rfl, rfl⟩
      refine ⟨by (repeat (first | exact trivial | refine And.intro (pend_q rfl rfl rfl (qt_pev tok rfl)) ?_ | refine And.intro (pend_q rfl rfl rfl (ql tok rfl)) ?_ | refine And.intro (pend_q rfl rfl rfl (qt_ldM (k := 0) tok rfl hbs rfl)) ?_ | refine And.intro (pend_q rfl rfl rfl (Qt.as (qt_strIndex (n := 0) tok rfl rfl rfl (fun _ => hb0)) (by rw [hb0']))) ?_ | refine And.intro (pend_q rfl rfl rfl (qt_strLo (n := 1) tok rfl rfl rfl (fun _ => hp))) ?_)), ?_⟩
      refine pr_end (by decide +kernel) (by decide +kernel) ?_
      refine run_frz 0 rfl ?_
      intro M1 hM1 hb1
      exact run_sub' (hnext _ _ _ ⟨bx, bp, hM1, Cells.ofBlk hb1, rfl, rfl⟩) ⟨rfl, rfl, rfl, trivial⟩
    · refine eff1 7 rfl (st_alloc tok rfl) (by decide +kernel) (qs := _) rfl rfl rfl rfl ?_
      rintro _ _ _ ⟨bp, rfl, rfl, rfl⟩
      refine ⟨by (repeat (first | exact trivial | refine And.intro (pend_q rfl rfl rfl (qt_pev tok rfl)) ?_ | refine And.intro (pend_q rfl rfl rfl (ql tok rfl)) ?_ | refine And.intro (pend_q rfl rfl rfl (qt_ldM (k := 0) tok rfl hbs rfl)) ?_ | refine And.intro (pend_q rfl rfl rfl (Qt.as (qt_strIndex (n := 0) tok rfl rfl rfl (fun _ => hb0)) (by rw [hb0']))) ?_ | refine And.intro (pend_q rfl rfl rfl (qt_strLo (n := 1) tok rfl rfl rfl (fun _ => hp))) ?_)), ?_⟩
      refine pr_one 6 (by decide +kernel) (eff1 6 rfl (st_box rfl) (by decide +kernel) (qs := _) rfl rfl rfl rfl ?_)
      rintro _ _ _ ⟨bx, rfl, rfl, rfl⟩
      refine ⟨by (repeat (first | exact trivial | refine And.intro (pend_q rfl rfl rfl (qt_pev tok rfl)) ?_ | refine And.intro (pend_q rfl rfl rfl (ql tok rfl)) ?_ | refine And.intro (pend_q rfl rfl rfl (qt_ldM (k := 0) tok rfl hbs rfl)) ?_ | refine And.intro (pend_q rfl rfl rfl (Qt.as (qt_strIndex (n := 0) tok rfl rfl rfl (fun _ => hb0)) (by rw [hb0']))) ?_ | refine And.intro (pend_q rfl rfl rfl (qt_strLo (n := 1) tok rfl rfl rfl (fun _ => hp))) ?_)), ?_⟩
      refine pr_one 8 (by decide +kernel) (eff0 8 rfl (sst tok rfl rfl rfl rfl rfl) (by decide +kernel) (qs := _) rfl ?_)
      rintro _ _ _ ⟨rfl, rfl, rfl⟩
      refine ⟨by (repeat (first | exact trivial | refine And.intro (pend_q rfl rfl rfl (qt_pev tok rfl)) ?_ | refine And.intro (pend_q rfl rfl rfl (ql tok rfl)) ?_ | refine And.intro (pend_q rfl rfl rfl (qt_ldM (k := 0) tok rfl hbs rfl)) ?_ | refine And.intro (pend_q rfl rfl rfl (Qt.as (qt_strIndex (n := 0) tok rfl rfl rfl (fun _ => hb0)) (by rw [hb0']))) ?_ | refine And.intro (pend_q rfl rfl rfl (qt_strLo (n := 1) tok rfl rfl rfl (fun _ => hp))) ?_)), ?_⟩
      refine pr_end (by decide +kernel) (by decide +kernel) ?_
      refine run_frz 1 rfl ?_
      intro M1 hM1 hb1
      exact run_sub' (hnext _ _ _ ⟨bx, bp, hM1, Cells.ofBlk hb1, rfl, rfl⟩) ⟨rfl, rfl, rfl, trivial⟩
  rintro _ M1 _ ⟨bx, bp, hM1, hbp, rfl, rfl⟩
  have hq0 : Rr M1 ⟨byte s 0, 0, ⟨0, 0, 0⟩, false, 0, .slice none 0 0, .slice none 0 0, ⟨#[]⟩⟩ (re0 (byte s 0)) := ⟨rfl, rfl, rfl, rfl, rfl, rfl, ⟨nilM, rfl, MbOk.nil _, rfl⟩, ⟨nilS, rfl, StOk.nil _, rfl⟩, fun _ => rfl, fun _ => rfl⟩
  have hr1 : (rest1 s).size < 4611686018427387904 := by rw [rest1_size]; omega
  repeat (first | with_reducible (first | refine run_seq ?_ | refine run_region ?_ | refine runL_nil ?_ | refine run_skip ?_ | refine run_block ?_ | refine run_inBlock ?_) | refine run_exit rfl ?_ | refine runL_q (qt_pev tok rfl) rfl rfl rfl ?_ | refine runL_g rfl rfl (qt_pev tok rfl) rfl rfl rfl rfl rfl ?_ | refine runL_q (ql tok rfl) rfl rfl rfl ?_ | refine runL_g rfl rfl (ql tok rfl) rfl rfl rfl rfl rfl ?_ | (refine runL_op0 (sst tok rfl rfl rfl rfl rfl) ?_; rintro _ _ _ ⟨rfl, rfl, rfl⟩) | (refine runL_op (st_box rfl) rfl rfl rfl ?_; rintro _ _ _ ⟨_, rfl, rfl, rfl⟩) | (refine runL_op (st_alloc tok rfl) rfl rfl rfl ?_; rintro _ _ _ ⟨_, rfl, rfl, rfl⟩) | (refine runL_op (st_buildSlice tok rfl rfl rfl rfl rfl rfl rfl) rfl rfl rfl ?_; rintro _ _ _ ⟨_, rfl, rfl, rfl⟩))
  refine runL_op (st_callF rfl (fun _ => rcaught_ok M1 _ bx _ _ 41 [.pointer (some ⟨bs, 0, none⟩), .pointer (some ⟨bp, 0, none⟩)] (pRec (byte s 0) (rest1 s)) (fun L => decode1_ok M1 L bx bs bp _ s (rest1 s) hp hr1 (hbs.le hM1) hbp hq0))) rfl rfl rfl ?_
  rintro v M2 L2 ⟨hM2, hv⟩
  have hle : M.le M2 := Mem.le_trans hM0 (Mem.le_trans hM1 hM2)
  have hbp2 := hbp.le hM2
  cases ho : pRec (byte s 0) (rest1 s) with
  | none =>
    rw [ho] at hv
    obtain ⟨rfl, rfl⟩ := hv
    have hnd : ∀ x, ¬ Dec s x := fun x hx => by
      obtain ⟨_, _, _, y, h1, _⟩ := dec_iff.1 hx
      rw [ho] at h1; cases h1
    repeat (first | with_reducible (first | refine run_seq ?_ | refine run_region ?_ | refine runL_nil ?_ | refine run_skip ?_ | refine run_block ?_ | refine run_inBlock ?_) | refine run_exit rfl ?_ | refine runL_q (qt_pev tok rfl) rfl rfl rfl ?_ | refine runL_gK rfl rfl (qt_pev tok rfl) rfl rfl rfl ?_ | refine runL_gF rfl rfl rfl rfl rfl ?_ | refine runL_g rfl rfl (qt_pev tok rfl) rfl rfl rfl rfl rfl ?_ | refine runL_q (ql tok rfl) rfl rfl rfl ?_ | refine runL_gK rfl rfl (ql tok rfl) rfl rfl rfl ?_ | refine runL_gF rfl rfl rfl rfl rfl ?_ | refine runL_g rfl rfl (ql tok rfl) rfl rfl rfl rfl rfl ?_ | (refine runL_op0 (sst tok rfl rfl rfl rfl rfl) ?_; rintro _ _ _ ⟨rfl, rfl, rfl⟩) | (refine runL_op (st_box rfl) rfl rfl rfl ?_; rintro _ _ _ ⟨_, rfl, rfl, rfl⟩) | (refine runL_op (st_alloc tok rfl) rfl rfl rfl ?_; rintro _ _ _ ⟨_, rfl, rfl, rfl⟩) | (refine runL_op (st_buildSlice tok rfl rfl rfl rfl rfl rfl rfl) rfl rfl rfl ?_; rintro _ _ _ ⟨_, rfl, rfl, rfl⟩))
    refine run_cond rfl (fun _ => ?_) (fun h => by cases h)
    repeat (first | with_reducible (first | refine run_seq ?_ | refine run_region ?_ | refine runL_nil ?_ | refine run_skip ?_ | refine run_block ?_ | refine run_inBlock ?_) | refine run_exit rfl ?_ | refine runL_q (qt_pev tok rfl) rfl rfl rfl ?_ | refine runL_g rfl rfl (qt_pev tok rfl) rfl rfl rfl rfl rfl ?_ | refine runL_q (ql tok rfl) rfl rfl rfl ?_ | refine runL_g rfl rfl (ql tok rfl) rfl rfl rfl rfl rfl ?_ | (refine runL_op0 (sst tok rfl rfl rfl rfl rfl) ?_; rintro _ _ _ ⟨rfl, rfl, rfl⟩) | (refine runL_op (st_box rfl) rfl rfl rfl ?_; rintro _ _ _ ⟨_, rfl, rfl, rfl⟩) | (refine runL_op (st_alloc tok rfl) rfl rfl rfl ?_; rintro _ _ _ ⟨_, rfl, rfl, rfl⟩) | (refine runL_op (st_buildSlice tok rfl rfl rfl rfl rfl rfl rfl) rfl rfl rfl ?_; rintro _ _ _ ⟨_, rfl, rfl, rfl⟩))
    exact run_ret hC (rs := [.cell 2 27, .tmp 3]) rfl (rl tok rfl (resT rfl resN)) (fun _ h => h.drop) (decK_none hle hnd)
  | some y =>
    obtain ⟨r, x⟩ := y
    rw [ho] at hv
    obtain ⟨rfl, q2, hq2, rfl⟩ := hv
    have hsh := pRec_short ho
    obtain ⟨rc, rfl, hrc, hcells⟩ := hq2.rc hsh
    have hbx : rdB bx q2 x = (bx, .cells ⟨rcC rc ++ [.string x]⟩ 61 (0, 0)) := by rw [rdB, hcells]
    rw [hbx]
    have hdec : Dec s rc.re ↔ x.size = 0 ∧ recE rc = 0 := by
      rw [dec_iff, recE_re hrc]
      constructor
      · rintro ⟨_, _, h1, z, h2, h3⟩
        rw [ho] at h2
        cases h2
        exact ⟨h3, h1⟩
      · rintro ⟨h1, h2⟩
        exact ⟨h0.1, h0.2, h2, x, ho, h1⟩
    have huniq : ∀ z, Dec s z → Dec s rc.re := fun z hz => by
      obtain ⟨_, _, _, y, h1, _⟩ := dec_iff.1 hz
      rw [ho] at h1
      cases h1
      exact hz
    have e0 : ((0 : Int) != 0) = false := rfl
    repeat (first | with_reducible (first | refine run_seq ?_ | refine run_region ?_ | refine runL_nil ?_ | refine run_skip ?_ | refine run_block ?_ | refine run_inBlock ?_) | refine run_exit rfl ?_ | refine runL_q (qt_pev tok rfl) rfl rfl rfl ?_ | refine runL_gK rfl rfl (qt_pev tok rfl) rfl rfl rfl ?_ | refine runL_gF rfl rfl rfl rfl rfl ?_ | refine runL_g rfl rfl (qt_pev tok rfl) rfl rfl rfl rfl rfl ?_ | refine runL_q (ql tok rfl) rfl rfl rfl ?_ | refine runL_gK rfl rfl (ql tok rfl) rfl rfl rfl ?_ | refine runL_gF rfl rfl rfl rfl rfl ?_ | refine runL_g rfl rfl (ql tok rfl) rfl rfl rfl rfl rfl ?_ | (refine runL_op0 (sst tok rfl rfl rfl rfl rfl) ?_; rintro _ _ _ ⟨rfl, rfl, rfl⟩) | (refine runL_op (st_box rfl) rfl rfl rfl ?_; rintro _ _ _ ⟨_, rfl, rfl, rfl⟩) | (refine runL_op (st_alloc tok rfl) rfl rfl rfl ?_; rintro _ _ _ ⟨_, rfl, rfl, rfl⟩) | (refine runL_op (st_buildSlice tok rfl rfl rfl rfl rfl rfl rfl) rfl rfl rfl ?_; rintro _ _ _ ⟨_, rfl, rfl, rfl⟩) | refine runL_gK rfl rfl (qt_ldM (k := 0) tok rfl hbp2 rfl) rfl rfl rfl ?_ | refine runL_q (qt_ldM (k := 0) tok rfl hbp2 rfl) rfl rfl rfl ?_ | refine runL_g rfl rfl (qt_ldM (k := 0) tok rfl hbp2 rfl) rfl rfl rfl rfl rfl ?_ | refine runL_g rfl rfl (qt_callF rfl (fun _ => recCheck_ok _ _ rc hrc)) rfl rfl rfl rfl rfl ?_)
    have hcond : ∀ t : Bool, (!(x.toList == (⟨#[]⟩ : ByteArray).toList) || (recE rc != 0)) = t → (t = false ↔ Dec s rc.re) := by
      rintro _ rfl
      rw [hdec, empty_beq]
      simp
    refine run_cond rfl (fun h => ?_) (fun h => ?_)
    · have hnd := hcond true h
      repeat (first | with_reducible (first | refine run_seq ?_ | refine run_region ?_ | refine runL_nil ?_ | refine run_skip ?_ | refine run_block ?_ | refine run_inBlock ?_) | refine run_exit rfl ?_ | refine runL_q (qt_pev tok rfl) rfl rfl rfl ?_ | refine runL_g rfl rfl (qt_pev tok rfl) rfl rfl rfl rfl rfl ?_ | refine runL_q (ql tok rfl) rfl rfl rfl ?_ | refine runL_g rfl rfl (ql tok rfl) rfl rfl rfl rfl rfl ?_ | (refine runL_op0 (sst tok rfl rfl rfl rfl rfl) ?_; rintro _ _ _ ⟨rfl, rfl, rfl⟩) | (refine runL_op (st_box rfl) rfl rfl rfl ?_; rintro _ _ _ ⟨_, rfl, rfl, rfl⟩) | (refine runL_op (st_alloc tok rfl) rfl rfl rfl ?_; rintro _ _ _ ⟨_, rfl, rfl, rfl⟩) | (refine runL_op (st_buildSlice tok rfl rfl rfl rfl rfl rfl rfl) rfl rfl rfl ?_; rintro _ _ _ ⟨_, rfl, rfl, rfl⟩))
      exact run_ret hC (rs := [.cell 2 27, .tmp 3]) rfl (rl tok rfl (resT rfl resN)) (fun _ h => h.drop.drop) (decK_none hle (fun z hz => by have := hnd.2 (huniq z hz); cases this))
    · have hd := (hcond false h).1 rfl
      refine run_skip ?_
      repeat (first | with_reducible (first | refine run_seq ?_ | refine run_region ?_ | refine runL_nil ?_ | refine run_skip ?_ | refine run_block ?_ | refine run_inBlock ?_) | refine run_exit rfl ?_ | refine runL_q (qt_pev tok rfl) rfl rfl rfl ?_ | refine runL_g rfl rfl (qt_pev tok rfl) rfl rfl rfl rfl rfl ?_ | refine runL_q (ql tok rfl) rfl rfl rfl ?_ | refine runL_g rfl rfl (ql tok rfl) rfl rfl rfl rfl rfl ?_ | (refine runL_op0 (sst tok rfl rfl rfl rfl rfl) ?_; rintro _ _ _ ⟨rfl, rfl, rfl⟩) | (refine runL_op (st_box rfl) rfl rfl rfl ?_; rintro _ _ _ ⟨_, rfl, rfl, rfl⟩) | (refine runL_op (st_alloc tok rfl) rfl rfl rfl ?_; rintro _ _ _ ⟨_, rfl, rfl, rfl⟩) | (refine runL_op (st_buildSlice tok rfl rfl rfl rfl rfl rfl rfl) rfl rfl rfl ?_; rintro _ _ _ ⟨_, rfl, rfl, rfl⟩) | refine runL_q (qt_ldM (k := 0) tok rfl hbp2 rfl) rfl rfl rfl ?_)
      exact run_ret hC (rs := [.cell 2 27, .tmp 3]) rfl (rl tok rfl (resT rfl resN)) (fun _ h => h.drop.drop) ⟨hle, rfl, rc, 0, rfl, hrc, hsh, .inl ⟨rfl, hd⟩⟩
end Go.Proofs.Ytpjklbkfhgfmnaa
namespace Go.Proofs.Ytpjklbkfhgfmnaa
open Go.Chi

/-! ### the document's Decode -/
def drC (q : Rd) : List Value := [.int .u8 q.kind, .int .i64 q.epoch, .int .i64 q.txn.coord, .int .i64 q.txn.epoch, .int .i64 q.txn.seq, .bool q.yes, .int .i64 q.auditor, q.mv, q.tv, .string q.body]
abbrev drB (b : Nat) (q : Rd) : Nat × Obj := (b, .cells ⟨drC q⟩ 27 (0, 0))
abbrev rvB (b : Nat) : Nat × Obj := (b, .cells ⟨rcC rc0⟩ 27 (0, 0))
theorem c1_size (k : Int) (c : Cut) : (c1 k c).2.1.size ≤ c.1.size := by
  unfold c1
  split
  · exact cN_size _ _
  · exact Nat.le_trans (cN_size _ _) (Nat.le_trans (cN_size _ _) (Nat.le_trans (cN_size _ _) (cN_size _ _)))
theorem cMb_size : ∀ (n : Nat) (c : Cut), (cMb n c).2.1.size ≤ c.1.size
  | 0, _ => Nat.le_refl _
  | n + 1, _ => Nat.le_trans (cMb_size n _) (Nat.le_trans (cT_size _) (cN_size _ _))
theorem c2_size (k : Int) (y : Bool) (c : Cut) : (c2 k y c).2.1.size ≤ c.1.size := by
  unfold c2
  split
  · exact Nat.le_trans (cMb_size _ _) (Nat.le_trans (cN_size _ _) (cN_size _ _))
  · exact Nat.le_refl _
theorem c3_size (k : Int) (c : Cut) : (c3 k c).2.1.size ≤ c.1.size := by
  unfold c3
  split
  · exact cT_size _
  · exact Nat.le_refl _
theorem cMb_short : ∀ (n : Nat) (c : Cut), ∀ m ∈ (cMb n c).1, m.digest.size ≤ 8192
  | 0, c, m, hm => by cases hm
  | n + 1, c, m, hm => by
    rw [cMb] at hm
    rcases List.mem_cons.1 hm with rfl | hm
    · exact cT_short _
    · exact cMb_short n _ m hm
theorem cTs_short : ∀ (n : Nat) (c : Cut), ∀ m ∈ (cTs n c).1, m.size ≤ 8192
  | 0, c, m, hm => by cases hm
  | n + 1, c, m, hm => by
    rw [cTs] at hm
    rcases List.mem_cons.1 hm with rfl | hm
    · exact cT_short _
    · exact cTs_short n _ m hm
theorem cRec_short (k : Int) (c : Cut) : Short (cRec k c).1 := by
  refine ⟨?_, ?_, ?_⟩
  · show ∀ m ∈ (c2 k _ _).1.2, _
    unfold c2
    split
    · exact cMb_short _ _
    · exact fun m hm => by cases hm
  · show ∀ m ∈ (c4 k _ _).1, _
    unfold c4
    split
    · exact cTs_short _ _
    · exact fun m hm => by cases hm
  · show (c3 k _).1.size ≤ 8192
    unfold c3
    split
    · exact cT_short _
    · exact Nat.zero_le _
set_option maxRecDepth 10000 in
set_option maxHeartbeats 32000000 in
theorem ddecode_ok (M : Mem) (L : HL) (s : ByteArray) (hs : s.size < 4611686018427387904) : Tr Try.prog 17 [.string s] M L (decK s M L) := by
  refine Tr.intro 129 Try.func17 rfl rfl Try.call17 rfl ?_
  intro C hC hro
  repeat (first | with_reducible (first | refine run_seq ?_ | refine run_region ?_ | refine runL_nil ?_ | refine run_skip ?_ | refine run_block ?_ | refine run_inBlock ?_) | refine run_exit rfl ?_ | refine runL_q (qt_pev tok rfl) rfl rfl rfl ?_ | refine runL_g rfl rfl (qt_pev tok rfl) rfl rfl rfl rfl rfl ?_ | refine runL_q (ql tok rfl) rfl rfl rfl ?_ | refine runL_g rfl rfl (ql tok rfl) rfl rfl rfl rfl rfl ?_ | (refine runL_op0 (sst tok rfl rfl rfl rfl rfl) ?_; rintro _ _ _ ⟨rfl, rfl, rfl⟩) | (refine runL_op (st_box rfl) rfl rfl rfl ?_; rintro _ _ _ ⟨_, rfl, rfl, rfl⟩) | (refine runL_op (st_alloc tok rfl) rfl rfl rfl ?_; rintro _ _ _ ⟨_, rfl, rfl, rfl⟩) | (refine runL_op (st_buildSlice tok rfl rfl rfl rfl rfl rfl rfl) rfl rfl rfl ?_; rintro _ _ _ ⟨_, rfl, rfl, rfl⟩))
  rename_i b2
  refine run_cond rfl (fun h => ?_) (fun h => ?_)
  · have h0 : s.size = 0 ∨ 8192 < s.size := by
      rw [empty_beq] at h
      simp only [Bool.or_eq_true, decide_eq_true_eq] at h
      omega
    have hnd : ∀ x, ¬ Dec s x := fun x hx => by
      obtain ⟨h1, h2, _⟩ := dec_iff.1 hx
      omega
    repeat (first | with_reducible (first | refine run_seq ?_ | refine run_region ?_ | refine runL_nil ?_ | refine run_skip ?_ | refine run_block ?_ | refine run_inBlock ?_) | refine run_exit rfl ?_ | refine runL_q (qt_pev tok rfl) rfl rfl rfl ?_ | refine runL_g rfl rfl (qt_pev tok rfl) rfl rfl rfl rfl rfl ?_ | refine runL_q (ql tok rfl) rfl rfl rfl ?_ | refine runL_g rfl rfl (ql tok rfl) rfl rfl rfl rfl rfl ?_ | (refine runL_op0 (sst tok rfl rfl rfl rfl rfl) ?_; rintro _ _ _ ⟨rfl, rfl, rfl⟩) | (refine runL_op (st_box rfl) rfl rfl rfl ?_; rintro _ _ _ ⟨_, rfl, rfl, rfl⟩) | (refine runL_op (st_alloc tok rfl) rfl rfl rfl ?_; rintro _ _ _ ⟨_, rfl, rfl, rfl⟩) | (refine runL_op (st_buildSlice tok rfl rfl rfl rfl rfl rfl rfl) rfl rfl rfl ?_; rintro _ _ _ ⟨_, rfl, rfl, rfl⟩))
    exact run_ret hC (rs := [.cell 2 27, .tmp 3]) rfl (rl tok rfl (resT rfl resN)) (fun _ h => h.drop) (decK_none (Mem.le_refl _) hnd)
  have h0 : s.size ≠ 0 ∧ s.size ≤ 8192 := by
    rw [empty_beq] at h
    simp only [Bool.or_eq_false_iff, decide_eq_false_iff_not] at h
    omega
  have hp : 0 < s.size := by omega
  obtain ⟨b0, hb0, hb0'⟩ := byte_at hp
  have hr1 : (rest1 s).size < 4611686018427387904 := by rw [rest1_size]; omega
  refine run_skip ?_
  repeat (first | with_reducible (first | refine run_seq ?_ | refine run_region ?_ | refine runL_nil ?_ | refine run_skip ?_ | refine run_block ?_ | refine run_inBlock ?_) | refine run_exit rfl ?_ | refine runL_q (qt_pev tok rfl) rfl rfl rfl ?_ | refine runL_g rfl rfl (qt_pev tok rfl) rfl rfl rfl rfl rfl ?_ | refine runL_q (ql tok rfl) rfl rfl rfl ?_ | refine runL_g rfl rfl (ql tok rfl) rfl rfl rfl rfl rfl ?_ | (refine runL_op0 (sst tok rfl rfl rfl rfl rfl) ?_; rintro _ _ _ ⟨rfl, rfl, rfl⟩) | (refine runL_op (st_box rfl) rfl rfl rfl ?_; rintro _ _ _ ⟨_, rfl, rfl, rfl⟩) | (refine runL_op (st_alloc tok rfl) rfl rfl rfl ?_; rintro _ _ _ ⟨_, rfl, rfl, rfl⟩) | (refine runL_op (st_buildSlice tok rfl rfl rfl rfl rfl rfl rfl) rfl rfl rfl ?_; rintro _ _ _ ⟨_, rfl, rfl, rfl⟩) | refine runL_q (Qt.as (v' := .int .u8 (byte s 0)) (qt_strIndex (n := 0) tok rfl rfl rfl (fun _ => hb0)) (by rw [hb0'])) rfl rfl rfl ?_ | refine runL_q (qt_strLo (n := 1) tok rfl rfl rfl (fun _ => hp)) rfl rfl rfl ?_)
  rename_i b4 bc
  generalize hk : byte s 0 = k
  generalize hc0 : ((rest1 s, true) : Cut) = c0
  have hz0 : c0.1.size < 4611686018427387904 := by rw [← hc0]; exact hr1
  refine run_mem (M' := M) (L' := cuB bc c0 :: drB b4 ⟨k, 0, ⟨0, 0, 0⟩, false, 0, .slice none 0 0, .slice none 0 0, ⟨#[]⟩⟩ :: rvB b2 :: L) (fun _ h => by rw [← hc0]; exact h) ?_
  refine run_cut (fun σ' M' L' => σ' = [(4, .pointer (some ⟨b4, 0, none⟩)), (5, .pointer (some ⟨bc, 0, none⟩)), (2, .pointer (some ⟨b2, 0, none⟩)), (0, .string s)] ∧ M' = M ∧ L' = cuB bc (c1 k c0).2 :: drB b4 ⟨k, (c1 k c0).1.1, (c1 k c0).1.2.1, (c1 k c0).1.2.2, 0, .slice none 0 0, .slice none 0 0, ⟨#[]⟩⟩ :: rvB b2 :: L) ?_ ?_
  rotate_left
  · intro hnext
    refine run_cond rfl (fun h => ?_) (fun h => ?_)
    · have k1 : k = 1 := by simpa using h
      refine run_region ?_
      repeat (first | refine runL_q (qt_pev tok rfl) rfl rfl rfl ?_ | refine runL_g rfl rfl (qt_pev tok rfl) rfl rfl rfl rfl rfl ?_ | refine runL_q (ql tok rfl) rfl rfl rfl ?_ | refine runL_g rfl rfl (ql tok rfl) rfl rfl rfl rfl rfl ?_ | (refine runL_op0 (sst tok rfl rfl rfl rfl rfl) ?_; rintro _ _ _ ⟨rfl, rfl, rfl⟩) | (refine runL_op (st_box rfl) rfl rfl rfl ?_; rintro _ _ _ ⟨_, rfl, rfl, rfl⟩) | (refine runL_op (st_alloc tok rfl) rfl rfl rfl ?_; rintro _ _ _ ⟨_, rfl, rfl, rfl⟩) | (refine runL_op (st_buildSlice tok rfl rfl rfl rfl rfl rfl rfl) rfl rfl rfl ?_; rintro _ _ _ ⟨_, rfl, rfl, rfl⟩) | refine runL_op (st_callF rfl (fun _ => cnum_ok _ _ bc c0 255 (by decide) hz0)) rfl rfl rfl ?_; rintro _ _ _ ⟨rfl, rfl, rfl⟩)
      refine runL_nil ?_
      exact run_sub' (hnext _ _ _ ⟨rfl, rfl, by rw [c1, if_pos k1]; first | done | rfl⟩) ⟨rfl, rfl, rfl, rfl, trivial⟩
    · have k1 : ¬ k = 1 := by simpa using h
      have q1 := cN_size 8 c0
      have q2 := cN_size 255 (cN 8 c0).2
      have q3 := cN_size 65535 (cN 255 (cN 8 c0).2).2
      refine run_seq ?_
      refine run_region ?_
      repeat (first | refine runL_q (qt_pev tok rfl) rfl rfl rfl ?_ | refine runL_g rfl rfl (qt_pev tok rfl) rfl rfl rfl rfl rfl ?_ | refine runL_q (ql tok rfl) rfl rfl rfl ?_ | refine runL_g rfl rfl (ql tok rfl) rfl rfl rfl rfl rfl ?_ | (refine runL_op0 (sst tok rfl rfl rfl rfl rfl) ?_; rintro _ _ _ ⟨rfl, rfl, rfl⟩) | (refine runL_op (st_box rfl) rfl rfl rfl ?_; rintro _ _ _ ⟨_, rfl, rfl, rfl⟩) | (refine runL_op (st_alloc tok rfl) rfl rfl rfl ?_; rintro _ _ _ ⟨_, rfl, rfl, rfl⟩) | (refine runL_op (st_buildSlice tok rfl rfl rfl rfl rfl rfl rfl) rfl rfl rfl ?_; rintro _ _ _ ⟨_, rfl, rfl, rfl⟩) | refine runL_op (st_callF rfl (fun _ => cnum_ok _ _ bc c0 8 (by decide) hz0)) rfl rfl rfl ?_; rintro _ _ _ ⟨rfl, rfl, rfl⟩)
      refine runL_nil ?_
      refine run_seq ?_
      refine run_region ?_
      repeat (first | refine runL_q (qt_pev tok rfl) rfl rfl rfl ?_ | refine runL_g rfl rfl (qt_pev tok rfl) rfl rfl rfl rfl rfl ?_ | refine runL_q (ql tok rfl) rfl rfl rfl ?_ | refine runL_g rfl rfl (ql tok rfl) rfl rfl rfl rfl rfl ?_ | (refine runL_op0 (sst tok rfl rfl rfl rfl rfl) ?_; rintro _ _ _ ⟨rfl, rfl, rfl⟩) | (refine runL_op (st_box rfl) rfl rfl rfl ?_; rintro _ _ _ ⟨_, rfl, rfl, rfl⟩) | (refine runL_op (st_alloc tok rfl) rfl rfl rfl ?_; rintro _ _ _ ⟨_, rfl, rfl, rfl⟩) | (refine runL_op (st_buildSlice tok rfl rfl rfl rfl rfl rfl rfl) rfl rfl rfl ?_; rintro _ _ _ ⟨_, rfl, rfl, rfl⟩) | refine runL_op (st_callF rfl (fun _ => cnum_ok _ _ bc (cN 8 c0).2 255 (by decide) (by omega))) rfl rfl rfl ?_; rintro _ _ _ ⟨rfl, rfl, rfl⟩)
      refine runL_nil ?_
      refine run_seq ?_
      refine run_region ?_
      repeat (first | refine runL_q (qt_pev tok rfl) rfl rfl rfl ?_ | refine runL_g rfl rfl (qt_pev tok rfl) rfl rfl rfl rfl rfl ?_ | refine runL_q (ql tok rfl) rfl rfl rfl ?_ | refine runL_g rfl rfl (ql tok rfl) rfl rfl rfl rfl rfl ?_ | (refine runL_op0 (sst tok rfl rfl rfl rfl rfl) ?_; rintro _ _ _ ⟨rfl, rfl, rfl⟩) | (refine runL_op (st_box rfl) rfl rfl rfl ?_; rintro _ _ _ ⟨_, rfl, rfl, rfl⟩) | (refine runL_op (st_alloc tok rfl) rfl rfl rfl ?_; rintro _ _ _ ⟨_, rfl, rfl, rfl⟩) | (refine runL_op (st_buildSlice tok rfl rfl rfl rfl rfl rfl rfl) rfl rfl rfl ?_; rintro _ _ _ ⟨_, rfl, rfl, rfl⟩) | refine runL_op (st_callF rfl (fun _ => cnum_ok _ _ bc (cN 255 (cN 8 c0).2).2 65535 (by decide) (by omega))) rfl rfl rfl ?_; rintro _ _ _ ⟨rfl, rfl, rfl⟩)
      refine runL_nil ?_
      refine run_region ?_
      repeat (first | refine runL_q (qt_pev tok rfl) rfl rfl rfl ?_ | refine runL_g rfl rfl (qt_pev tok rfl) rfl rfl rfl rfl rfl ?_ | refine runL_q (ql tok rfl) rfl rfl rfl ?_ | refine runL_g rfl rfl (ql tok rfl) rfl rfl rfl rfl rfl ?_ | (refine runL_op0 (sst tok rfl rfl rfl rfl rfl) ?_; rintro _ _ _ ⟨rfl, rfl, rfl⟩) | (refine runL_op (st_box rfl) rfl rfl rfl ?_; rintro _ _ _ ⟨_, rfl, rfl, rfl⟩) | (refine runL_op (st_alloc tok rfl) rfl rfl rfl ?_; rintro _ _ _ ⟨_, rfl, rfl, rfl⟩) | (refine runL_op (st_buildSlice tok rfl rfl rfl rfl rfl rfl rfl) rfl rfl rfl ?_; rintro _ _ _ ⟨_, rfl, rfl, rfl⟩) | refine runL_op (st_callF rfl (fun _ => cnum_ok _ _ bc (cN 65535 (cN 255 (cN 8 c0).2).2).2 1 (by decide) (by omega))) rfl rfl rfl ?_; rintro _ _ _ ⟨rfl, rfl, rfl⟩)
      refine runL_nil ?_
      exact run_sub' (hnext _ _ _ ⟨rfl, rfl, by rw [c1, if_neg k1]; first | done | rfl⟩) ⟨rfl, rfl, rfl, rfl, trivial⟩
  rintro _ _ _ ⟨rfl, rfl, rfl⟩
  rename_i M0
  have hzA := c1_size k c0
  generalize hA : c1 k c0 = A at hzA ⊢
  obtain ⟨⟨ep, tx, y⟩, cA⟩ := A
  simp only at hzA ⊢
  repeat (first | with_reducible (first | refine run_seq ?_ | refine run_region ?_ | refine runL_nil ?_ | refine run_skip ?_ | refine run_block ?_ | refine run_inBlock ?_) | refine run_exit rfl ?_ | refine runL_q (qt_pev tok rfl) rfl rfl rfl ?_ | refine runL_g rfl rfl (qt_pev tok rfl) rfl rfl rfl rfl rfl ?_ | refine runL_q (ql tok rfl) rfl rfl rfl ?_ | refine runL_g rfl rfl (ql tok rfl) rfl rfl rfl rfl rfl ?_ | (refine runL_op0 (sst tok rfl rfl rfl rfl rfl) ?_; rintro _ _ _ ⟨rfl, rfl, rfl⟩) | (refine runL_op (st_box rfl) rfl rfl rfl ?_; rintro _ _ _ ⟨_, rfl, rfl, rfl⟩) | (refine runL_op (st_alloc tok rfl) rfl rfl rfl ?_; rintro _ _ _ ⟨_, rfl, rfl, rfl⟩) | (refine runL_op (st_buildSlice tok rfl rfl rfl rfl rfl rfl rfl) rfl rfl rfl ?_; rintro _ _ _ ⟨_, rfl, rfl, rfl⟩))
  have hcB : ∀ t : Bool, ((k == 2) || ((k == 3) && y)) = t → (t = true ↔ (k = 2 ∨ (k = 3 ∧ y = true))) := by
    rintro _ rfl
    simp
  refine run_cut (fun σ' M' L' => ∃ sm : SMb, M0.le M' ∧ MbOk M' sm ∧ sm.xs = (c2 k y cA).1.2 ∧ σ' = [(4, .pointer (some ⟨b4, 0, none⟩)), (5, .pointer (some ⟨bc, 0, none⟩)), (2, .pointer (some ⟨b2, 0, none⟩)), (0, .string s)] ∧ L' = cuB bc (c2 k y cA).2 :: drB b4 ⟨k, ep, tx, y, (c2 k y cA).1.1, sm.v, .slice none 0 0, ⟨#[]⟩⟩ :: rvB b2 :: L) ?_ ?_
  rotate_left
  · intro hnext
    refine run_cond rfl (fun h => ?_) (fun h => ?_)
    rotate_left
    · have hn : ¬ (k = 2 ∨ (k = 3 ∧ y = true)) := fun e => by have := (hcB false h).2 e; cases this
      refine run_skip ?_
      exact run_sub' (hnext _ _ _ ⟨nilM, Mem.le_refl _, MbOk.nil _, by rw [c2, if_neg hn]; rfl, rfl, by rw [c2, if_neg hn]; rfl⟩) ⟨rfl, rfl, rfl, rfl, trivial⟩
    have hy := (hcB true h).1 rfl
    have q1 := cN_size 8 cA
    have q2 := cN_size 6 (cN 8 cA).2
    have hc2 : c2 k y cA = (((cN 8 cA).1, (cMb (cN 6 (cN 8 cA).2).1.toNat (cN 6 (cN 8 cA).2).2).1), (cMb (cN 6 (cN 8 cA).2).1.toNat (cN 6 (cN 8 cA).2).2).2) := by rw [c2, if_pos hy]
    rw [hc2] at hnext
    obtain ⟨cnt, hcnt, hcnt6⟩ := cN_nat 6 (cN 8 cA).2
    rw [hcnt, Int.toNat_natCast] at hnext
    refine run_seq ?_
    refine run_region ?_
    repeat (first | refine runL_q (qt_pev tok rfl) rfl rfl rfl ?_ | refine runL_g rfl rfl (qt_pev tok rfl) rfl rfl rfl rfl rfl ?_ | refine runL_q (ql tok rfl) rfl rfl rfl ?_ | refine runL_g rfl rfl (ql tok rfl) rfl rfl rfl rfl rfl ?_ | (refine runL_op0 (sst tok rfl rfl rfl rfl rfl) ?_; rintro _ _ _ ⟨rfl, rfl, rfl⟩) | (refine runL_op (st_box rfl) rfl rfl rfl ?_; rintro _ _ _ ⟨_, rfl, rfl, rfl⟩) | (refine runL_op (st_alloc tok rfl) rfl rfl rfl ?_; rintro _ _ _ ⟨_, rfl, rfl, rfl⟩) | (refine runL_op (st_buildSlice tok rfl rfl rfl rfl rfl rfl rfl) rfl rfl rfl ?_; rintro _ _ _ ⟨_, rfl, rfl, rfl⟩) | refine runL_op (st_callF rfl (fun _ => cnum_ok _ _ bc cA 8 (by decide) (by omega))) rfl rfl rfl ?_; rintro _ _ _ ⟨rfl, rfl, rfl⟩)
    refine runL_nil ?_
    refine run_seq ?_
    refine run_region ?_
    repeat (first | refine runL_q (qt_pev tok rfl) rfl rfl rfl ?_ | refine runL_g rfl rfl (qt_pev tok rfl) rfl rfl rfl rfl rfl ?_ | refine runL_q (ql tok rfl) rfl rfl rfl ?_ | refine runL_g rfl rfl (ql tok rfl) rfl rfl rfl rfl rfl ?_ | (refine runL_op0 (sst tok rfl rfl rfl rfl rfl) ?_; rintro _ _ _ ⟨rfl, rfl, rfl⟩) | (refine runL_op (st_box rfl) rfl rfl rfl ?_; rintro _ _ _ ⟨_, rfl, rfl, rfl⟩) | (refine runL_op (st_alloc tok rfl) rfl rfl rfl ?_; rintro _ _ _ ⟨_, rfl, rfl, rfl⟩) | (refine runL_op (st_buildSlice tok rfl rfl rfl rfl rfl rfl rfl) rfl rfl rfl ?_; rintro _ _ _ ⟨_, rfl, rfl, rfl⟩) | refine runL_op (st_callF rfl (fun _ => cnum_ok _ _ bc (cN 8 cA).2 6 (by decide) (by omega))) rfl rfl rfl ?_; rintro _ _ _ ⟨rfl, rfl, rfl⟩)
    refine runL_nil ?_
    refine run_as 6 (.int .i64 (cnt : Int)) rfl (by rw [hcnt]) ?_
    generalize hau : (cN 8 cA).1 = au at hnext ⊢
    generalize hcut2 : (cN 6 (cN 8 cA).2).2 = cu at hnext q2 ⊢
    refine run_seq ?_
    (refine run_region ?_; (repeat (first | refine runL_q (qt_pev tok rfl) rfl rfl rfl ?_ | refine runL_g rfl rfl (qt_pev tok rfl) rfl rfl rfl rfl rfl ?_ | refine runL_q (ql tok rfl) rfl rfl rfl ?_ | refine runL_g rfl rfl (ql tok rfl) rfl rfl rfl rfl rfl ?_ | (refine runL_op0 (sst tok rfl rfl rfl rfl rfl) ?_; rintro _ _ _ ⟨rfl, rfl, rfl⟩) | (refine runL_op (st_box rfl) rfl rfl rfl ?_; rintro _ _ _ ⟨_, rfl, rfl, rfl⟩) | (refine runL_op (st_alloc tok rfl) rfl rfl rfl ?_; rintro _ _ _ ⟨_, rfl, rfl, rfl⟩) | (refine runL_op (st_buildSlice tok rfl rfl rfl rfl rfl rfl rfl) rfl rfl rfl ?_; rintro _ _ _ ⟨_, rfl, rfl, rfl⟩))); refine runL_nil ?_)
    refine run_block ?_
    refine run_loopN (fun j σ1 M2 L1 => j ≤ cnt ∧ ∃ (xs : List Mb) (cj : Cut) (mvj : Value) (N : HL), xs.length = j ∧ cMb cnt cu = (xs ++ (cMb (cnt - j) cj).1, (cMb (cnt - j) cj).2) ∧ cj.1.size ≤ cA.1.size ∧ OS 43 2 mvj j (xs.map mbC).flatten N ∧ M0 = M2 ∧ L1 = cuB bc cj :: drB b4 ⟨k, ep, tx, y, au, mvj, .slice none 0 0, ⟨#[]⟩⟩ :: (N ++ rvB b2 :: L) ∧ σ1 = [(7, .int .i64 (j : Int)), (6, .int .i64 (cnt : Int)), (4, .pointer (some ⟨b4, 0, none⟩)), (5, .pointer (some ⟨bc, 0, none⟩)), (2, .pointer (some ⟨b2, 0, none⟩)), (0, .string s)]) cnt [(7, .int .i64 ((0 : Nat) : Int)), (6, .int .i64 (cnt : Int)), (4, .pointer (some ⟨b4, 0, none⟩)), (5, .pointer (some ⟨bc, 0, none⟩)), (2, .pointer (some ⟨b2, 0, none⟩)), (0, .string s)] ?_ ⟨Nat.zero_le _, [], cu, .slice none 0 0, [], rfl, rfl, by omega, OS.nil _ _, rfl, rfl, rfl⟩ (fun j _ _ _ h => h.1) ?_
    · exact ⟨rfl, rfl, rfl, rfl, rfl, rfl, trivial⟩
    rintro j _ _ _ ⟨hj, xs, cj, mvj, N, hxl, hcj, hzj, hO, rfl, rfl, rfl⟩ hnx
    repeat (first | with_reducible (first | refine run_seq ?_ | refine run_region ?_ | refine runL_nil ?_ | refine run_skip ?_ | refine run_block ?_ | refine run_inBlock ?_) | refine run_exit rfl ?_ | refine runL_q (qt_pev tok rfl) rfl rfl rfl ?_ | refine runL_g rfl rfl (qt_pev tok rfl) rfl rfl rfl rfl rfl ?_ | refine runL_q (ql tok rfl) rfl rfl rfl ?_ | refine runL_g rfl rfl (ql tok rfl) rfl rfl rfl rfl rfl ?_ | (refine runL_op0 (sst tok rfl rfl rfl rfl rfl) ?_; rintro _ _ _ ⟨rfl, rfl, rfl⟩) | (refine runL_op (st_box rfl) rfl rfl rfl ?_; rintro _ _ _ ⟨_, rfl, rfl, rfl⟩) | (refine runL_op (st_alloc tok rfl) rfl rfl rfl ?_; rintro _ _ _ ⟨_, rfl, rfl, rfl⟩) | (refine runL_op (st_buildSlice tok rfl rfl rfl rfl rfl rfl rfl) rfl rfl rfl ?_; rintro _ _ _ ⟨_, rfl, rfl, rfl⟩))
    refine run_cond rfl (fun h => ?_) (fun h => ?_)
    · have hlt : j < cnt := by simpa using h
      have hc1 : cnt - j = (cnt - (j + 1)) + 1 := by omega
      rw [hc1, cMb] at hcj
      have q3 := cN_size 8 cj
      have q4 := cT_size (cN 8 cj).2
      obtain ⟨aa0, ca0, rfl⟩ := rOsSl hO
      repeat (first | with_reducible (first | refine run_seq ?_ | refine run_region ?_ | refine runL_nil ?_ | refine run_skip ?_ | refine run_block ?_ | refine run_inBlock ?_) | refine run_exit rfl ?_ | refine runL_q (qt_pev tok rfl) rfl rfl rfl ?_ | refine runL_g rfl rfl (qt_pev tok rfl) rfl rfl rfl rfl rfl ?_ | refine runL_q (ql tok rfl) rfl rfl rfl ?_ | refine runL_g rfl rfl (ql tok rfl) rfl rfl rfl rfl rfl ?_ | (refine runL_op0 (sst tok rfl rfl rfl rfl rfl) ?_; rintro _ _ _ ⟨rfl, rfl, rfl⟩) | (refine runL_op (st_box rfl) rfl rfl rfl ?_; rintro _ _ _ ⟨_, rfl, rfl, rfl⟩) | (refine runL_op (st_alloc tok rfl) rfl rfl rfl ?_; rintro _ _ _ ⟨_, rfl, rfl, rfl⟩) | (refine runL_op (st_buildSlice tok rfl rfl rfl rfl rfl rfl rfl) rfl rfl rfl ?_; rintro _ _ _ ⟨_, rfl, rfl, rfl⟩) | refine runL_op (st_callF rfl (fun _ => cnum_ok _ _ bc cj 8 (by decide) (by omega))) rfl rfl rfl ?_; rintro _ _ _ ⟨rfl, rfl, rfl⟩ | refine runL_op (st_callF rfl (fun _ => trPerm (List.Perm.swap _ _ _) (ctext_ok _ _ bc (cN 8 cj).2 (by omega)))) rfl rfl rfl ?_; rintro _ _ _ ⟨rfl, rfl, rfl⟩)
      rename_i b8 bn
      refine runL_op (st_append (n := j) (m := 1) (news := mbC ⟨(cN 8 cj).1, (cT (cN 8 cj).2).1⟩) tok rfl rfl rfl rfl rfl rfl rfl rfl (pm4 _ _ _ _ N _) hO (.inr ⟨bn, 0, 1, rfl, cellsAll List.mem_cons_self, rfl⟩) (rMbOne _) (by omega) (by omega)) rfl rfl rfl ?_
      rintro mv' _ _ ⟨N', rfl, rfl, hO'⟩
      obtain ⟨aa, ca, rfl⟩ := rOsSl hO'
      repeat (first | with_reducible (first | refine run_seq ?_ | refine run_region ?_ | refine runL_nil ?_ | refine run_skip ?_ | refine run_block ?_ | refine run_inBlock ?_) | refine run_exit rfl ?_ | refine runL_q (qt_pev tok rfl) rfl rfl rfl ?_ | refine runL_g rfl rfl (qt_pev tok rfl) rfl rfl rfl rfl rfl ?_ | refine runL_q (ql tok rfl) rfl rfl rfl ?_ | refine runL_g rfl rfl (ql tok rfl) rfl rfl rfl rfl rfl ?_ | (refine runL_op0 (sst tok rfl rfl rfl rfl rfl) ?_; rintro _ _ _ ⟨rfl, rfl, rfl⟩) | (refine runL_op (st_box rfl) rfl rfl rfl ?_; rintro _ _ _ ⟨_, rfl, rfl, rfl⟩) | (refine runL_op (st_alloc tok rfl) rfl rfl rfl ?_; rintro _ _ _ ⟨_, rfl, rfl, rfl⟩) | (refine runL_op (st_buildSlice tok rfl rfl rfl rfl rfl rfl rfl) rfl rfl rfl ?_; rintro _ _ _ ⟨_, rfl, rfl, rfl⟩))
      refine run_mem (fun _ h => ((h.perm (pm4 _ _ _ _ N' _).symm).drop.perm (List.Perm.swap _ _ _)).drop) (run_sub' (hnx _ _ _ ⟨hlt, xs ++ [⟨(cN 8 cj).1, (cT (cN 8 cj).2).1⟩], (cT (cN 8 cj).2).2, _, N', by simp [hxl], ?_, by omega, by rw [← rFlat]; exact hO', rfl, rfl, rfl⟩) ⟨lk_succ rfl (by omega), rfl, rfl, rfl, rfl, rfl, trivial⟩)
      rw [hcj]
      simp
    · have hge : j = cnt := by simp at h; omega
      rw [hge, Nat.sub_self, cMb] at hcj
      simp only [List.append_nil] at hcj
      refine run_exit rfl ?_
      refine run_memE (fun M' L' => M0.le M' ∧ ∃ sm : SMb, MbOk M' sm ∧ sm.xs = xs ∧ L' = cuB bc cj :: drB b4 ⟨k, ep, tx, y, au, sm.v, .slice none 0 0, ⟨#[]⟩⟩ :: rvB b2 :: L) (fun w hw => ?_) ?_
      · obtain ⟨M', a', c', h1, h2, h3, h4⟩ := (hw.perm (pm2 _ _ N _)).freezeOS hO (by simpa using hxl) (rMbAll _)
        exact ⟨M', _, h2, h1, ⟨a', j, c', xs⟩, ⟨h4, by show j < _; omega⟩, rfl, by rw [h3]; rfl⟩
      · rintro M' _ ⟨hM', sm, hsm, rfl, rfl⟩
        exact run_sub' (hnext _ _ _ ⟨sm, hM', hsm, by rw [hcj], rfl, by rw [hcj]⟩) ⟨rfl, rfl, rfl, rfl, trivial⟩
  rintro _ M2 _ ⟨sm, hM2, hsm, hxm, rfl, rfl⟩
  have hzB := c2_size k y cA
  generalize hB : c2 k y cA = B at hzB hxm ⊢
  obtain ⟨⟨au, ms⟩, cB⟩ := B
  simp only at hzB hxm ⊢
  subst hxm
  repeat (first | with_reducible (first | refine run_seq ?_ | refine run_region ?_ | refine runL_nil ?_ | refine run_skip ?_ | refine run_block ?_ | refine run_inBlock ?_) | refine run_exit rfl ?_ | refine runL_q (qt_pev tok rfl) rfl rfl rfl ?_ | refine runL_g rfl rfl (qt_pev tok rfl) rfl rfl rfl rfl rfl ?_ | refine runL_q (ql tok rfl) rfl rfl rfl ?_ | refine runL_g rfl rfl (ql tok rfl) rfl rfl rfl rfl rfl ?_ | (refine runL_op0 (sst tok rfl rfl rfl rfl rfl) ?_; rintro _ _ _ ⟨rfl, rfl, rfl⟩) | (refine runL_op (st_box rfl) rfl rfl rfl ?_; rintro _ _ _ ⟨_, rfl, rfl, rfl⟩) | (refine runL_op (st_alloc tok rfl) rfl rfl rfl ?_; rintro _ _ _ ⟨_, rfl, rfl, rfl⟩) | (refine runL_op (st_buildSlice tok rfl rfl rfl rfl rfl rfl rfl) rfl rfl rfl ?_; rintro _ _ _ ⟨_, rfl, rfl, rfl⟩))
  refine run_cut (fun σ' M' L' => σ' = [(4, .pointer (some ⟨b4, 0, none⟩)), (5, .pointer (some ⟨bc, 0, none⟩)), (2, .pointer (some ⟨b2, 0, none⟩)), (0, .string s)] ∧ M2 = M' ∧ L' = cuB bc (c3 k cB).2 :: drB b4 ⟨k, ep, tx, y, au, sm.v, .slice none 0 0, (c3 k cB).1⟩ :: rvB b2 :: L) ?_ ?_
  rotate_left
  · intro hnext
    refine run_cond rfl (fun h => ?_) (fun h => ?_)
    · have k2 : k = 2 := by simpa using h
      refine run_region ?_
      repeat (first | refine runL_q (qt_pev tok rfl) rfl rfl rfl ?_ | refine runL_g rfl rfl (qt_pev tok rfl) rfl rfl rfl rfl rfl ?_ | refine runL_q (ql tok rfl) rfl rfl rfl ?_ | refine runL_g rfl rfl (ql tok rfl) rfl rfl rfl rfl rfl ?_ | (refine runL_op0 (sst tok rfl rfl rfl rfl rfl) ?_; rintro _ _ _ ⟨rfl, rfl, rfl⟩) | (refine runL_op (st_box rfl) rfl rfl rfl ?_; rintro _ _ _ ⟨_, rfl, rfl, rfl⟩) | (refine runL_op (st_alloc tok rfl) rfl rfl rfl ?_; rintro _ _ _ ⟨_, rfl, rfl, rfl⟩) | (refine runL_op (st_buildSlice tok rfl rfl rfl rfl rfl rfl rfl) rfl rfl rfl ?_; rintro _ _ _ ⟨_, rfl, rfl, rfl⟩) | refine runL_op (st_callF rfl (fun _ => ctext_ok _ _ bc cB (by omega))) rfl rfl rfl ?_; rintro _ _ _ ⟨rfl, rfl, rfl⟩)
      refine runL_nil ?_
      exact run_sub' (hnext _ _ _ ⟨rfl, rfl, by rw [c3, if_pos k2]; first | done | rfl⟩) ⟨rfl, rfl, rfl, rfl, trivial⟩
    · have k2 : ¬ k = 2 := by simpa using h
      refine run_skip ?_
      exact run_sub' (hnext _ _ _ ⟨rfl, rfl, by rw [c3, if_neg k2]; first | done | rfl⟩) ⟨rfl, rfl, rfl, rfl, trivial⟩
  rintro _ _ _ ⟨rfl, rfl, rfl⟩
  have hzD := c3_size k cB
  generalize hD : c3 k cB = D at hzD ⊢
  obtain ⟨bo, cD⟩ := D
  simp only at hzD ⊢
  have hsl := hsm.len
  have hs6 := hsm.2
  refine run_seq ?_
  refine run_seq ?_
  (refine run_region ?_; (repeat (first | refine runL_q (qt_pev tok rfl) rfl rfl rfl ?_ | refine runL_g rfl rfl (qt_pev tok rfl) rfl rfl rfl rfl rfl ?_ | refine runL_q (ql tok rfl) rfl rfl rfl ?_ | refine runL_g rfl rfl (ql tok rfl) rfl rfl rfl rfl rfl ?_ | (refine runL_op0 (sst tok rfl rfl rfl rfl rfl) ?_; rintro _ _ _ ⟨rfl, rfl, rfl⟩) | (refine runL_op (st_box rfl) rfl rfl rfl ?_; rintro _ _ _ ⟨_, rfl, rfl, rfl⟩) | (refine runL_op (st_alloc tok rfl) rfl rfl rfl ?_; rintro _ _ _ ⟨_, rfl, rfl, rfl⟩) | (refine runL_op (st_buildSlice tok rfl rfl rfl rfl rfl rfl rfl) rfl rfl rfl ?_; rintro _ _ _ ⟨_, rfl, rfl, rfl⟩))); refine runL_nil ?_)
  refine run_cut (fun σ' M' L' => ∃ st : SStr, M2.le M' ∧ StOk M' st ∧ st.xs = (c4 k sm.len cD).1 ∧ σ' = [(4, .pointer (some ⟨b4, 0, none⟩)), (5, .pointer (some ⟨bc, 0, none⟩)), (2, .pointer (some ⟨b2, 0, none⟩)), (0, .string s)] ∧ L' = cuB bc (c4 k sm.len cD).2 :: drB b4 ⟨k, ep, tx, y, au, sm.v, st.v, bo⟩ :: rvB b2 :: L) ?_ ?_
  rotate_left
  · intro hnext
    refine run_block ?_
    refine run_loopN (fun j σ1 M3 L1 => j ≤ sm.len ∧ ∃ (xs : List ByteArray) (cj : Cut) (tvj : Value) (N : HL), xs.length = j ∧ c4 k sm.len cD = (xs ++ (c4 k (sm.len - j) cj).1, (c4 k (sm.len - j) cj).2) ∧ cj.1.size ≤ cD.1.size ∧ OS 9 1 tvj j (xs.map stC).flatten N ∧ M2 = M3 ∧ L1 = cuB bc cj :: drB b4 ⟨k, ep, tx, y, au, sm.v, tvj, bo⟩ :: (N ++ rvB b2 :: L) ∧ σ1 = [(9, .int .i64 (j : Int)), (4, .pointer (some ⟨b4, 0, none⟩)), (5, .pointer (some ⟨bc, 0, none⟩)), (2, .pointer (some ⟨b2, 0, none⟩)), (0, .string s)]) sm.len [(9, .int .i64 ((0 : Nat) : Int)), (4, .pointer (some ⟨b4, 0, none⟩)), (5, .pointer (some ⟨bc, 0, none⟩)), (2, .pointer (some ⟨b2, 0, none⟩)), (0, .string s)] ?_ ⟨Nat.zero_le _, [], cD, .slice none 0 0, [], rfl, rfl, Nat.le_refl _, OS.nil _ _, rfl, rfl, rfl⟩ (fun j _ _ _ h => h.1) ?_
    · exact ⟨rfl, rfl, rfl, rfl, rfl, trivial⟩
    rintro j _ _ _ ⟨hj, xs, cj, tvj, N, hxl, hcj, hzj, hO, rfl, rfl, rfl⟩ hnx
    have hcT : ∀ t : Bool, ((k == 3) && decide ((j : Int) < (sm.len : Int))) = t → (t = true ↔ (k = 3 ∧ j < sm.len)) := by
      rintro _ rfl
      simp
    repeat (first | with_reducible (first | refine run_seq ?_ | refine run_region ?_ | refine runL_nil ?_ | refine run_skip ?_ | refine run_block ?_ | refine run_inBlock ?_) | refine run_exit rfl ?_ | refine runL_q (qt_pev tok rfl) rfl rfl rfl ?_ | refine runL_g rfl rfl (qt_pev tok rfl) rfl rfl rfl rfl rfl ?_ | refine runL_q (ql tok rfl) rfl rfl rfl ?_ | refine runL_g rfl rfl (ql tok rfl) rfl rfl rfl rfl rfl ?_ | (refine runL_op0 (sst tok rfl rfl rfl rfl rfl) ?_; rintro _ _ _ ⟨rfl, rfl, rfl⟩) | (refine runL_op (st_box rfl) rfl rfl rfl ?_; rintro _ _ _ ⟨_, rfl, rfl, rfl⟩) | (refine runL_op (st_alloc tok rfl) rfl rfl rfl ?_; rintro _ _ _ ⟨_, rfl, rfl, rfl⟩) | (refine runL_op (st_buildSlice tok rfl rfl rfl rfl rfl rfl rfl) rfl rfl rfl ?_; rintro _ _ _ ⟨_, rfl, rfl, rfl⟩))
    refine run_cond rfl (fun h => ?_) (fun h => ?_)
    · obtain ⟨k3, hlt⟩ := (hcT true h).1 rfl
      have hc1 : sm.len - j = (sm.len - (j + 1)) + 1 := by omega
      have e4 : ∀ n c, c4 k n c = cTs n c := fun n c => by rw [c4, if_pos k3]
      have q4 := cT_size cj
      obtain ⟨aa0, ca0, rfl⟩ := rOsSl hO
      repeat (first | with_reducible (first | refine run_seq ?_ | refine run_region ?_ | refine runL_nil ?_ | refine run_skip ?_ | refine run_block ?_ | refine run_inBlock ?_) | refine run_exit rfl ?_ | refine runL_q (qt_pev tok rfl) rfl rfl rfl ?_ | refine runL_g rfl rfl (qt_pev tok rfl) rfl rfl rfl rfl rfl ?_ | refine runL_q (ql tok rfl) rfl rfl rfl ?_ | refine runL_g rfl rfl (ql tok rfl) rfl rfl rfl rfl rfl ?_ | (refine runL_op0 (sst tok rfl rfl rfl rfl rfl) ?_; rintro _ _ _ ⟨rfl, rfl, rfl⟩) | (refine runL_op (st_box rfl) rfl rfl rfl ?_; rintro _ _ _ ⟨_, rfl, rfl, rfl⟩) | (refine runL_op (st_alloc tok rfl) rfl rfl rfl ?_; rintro _ _ _ ⟨_, rfl, rfl, rfl⟩) | (refine runL_op (st_buildSlice tok rfl rfl rfl rfl rfl rfl rfl) rfl rfl rfl ?_; rintro _ _ _ ⟨_, rfl, rfl, rfl⟩))
      repeat (first | with_reducible (first | refine run_seq ?_ | refine run_region ?_ | refine runL_nil ?_ | refine run_skip ?_ | refine run_block ?_ | refine run_inBlock ?_) | refine run_exit rfl ?_ | refine runL_q (qt_pev tok rfl) rfl rfl rfl ?_ | refine runL_g rfl rfl (qt_pev tok rfl) rfl rfl rfl rfl rfl ?_ | refine runL_q (ql tok rfl) rfl rfl rfl ?_ | refine runL_g rfl rfl (ql tok rfl) rfl rfl rfl rfl rfl ?_ | (refine runL_op0 (sst tok rfl rfl rfl rfl rfl) ?_; rintro _ _ _ ⟨rfl, rfl, rfl⟩) | (refine runL_op (st_box rfl) rfl rfl rfl ?_; rintro _ _ _ ⟨_, rfl, rfl, rfl⟩) | (refine runL_op (st_alloc tok rfl) rfl rfl rfl ?_; rintro _ _ _ ⟨_, rfl, rfl, rfl⟩) | (refine runL_op (st_buildSlice tok rfl rfl rfl rfl rfl rfl rfl) rfl rfl rfl ?_; rintro _ _ _ ⟨_, rfl, rfl, rfl⟩) | refine prn_start mixed ?_ | refine prn_end (by decide +kernel) ?_ | refine prn_q rfl (qt_pev tok rfl) (by decide +kernel) rfl rfl rfl ?_ | refine prn_g rfl rfl rfl (qt_pev tok rfl) (by decide +kernel) rfl rfl rfl rfl rfl ?_ | refine prn_q rfl (ql tok rfl) (by decide +kernel) rfl rfl rfl ?_ | refine prn_g rfl rfl rfl (ql tok rfl) (by decide +kernel) rfl rfl rfl rfl rfl ?_ | (refine prn_e0 rfl (sst tok rfl rfl rfl rfl rfl) (by decide +kernel) ?_; rintro _ _ _ ⟨rfl, rfl, rfl⟩) | (refine prn_e1 rfl (st_box rfl) (by decide +kernel) rfl rfl rfl ?_; rintro _ _ _ ⟨_, rfl, rfl, rfl⟩) | (refine prn_e1 rfl (st_alloc tok rfl) (by decide +kernel) rfl rfl rfl ?_; rintro _ _ _ ⟨_, rfl, rfl, rfl⟩) | (refine prn_e1 rfl (st_buildSlice tok rfl rfl rfl rfl rfl rfl rfl) (by decide +kernel) rfl rfl rfl ?_; rintro _ _ _ ⟨_, rfl, rfl, rfl⟩) | (refine prn_o0 rfl (sst tok rfl rfl rfl rfl rfl) (by decide +kernel) ?_; rintro _ _ _ ⟨rfl, rfl, rfl⟩; refine ⟨by (repeat (first | exact trivial | refine And.intro (pend_q rfl rfl rfl (qt_pev tok rfl)) ?_ | refine And.intro (pend_q rfl rfl rfl (ql tok rfl)) ?_)), ?_⟩) | (refine prn_o1 rfl (st_box rfl) (by decide +kernel) rfl rfl rfl ?_; rintro _ _ _ ⟨_, rfl, rfl, rfl⟩; refine ⟨by (repeat (first | exact trivial | refine And.intro (pend_q rfl rfl rfl (qt_pev tok rfl)) ?_ | refine And.intro (pend_q rfl rfl rfl (ql tok rfl)) ?_)), ?_⟩) | (refine prn_o1 rfl (st_alloc tok rfl) (by decide +kernel) rfl rfl rfl ?_; rintro _ _ _ ⟨_, rfl, rfl, rfl⟩; refine ⟨by (repeat (first | exact trivial | refine And.intro (pend_q rfl rfl rfl (qt_pev tok rfl)) ?_ | refine And.intro (pend_q rfl rfl rfl (ql tok rfl)) ?_)), ?_⟩) | (refine prn_o1 rfl (st_buildSlice tok rfl rfl rfl rfl rfl rfl rfl) (by decide +kernel) rfl rfl rfl ?_; rintro _ _ _ ⟨_, rfl, rfl, rfl⟩; refine ⟨by (repeat (first | exact trivial | refine And.intro (pend_q rfl rfl rfl (qt_pev tok rfl)) ?_ | refine And.intro (pend_q rfl rfl rfl (ql tok rfl)) ?_)), ?_⟩) | (refine prn_e1 rfl (qt_pev tok rfl) (by decide +kernel) rfl rfl rfl ?_; rintro _ _ _ ⟨rfl, rfl, rfl⟩))
      refine prn_o1 rfl (st_callF rfl (fun _ => ctext_ok _ _ bc cj (by omega))) (by decide +kernel) rfl rfl rfl ?_
      rintro _ _ _ ⟨rfl, rfl, rfl⟩
      refine ⟨by (repeat (first | exact trivial | refine And.intro (pend_q rfl rfl rfl (qt_pev tok rfl)) ?_ | refine And.intro (pend_q rfl rfl rfl (ql tok rfl)) ?_)), ?_⟩
      repeat (first | with_reducible (first | refine run_seq ?_ | refine run_region ?_ | refine runL_nil ?_ | refine run_skip ?_ | refine run_block ?_ | refine run_inBlock ?_) | refine run_exit rfl ?_ | refine runL_q (qt_pev tok rfl) rfl rfl rfl ?_ | refine runL_g rfl rfl (qt_pev tok rfl) rfl rfl rfl rfl rfl ?_ | refine runL_q (ql tok rfl) rfl rfl rfl ?_ | refine runL_g rfl rfl (ql tok rfl) rfl rfl rfl rfl rfl ?_ | (refine runL_op0 (sst tok rfl rfl rfl rfl rfl) ?_; rintro _ _ _ ⟨rfl, rfl, rfl⟩) | (refine runL_op (st_box rfl) rfl rfl rfl ?_; rintro _ _ _ ⟨_, rfl, rfl, rfl⟩) | (refine runL_op (st_alloc tok rfl) rfl rfl rfl ?_; rintro _ _ _ ⟨_, rfl, rfl, rfl⟩) | (refine runL_op (st_buildSlice tok rfl rfl rfl rfl rfl rfl rfl) rfl rfl rfl ?_; rintro _ _ _ ⟨_, rfl, rfl, rfl⟩) | refine prn_start mixed ?_ | refine prn_end (by decide +kernel) ?_ | refine prn_q rfl (qt_pev tok rfl) (by decide +kernel) rfl rfl rfl ?_ | refine prn_g rfl rfl rfl (qt_pev tok rfl) (by decide +kernel) rfl rfl rfl rfl rfl ?_ | refine prn_q rfl (ql tok rfl) (by decide +kernel) rfl rfl rfl ?_ | refine prn_g rfl rfl rfl (ql tok rfl) (by decide +kernel) rfl rfl rfl rfl rfl ?_ | (refine prn_e0 rfl (sst tok rfl rfl rfl rfl rfl) (by decide +kernel) ?_; rintro _ _ _ ⟨rfl, rfl, rfl⟩) | (refine prn_e1 rfl (st_box rfl) (by decide +kernel) rfl rfl rfl ?_; rintro _ _ _ ⟨_, rfl, rfl, rfl⟩) | (refine prn_e1 rfl (st_alloc tok rfl) (by decide +kernel) rfl rfl rfl ?_; rintro _ _ _ ⟨_, rfl, rfl, rfl⟩) | (refine prn_e1 rfl (st_buildSlice tok rfl rfl rfl rfl rfl rfl rfl) (by decide +kernel) rfl rfl rfl ?_; rintro _ _ _ ⟨_, rfl, rfl, rfl⟩) | (refine prn_o0 rfl (sst tok rfl rfl rfl rfl rfl) (by decide +kernel) ?_; rintro _ _ _ ⟨rfl, rfl, rfl⟩; refine ⟨by (repeat (first | exact trivial | refine And.intro (pend_q rfl rfl rfl (qt_pev tok rfl)) ?_ | refine And.intro (pend_q rfl rfl rfl (ql tok rfl)) ?_)), ?_⟩) | (refine prn_o1 rfl (st_box rfl) (by decide +kernel) rfl rfl rfl ?_; rintro _ _ _ ⟨_, rfl, rfl, rfl⟩; refine ⟨by (repeat (first | exact trivial | refine And.intro (pend_q rfl rfl rfl (qt_pev tok rfl)) ?_ | refine And.intro (pend_q rfl rfl rfl (ql tok rfl)) ?_)), ?_⟩) | (refine prn_o1 rfl (st_alloc tok rfl) (by decide +kernel) rfl rfl rfl ?_; rintro _ _ _ ⟨_, rfl, rfl, rfl⟩; refine ⟨by (repeat (first | exact trivial | refine And.intro (pend_q rfl rfl rfl (qt_pev tok rfl)) ?_ | refine And.intro (pend_q rfl rfl rfl (ql tok rfl)) ?_)), ?_⟩) | (refine prn_o1 rfl (st_buildSlice tok rfl rfl rfl rfl rfl rfl rfl) (by decide +kernel) rfl rfl rfl ?_; rintro _ _ _ ⟨_, rfl, rfl, rfl⟩; refine ⟨by (repeat (first | exact trivial | refine And.intro (pend_q rfl rfl rfl (qt_pev tok rfl)) ?_ | refine And.intro (pend_q rfl rfl rfl (ql tok rfl)) ?_)), ?_⟩) | (refine prn_e1 rfl (qt_pev tok rfl) (by decide +kernel) rfl rfl rfl ?_; rintro _ _ _ ⟨rfl, rfl, rfl⟩))
      rename_i bn
      refine prn_o1 rfl (st_append (n := j) (m := 1) (news := stC (cT cj).1) tok rfl rfl rfl rfl rfl rfl rfl rfl (pm3 _ _ _ N _) hO (.inr ⟨bn, 0, 1, rfl, cellsAll List.mem_cons_self, rfl⟩) (rStOne _) (by omega) (by omega)) (by decide +kernel) rfl rfl rfl ?_
      rintro mv' _ _ ⟨N', rfl, rfl, hO'⟩
      obtain ⟨aa, ca, rfl⟩ := rOsSl hO'
      refine ⟨by (repeat (first | exact trivial | refine And.intro (pend_q rfl rfl rfl (qt_pev tok rfl)) ?_ | refine And.intro (pend_q rfl rfl rfl (ql tok rfl)) ?_)), ?_⟩
      repeat (first | with_reducible (first | refine run_seq ?_ | refine run_region ?_ | refine runL_nil ?_ | refine run_skip ?_ | refine run_block ?_ | refine run_inBlock ?_) | refine run_exit rfl ?_ | refine runL_q (qt_pev tok rfl) rfl rfl rfl ?_ | refine runL_g rfl rfl (qt_pev tok rfl) rfl rfl rfl rfl rfl ?_ | refine runL_q (ql tok rfl) rfl rfl rfl ?_ | refine runL_g rfl rfl (ql tok rfl) rfl rfl rfl rfl rfl ?_ | (refine runL_op0 (sst tok rfl rfl rfl rfl rfl) ?_; rintro _ _ _ ⟨rfl, rfl, rfl⟩) | (refine runL_op (st_box rfl) rfl rfl rfl ?_; rintro _ _ _ ⟨_, rfl, rfl, rfl⟩) | (refine runL_op (st_alloc tok rfl) rfl rfl rfl ?_; rintro _ _ _ ⟨_, rfl, rfl, rfl⟩) | (refine runL_op (st_buildSlice tok rfl rfl rfl rfl rfl rfl rfl) rfl rfl rfl ?_; rintro _ _ _ ⟨_, rfl, rfl, rfl⟩) | refine prn_start mixed ?_ | refine prn_end (by decide +kernel) ?_ | refine prn_q rfl (qt_pev tok rfl) (by decide +kernel) rfl rfl rfl ?_ | refine prn_g rfl rfl rfl (qt_pev tok rfl) (by decide +kernel) rfl rfl rfl rfl rfl ?_ | refine prn_q rfl (ql tok rfl) (by decide +kernel) rfl rfl rfl ?_ | refine prn_g rfl rfl rfl (ql tok rfl) (by decide +kernel) rfl rfl rfl rfl rfl ?_ | (refine prn_e0 rfl (sst tok rfl rfl rfl rfl rfl) (by decide +kernel) ?_; rintro _ _ _ ⟨rfl, rfl, rfl⟩) | (refine prn_e1 rfl (st_box rfl) (by decide +kernel) rfl rfl rfl ?_; rintro _ _ _ ⟨_, rfl, rfl, rfl⟩) | (refine prn_e1 rfl (st_alloc tok rfl) (by decide +kernel) rfl rfl rfl ?_; rintro _ _ _ ⟨_, rfl, rfl, rfl⟩) | (refine prn_e1 rfl (st_buildSlice tok rfl rfl rfl rfl rfl rfl rfl) (by decide +kernel) rfl rfl rfl ?_; rintro _ _ _ ⟨_, rfl, rfl, rfl⟩) | (refine prn_o0 rfl (sst tok rfl rfl rfl rfl rfl) (by decide +kernel) ?_; rintro _ _ _ ⟨rfl, rfl, rfl⟩; refine ⟨by (repeat (first | exact trivial | refine And.intro (pend_q rfl rfl rfl (qt_pev tok rfl)) ?_ | refine And.intro (pend_q rfl rfl rfl (ql tok rfl)) ?_)), ?_⟩) | (refine prn_o1 rfl (st_box rfl) (by decide +kernel) rfl rfl rfl ?_; rintro _ _ _ ⟨_, rfl, rfl, rfl⟩; refine ⟨by (repeat (first | exact trivial | refine And.intro (pend_q rfl rfl rfl (qt_pev tok rfl)) ?_ | refine And.intro (pend_q rfl rfl rfl (ql tok rfl)) ?_)), ?_⟩) | (refine prn_o1 rfl (st_alloc tok rfl) (by decide +kernel) rfl rfl rfl ?_; rintro _ _ _ ⟨_, rfl, rfl, rfl⟩; refine ⟨by (repeat (first | exact trivial | refine And.intro (pend_q rfl rfl rfl (qt_pev tok rfl)) ?_ | refine And.intro (pend_q rfl rfl rfl (ql tok rfl)) ?_)), ?_⟩) | (refine prn_o1 rfl (st_buildSlice tok rfl rfl rfl rfl rfl rfl rfl) (by decide +kernel) rfl rfl rfl ?_; rintro _ _ _ ⟨_, rfl, rfl, rfl⟩; refine ⟨by (repeat (first | exact trivial | refine And.intro (pend_q rfl rfl rfl (qt_pev tok rfl)) ?_ | refine And.intro (pend_q rfl rfl rfl (ql tok rfl)) ?_)), ?_⟩) | (refine prn_e1 rfl (qt_pev tok rfl) (by decide +kernel) rfl rfl rfl ?_; rintro _ _ _ ⟨rfl, rfl, rfl⟩))
      refine run_mem (fun _ h => (h.perm (pm3 _ _ _ N' _).symm).drop) (run_sub' (hnx _ _ _ ⟨hlt, xs ++ [(cT cj).1], (cT cj).2, _, N', by simp [hxl], ?_, by omega, by rw [← rFlat]; exact hO', rfl, rfl, rfl⟩) ⟨lk_succ rfl (by omega), rfl, rfl, rfl, rfl, trivial⟩)
      rw [hcj, e4, e4, hc1, cTs]
      simp
    · have hn : ¬ (k = 3 ∧ j < sm.len) := fun e => by have := (hcT false h).2 e; cases this
      have hcz : c4 k (sm.len - j) cj = ([], cj) := by
        rw [c4]
        split
        · rename_i k3
          rw [show sm.len - j = 0 by omega, cTs]
        · rfl
      rw [hcz] at hcj
      simp only [List.append_nil] at hcj
      refine run_exit rfl ?_
      refine run_memE (fun M' L' => M2.le M' ∧ ∃ st : SStr, StOk M' st ∧ st.xs = xs ∧ L' = cuB bc cj :: drB b4 ⟨k, ep, tx, y, au, sm.v, st.v, bo⟩ :: rvB b2 :: L) (fun w hw => ?_) ?_
      · obtain ⟨M', a', c', h1, h2, h3, h4⟩ := (hw.perm (pm2 _ _ N _)).freezeOS hO (by simpa using hxl) (rStAll _)
        exact ⟨M', _, h2, h1, ⟨a', j, c', xs⟩, ⟨h4, by show j < _; omega⟩, rfl, by rw [h3]; rfl⟩
      · rintro M' _ ⟨hM', st, hst, rfl, rfl⟩
        exact run_sub' (hnext _ _ _ ⟨st, hM', hst, by rw [hcj], rfl, by rw [hcj]⟩) ⟨rfl, rfl, rfl, rfl, trivial⟩
  rintro _ M3 _ ⟨st, hM3, hst, hxt, rfl, rfl⟩
  have hR : cRec k c0 = ((⟨k, ep, tx, y, au, sm.xs, st.xs, bo⟩ : Re), (c4 k sm.len cD).2) := by
    unfold cRec
    rw [hA]
    simp only
    rw [hB]
    simp only
    rw [hD]
    simp only
    rw [hsl, ← hxt]
  generalize (c4 k sm.len cD).2 = cE at hR ⊢
  obtain ⟨rest, is⟩ := cE
  have hsh := cRec_short k c0
  rw [hR] at hsh
  have hle : M0.le M3 := Mem.le_trans hM2 hM3
  have hr : RcOk M3 ⟨k, ep, tx, y, au, sm, st, bo⟩ := ⟨hsm.le hM3, hst, fun m hm => by have := hsh.1 m hm; omega, fun t ht => by have := hsh.2.1 t ht; omega, by have := hsh.2.2; show bo.size < _; simp only at this; omega⟩
  have hl : RcLim ⟨k, ep, tx, y, au, sm, st, bo⟩ := ⟨fun m hm => by have := hsh.1 m hm; omega, fun t ht => by have := hsh.2.1 t ht; omega, by have := hsh.2.2; show bo.size < _; simp only at this; omega⟩
  generalize hrc : (⟨k, ep, tx, y, au, sm, st, bo⟩ : Rc) = rc at hr hl
  have hre : rc.re = (⟨k, ep, tx, y, au, sm.xs, st.xs, bo⟩ : Re) := by rw [← hrc]; rfl
  have hcell : drB b4 ⟨k, ep, tx, y, au, sm.v, st.v, bo⟩ = (b4, .cells ⟨rcC rc⟩ 27 (0, 0)) := by rw [← hrc]; rfl
  rw [hcell]
  rw [← hre] at hR hsh
  have hfin : (is = true ∧ (encE rc).2 = 0 ∧ (encE rc).1 = s) ↔ Dec s rc.re := by
    constructor
    · rintro ⟨h1, h2, h3⟩
      unfold encE at h2 h3
      split at h2
      · rename_i hx; exact absurd h2 hx
      · rename_i hx
        rw [if_neg hx] at h3
        split at h2
        · cases h2
        · rename_i hy
          rw [if_neg hy] at h3
          exact ⟨(recE_re hr).1 (by simpa using hx), h3, by rw [← h3]; show (recB rc.re).size ≤ 8192; omega⟩
    · intro hd
      have h1 := cRec_dec hd
      rw [hk, hc0, hR] at h1
      have h2 : recE rc = 0 := (recE_re hr).2 hd.1
      have h3 : ¬ 8192 < (recB rc.re).size := by rw [hd.2.1]; have := hd.2.2; omega
      refine ⟨by simpa using (congrArg (fun x => x.2.2) h1), ?_, ?_⟩
      · rw [encE, if_neg (by simp [h2]), if_neg h3]
      · rw [encE, if_neg (by simp [h2]), if_neg h3]; exact hd.2.1
  have huniq : ∀ z, Dec s z → Dec s rc.re := fun z hz => by
    have h1 := cRec_dec hz
    rw [hk, hc0, hR] at h1
    have h2 : rc.re = z := by simpa using (congrArg (fun x => x.1) h1)
    rw [h2]; exact hz
  repeat (first | with_reducible (first | refine run_seq ?_ | refine run_region ?_ | refine runL_nil ?_ | refine run_skip ?_ | refine run_block ?_ | refine run_inBlock ?_) | refine run_exit rfl ?_ | refine runL_q (qt_pev tok rfl) rfl rfl rfl ?_ | refine runL_g rfl rfl (qt_pev tok rfl) rfl rfl rfl rfl rfl ?_ | refine runL_q (ql tok rfl) rfl rfl rfl ?_ | refine runL_g rfl rfl (ql tok rfl) rfl rfl rfl rfl rfl ?_ | (refine runL_op0 (sst tok rfl rfl rfl rfl rfl) ?_; rintro _ _ _ ⟨rfl, rfl, rfl⟩) | (refine runL_op (st_box rfl) rfl rfl rfl ?_; rintro _ _ _ ⟨_, rfl, rfl, rfl⟩) | (refine runL_op (st_alloc tok rfl) rfl rfl rfl ?_; rintro _ _ _ ⟨_, rfl, rfl, rfl⟩) | (refine runL_op (st_buildSlice tok rfl rfl rfl rfl rfl rfl rfl) rfl rfl rfl ?_; rintro _ _ _ ⟨_, rfl, rfl, rfl⟩) | refine runL_q (qt_callF rfl (fun _ => dencode_ok _ _ rc hr hl)) rfl rfl rfl ?_)
  have hcF : ∀ t : Bool, (((!is) || ((encE rc).2 != 0)) || (!((encE rc).1.toList == s.toList))) = t → (t = false ↔ Dec s rc.re) := by
    rintro _ rfl
    rw [← hfin, bytes_beq]
    simp [and_assoc]
  refine run_cond rfl (fun h => ?_) (fun h => ?_)
  · have hnd := hcF true h
    repeat (first | with_reducible (first | refine run_seq ?_ | refine run_region ?_ | refine runL_nil ?_ | refine run_skip ?_ | refine run_block ?_ | refine run_inBlock ?_) | refine run_exit rfl ?_ | refine runL_q (qt_pev tok rfl) rfl rfl rfl ?_ | refine runL_g rfl rfl (qt_pev tok rfl) rfl rfl rfl rfl rfl ?_ | refine runL_q (ql tok rfl) rfl rfl rfl ?_ | refine runL_g rfl rfl (ql tok rfl) rfl rfl rfl rfl rfl ?_ | (refine runL_op0 (sst tok rfl rfl rfl rfl rfl) ?_; rintro _ _ _ ⟨rfl, rfl, rfl⟩) | (refine runL_op (st_box rfl) rfl rfl rfl ?_; rintro _ _ _ ⟨_, rfl, rfl, rfl⟩) | (refine runL_op (st_alloc tok rfl) rfl rfl rfl ?_; rintro _ _ _ ⟨_, rfl, rfl, rfl⟩) | (refine runL_op (st_buildSlice tok rfl rfl rfl rfl rfl rfl rfl) rfl rfl rfl ?_; rintro _ _ _ ⟨_, rfl, rfl, rfl⟩))
    exact run_ret hC (rs := [.cell 2 27, .tmp 3]) rfl (rl tok rfl (resT rfl resN)) (fun _ h => h.drop.drop.drop) (decK_none hle (fun z hz => by have := hnd.2 (huniq z hz); cases this))
  · have hd := (hcF false h).1 rfl
    refine run_skip ?_
    repeat (first | with_reducible (first | refine run_seq ?_ | refine run_region ?_ | refine runL_nil ?_ | refine run_skip ?_ | refine run_block ?_ | refine run_inBlock ?_) | refine run_exit rfl ?_ | refine runL_q (qt_pev tok rfl) rfl rfl rfl ?_ | refine runL_g rfl rfl (qt_pev tok rfl) rfl rfl rfl rfl rfl ?_ | refine runL_q (ql tok rfl) rfl rfl rfl ?_ | refine runL_g rfl rfl (ql tok rfl) rfl rfl rfl rfl rfl ?_ | (refine runL_op0 (sst tok rfl rfl rfl rfl rfl) ?_; rintro _ _ _ ⟨rfl, rfl, rfl⟩) | (refine runL_op (st_box rfl) rfl rfl rfl ?_; rintro _ _ _ ⟨_, rfl, rfl, rfl⟩) | (refine runL_op (st_alloc tok rfl) rfl rfl rfl ?_; rintro _ _ _ ⟨_, rfl, rfl, rfl⟩) | (refine runL_op (st_buildSlice tok rfl rfl rfl rfl rfl rfl rfl) rfl rfl rfl ?_; rintro _ _ _ ⟨_, rfl, rfl, rfl⟩))
    exact run_ret hC (rs := [.cell 2 27, .tmp 3]) rfl (rl tok rfl (resT rfl resN)) (fun _ h => h.drop.drop.drop) ⟨hle, rfl, rc, 0, rfl, hr, hsh, .inl ⟨rfl, hd⟩⟩
end Go.Proofs.Ytpjklbkfhgfmnaa
namespace Go.Proofs.Ytpjklbkfhgfmnaa
open Go.Chi

/-! ### a record's own lists, beginnings, what is too long -/
theorem rFlatOne {α : Type} {f : α → List Value} (h : ∀ r, ∀ u ∈ f r, u.oneCell' = true) (l : List α) : ∀ u ∈ (l.map f).flatten, u.oneCell' = true := by
  intro u hu
  obtain ⟨x, hx, hu⟩ := List.mem_flatten.1 hu
  obtain ⟨y, _, rfl⟩ := List.mem_map.1 hx
  exact h y u hu
def begB (s t : ByteArray) : Bool := decide ((s.size : Int) ≥ (t.size : Int)) && ((s.extract 0 t.size).toList == t.toList)
theorem dbegins_ok (M : Mem) (L : HL) (s t : ByteArray) : TrQ Try.prog 18 [.string s, .string t] M L (.bool (begB s t)) := by
  refine Tr.intro 18 Try.func18 rfl rfl Try.call18 rfl ?_
  intro C hC hro
  repeat (first | with_reducible (first | refine run_seq ?_ | refine run_region ?_ | refine runL_nil ?_ | refine run_skip ?_ | refine run_block ?_ | refine run_inBlock ?_) | refine run_exit rfl ?_ | refine runL_q (qt_pev tok rfl) rfl rfl rfl ?_ | refine runL_g rfl rfl (qt_pev tok rfl) rfl rfl rfl rfl rfl ?_ | refine runL_q (ql tok rfl) rfl rfl rfl ?_ | refine runL_g rfl rfl (ql tok rfl) rfl rfl rfl rfl rfl ?_ | (refine runL_op0 (sst tok rfl rfl rfl rfl rfl) ?_; rintro _ _ _ ⟨rfl, rfl, rfl⟩) | (refine runL_op (st_box rfl) rfl rfl rfl ?_; rintro _ _ _ ⟨_, rfl, rfl, rfl⟩) | (refine runL_op (st_alloc tok rfl) rfl rfl rfl ?_; rintro _ _ _ ⟨_, rfl, rfl, rfl⟩) | (refine runL_op (st_buildSlice tok rfl rfl rfl rfl rfl rfl rfl) rfl rfl rfl ?_; rintro _ _ _ ⟨_, rfl, rfl, rfl⟩) | refine runL_g rfl rfl (qt_strHi (n := t.size) tok rfl rfl rfl (fun hy => by have h1 : decide ((s.size : Int) ≥ (t.size : Int)) = true := hy.1; have := of_decide_eq_true h1; omega)) rfl rfl rfl rfl rfl ?_)
  exact run_ret hC (rs := [.tmp 4]) rfl (resT rfl resN) (fun _ h => h) ⟨rfl, rfl, rfl⟩
/-- a record as it is handed over -/
structure RcIn (M : Mem) (r : Rc) : Prop where
  mem : r.mem.Ok M
  tags : r.tags.Ok M
def longR (r : Rc) : Bool := (((decide ((r.mem.len : Int) > 20) || decide ((r.tags.len : Int) > 20)) || decide ((r.body.size : Int) > 8192)) || (r.mem.xs.any fun m => decide ((m.digest.size : Int) > 8192))) || (r.tags.xs.any fun t => decide ((t.size : Int) > 8192))
theorem longR_m {M : Mem} {r : Rc} (h : RcIn M r) (hl : longR r = false) : RcOk M r ∧ RcLim r ∧ Short r.re ∧ r.mem.len ≤ 20 ∧ r.tags.len ≤ 20 := by
  simp only [longR, Bool.or_eq_false_iff, decide_eq_false_iff_not, List.any_eq_false, decide_eq_true_eq] at hl
  obtain ⟨⟨⟨⟨h1, h2⟩, h3⟩, h4⟩, h5⟩ := hl
  refine ⟨⟨⟨h.mem, by omega⟩, ⟨h.tags, by omega⟩, fun m hm => ?_, fun t ht => ?_, by omega⟩, ⟨fun m hm => ?_, fun t ht => ?_, by omega⟩, ⟨fun m hm => ?_, fun t ht => ?_, ?_⟩, by omega, by omega⟩
  · have := h4 m hm; omega
  · have := h5 t ht; omega
  · have := h4 m hm; omega
  · have := h5 t ht; omega
  · have := h4 m hm; omega
  · have := h5 t ht; omega
  · show r.body.size ≤ 8192; omega
set_option maxHeartbeats 8000000 in
theorem dlong_ok (M : Mem) (L : HL) (r : Rc) (h : RcIn M r) : TrQ Try.prog 7 [.agg ⟨rcC r⟩] M L (.bool (longR r)) := by
  have hl1 : r.mem.xs.length = r.mem.len := by have := h.mem.1; simpa using this
  have hl2 : r.tags.xs.length = r.tags.len := by have := h.tags.1; simpa using this
  refine Tr.intro 50 Try.func7 rfl rfl Try.call7 rfl ?_
  intro C hC hro
  repeat (first | with_reducible (first | refine run_seq ?_ | refine run_region ?_ | refine runL_nil ?_ | refine run_skip ?_ | refine run_block ?_ | refine run_inBlock ?_) | refine run_exit rfl ?_ | refine runL_q (qt_pev tok rfl) rfl rfl rfl ?_ | refine runL_g rfl rfl (qt_pev tok rfl) rfl rfl rfl rfl rfl ?_ | refine runL_q (ql tok rfl) rfl rfl rfl ?_ | refine runL_g rfl rfl (ql tok rfl) rfl rfl rfl rfl rfl ?_ | (refine runL_op0 (sst tok rfl rfl rfl rfl rfl) ?_; rintro _ _ _ ⟨rfl, rfl, rfl⟩) | (refine runL_op (st_box rfl) rfl rfl rfl ?_; rintro _ _ _ ⟨_, rfl, rfl, rfl⟩) | (refine runL_op (st_alloc tok rfl) rfl rfl rfl ?_; rintro _ _ _ ⟨_, rfl, rfl, rfl⟩) | (refine runL_op (st_buildSlice tok rfl rfl rfl rfl rfl rfl rfl) rfl rfl rfl ?_; rintro _ _ _ ⟨_, rfl, rfl, rfl⟩))
  rename_i b1
  refine run_cond rfl (fun hh => ?_) (fun hh => ?_)
  · repeat (first | with_reducible (first | refine run_seq ?_ | refine run_region ?_ | refine runL_nil ?_ | refine run_skip ?_ | refine run_block ?_ | refine run_inBlock ?_) | refine run_exit rfl ?_ | refine runL_q (qt_pev tok rfl) rfl rfl rfl ?_ | refine runL_g rfl rfl (qt_pev tok rfl) rfl rfl rfl rfl rfl ?_ | refine runL_q (ql tok rfl) rfl rfl rfl ?_ | refine runL_g rfl rfl (ql tok rfl) rfl rfl rfl rfl rfl ?_ | (refine runL_op0 (sst tok rfl rfl rfl rfl rfl) ?_; rintro _ _ _ ⟨rfl, rfl, rfl⟩) | (refine runL_op (st_box rfl) rfl rfl rfl ?_; rintro _ _ _ ⟨_, rfl, rfl, rfl⟩) | (refine runL_op (st_alloc tok rfl) rfl rfl rfl ?_; rintro _ _ _ ⟨_, rfl, rfl, rfl⟩) | (refine runL_op (st_buildSlice tok rfl rfl rfl rfl rfl rfl rfl) rfl rfl rfl ?_; rintro _ _ _ ⟨_, rfl, rfl, rfl⟩))
    exact run_ret hC (rs := [.tmp 2]) rfl (resT rfl resN) (fun _ h => h.drop) ⟨by rw [longR, hh]; rfl, rfl, rfl⟩
  have h20 := hh
  simp only [Bool.or_eq_false_iff, decide_eq_false_iff_not] at h20
  rw [longR, hh, Bool.false_or] at hC
  repeat (first | with_reducible (first | refine run_seq ?_ | refine run_region ?_ | refine runL_nil ?_ | refine run_skip ?_ | refine run_block ?_ | refine run_inBlock ?_) | refine run_exit rfl ?_ | refine runL_q (qt_pev tok rfl) rfl rfl rfl ?_ | refine runL_g rfl rfl (qt_pev tok rfl) rfl rfl rfl rfl rfl ?_ | refine runL_q (ql tok rfl) rfl rfl rfl ?_ | refine runL_g rfl rfl (ql tok rfl) rfl rfl rfl rfl rfl ?_ | (refine runL_op0 (sst tok rfl rfl rfl rfl rfl) ?_; rintro _ _ _ ⟨rfl, rfl, rfl⟩) | (refine runL_op (st_box rfl) rfl rfl rfl ?_; rintro _ _ _ ⟨_, rfl, rfl, rfl⟩) | (refine runL_op (st_alloc tok rfl) rfl rfl rfl ?_; rintro _ _ _ ⟨_, rfl, rfl, rfl⟩) | (refine runL_op (st_buildSlice tok rfl rfl rfl rfl rfl rfl rfl) rfl rfl rfl ?_; rintro _ _ _ ⟨_, rfl, rfl, rfl⟩))
  refine run_loopN (fun j σ1 M1 L1 => j ≤ r.mem.len ∧ M = M1 ∧ L1 = (b1, .cells ⟨rcC r⟩ 27 (0, 0)) :: L ∧ ((r.mem.xs.take j).any fun m => decide ((m.digest.size : Int) > 8192)) = false ∧ σ1 = [(3, .int .i64 (j : Int)), (1, .pointer (some ⟨b1, 0, none⟩))]) r.mem.len [(3, .int .i64 ((0 : Nat) : Int)), (1, .pointer (some ⟨b1, 0, none⟩))] ?_ ⟨Nat.zero_le _, rfl, rfl, by simp, rfl⟩ (fun j _ _ _ h => h.1) ?_
  · exact ⟨rfl, rfl, trivial⟩
  rintro j _ _ _ ⟨hj, rfl, rfl, hpre, rfl⟩ hnext
  repeat (first | with_reducible (first | refine run_seq ?_ | refine run_region ?_ | refine runL_nil ?_ | refine run_skip ?_ | refine run_block ?_ | refine run_inBlock ?_) | refine run_exit rfl ?_ | refine runL_q (qt_pev tok rfl) rfl rfl rfl ?_ | refine runL_g rfl rfl (qt_pev tok rfl) rfl rfl rfl rfl rfl ?_ | refine runL_q (ql tok rfl) rfl rfl rfl ?_ | refine runL_g rfl rfl (ql tok rfl) rfl rfl rfl rfl rfl ?_ | (refine runL_op0 (sst tok rfl rfl rfl rfl rfl) ?_; rintro _ _ _ ⟨rfl, rfl, rfl⟩) | (refine runL_op (st_box rfl) rfl rfl rfl ?_; rintro _ _ _ ⟨_, rfl, rfl, rfl⟩) | (refine runL_op (st_alloc tok rfl) rfl rfl rfl ?_; rintro _ _ _ ⟨_, rfl, rfl, rfl⟩) | (refine runL_op (st_buildSlice tok rfl rfl rfl rfl rfl rfl rfl) rfl rfl rfl ?_; rintro _ _ _ ⟨_, rfl, rfl, rfl⟩))
  refine run_cond rfl (fun h1 => ?_) (fun h1 => ?_)
  · have hlt : j < r.mem.len := by simpa using h1
    obtain ⟨b, off, m, hma, hm, hc⟩ := SMb.at_ h.mem hlt
    have hv : r.mem.v = .slice (some ⟨b, off, none⟩) r.mem.len r.mem.cap := by rw [← hma]; rfl
    repeat (first | with_reducible (first | refine run_seq ?_ | refine run_region ?_ | refine runL_nil ?_ | refine run_skip ?_ | refine run_block ?_ | refine run_inBlock ?_) | refine run_exit rfl ?_ | refine runL_q (qt_pev tok rfl) rfl rfl rfl ?_ | refine runL_g rfl rfl (qt_pev tok rfl) rfl rfl rfl rfl rfl ?_ | refine runL_q (ql tok rfl) rfl rfl rfl ?_ | refine runL_g rfl rfl (ql tok rfl) rfl rfl rfl rfl rfl ?_ | (refine runL_op0 (sst tok rfl rfl rfl rfl rfl) ?_; rintro _ _ _ ⟨rfl, rfl, rfl⟩) | (refine runL_op (st_box rfl) rfl rfl rfl ?_; rintro _ _ _ ⟨_, rfl, rfl, rfl⟩) | (refine runL_op (st_alloc tok rfl) rfl rfl rfl ?_; rintro _ _ _ ⟨_, rfl, rfl, rfl⟩) | (refine runL_op (st_buildSlice tok rfl rfl rfl rfl rfl rfl rfl) rfl rfl rfl ?_; rintro _ _ _ ⟨_, rfl, rfl, rfl⟩))
    refine runL_as 29 (.slice (some ⟨b, off, none⟩) r.mem.len r.mem.cap) rfl hv ?_
    repeat (first | with_reducible (first | refine run_seq ?_ | refine run_region ?_ | refine runL_nil ?_ | refine run_skip ?_ | refine run_block ?_ | refine run_inBlock ?_) | refine run_exit rfl ?_ | refine runL_q (qt_pev tok rfl) rfl rfl rfl ?_ | refine runL_g rfl rfl (qt_pev tok rfl) rfl rfl rfl rfl rfl ?_ | refine runL_q (ql tok rfl) rfl rfl rfl ?_ | refine runL_g rfl rfl (ql tok rfl) rfl rfl rfl rfl rfl ?_ | (refine runL_op0 (sst tok rfl rfl rfl rfl rfl) ?_; rintro _ _ _ ⟨rfl, rfl, rfl⟩) | (refine runL_op (st_box rfl) rfl rfl rfl ?_; rintro _ _ _ ⟨_, rfl, rfl, rfl⟩) | (refine runL_op (st_alloc tok rfl) rfl rfl rfl ?_; rintro _ _ _ ⟨_, rfl, rfl, rfl⟩) | (refine runL_op (st_buildSlice tok rfl rfl rfl rfl rfl rfl rfl) rfl rfl rfl ?_; rintro _ _ _ ⟨_, rfl, rfl, rfl⟩) | refine runL_q (qt_indexN tok rfl rfl rfl rfl (fun _ => by omega)) rfl rfl rfl ?_ | refine runL_g rfl rfl (qt_indexN tok rfl rfl rfl rfl (fun _ => by omega)) rfl rfl rfl rfl rfl ?_ | refine runL_q (qt_ldM tok rfl hc rfl) rfl rfl rfl ?_ | refine runL_g rfl rfl (qt_ldM tok rfl hc rfl) rfl rfl rfl rfl rfl ?_ | refine runL_q (qt_ldM0 tok rfl hc rfl) rfl rfl rfl ?_ | refine runL_g rfl rfl (qt_ldM0 tok rfl hc rfl) rfl rfl rfl rfl rfl ?_)
    refine run_cond rfl (fun h2 => ?_) (fun h2 => ?_)
    · rw [any_true (fun m : Mb => decide ((m.digest.size : Int) > 8192)) hm h2] at hC
      repeat (first | with_reducible (first | refine run_seq ?_ | refine run_region ?_ | refine runL_nil ?_ | refine run_skip ?_ | refine run_block ?_ | refine run_inBlock ?_) | refine run_exit rfl ?_ | refine runL_q (qt_pev tok rfl) rfl rfl rfl ?_ | refine runL_g rfl rfl (qt_pev tok rfl) rfl rfl rfl rfl rfl ?_ | refine runL_q (ql tok rfl) rfl rfl rfl ?_ | refine runL_g rfl rfl (ql tok rfl) rfl rfl rfl rfl rfl ?_ | (refine runL_op0 (sst tok rfl rfl rfl rfl rfl) ?_; rintro _ _ _ ⟨rfl, rfl, rfl⟩) | (refine runL_op (st_box rfl) rfl rfl rfl ?_; rintro _ _ _ ⟨_, rfl, rfl, rfl⟩) | (refine runL_op (st_alloc tok rfl) rfl rfl rfl ?_; rintro _ _ _ ⟨_, rfl, rfl, rfl⟩) | (refine runL_op (st_buildSlice tok rfl rfl rfl rfl rfl rfl rfl) rfl rfl rfl ?_; rintro _ _ _ ⟨_, rfl, rfl, rfl⟩))
      exact run_ret hC (rs := [.tmp 2]) rfl (resT rfl resN) (fun _ h => h.drop) ⟨rfl, rfl, rfl⟩
    · repeat (first | with_reducible (first | refine run_seq ?_ | refine run_region ?_ | refine runL_nil ?_ | refine run_skip ?_ | refine run_block ?_ | refine run_inBlock ?_) | refine run_exit rfl ?_ | refine runL_q (qt_pev tok rfl) rfl rfl rfl ?_ | refine runL_g rfl rfl (qt_pev tok rfl) rfl rfl rfl rfl rfl ?_ | refine runL_q (ql tok rfl) rfl rfl rfl ?_ | refine runL_g rfl rfl (ql tok rfl) rfl rfl rfl rfl rfl ?_ | (refine runL_op0 (sst tok rfl rfl rfl rfl rfl) ?_; rintro _ _ _ ⟨rfl, rfl, rfl⟩) | (refine runL_op (st_box rfl) rfl rfl rfl ?_; rintro _ _ _ ⟨_, rfl, rfl, rfl⟩) | (refine runL_op (st_alloc tok rfl) rfl rfl rfl ?_; rintro _ _ _ ⟨_, rfl, rfl, rfl⟩) | (refine runL_op (st_buildSlice tok rfl rfl rfl rfl rfl rfl rfl) rfl rfl rfl ?_; rintro _ _ _ ⟨_, rfl, rfl, rfl⟩))
      exact run_sub' (hnext _ _ _ ⟨hlt, rfl, rfl, by rw [any_snoc _ hm hpre]; exact h2, rfl⟩) ⟨lk_succ rfl (by omega), rfl, trivial⟩
  have hge : j = r.mem.len := by simp at h1; omega
  rw [hge, List.take_of_length_le (by omega)] at hpre
  rw [hpre, Bool.false_or] at hC
  clear hnext
  repeat (first | with_reducible (first | refine run_seq ?_ | refine run_region ?_ | refine runL_nil ?_ | refine run_skip ?_ | refine run_block ?_ | refine run_inBlock ?_) | refine run_exit rfl ?_ | refine runL_q (qt_pev tok rfl) rfl rfl rfl ?_ | refine runL_g rfl rfl (qt_pev tok rfl) rfl rfl rfl rfl rfl ?_ | refine runL_q (ql tok rfl) rfl rfl rfl ?_ | refine runL_g rfl rfl (ql tok rfl) rfl rfl rfl rfl rfl ?_ | (refine runL_op0 (sst tok rfl rfl rfl rfl rfl) ?_; rintro _ _ _ ⟨rfl, rfl, rfl⟩) | (refine runL_op (st_box rfl) rfl rfl rfl ?_; rintro _ _ _ ⟨_, rfl, rfl, rfl⟩) | (refine runL_op (st_alloc tok rfl) rfl rfl rfl ?_; rintro _ _ _ ⟨_, rfl, rfl, rfl⟩) | (refine runL_op (st_buildSlice tok rfl rfl rfl rfl rfl rfl rfl) rfl rfl rfl ?_; rintro _ _ _ ⟨_, rfl, rfl, rfl⟩))
  refine run_loopN (fun j σ1 M1 L1 => j ≤ r.tags.len ∧ M = M1 ∧ L1 = (b1, .cells ⟨rcC r⟩ 27 (0, 0)) :: L ∧ ((r.tags.xs.take j).any fun m => decide ((m.size : Int) > 8192)) = false ∧ σ1 = [(4, .int .i64 (j : Int)), (1, .pointer (some ⟨b1, 0, none⟩))]) r.tags.len [(4, .int .i64 ((0 : Nat) : Int)), (1, .pointer (some ⟨b1, 0, none⟩))] ?_ ⟨Nat.zero_le _, rfl, rfl, by simp, rfl⟩ (fun j _ _ _ h => h.1) ?_
  · exact ⟨rfl, rfl, trivial⟩
  rintro i _ _ _ ⟨hi, rfl, rfl, hpre2, rfl⟩ hnext
  repeat (first | with_reducible (first | refine run_seq ?_ | refine run_region ?_ | refine runL_nil ?_ | refine run_skip ?_ | refine run_block ?_ | refine run_inBlock ?_) | refine run_exit rfl ?_ | refine runL_q (qt_pev tok rfl) rfl rfl rfl ?_ | refine runL_g rfl rfl (qt_pev tok rfl) rfl rfl rfl rfl rfl ?_ | refine runL_q (ql tok rfl) rfl rfl rfl ?_ | refine runL_g rfl rfl (ql tok rfl) rfl rfl rfl rfl rfl ?_ | (refine runL_op0 (sst tok rfl rfl rfl rfl rfl) ?_; rintro _ _ _ ⟨rfl, rfl, rfl⟩) | (refine runL_op (st_box rfl) rfl rfl rfl ?_; rintro _ _ _ ⟨_, rfl, rfl, rfl⟩) | (refine runL_op (st_alloc tok rfl) rfl rfl rfl ?_; rintro _ _ _ ⟨_, rfl, rfl, rfl⟩) | (refine runL_op (st_buildSlice tok rfl rfl rfl rfl rfl rfl rfl) rfl rfl rfl ?_; rintro _ _ _ ⟨_, rfl, rfl, rfl⟩))
  refine run_cond rfl (fun h1 => ?_) (fun h1 => ?_)
  · have hlt : i < r.tags.len := by simpa using h1
    obtain ⟨b, off, m, hma, hm, hc⟩ := SStr.at_ h.tags hlt
    have hv : r.tags.v = .slice (some ⟨b, off, none⟩) r.tags.len r.tags.cap := by rw [← hma]; rfl
    repeat (first | with_reducible (first | refine run_seq ?_ | refine run_region ?_ | refine runL_nil ?_ | refine run_skip ?_ | refine run_block ?_ | refine run_inBlock ?_) | refine run_exit rfl ?_ | refine runL_q (qt_pev tok rfl) rfl rfl rfl ?_ | refine runL_g rfl rfl (qt_pev tok rfl) rfl rfl rfl rfl rfl ?_ | refine runL_q (ql tok rfl) rfl rfl rfl ?_ | refine runL_g rfl rfl (ql tok rfl) rfl rfl rfl rfl rfl ?_ | (refine runL_op0 (sst tok rfl rfl rfl rfl rfl) ?_; rintro _ _ _ ⟨rfl, rfl, rfl⟩) | (refine runL_op (st_box rfl) rfl rfl rfl ?_; rintro _ _ _ ⟨_, rfl, rfl, rfl⟩) | (refine runL_op (st_alloc tok rfl) rfl rfl rfl ?_; rintro _ _ _ ⟨_, rfl, rfl, rfl⟩) | (refine runL_op (st_buildSlice tok rfl rfl rfl rfl rfl rfl rfl) rfl rfl rfl ?_; rintro _ _ _ ⟨_, rfl, rfl, rfl⟩))
    refine runL_as 44 (.slice (some ⟨b, off, none⟩) r.tags.len r.tags.cap) rfl hv ?_
    repeat (first | with_reducible (first | refine run_seq ?_ | refine run_region ?_ | refine runL_nil ?_ | refine run_skip ?_ | refine run_block ?_ | refine run_inBlock ?_) | refine run_exit rfl ?_ | refine runL_q (qt_pev tok rfl) rfl rfl rfl ?_ | refine runL_g rfl rfl (qt_pev tok rfl) rfl rfl rfl rfl rfl ?_ | refine runL_q (ql tok rfl) rfl rfl rfl ?_ | refine runL_g rfl rfl (ql tok rfl) rfl rfl rfl rfl rfl ?_ | (refine runL_op0 (sst tok rfl rfl rfl rfl rfl) ?_; rintro _ _ _ ⟨rfl, rfl, rfl⟩) | (refine runL_op (st_box rfl) rfl rfl rfl ?_; rintro _ _ _ ⟨_, rfl, rfl, rfl⟩) | (refine runL_op (st_alloc tok rfl) rfl rfl rfl ?_; rintro _ _ _ ⟨_, rfl, rfl, rfl⟩) | (refine runL_op (st_buildSlice tok rfl rfl rfl rfl rfl rfl rfl) rfl rfl rfl ?_; rintro _ _ _ ⟨_, rfl, rfl, rfl⟩) | refine runL_q (qt_indexN tok rfl rfl rfl rfl (fun _ => by omega)) rfl rfl rfl ?_ | refine runL_g rfl rfl (qt_indexN tok rfl rfl rfl rfl (fun _ => by omega)) rfl rfl rfl rfl rfl ?_ | refine runL_q (qt_ldM tok rfl hc rfl) rfl rfl rfl ?_ | refine runL_g rfl rfl (qt_ldM tok rfl hc rfl) rfl rfl rfl rfl rfl ?_ | refine runL_q (qt_ldM0 tok rfl hc rfl) rfl rfl rfl ?_ | refine runL_g rfl rfl (qt_ldM0 tok rfl hc rfl) rfl rfl rfl rfl rfl ?_)
    refine run_cond rfl (fun h2 => ?_) (fun h2 => ?_)
    · rw [any_true (fun m : ByteArray => decide ((m.size : Int) > 8192)) hm h2] at hC
      repeat (first | with_reducible (first | refine run_seq ?_ | refine run_region ?_ | refine runL_nil ?_ | refine run_skip ?_ | refine run_block ?_ | refine run_inBlock ?_) | refine run_exit rfl ?_ | refine runL_q (qt_pev tok rfl) rfl rfl rfl ?_ | refine runL_g rfl rfl (qt_pev tok rfl) rfl rfl rfl rfl rfl ?_ | refine runL_q (ql tok rfl) rfl rfl rfl ?_ | refine runL_g rfl rfl (ql tok rfl) rfl rfl rfl rfl rfl ?_ | (refine runL_op0 (sst tok rfl rfl rfl rfl rfl) ?_; rintro _ _ _ ⟨rfl, rfl, rfl⟩) | (refine runL_op (st_box rfl) rfl rfl rfl ?_; rintro _ _ _ ⟨_, rfl, rfl, rfl⟩) | (refine runL_op (st_alloc tok rfl) rfl rfl rfl ?_; rintro _ _ _ ⟨_, rfl, rfl, rfl⟩) | (refine runL_op (st_buildSlice tok rfl rfl rfl rfl rfl rfl rfl) rfl rfl rfl ?_; rintro _ _ _ ⟨_, rfl, rfl, rfl⟩))
      exact run_ret hC (rs := [.tmp 2]) rfl (resT rfl resN) (fun _ h => h.drop) ⟨rfl, rfl, rfl⟩
    · repeat (first | with_reducible (first | refine run_seq ?_ | refine run_region ?_ | refine runL_nil ?_ | refine run_skip ?_ | refine run_block ?_ | refine run_inBlock ?_) | refine run_exit rfl ?_ | refine runL_q (qt_pev tok rfl) rfl rfl rfl ?_ | refine runL_g rfl rfl (qt_pev tok rfl) rfl rfl rfl rfl rfl ?_ | refine runL_q (ql tok rfl) rfl rfl rfl ?_ | refine runL_g rfl rfl (ql tok rfl) rfl rfl rfl rfl rfl ?_ | (refine runL_op0 (sst tok rfl rfl rfl rfl rfl) ?_; rintro _ _ _ ⟨rfl, rfl, rfl⟩) | (refine runL_op (st_box rfl) rfl rfl rfl ?_; rintro _ _ _ ⟨_, rfl, rfl, rfl⟩) | (refine runL_op (st_alloc tok rfl) rfl rfl rfl ?_; rintro _ _ _ ⟨_, rfl, rfl, rfl⟩) | (refine runL_op (st_buildSlice tok rfl rfl rfl rfl rfl rfl rfl) rfl rfl rfl ?_; rintro _ _ _ ⟨_, rfl, rfl, rfl⟩))
      exact run_sub' (hnext _ _ _ ⟨hlt, rfl, rfl, by rw [any_snoc _ hm hpre2]; exact h2, rfl⟩) ⟨lk_succ rfl (by omega), rfl, trivial⟩
  have hge2 : i = r.tags.len := by simp at h1; omega
  rw [hge2, List.take_of_length_le (by omega)] at hpre2
  rw [hpre2] at hC
  repeat (first | with_reducible (first | refine run_seq ?_ | refine run_region ?_ | refine runL_nil ?_ | refine run_skip ?_ | refine run_block ?_ | refine run_inBlock ?_) | refine run_exit rfl ?_ | refine runL_q (qt_pev tok rfl) rfl rfl rfl ?_ | refine runL_g rfl rfl (qt_pev tok rfl) rfl rfl rfl rfl rfl ?_ | refine runL_q (ql tok rfl) rfl rfl rfl ?_ | refine runL_g rfl rfl (ql tok rfl) rfl rfl rfl rfl rfl ?_ | (refine runL_op0 (sst tok rfl rfl rfl rfl rfl) ?_; rintro _ _ _ ⟨rfl, rfl, rfl⟩) | (refine runL_op (st_box rfl) rfl rfl rfl ?_; rintro _ _ _ ⟨_, rfl, rfl, rfl⟩) | (refine runL_op (st_alloc tok rfl) rfl rfl rfl ?_; rintro _ _ _ ⟨_, rfl, rfl, rfl⟩) | (refine runL_op (st_buildSlice tok rfl rfl rfl rfl rfl rfl rfl) rfl rfl rfl ?_; rintro _ _ _ ⟨_, rfl, rfl, rfl⟩))
  exact run_ret hC (rs := [.tmp 2]) rfl (resT rfl resN) (fun _ h => h.drop) ⟨rfl, rfl, rfl⟩
/-- a copy of a list -/
theorem st_copyM {P : Program} {T : TT} {ro : Option Nat} {σ : Env} {δ : Den} {M : Mem} {L : HL} {d : Option Nat} {ty : TypeId} {pos : String} {aft : Array Edge} {g : Option (Nat × Bool)} {cur : Path} {x y : Operand} {t e sz by_ : Nat} {z : Value} {α : Type} {f : α → List Value} {xs : List α} {a : Option Addr} {n c : Nat}
    (hT : TOk P T) (hx : ev σ δ cur x = some (.slice none 0 0)) (hy : ev σ δ cur y = some (.slice a n c)) (ht : und T t = some (.slice e)) (hi : sizeT T e = some sz) (hz : zeroT T e = some z) (hzs : (cellsL z).length = sz) (hb : bytesT T e = some by_) (hby : Nat.ble 1 by_ = true)
    (hs : SlM M sz a n (xs.map f)) (hf : ∀ r, ∀ u ∈ f r, u.oneCell' = true) (hfl : ∀ l ∈ xs.map f, l.length = sz) (hroom : (2 * (0 + n) + 192) * by_ ≤ 281474976710656) (h63 : 0 + n < 9223372036854775808) :
    St P ro ⟨d, .call ⟨.builtin .append, #[x, y], #[t, t]⟩, ty, pos, aft, g⟩ σ δ cur M L (fun v M' L' => M.le M' ∧ L = L' ∧ ∃ a' c', v = .slice a' n c' ∧ SlM M' sz a' n (xs.map f)) := by
  refine St.frz (st_appendG (xs := []) (n := 0) (m := n) hT hx hy ht hi hz hzs hb hby (N := []) (List.Perm.refl _) (OS.nil _ _) (SrcG.ofSlM hs) (rFlatOne hf _) hroom h63) ?_
  rintro v M' L' w hw ⟨N', rfl, rfl, hO⟩
  rw [Nat.zero_add, List.nil_append] at hO
  obtain ⟨M2, a', c', h1, h2, h3, h4⟩ := hw.freezeOS hO hs.1 hfl
  exact ⟨M2, _, h2, h1, rfl, a', c', h3, h4⟩
set_option maxHeartbeats 4000000 in
theorem down_ok (M : Mem) (L : HL) (r : Rc) (hr : RcOk M r) : Tr Try.prog 9 [.agg ⟨rcC r⟩] M L (fun v M' L' => M.le M' ∧ L = L' ∧ ∃ r' : Rc, v = .agg ⟨rcC r'⟩ ∧ r'.re = r.re ∧ RcOk M' r') := by
  have h6 := hr.mem.2
  have h7 := hr.tags.2
  refine Tr.intro 12 Try.func9 rfl rfl Try.call9 rfl ?_
  intro C hC hro
  repeat (first | with_reducible (first | refine run_seq ?_ | refine run_region ?_ | refine runL_nil ?_ | refine run_skip ?_ | refine run_block ?_ | refine run_inBlock ?_) | refine run_exit rfl ?_ | refine runL_q (qt_pev tok rfl) rfl rfl rfl ?_ | refine runL_g rfl rfl (qt_pev tok rfl) rfl rfl rfl rfl rfl ?_ | refine runL_q (ql tok rfl) rfl rfl rfl ?_ | refine runL_g rfl rfl (ql tok rfl) rfl rfl rfl rfl rfl ?_ | (refine runL_op0 (sst tok rfl rfl rfl rfl rfl) ?_; rintro _ _ _ ⟨rfl, rfl, rfl⟩) | (refine runL_op (st_box rfl) rfl rfl rfl ?_; rintro _ _ _ ⟨_, rfl, rfl, rfl⟩) | (refine runL_op (st_alloc tok rfl) rfl rfl rfl ?_; rintro _ _ _ ⟨_, rfl, rfl, rfl⟩) | (refine runL_op (st_buildSlice tok rfl rfl rfl rfl rfl rfl rfl) rfl rfl rfl ?_; rintro _ _ _ ⟨_, rfl, rfl, rfl⟩) | refine runL_op (st_copyM (xs := r.mem.xs) (f := mbC) tok rfl rfl rfl rfl rfl rfl rfl rfl hr.mem.1 rMbOne (rMbAll _) (by omega) (by omega)) rfl rfl rfl ?_; rintro _ M1 _ ⟨hM1, rfl, a1, c1, rfl, hs1⟩)
  refine runL_op (st_copyM (xs := r.tags.xs) (f := stC) tok rfl rfl rfl rfl rfl rfl rfl rfl (hr.tags.le hM1).1 rStOne (rStAll _) (by omega) (by omega)) rfl rfl rfl ?_
  rintro _ M2 _ ⟨hM2, rfl, a2, c2, rfl, hs2⟩
  repeat (first | with_reducible (first | refine run_seq ?_ | refine run_region ?_ | refine runL_nil ?_ | refine run_skip ?_ | refine run_block ?_ | refine run_inBlock ?_) | refine run_exit rfl ?_ | refine runL_q (qt_pev tok rfl) rfl rfl rfl ?_ | refine runL_g rfl rfl (qt_pev tok rfl) rfl rfl rfl rfl rfl ?_ | refine runL_q (ql tok rfl) rfl rfl rfl ?_ | refine runL_g rfl rfl (ql tok rfl) rfl rfl rfl rfl rfl ?_ | (refine runL_op0 (sst tok rfl rfl rfl rfl rfl) ?_; rintro _ _ _ ⟨rfl, rfl, rfl⟩) | (refine runL_op (st_box rfl) rfl rfl rfl ?_; rintro _ _ _ ⟨_, rfl, rfl, rfl⟩) | (refine runL_op (st_alloc tok rfl) rfl rfl rfl ?_; rintro _ _ _ ⟨_, rfl, rfl, rfl⟩) | (refine runL_op (st_buildSlice tok rfl rfl rfl rfl rfl rfl rfl) rfl rfl rfl ?_; rintro _ _ _ ⟨_, rfl, rfl, rfl⟩))
  exact run_ret hC (rs := [.cell 2 27]) rfl (rl tok rfl resN) (fun _ h => h.drop.drop) ⟨Mem.le_trans hM1 hM2, rfl, { r with mem := ⟨a1, r.mem.len, c1, r.mem.xs⟩, tags := ⟨a2, r.tags.len, c2, r.tags.xs⟩ }, rfl, rfl, ⟨hs1.le hM2, h6⟩, ⟨hs2, h7⟩, hr.dig, hr.tag, hr.body⟩
end Go.Proofs.Ytpjklbkfhgfmnaa
namespace Go.Proofs.Ytpjklbkfhgfmnaa
open Go.Chi

/-! ### the chapter's examples -/
def al1 : Rc := ⟨1, 3, ⟨0, 0, 0⟩, false, 0, nilM, nilS, ⟨#[]⟩⟩
def al2 : Rc := ⟨4, 0, ⟨0, 1, 300⟩, true, 0, nilM, nilS, ⟨#[]⟩⟩
def al3 (b : Nat) : Rc := ⟨3, 0, ⟨0, 1, 1⟩, false, 0, nilM, ⟨some ⟨b, 0, none⟩, 1, 1, [⟨#[100, 0]⟩]⟩, ⟨#[]⟩⟩
theorem al1_re : recE al1 = 0 := by kernel_rfl
theorem al2_re : recE al2 = 0 := by kernel_rfl
theorem al3_re (b : Nat) : recE (al3 b) = 2 := by kernel_rfl
theorem numB_small {v : Nat} (h : v < 248) : numB v = bytesI [IntKind.u8.wrap (v : Int)] := by rw [numB, if_pos h]
theorem al1_B : recB al1.re = ⟨#[1, 3]⟩ := by
  have : recB al1.re = bytesI [1] ++ numB 3 := rfl
  rw [this, numB_small (by decide)]
  rfl
theorem dig300 : digN 300 = ⟨#[1, 44]⟩ := by
  rw [digN, if_neg (by decide), show 300 / 256 = 1 from rfl, digN, if_neg (by decide), show 1 / 256 = 0 from rfl, digN_zero]
  rfl
theorem al2_B : recB al2.re = ⟨#[4, 0, 1, 249, 1, 44, 1]⟩ := by
  have : recB al2.re = bytesI [4] ++ ((numB 0 ++ (numB 1 ++ numB 300)) ++ numB 1) := rfl
  rw [this, numB_small (v := 0) (by decide), numB_small (v := 1) (by decide), numB, if_neg (by decide), dig300]
  rfl
theorem al1_enc : encE al1 = (⟨#[1, 3]⟩, 0) := by
  rw [encE, if_neg (by rw [al1_re]; decide), al1_B, if_neg (by decide)]
theorem al2_enc : encE al2 = (⟨#[4, 0, 1, 249, 1, 44, 1]⟩, 0) := by
  rw [encE, if_neg (by rw [al2_re]; decide), al2_B, if_neg (by decide)]
theorem al_ok (M : Mem) (k e : Int) (t : Tx) (y : Bool) : RcOk M ⟨k, e, t, y, 0, nilM, nilS, ⟨#[]⟩⟩ := ⟨MbOk.nil M, StOk.nil M, (fun m hm => by cases hm), (fun m hm => by cases hm), by show (0 : Nat) < _; decide⟩
theorem al_lim (k e : Int) (t : Tx) (y : Bool) : RcLim ⟨k, e, t, y, 0, nilM, nilS, ⟨#[]⟩⟩ := ⟨(fun m hm => by cases hm), (fun m hm => by cases hm), by show (0 : Nat) < _; decide⟩
set_option maxRecDepth 10000 in
set_option maxHeartbeats 4000000 in
theorem dalive_ok (M : Mem) (L : HL) : TrQ Try.prog 8 [] M L (.bool true) := by
  refine Tr.intro 39 Try.func8 rfl rfl Try.call8 rfl ?_
  intro C hC hro
  repeat (first | with_reducible (first | refine run_seq ?_ | refine run_region ?_ | refine runL_nil ?_ | refine run_skip ?_ | refine run_block ?_ | refine run_inBlock ?_) | refine run_exit rfl ?_ | refine runL_q (qt_pev tok rfl) rfl rfl rfl ?_ | refine runL_g rfl rfl (qt_pev tok rfl) rfl rfl rfl rfl rfl ?_ | refine runL_q (ql tok rfl) rfl rfl rfl ?_ | refine runL_g rfl rfl (ql tok rfl) rfl rfl rfl rfl rfl ?_ | (refine runL_op0 (sst tok rfl rfl rfl rfl rfl) ?_; rintro _ _ _ ⟨rfl, rfl, rfl⟩) | (refine runL_op (st_box rfl) rfl rfl rfl ?_; rintro _ _ _ ⟨_, rfl, rfl, rfl⟩) | (refine runL_op (st_alloc tok rfl) rfl rfl rfl ?_; rintro _ _ _ ⟨_, rfl, rfl, rfl⟩) | (refine runL_op (st_buildSlice tok rfl rfl rfl rfl rfl rfl rfl) rfl rfl rfl ?_; rintro _ _ _ ⟨_, rfl, rfl, rfl⟩) | refine runL_q (qt_callF rfl (fun _ => encode_ok _ _ al1 (al_ok _ _ _ _ _) (al_lim _ _ _ _) (fun _ => by rw [al1_B]; decide))) rfl rfl rfl ?_ | refine runL_q (qt_callF rfl (fun _ => encode_ok _ _ al2 (al_ok _ _ _ _ _) (al_lim _ _ _ _) (fun _ => by rw [al2_B]; decide))) rfl rfl rfl ?_)
  rename_i b3
  refine runL_frz 0 rfl ?_
  intro M1 hM1 hb
  have hst : StOk M1 (al3 b3).tags := ⟨SlM.ofBlk (ls := [(⟨#[100, 0]⟩ : ByteArray)].map stC) hb rfl (rStAll _), by show (1 : Nat) < 1000000; decide⟩
  have htg : ∀ m ∈ (al3 b3).tags.xs, m.size < 4611686018427387904 := by
    intro m hm
    have e : m = ⟨#[100, 0]⟩ := by simpa [al3] using hm
    rw [e]
    decide
  have hok : RcOk M1 (al3 b3) := ⟨MbOk.nil _, hst, (fun m hm => by cases hm), htg, by show (0 : Nat) < _; decide⟩
  repeat (first | with_reducible (first | refine run_seq ?_ | refine run_region ?_ | refine runL_nil ?_ | refine run_skip ?_ | refine run_block ?_ | refine run_inBlock ?_) | refine run_exit rfl ?_ | refine runL_q (qt_pev tok rfl) rfl rfl rfl ?_ | refine runL_g rfl rfl (qt_pev tok rfl) rfl rfl rfl rfl rfl ?_ | refine runL_q (ql tok rfl) rfl rfl rfl ?_ | refine runL_g rfl rfl (ql tok rfl) rfl rfl rfl rfl rfl ?_ | (refine runL_op0 (sst tok rfl rfl rfl rfl rfl) ?_; rintro _ _ _ ⟨rfl, rfl, rfl⟩) | (refine runL_op (st_box rfl) rfl rfl rfl ?_; rintro _ _ _ ⟨_, rfl, rfl, rfl⟩) | (refine runL_op (st_alloc tok rfl) rfl rfl rfl ?_; rintro _ _ _ ⟨_, rfl, rfl, rfl⟩) | (refine runL_op (st_buildSlice tok rfl rfl rfl rfl rfl rfl rfl) rfl rfl rfl ?_; rintro _ _ _ ⟨_, rfl, rfl, rfl⟩) | refine runL_q (qt_callF rfl (fun _ => recCheck_ok _ _ (al3 b3) hok)) rfl rfl rfl ?_)
  refine run_ret hC (rs := [.tmp 0]) rfl (resT rfl resN) (fun _ h => h.of_le hM1) ⟨?_, rfl, rfl⟩
  show Value.bool (((((((encE al1).1.toList == (⟨#[1, 3]⟩ : ByteArray).toList) && ((encE al1).2 == 0)) && ((encE al2).1.toList == (⟨#[4, 0, 1, 249, 1, 44, 1]⟩ : ByteArray).toList)) && ((encE al2).2 == 0)) && (recE (al3 b3) == 2))) = _
  rw [al1_enc, al2_enc, al3_re]
  simp only [bytes_beq]
  rfl
end Go.Proofs.Ytpjklbkfhgfmnaa
namespace Go.Proofs.Ytpjklbkfhgfmnaa
open Go.Chi

/-! ### the plain law of chapter 15 -/
theorem recE_02 (r : Rc) : recE r = 0 ∨ recE r = 2 := by
  unfold recE
  repeat' split
  all_goals simp
theorem recE_same {M : Mem} {a b : Rc} (ha : RcOk M a) {M' : Mem} (hb : RcOk M' b) (h : a.re = b.re) : recE a = recE b := by
  have h1 := recE_re ha
  have h2 := recE_re hb
  rw [h] at h1
  rcases recE_02 a with e | e <;> rcases recE_02 b with e' | e'
  · rw [e, e']
  · have := h2.2 (h1.1 e); omega
  · have := h1.2 (h2.1 e'); omega
  · rw [e, e']
theorem encE_same {M : Mem} {a b : Rc} (ha : RcOk M a) {M' : Mem} (hb : RcOk M' b) (h : a.re = b.re) : encE a = encE b := by
  unfold encE
  rw [recE_same ha hb h, h]
theorem mbB_lim : ∀ {l : List Mb}, (∀ m ∈ l, (0 ≤ m.org ∧ m.org ≤ 7) ∧ m.digest.size ≤ 8192) → (mbB l).size ≤ l.length * 8300
  | [], _ => Nat.le_refl _
  | x :: l, h => by
    have h1 := mbB_lim fun m hm => h m (List.mem_cons_of_mem _ hm)
    obtain ⟨h2, h3⟩ := h x List.mem_cons_self
    have h4 := textB_sz (t := x.digest) (by omega)
    have h5 := nB_size (n := x.org) (by omega)
    show (nB x.org ++ (textB x.digest ++ mbB l)).size ≤ _
    rw [app_size, app_size, List.length_cons]
    omega
theorem tsB_lim : ∀ {l : List ByteArray}, (∀ t ∈ l, t.size ≤ 8192) → (tsB l).size ≤ l.length * 8300
  | [], _ => Nat.le_refl _
  | x :: l, h => by
    have h1 := tsB_lim fun m hm => h m (List.mem_cons_of_mem _ hm)
    have h3 := h x List.mem_cons_self
    have h4 := textB_sz (t := x) (by omega)
    rw [tsB, app_size, List.length_cons]
    omega
theorem yB_size (y : Bool) : (yB y).size = 1 := by
  cases y
  · rw [yB_false]; rfl
  · rw [yB_true]; rfl
theorem txB_size {t : Tx} (h : mayTx t = true) : (txB t).size ≤ 27 := by
  obtain ⟨h1, h2, h3⟩ := mayTx_r h
  have z1 := nB_size (n := t.coord) (by omega)
  have z2 := nB_size (n := t.epoch) (by omega)
  have z3 := nB_size (n := t.seq) (by omega)
  rw [txB, app_size, app_size]
  omega
theorem nB_org {a : Int} (h : orgW a = true) : (nB a).size ≤ 9 := nB_size (by simp [orgW] at h; omega)
theorem small_of {r : Re} (h : RecP r) (hs : Short r) : (recB r).size < 1000000 := by
  rw [recB_size]
  obtain ⟨s1, s2, s3⟩ := hs
  cases h with
  | epoch ep h1 h2 =>
    have e : bodyB ⟨1, ep, ⟨0, 0, 0⟩, false, 0, [], [], bz⟩ = nB ep := rfl
    have := nB_size (n := ep) (by omega)
    rw [e]
    omega
  | vote t y a m b h1 h2 h3 h4 =>
    have e : bodyB ⟨2, 0, t, y, a, m, [], b⟩ = txB t ++ (yB y ++ (nB a ++ (msB m ++ textB b))) := rfl
    obtain ⟨m1, m2⟩ := mayMb_r h3
    have q1 := txB_size h1
    have q2 := yB_size y
    have q3 := nB_org h2
    have q4 := mbB_lim (l := m) fun x hx => ⟨m2 x hx, s1 x hx⟩
    have q5 := textB_sz (t := b) (by simp only at s3; omega)
    have q6 := nB_size (n := (m.length : Int)) (by omega)
    simp only at s3
    rw [e, app_size, app_size, app_size, app_size, msB, app_size]
    omega
  | commit t a m g h1 h2 h3 h4 h5 =>
    have e : bodyB ⟨3, 0, t, true, a, m, g, bz⟩ = txB t ++ (yB true ++ (nB a ++ (msB m ++ tsB g))) := rfl
    obtain ⟨m1, m2⟩ := mayMb_r h3
    have q1 := txB_size h1
    have q2 := yB_size true
    have q3 := nB_org h2
    have q4 := mbB_lim (l := m) fun x hx => ⟨m2 x hx, s1 x hx⟩
    have q5 := tsB_lim (l := g) s2
    have q6 := nB_size (n := (m.length : Int)) (by omega)
    rw [e, app_size, app_size, app_size, app_size, msB, app_size]
    omega
  | abort t h1 =>
    have e : bodyB ⟨3, 0, t, false, 0, [], [], bz⟩ = txB t ++ (yB false ++ bz) := rfl
    have q1 := txB_size h1
    have q2 := yB_size false
    have q3 : bz.size = 0 := rfl
    rw [e, app_size, app_size]
    omega
  | learn t y h1 =>
    have e : bodyB ⟨4, 0, t, y, 0, [], [], bz⟩ = txB t ++ yB y := rfl
    have q1 := txB_size h1
    have q2 := yB_size y
    rw [e, app_size]
    omega
theorem enc_small {M : Mem} {r : Rc} (hr : RcOk M r) (hs : Short r.re) : recE r = 0 → (recB r.re).size < 1000000 := fun h => small_of ((recE_re hr).1 h) hs
theorem lim_of {r : Rc} (hs : Short r.re) : RcLim r := ⟨fun m hm => by have := hs.1 m hm; omega, fun t ht => by have := hs.2.1 t ht; omega, by have := hs.2.2; show r.body.size < _; have e : r.re.body = r.body := rfl; rw [e] at this; omega⟩
/-- what is encoded -/
theorem enc_ok {M : Mem} {r : Rc} (hr : RcOk M r) (h : (encE r).2 = 0) : Dec (encE r).1 r.re := by
  unfold encE at h ⊢
  split at h
  · rename_i hx; exact absurd h hx
  · rename_i hx
    rw [if_neg hx]
    split at h
    · cases h
    · rename_i hy
      rw [if_neg hy]
      exact ⟨(recE_re hr).1 (by simpa using hx), rfl, by show (recB r.re).size ≤ 8192; omega⟩
theorem dec_enc {M : Mem} {r : Rc} {s : ByteArray} (hr : RcOk M r) (h : Dec s r.re) : recE r = 0 ∧ encE r = (s, 0) := by
  have h1 := (recE_re hr).2 h.1
  refine ⟨h1, ?_⟩
  have h2 : ¬ 8192 < (recB r.re).size := by rw [h.2.1]; have := h.2.2; omega
  rw [encE, if_neg (by simp [h1]), if_neg h2, h.2.1]
theorem begB_iff (s t : ByteArray) : begB s t = true ↔ ∃ x, s = t ++ x := by
  unfold begB
  rw [bytes_beq, Bool.and_eq_true, decide_eq_true_eq, decide_eq_true_eq]
  constructor
  · rintro ⟨h1, h2⟩
    have := ext_split s (n := t.size) (by omega)
    exact ⟨s.extract t.size s.size, by rw [h2] at this; exact this⟩
  · rintro ⟨x, rfl⟩
    exact ⟨by rw [app_size]; omega, ext_left t x⟩
theorem begins_law {a b : Re} (ha : RecP a) (hb : RecP b) (hsa : (recB a).size ≤ 8192) (hsb : (recB b).size ≤ 8192) : begB (recB a) (recB b) = true ↔ a = b := by
  rw [begB_iff]
  constructor
  · rintro ⟨x, hx⟩
    exact (rec_prefix (x := bz) ha hb hsa hsb (by rw [app_bz]; exact hx)).1
  · rintro rfl
    exact ⟨bz, (app_bz _).symm⟩
theorem more_law {a : Re} {more : ByteArray} (ha : RecP a) (hsa : (recB a).size ≤ 8192) : (∃ z, Dec (recB a ++ more) z) ↔ more.size = 0 := by
  constructor
  · rintro ⟨z, h1, h2, h3⟩
    have := (rec_prefix (x := bz) (y := more) h1 ha (by rw [h2]; exact h3) hsa (by rw [app_bz]; exact h2)).2
    rw [← this]; rfl
  · intro h
    rw [size_zero h, app_bz]
    exact ⟨a, ha, rfl, hsa⟩
theorem sameRc_true {a b : Rc} (h : a.re = b.re) : sameRc a b = true := (sameRc_iff a b).2 h
end Go.Proofs.Ytpjklbkfhgfmnaa
namespace Go.Proofs.Ytpjklbkfhgfmnaa
open Go.Chi

set_option maxRecDepth 10000 in
set_option maxHeartbeats 16000000 in
theorem recordBack_ok (M : Mem) (L : HL) (r : Rc) (hi : RcIn M r) (s : ByteArray) : Tr Try.prog 5 [.agg ⟨rcC r⟩, .string s] M L (fun v M' L' => v = .bool true ∧ M.le M' ∧ L = L') := by
  refine Tr.intro 78 Try.func5 rfl rfl Try.call5 rfl ?_
  intro C hC hro
  repeat (first | with_reducible (first | refine run_seq ?_ | refine run_region ?_ | refine runL_nil ?_ | refine run_skip ?_ | refine run_block ?_ | refine run_inBlock ?_) | refine run_exit rfl ?_ | refine runL_q (qt_pev tok rfl) rfl rfl rfl ?_ | refine runL_g rfl rfl (qt_pev tok rfl) rfl rfl rfl rfl rfl ?_ | refine runL_q (ql tok rfl) rfl rfl rfl ?_ | refine runL_g rfl rfl (ql tok rfl) rfl rfl rfl rfl rfl ?_ | (refine runL_op0 (sst tok rfl rfl rfl rfl rfl) ?_; rintro _ _ _ ⟨rfl, rfl, rfl⟩) | (refine runL_op (st_box rfl) rfl rfl rfl ?_; rintro _ _ _ ⟨_, rfl, rfl, rfl⟩) | (refine runL_op (st_alloc tok rfl) rfl rfl rfl ?_; rintro _ _ _ ⟨_, rfl, rfl, rfl⟩) | (refine runL_op (st_buildSlice tok rfl rfl rfl rfl rfl rfl rfl) rfl rfl rfl ?_; rintro _ _ _ ⟨_, rfl, rfl, rfl⟩) | refine runL_q (qt_callF rfl (fun _ => dlong_ok _ _ r hi)) rfl rfl rfl ?_)
  rename_i b2
  refine run_cond rfl (fun h => ?_) (fun h => ?_)
  · repeat (first | with_reducible (first | refine run_seq ?_ | refine run_region ?_ | refine runL_nil ?_ | refine run_skip ?_ | refine run_block ?_ | refine run_inBlock ?_) | refine run_exit rfl ?_ | refine runL_q (qt_pev tok rfl) rfl rfl rfl ?_ | refine runL_g rfl rfl (qt_pev tok rfl) rfl rfl rfl rfl rfl ?_ | refine runL_q (ql tok rfl) rfl rfl rfl ?_ | refine runL_g rfl rfl (ql tok rfl) rfl rfl rfl rfl rfl ?_ | (refine runL_op0 (sst tok rfl rfl rfl rfl rfl) ?_; rintro _ _ _ ⟨rfl, rfl, rfl⟩) | (refine runL_op (st_box rfl) rfl rfl rfl ?_; rintro _ _ _ ⟨_, rfl, rfl, rfl⟩) | (refine runL_op (st_alloc tok rfl) rfl rfl rfl ?_; rintro _ _ _ ⟨_, rfl, rfl, rfl⟩) | (refine runL_op (st_buildSlice tok rfl rfl rfl rfl rfl rfl rfl) rfl rfl rfl ?_; rintro _ _ _ ⟨_, rfl, rfl, rfl⟩) | refine runL_q (qt_callF rfl (fun _ => dalive_ok _ _)) rfl rfl rfl ?_)
    exact run_ret hC (rs := [.tmp 4]) rfl (resT rfl resN) (fun _ h => h.drop) ⟨rfl, Mem.le_refl _, rfl⟩
  have hlong : longR r = false ∧ s.size ≤ 16384 := by
    have h' : (longR r || decide ((s.size : Int) > 16384)) = false := h
    simp only [Bool.or_eq_false_iff, decide_eq_false_iff_not] at h'
    exact ⟨h'.1, by omega⟩
  have hs : s.size < 4611686018427387904 := by omega
  obtain ⟨hr, hl, hsh, _, _⟩ := longR_m hi hlong.1
  refine run_skip ?_
  repeat (first | with_reducible (first | refine run_seq ?_ | refine run_region ?_ | refine runL_nil ?_ | refine run_skip ?_ | refine run_block ?_ | refine run_inBlock ?_) | refine run_exit rfl ?_ | refine runL_q (qt_pev tok rfl) rfl rfl rfl ?_ | refine runL_g rfl rfl (qt_pev tok rfl) rfl rfl rfl rfl rfl ?_ | refine runL_q (ql tok rfl) rfl rfl rfl ?_ | refine runL_g rfl rfl (ql tok rfl) rfl rfl rfl rfl rfl ?_ | (refine runL_op0 (sst tok rfl rfl rfl rfl rfl) ?_; rintro _ _ _ ⟨rfl, rfl, rfl⟩) | (refine runL_op (st_box rfl) rfl rfl rfl ?_; rintro _ _ _ ⟨_, rfl, rfl, rfl⟩) | (refine runL_op (st_alloc tok rfl) rfl rfl rfl ?_; rintro _ _ _ ⟨_, rfl, rfl, rfl⟩) | (refine runL_op (st_buildSlice tok rfl rfl rfl rfl rfl rfl rfl) rfl rfl rfl ?_; rintro _ _ _ ⟨_, rfl, rfl, rfl⟩) | refine runL_q (qt_callF rfl (fun _ => encode_ok _ _ r hr hl (enc_small hr hsh))) rfl rfl rfl ?_)
  refine run_cut (fun σ' M' L' => ∃ N : HL, σ' = [(1, .string s)] ∧ M.le M' ∧ L' = N ++ L) ?_ ?_
  rotate_left
  · intro hnext
    refine run_cond rfl (fun h => ?_) (fun h => ?_)
    rotate_left
    · refine run_skip ?_
      exact run_sub' (hnext _ _ _ ⟨[_], rfl, Mem.le_refl _, rfl⟩) ⟨rfl, trivial⟩
    have h0 : (encE r).2 = 0 := by simpa using h
    have hd0 := enc_ok hr h0
    have hz0 : (encE r).1.size < 4611686018427387904 := by have := hd0.2.2; omega
    repeat (first | with_reducible (first | refine run_seq ?_ | refine run_region ?_ | refine runL_nil ?_ | refine run_skip ?_ | refine run_block ?_ | refine run_inBlock ?_) | refine run_exit rfl ?_ | refine runL_q (qt_pev tok rfl) rfl rfl rfl ?_ | refine runL_g rfl rfl (qt_pev tok rfl) rfl rfl rfl rfl rfl ?_ | refine runL_q (ql tok rfl) rfl rfl rfl ?_ | refine runL_g rfl rfl (ql tok rfl) rfl rfl rfl rfl rfl ?_ | (refine runL_op0 (sst tok rfl rfl rfl rfl rfl) ?_; rintro _ _ _ ⟨rfl, rfl, rfl⟩) | (refine runL_op (st_box rfl) rfl rfl rfl ?_; rintro _ _ _ ⟨_, rfl, rfl, rfl⟩) | (refine runL_op (st_alloc tok rfl) rfl rfl rfl ?_; rintro _ _ _ ⟨_, rfl, rfl, rfl⟩) | (refine runL_op (st_buildSlice tok rfl rfl rfl rfl rfl rfl rfl) rfl rfl rfl ?_; rintro _ _ _ ⟨_, rfl, rfl, rfl⟩) | refine runL_op (st_callF rfl (fun _ => decode_ok _ _ (encE r).1 hz0)) rfl rfl rfl ?_; rintro _ M1 _ ⟨hM1, rfl, q, e, rfl, hq, hsq, hdq⟩)
    have hr1 := hr.le hM1
    have hdq' : e = 0 ∧ q.re = r.re := by
      rcases hdq with ⟨h1, h2⟩ | ⟨h1, h2, h3⟩
      · exact ⟨h1, h2.uniq hd0⟩
      · exact absurd hd0 (h3 _)
    obtain ⟨rfl, hqr⟩ := hdq'
    have hsame := sameRc_true hqr
    repeat (first | with_reducible (first | refine run_seq ?_ | refine run_region ?_ | refine runL_nil ?_ | refine run_skip ?_ | refine run_block ?_ | refine run_inBlock ?_) | refine run_exit rfl ?_ | refine runL_q (qt_pev tok rfl) rfl rfl rfl ?_ | refine runL_gK rfl rfl (qt_pev tok rfl) rfl rfl rfl ?_ | refine runL_gF rfl rfl rfl rfl rfl ?_ | refine runL_g rfl rfl (qt_pev tok rfl) rfl rfl rfl rfl rfl ?_ | refine runL_q (ql tok rfl) rfl rfl rfl ?_ | refine runL_gK rfl rfl (ql tok rfl) rfl rfl rfl ?_ | refine runL_gF rfl rfl rfl rfl rfl ?_ | refine runL_g rfl rfl (ql tok rfl) rfl rfl rfl rfl rfl ?_ | (refine runL_op0 (sst tok rfl rfl rfl rfl rfl) ?_; rintro _ _ _ ⟨rfl, rfl, rfl⟩) | (refine runL_op (st_box rfl) rfl rfl rfl ?_; rintro _ _ _ ⟨_, rfl, rfl, rfl⟩) | (refine runL_op (st_alloc tok rfl) rfl rfl rfl ?_; rintro _ _ _ ⟨_, rfl, rfl, rfl⟩) | (refine runL_op (st_buildSlice tok rfl rfl rfl rfl rfl rfl rfl) rfl rfl rfl ?_; rintro _ _ _ ⟨_, rfl, rfl, rfl⟩) | refine runL_gK rfl rfl (qt_callF rfl (fun _ => dsame_ok _ _ q r hq.mem hr1.mem hq.tags hr1.tags)) rfl rfl rfl ?_)
    refine run_cond rfl (fun h => ?_) (fun h => ?_)
    · have h' : (!sameRc q r) = true := h
      rw [hsame] at h'; cases h'
    · refine run_skip ?_
      exact run_sub' (hnext _ _ _ ⟨[_, _], rfl, hM1, rfl⟩) ⟨rfl, trivial⟩
  rintro _ M1 _ ⟨N, rfl, hM1, rfl⟩
  refine run_mem (M' := M1) (L' := L) (fun _ h => h.dropAll) ?_
  repeat (first | with_reducible (first | refine run_seq ?_ | refine run_region ?_ | refine runL_nil ?_ | refine run_skip ?_ | refine run_block ?_ | refine run_inBlock ?_) | refine run_exit rfl ?_ | refine runL_q (qt_pev tok rfl) rfl rfl rfl ?_ | refine runL_g rfl rfl (qt_pev tok rfl) rfl rfl rfl rfl rfl ?_ | refine runL_q (ql tok rfl) rfl rfl rfl ?_ | refine runL_g rfl rfl (ql tok rfl) rfl rfl rfl rfl rfl ?_ | (refine runL_op0 (sst tok rfl rfl rfl rfl rfl) ?_; rintro _ _ _ ⟨rfl, rfl, rfl⟩) | (refine runL_op (st_box rfl) rfl rfl rfl ?_; rintro _ _ _ ⟨_, rfl, rfl, rfl⟩) | (refine runL_op (st_alloc tok rfl) rfl rfl rfl ?_; rintro _ _ _ ⟨_, rfl, rfl, rfl⟩) | (refine runL_op (st_buildSlice tok rfl rfl rfl rfl rfl rfl rfl) rfl rfl rfl ?_; rintro _ _ _ ⟨_, rfl, rfl, rfl⟩) | refine runL_op (st_callF rfl (fun _ => decode_ok _ _ s hs)) rfl rfl rfl ?_; rintro _ M2 _ ⟨hM2, rfl, q, e, rfl, hq, hsq, hdq⟩)
  have hle := Mem.le_trans hM1 hM2
  refine run_cond rfl (fun h => ?_) (fun h => ?_)
  · have h1 : e ≠ 0 := by simpa using h
    obtain ⟨rfl, rfl, _⟩ := hdq.resolve_left (fun x => h1 x.1)
    have h0 := rc0_ok M2
    have hsame : sameRc rc0 rc0 = true := sameRc_true rfl
    repeat (first | with_reducible (first | refine run_seq ?_ | refine run_region ?_ | refine runL_nil ?_ | refine run_skip ?_ | refine run_block ?_ | refine run_inBlock ?_) | refine run_exit rfl ?_ | refine runL_q (qt_pev tok rfl) rfl rfl rfl ?_ | refine runL_gK rfl rfl (qt_pev tok rfl) rfl rfl rfl ?_ | refine runL_gF rfl rfl rfl rfl rfl ?_ | refine runL_g rfl rfl (qt_pev tok rfl) rfl rfl rfl rfl rfl ?_ | refine runL_q (ql tok rfl) rfl rfl rfl ?_ | refine runL_gK rfl rfl (ql tok rfl) rfl rfl rfl ?_ | refine runL_gF rfl rfl rfl rfl rfl ?_ | refine runL_g rfl rfl (ql tok rfl) rfl rfl rfl rfl rfl ?_ | (refine runL_op0 (sst tok rfl rfl rfl rfl rfl) ?_; rintro _ _ _ ⟨rfl, rfl, rfl⟩) | (refine runL_op (st_box rfl) rfl rfl rfl ?_; rintro _ _ _ ⟨_, rfl, rfl, rfl⟩) | (refine runL_op (st_alloc tok rfl) rfl rfl rfl ?_; rintro _ _ _ ⟨_, rfl, rfl, rfl⟩) | (refine runL_op (st_buildSlice tok rfl rfl rfl rfl rfl rfl rfl) rfl rfl rfl ?_; rintro _ _ _ ⟨_, rfl, rfl, rfl⟩) | refine runL_gK rfl rfl (qt_callF rfl (fun _ => dsame_ok _ _ rc0 rc0 h0.mem h0.mem h0.tags h0.tags)) rfl rfl rfl ?_ | refine runL_g rfl rfl (qt_callF rfl (fun _ => dalive_ok _ _)) rfl rfl rfl rfl rfl ?_)
    refine run_ret hC (rs := [.tmp 4]) rfl (resT rfl resN) (fun _ h => h.drop) ⟨?_, hle, rfl⟩
    show Value.bool (sameRc rc0 rc0 && true) = _
    rw [hsame]; rfl
  · have h1 : e = 0 := by simpa using h
    subst h1
    obtain ⟨_, hd⟩ := hdq.resolve_right (fun x => by cases x.1)
    obtain ⟨h2, h3⟩ := dec_enc hq hd
    refine run_skip ?_
    repeat (first | with_reducible (first | refine run_seq ?_ | refine run_region ?_ | refine runL_nil ?_ | refine run_skip ?_ | refine run_block ?_ | refine run_inBlock ?_) | refine run_exit rfl ?_ | refine runL_q (qt_pev tok rfl) rfl rfl rfl ?_ | refine runL_g rfl rfl (qt_pev tok rfl) rfl rfl rfl rfl rfl ?_ | refine runL_q (ql tok rfl) rfl rfl rfl ?_ | refine runL_g rfl rfl (ql tok rfl) rfl rfl rfl rfl rfl ?_ | (refine runL_op0 (sst tok rfl rfl rfl rfl rfl) ?_; rintro _ _ _ ⟨rfl, rfl, rfl⟩) | (refine runL_op (st_box rfl) rfl rfl rfl ?_; rintro _ _ _ ⟨_, rfl, rfl, rfl⟩) | (refine runL_op (st_alloc tok rfl) rfl rfl rfl ?_; rintro _ _ _ ⟨_, rfl, rfl, rfl⟩) | (refine runL_op (st_buildSlice tok rfl rfl rfl rfl rfl rfl rfl) rfl rfl rfl ?_; rintro _ _ _ ⟨_, rfl, rfl, rfl⟩) | refine runL_q (qt_callF rfl (fun _ => encode_ok _ _ q hq (lim_of hsq) (enc_small hq hsq))) rfl rfl rfl ?_ | refine runL_q (qt_callF rfl (fun _ => recCheck_ok _ _ q hq)) rfl rfl rfl ?_ | refine runL_g rfl rfl (qt_callF rfl (fun _ => dalive_ok _ _)) rfl rfl rfl rfl rfl ?_)
    refine run_ret hC (rs := [.tmp 4]) rfl (resT rfl resN) (fun _ h => h.drop) ⟨?_, hle, rfl⟩
    show Value.bool ((((recE q == 0) && ((encE q).2 == 0)) && ((encE q).1.toList == s.toList)) && true) = _
    rw [h2, h3, bytes_beq]
    simp
set_option maxRecDepth 10000 in
set_option maxHeartbeats 16000000 in
theorem recordApart_ok (M : Mem) (L : HL) (a b : Rc) (ha : RcIn M a) (hb : RcIn M b) (more : ByteArray) : Tr Try.prog 6 [.agg ⟨rcC a⟩, .agg ⟨rcC b⟩, .string more] M L (fun v M' L' => v = .bool true ∧ M.le M' ∧ L = L') := by
  refine Tr.intro 64 Try.func6 rfl rfl Try.call6 rfl ?_
  intro C hC hro
  repeat (first | with_reducible (first | refine run_seq ?_ | refine run_region ?_ | refine runL_nil ?_ | refine run_skip ?_ | refine run_block ?_ | refine run_inBlock ?_) | refine run_exit rfl ?_ | refine runL_q (qt_pev tok rfl) rfl rfl rfl ?_ | refine runL_g rfl rfl (qt_pev tok rfl) rfl rfl rfl rfl rfl ?_ | refine runL_q (ql tok rfl) rfl rfl rfl ?_ | refine runL_g rfl rfl (ql tok rfl) rfl rfl rfl rfl rfl ?_ | (refine runL_op0 (sst tok rfl rfl rfl rfl rfl) ?_; rintro _ _ _ ⟨rfl, rfl, rfl⟩) | (refine runL_op (st_box rfl) rfl rfl rfl ?_; rintro _ _ _ ⟨_, rfl, rfl, rfl⟩) | (refine runL_op (st_alloc tok rfl) rfl rfl rfl ?_; rintro _ _ _ ⟨_, rfl, rfl, rfl⟩) | (refine runL_op (st_buildSlice tok rfl rfl rfl rfl rfl rfl rfl) rfl rfl rfl ?_; rintro _ _ _ ⟨_, rfl, rfl, rfl⟩) | refine runL_q (qt_callF rfl (fun _ => dlong_ok _ _ a ha)) rfl rfl rfl ?_ | refine runL_g rfl rfl (qt_callF rfl (fun _ => dlong_ok _ _ b hb)) rfl rfl rfl rfl rfl ?_)
  refine run_cond rfl (fun h => ?_) (fun h => ?_)
  · repeat (first | with_reducible (first | refine run_seq ?_ | refine run_region ?_ | refine runL_nil ?_ | refine run_skip ?_ | refine run_block ?_ | refine run_inBlock ?_) | refine run_exit rfl ?_ | refine runL_q (qt_pev tok rfl) rfl rfl rfl ?_ | refine runL_g rfl rfl (qt_pev tok rfl) rfl rfl rfl rfl rfl ?_ | refine runL_q (ql tok rfl) rfl rfl rfl ?_ | refine runL_g rfl rfl (ql tok rfl) rfl rfl rfl rfl rfl ?_ | (refine runL_op0 (sst tok rfl rfl rfl rfl rfl) ?_; rintro _ _ _ ⟨rfl, rfl, rfl⟩) | (refine runL_op (st_box rfl) rfl rfl rfl ?_; rintro _ _ _ ⟨_, rfl, rfl, rfl⟩) | (refine runL_op (st_alloc tok rfl) rfl rfl rfl ?_; rintro _ _ _ ⟨_, rfl, rfl, rfl⟩) | (refine runL_op (st_buildSlice tok rfl rfl rfl rfl rfl rfl rfl) rfl rfl rfl ?_; rintro _ _ _ ⟨_, rfl, rfl, rfl⟩) | refine runL_q (qt_callF rfl (fun _ => dalive_ok _ _)) rfl rfl rfl ?_)
    exact run_ret hC (rs := [.tmp 6]) rfl (resT rfl resN) (fun _ h => h.drop.drop) ⟨rfl, Mem.le_refl _, rfl⟩
  have hlong : (longR a = false ∧ longR b = false) ∧ more.size ≤ 1024 := by
    have h' : ((longR a || longR b) || decide ((more.size : Int) > 1024)) = false := h
    simp only [Bool.or_eq_false_iff, decide_eq_false_iff_not] at h'
    exact ⟨h'.1, by omega⟩
  obtain ⟨oa, la, sa, _, _⟩ := longR_m ha hlong.1.1
  obtain ⟨ob, lb, sb, _, _⟩ := longR_m hb hlong.1.2
  refine run_skip ?_
  repeat (first | with_reducible (first | refine run_seq ?_ | refine run_region ?_ | refine runL_nil ?_ | refine run_skip ?_ | refine run_block ?_ | refine run_inBlock ?_) | refine run_exit rfl ?_ | refine runL_q (qt_pev tok rfl) rfl rfl rfl ?_ | refine runL_g rfl rfl (qt_pev tok rfl) rfl rfl rfl rfl rfl ?_ | refine runL_q (ql tok rfl) rfl rfl rfl ?_ | refine runL_g rfl rfl (ql tok rfl) rfl rfl rfl rfl rfl ?_ | (refine runL_op0 (sst tok rfl rfl rfl rfl rfl) ?_; rintro _ _ _ ⟨rfl, rfl, rfl⟩) | (refine runL_op (st_box rfl) rfl rfl rfl ?_; rintro _ _ _ ⟨_, rfl, rfl, rfl⟩) | (refine runL_op (st_alloc tok rfl) rfl rfl rfl ?_; rintro _ _ _ ⟨_, rfl, rfl, rfl⟩) | (refine runL_op (st_buildSlice tok rfl rfl rfl rfl rfl rfl rfl) rfl rfl rfl ?_; rintro _ _ _ ⟨_, rfl, rfl, rfl⟩) | refine runL_q (qt_callF rfl (fun _ => encode_ok _ _ a oa la (enc_small oa sa))) rfl rfl rfl ?_ | refine runL_q (qt_callF rfl (fun _ => encode_ok _ _ b ob lb (enc_small ob sb))) rfl rfl rfl ?_)
  refine run_cond rfl (fun h => ?_) (fun h => ?_)
  · repeat (first | with_reducible (first | refine run_seq ?_ | refine run_region ?_ | refine runL_nil ?_ | refine run_skip ?_ | refine run_block ?_ | refine run_inBlock ?_) | refine run_exit rfl ?_ | refine runL_q (qt_pev tok rfl) rfl rfl rfl ?_ | refine runL_g rfl rfl (qt_pev tok rfl) rfl rfl rfl rfl rfl ?_ | refine runL_q (ql tok rfl) rfl rfl rfl ?_ | refine runL_g rfl rfl (ql tok rfl) rfl rfl rfl rfl rfl ?_ | (refine runL_op0 (sst tok rfl rfl rfl rfl rfl) ?_; rintro _ _ _ ⟨rfl, rfl, rfl⟩) | (refine runL_op (st_box rfl) rfl rfl rfl ?_; rintro _ _ _ ⟨_, rfl, rfl, rfl⟩) | (refine runL_op (st_alloc tok rfl) rfl rfl rfl ?_; rintro _ _ _ ⟨_, rfl, rfl, rfl⟩) | (refine runL_op (st_buildSlice tok rfl rfl rfl rfl rfl rfl rfl) rfl rfl rfl ?_; rintro _ _ _ ⟨_, rfl, rfl, rfl⟩) | refine runL_q (qt_callF rfl (fun _ => dalive_ok _ _)) rfl rfl rfl ?_)
    exact run_ret hC (rs := [.tmp 6]) rfl (resT rfl resN) (fun _ h => h.drop.drop) ⟨rfl, Mem.le_refl _, rfl⟩
  have h0 : (encE a).2 = 0 ∧ (encE b).2 = 0 := by
    have h' : ((encE a).2 != 0 || (encE b).2 != 0) = false := h
    simpa using h'
  have da := enc_ok oa h0.1
  have db := enc_ok ob h0.2
  have hbeg : begB (encE a).1 (encE b).1 = sameRc a b := by
    rw [← da.2.1, ← db.2.1, Bool.eq_iff_iff, sameRc_iff]
    exact begins_law da.1 db.1 (by rw [da.2.1]; exact da.2.2) (by rw [db.2.1]; exact db.2.2)
  have hmore := more_law (more := more) da.1 (by rw [da.2.1]; exact da.2.2)
  rw [da.2.1] at hmore
  have hz := da.2.2
  have hz1 : (encE a).1.size + more.size < 4611686018427387904 := by omega
  have hz2 : ((encE a).1 ++ more).size < 4611686018427387904 := by rw [app_size]; omega
  refine run_skip ?_
  repeat (first | with_reducible (first | refine run_seq ?_ | refine run_region ?_ | refine runL_nil ?_ | refine run_skip ?_ | refine run_block ?_ | refine run_inBlock ?_) | refine run_exit rfl ?_ | refine runL_q (qt_pev tok rfl) rfl rfl rfl ?_ | refine runL_g rfl rfl (qt_pev tok rfl) rfl rfl rfl rfl rfl ?_ | refine runL_q (ql tok rfl) rfl rfl rfl ?_ | refine runL_g rfl rfl (ql tok rfl) rfl rfl rfl rfl rfl ?_ | (refine runL_op0 (sst tok rfl rfl rfl rfl rfl) ?_; rintro _ _ _ ⟨rfl, rfl, rfl⟩) | (refine runL_op (st_box rfl) rfl rfl rfl ?_; rintro _ _ _ ⟨_, rfl, rfl, rfl⟩) | (refine runL_op (st_alloc tok rfl) rfl rfl rfl ?_; rintro _ _ _ ⟨_, rfl, rfl, rfl⟩) | (refine runL_op (st_buildSlice tok rfl rfl rfl rfl rfl rfl rfl) rfl rfl rfl ?_; rintro _ _ _ ⟨_, rfl, rfl, rfl⟩) | refine prn_start mixed ?_ | refine prn_end (by decide +kernel) ?_ | refine prn_q rfl (qt_pev tok rfl) (by decide +kernel) rfl rfl rfl ?_ | refine prn_g rfl rfl rfl (qt_pev tok rfl) (by decide +kernel) rfl rfl rfl rfl rfl ?_ | refine prn_q rfl (ql tok rfl) (by decide +kernel) rfl rfl rfl ?_ | refine prn_g rfl rfl rfl (ql tok rfl) (by decide +kernel) rfl rfl rfl rfl rfl ?_ | (refine prn_e0 rfl (sst tok rfl rfl rfl rfl rfl) (by decide +kernel) ?_; rintro _ _ _ ⟨rfl, rfl, rfl⟩) | (refine prn_e1 rfl (st_box rfl) (by decide +kernel) rfl rfl rfl ?_; rintro _ _ _ ⟨_, rfl, rfl, rfl⟩) | (refine prn_e1 rfl (st_alloc tok rfl) (by decide +kernel) rfl rfl rfl ?_; rintro _ _ _ ⟨_, rfl, rfl, rfl⟩) | (refine prn_e1 rfl (st_buildSlice tok rfl rfl rfl rfl rfl rfl rfl) (by decide +kernel) rfl rfl rfl ?_; rintro _ _ _ ⟨_, rfl, rfl, rfl⟩) | (refine prn_o0 rfl (sst tok rfl rfl rfl rfl rfl) (by decide +kernel) ?_; rintro _ _ _ ⟨rfl, rfl, rfl⟩; refine ⟨by (repeat (first | exact trivial | refine And.intro (pend_q rfl rfl rfl (qt_pev tok rfl)) ?_ | refine And.intro (pend_q rfl rfl rfl (ql tok rfl)) ?_)), ?_⟩) | (refine prn_o1 rfl (st_box rfl) (by decide +kernel) rfl rfl rfl ?_; rintro _ _ _ ⟨_, rfl, rfl, rfl⟩; refine ⟨by (repeat (first | exact trivial | refine And.intro (pend_q rfl rfl rfl (qt_pev tok rfl)) ?_ | refine And.intro (pend_q rfl rfl rfl (ql tok rfl)) ?_)), ?_⟩) | (refine prn_o1 rfl (st_alloc tok rfl) (by decide +kernel) rfl rfl rfl ?_; rintro _ _ _ ⟨_, rfl, rfl, rfl⟩; refine ⟨by (repeat (first | exact trivial | refine And.intro (pend_q rfl rfl rfl (qt_pev tok rfl)) ?_ | refine And.intro (pend_q rfl rfl rfl (ql tok rfl)) ?_)), ?_⟩) | (refine prn_o1 rfl (st_buildSlice tok rfl rfl rfl rfl rfl rfl rfl) (by decide +kernel) rfl rfl rfl ?_; rintro _ _ _ ⟨_, rfl, rfl, rfl⟩; refine ⟨by (repeat (first | exact trivial | refine And.intro (pend_q rfl rfl rfl (qt_pev tok rfl)) ?_ | refine And.intro (pend_q rfl rfl rfl (ql tok rfl)) ?_)), ?_⟩) | (refine prn_e1 rfl (qt_pev tok rfl) (by decide +kernel) rfl rfl rfl ?_; rintro _ _ _ ⟨rfl, rfl, rfl⟩) | refine prn_q rfl (qt_callF rfl (fun _ => dbegins_ok _ _ _ _)) (by decide +kernel) rfl rfl rfl ?_ | refine prn_q rfl (qt_callF rfl (fun _ => dsame_ok _ _ a b oa.mem ob.mem oa.tags ob.tags)) (by decide +kernel) rfl rfl rfl ?_)
  refine run_cond rfl (fun h => ?_) (fun h => ?_)
  · have h' : (begB (encE a).1 (encE b).1 != sameRc a b) = true := h
    rw [hbeg] at h'
    simp at h'
  refine run_skip ?_
  repeat (first | with_reducible (first | refine run_seq ?_ | refine run_region ?_ | refine runL_nil ?_ | refine run_skip ?_ | refine run_block ?_ | refine run_inBlock ?_) | refine run_exit rfl ?_ | refine runL_q (qt_pev tok rfl) rfl rfl rfl ?_ | refine runL_g rfl rfl (qt_pev tok rfl) rfl rfl rfl rfl rfl ?_ | refine runL_q (ql tok rfl) rfl rfl rfl ?_ | refine runL_g rfl rfl (ql tok rfl) rfl rfl rfl rfl rfl ?_ | (refine runL_op0 (sst tok rfl rfl rfl rfl rfl) ?_; rintro _ _ _ ⟨rfl, rfl, rfl⟩) | (refine runL_op (st_box rfl) rfl rfl rfl ?_; rintro _ _ _ ⟨_, rfl, rfl, rfl⟩) | (refine runL_op (st_alloc tok rfl) rfl rfl rfl ?_; rintro _ _ _ ⟨_, rfl, rfl, rfl⟩) | (refine runL_op (st_buildSlice tok rfl rfl rfl rfl rfl rfl rfl) rfl rfl rfl ?_; rintro _ _ _ ⟨_, rfl, rfl, rfl⟩) | refine runL_q (qt_concat rfl rfl hz1) rfl rfl rfl ?_ | refine runL_op (st_callF rfl (fun _ => decode_ok _ _ _ hz2)) rfl rfl rfl ?_; rintro _ M1 _ ⟨hM1, rfl, q, e, rfl, hq, hsq, hdq⟩ | refine runL_g rfl rfl (qt_callF rfl (fun _ => dalive_ok _ _)) rfl rfl rfl rfl rfl ?_)
  refine run_ret hC (rs := [.tmp 6]) rfl (resT rfl resN) (fun _ h => h.drop.drop.drop) ⟨?_, hM1, rfl⟩
  show Value.bool (((e == 0) == (more.toList == (⟨#[]⟩ : ByteArray).toList)) && true) = _
  have he : (e == 0) = (more.toList == (⟨#[]⟩ : ByteArray).toList) := by
    rw [empty_beq, Bool.eq_iff_iff, decide_eq_true_eq, ← hmore]
    rcases hdq with ⟨h1, h2⟩ | ⟨h1, h2, h3⟩
    · exact ⟨fun _ => ⟨_, h2⟩, fun _ => by rw [h1]; rfl⟩
    · constructor
      · intro h
        rw [h1] at h
        cases h
      · rintro ⟨z, hz⟩
        exact absurd hz (h3 z)
  rw [he]
  simp
end Go.Proofs.Ytpjklbkfhgfmnaa
namespace Go.Proofs.Ytpjklbkfhgfmnaa
open Go.Chi

/-! ### what was handed over, as data -/
section
variable {H : Type} {enc : TypeId × Value → H} {W : World} {cs : List Value}
theorem uInt : Try.prog.underlying 3 = some (.int .i64) := und_ok tok (t := 3) rfl
theorem uBool : Try.prog.underlying 4 = some .bool := und_ok tok (t := 4) rfl
theorem uU8 : Try.prog.underlying 5 = some (.int .u8) := und_ok tok (t := 5) rfl
theorem uStr : Try.prog.underlying 9 = some .string := und_ok tok (t := 9) rfl
theorem rd_tx (h : RD enc Try.prog W 23 cs) : ∃ t : Tx, cs = txC t := by
  obtain ⟨_, _, rfl, h0, _, _, rfl, h1, _, _, rfl, h2, rfl⟩ := h.struct (und_ok tok (t := 23) rfl) (by kernel_rfl)
  obtain ⟨a, rfl, _⟩ := h0.int uInt
  obtain ⟨b, rfl, _⟩ := h1.int uInt
  obtain ⟨c, rfl, _⟩ := h2.int uInt
  exact ⟨⟨a, b, c⟩, rfl⟩
theorem rd_mb (h : RD enc Try.prog W 43 cs) : ∃ m : Mb, cs = mbC m ∧ True := by
  obtain ⟨_, _, rfl, h0, _, _, rfl, h1, rfl⟩ := h.struct (und_ok tok (t := 43) rfl) (by kernel_rfl)
  obtain ⟨a, rfl, _⟩ := h0.int uInt
  obtain ⟨b, rfl, _⟩ := h1.string uStr
  exact ⟨⟨a, b⟩, rfl, trivial⟩
theorem rd_smb (h : RD enc Try.prog W 24 cs) : ∃ s : SMb, cs = [s.v] ∧ s.Ok (memOf W) := by
  obtain ⟨a, len, cap, ls, rfl, _, _, hs, hel⟩ := h.slice (und_ok tok (t := 24) rfl) (size := 2) (by kernel_rfl) (by omega)
  obtain ⟨xs, rfl, _⟩ := list_of (f := mbC) (Q := fun _ => True) fun c hc => rd_mb (hel c hc)
  exact ⟨⟨a, len, cap, xs⟩, rfl, hs⟩
theorem rd_st (h : RD enc Try.prog W 9 cs) : ∃ s : ByteArray, cs = stC s ∧ True := by
  obtain ⟨b, rfl, _⟩ := h.string uStr
  exact ⟨b, rfl, trivial⟩
theorem rd_sstr (h : RD enc Try.prog W 25 cs) : ∃ s : SStr, cs = [s.v] ∧ s.Ok (memOf W) := by
  obtain ⟨a, len, cap, ls, rfl, _, _, hs, hel⟩ := h.slice (und_ok tok (t := 25) rfl) (size := 1) (by kernel_rfl) (by omega)
  obtain ⟨xs, rfl, _⟩ := list_of (f := stC) (Q := fun _ => True) fun c hc => rd_st (hel c hc)
  exact ⟨⟨a, len, cap, xs⟩, rfl, hs⟩
theorem rd_rc (h : RD enc Try.prog W 27 cs) : ∃ r : Rc, cs = rcC r ∧ RcIn (memOf W) r := by
  obtain ⟨_, _, rfl, h0, _, _, rfl, h1, _, _, rfl, h2, _, _, rfl, h3, _, _, rfl, h4, _, _, rfl, h5, _, _, rfl, h6, _, _, rfl, h7, rfl⟩ := h.struct (und_ok tok (t := 27) rfl) (by kernel_rfl)
  obtain ⟨k, rfl, _⟩ := h0.int uU8
  obtain ⟨e, rfl, _⟩ := h1.int uInt
  obtain ⟨t, rfl⟩ := rd_tx h2
  obtain ⟨y, rfl⟩ := h3.bool uBool
  obtain ⟨a, rfl, _⟩ := h4.int uInt
  obtain ⟨m, rfl, hm⟩ := rd_smb h5
  obtain ⟨g, rfl, hg⟩ := rd_sstr h6
  obtain ⟨b, rfl, _⟩ := h7.string uStr
  exact ⟨⟨k, e, t, y, a, m, g, b⟩, rfl, ⟨hm, hg⟩⟩
end
theorem own : ownKnob Try.prog.godebug = none := by kernel_rfl
theorem laid : laidOutB Try.prog = true := by kernel_rfl
end Go.Proofs.Ytpjklbkfhgfmnaa
