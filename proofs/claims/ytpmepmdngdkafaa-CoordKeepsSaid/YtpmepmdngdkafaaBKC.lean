import Derived.Test.YtpmepmdngdkafaaBKA
import Derived.Test.YtpmepmdngdkafaaBKB
import Derived.Laws.BytesString
import Derived.Laws.MakeOwn
import Derived.Laws.OwnMore
namespace Go.Proofs.Ytpmepmdngdkafaa
open Go.Chi

/-! ### the members of a transaction, one by one -/
structure On where
  at_ : Nat
  org : Int
  vote : Int
  tag : ByteArray
  ack : Bool
def onC (x : On) : List Value := [.int .i64 (x.at_ : Int), .int .i64 x.org, .int .u8 x.vote, .string x.tag, .bool x.ack]
def onV (x : On) : List Value := [.agg ⟨onC x⟩]
/-- member k of a transaction whose rows are as many -/
def onAt (c : Co) (k : Nat) : On := ⟨k, ((c.mem.xs[k]?).getD ⟨0, ⟨#[]⟩⟩).org, (c.votes.xs[k]?).getD 0, (c.tags.xs[k]?).getD ⟨#[]⟩, (c.acks.xs[k]?).getD false⟩
def ons (c : Co) : List On := (List.range c.mem.len).map (onAt c)
structure Rows (c : Co) : Prop where
  votes : c.votes.len = c.mem.len
  tags : c.tags.len = c.mem.len
  acks : c.acks.len = c.mem.len
theorem rowsR_rows {c : Co} (h : rowsR c = true) : Rows c := by
  simp only [rowsR, Bool.and_eq_true, beq_iff_eq] at h
  exact ⟨by omega, by omega, by omega⟩
theorem CoOk.le {M M' : Mem} {c : Co} (h : CoOk M c) (hm : M.le M') : CoOk M' c :=
  ⟨h.mem.le hm, h.bodies.le hm, ⟨h.votes.1.le hm, h.votes.2⟩, h.tags.le hm, ⟨h.acks.1.le hm, h.acks.2⟩, h.dig, h.bod, h.tag⟩
set_option maxRecDepth 10000 in
set_option maxHeartbeats 8000000 in
theorem members1_ok (M : Mem) (c : Co) (h : CoOk M c) (hr : Rows c) (b1 : Nat) (hb1 : Cells M [] b1 0 (coC c)) : IterM Try.prog 69 [.pointer (some ⟨b1, 0, none⟩)] M ((ons c).map onV) := by
  intro lp I X M0 L0 hle _ hyield hI
  have hlen := h.mem.2
  refine Tr.intro 40 Try.func69 rfl rfl Try.call69 rfl ?_
  intro C hC hro
  have hb1' := hb1.le hle
  repeat (first | with_reducible (first | refine run_seq ?_ | refine run_region ?_ | refine runL_nil ?_ | refine run_skip ?_ | refine run_block ?_ | refine run_inBlock ?_) | refine run_exit rfl ?_ | refine runL_q (qt_pev tok rfl) rfl rfl rfl ?_ | refine runL_g rfl rfl (qt_pev tok rfl) rfl rfl rfl rfl rfl ?_ | refine runL_q (ql tok rfl) rfl rfl rfl ?_ | refine runL_g rfl rfl (ql tok rfl) rfl rfl rfl rfl rfl ?_ | (refine runL_op0 (sst tok rfl rfl rfl rfl rfl) ?_; rintro _ _ _ ⟨rfl, rfl, rfl⟩) | (refine runL_op (st_box rfl) rfl rfl rfl ?_; rintro _ _ _ ⟨_, rfl, rfl, rfl⟩) | (refine runL_op (st_alloc tok rfl) rfl rfl rfl ?_; rintro _ _ _ ⟨_, rfl, rfl, rfl⟩) | (refine runL_op (st_buildSlice tok rfl rfl rfl rfl rfl rfl rfl) rfl rfl rfl ?_; rintro _ _ _ ⟨_, rfl, rfl, rfl⟩) | refine runL_q (qt_indexN tok rfl rfl rfl rfl (fun _ => by omega)) rfl rfl rfl ?_ | refine runL_g rfl rfl (qt_indexN tok rfl rfl rfl rfl (fun _ => by omega)) rfl rfl rfl rfl rfl ?_ | refine runL_q (qt_ldM tok rfl hb1' rfl) rfl rfl rfl ?_ | refine runL_g rfl rfl (qt_ldM tok rfl hb1' rfl) rfl rfl rfl rfl rfl ?_ | refine runL_q (qt_ldM0 tok rfl hb1' rfl) rfl rfl rfl ?_ | refine runL_g rfl rfl (qt_ldM0 tok rfl hb1' rfl) rfl rfl rfl rfl rfl ?_)
  refine run_loopN (fun j σ1 M1 L1 => j ≤ c.mem.len ∧ σ1 = [(9, .int .i64 (j : Int)), (8, .int .i64 (c.mem.len : Int)), (7, c.mem.v), (0, yv lp), (1, .pointer (some ⟨b1, 0, none⟩))] ∧ M0.le M1 ∧ I j M1 L1) c.mem.len [(9, .int .i64 ((0 : Nat) : Int)), (8, .int .i64 (c.mem.len : Int)), (7, c.mem.v), (0, yv lp), (1, .pointer (some ⟨b1, 0, none⟩))] ?_ ⟨Nat.zero_le _, rfl, Mem.le_refl _, hI⟩ (fun j _ _ _ h => h.1) ?_
  · exact ⟨rfl, rfl, rfl, rfl, rfl, trivial⟩
  rintro j _ M1 L1 ⟨hj, rfl, hM1, hI1⟩ hnext
  repeat (first | with_reducible (first | refine run_seq ?_ | refine run_region ?_ | refine runL_nil ?_ | refine run_skip ?_ | refine run_block ?_ | refine run_inBlock ?_) | refine run_exit rfl ?_ | refine runL_q (qt_pev tok rfl) rfl rfl rfl ?_ | refine runL_g rfl rfl (qt_pev tok rfl) rfl rfl rfl rfl rfl ?_ | refine runL_q (ql tok rfl) rfl rfl rfl ?_ | refine runL_g rfl rfl (ql tok rfl) rfl rfl rfl rfl rfl ?_ | (refine runL_op0 (sst tok rfl rfl rfl rfl rfl) ?_; rintro _ _ _ ⟨rfl, rfl, rfl⟩) | (refine runL_op (st_box rfl) rfl rfl rfl ?_; rintro _ _ _ ⟨_, rfl, rfl, rfl⟩) | (refine runL_op (st_alloc tok rfl) rfl rfl rfl ?_; rintro _ _ _ ⟨_, rfl, rfl, rfl⟩) | (refine runL_op (st_buildSlice tok rfl rfl rfl rfl rfl rfl rfl) rfl rfl rfl ?_; rintro _ _ _ ⟨_, rfl, rfl, rfl⟩))
  refine run_cond rfl (fun h1 => ?_) (fun h1 => ?_)
  · have hlt : j < c.mem.len := by simpa using h1
    have h' := (h.le hle).le hM1
    have hbb := hb1'.le hM1
    obtain ⟨b, off, m, hma, hm, hc⟩ := SMb.at_ h'.mem.1 hlt
    have hv : c.mem.v = .slice (some ⟨b, off, none⟩) c.mem.len c.mem.cap := by rw [← hma]; rfl
    obtain ⟨bv, ov, cv, hva, hcv, _, hcv'⟩ := h'.votes.1.at_ (show j < c.votes.len by rw [hr.votes]; exact hlt)
    obtain ⟨vt, hvt, rfl⟩ : ∃ y, c.votes.xs[j]? = some y ∧ u8C y = cv := by simpa using hcv
    obtain ⟨bt, ot, tg, hta, htg, hct⟩ := SStr.at_ h'.tags.1 (show j < c.tags.len by rw [hr.tags]; exact hlt)
    obtain ⟨bk, ok, ck, haa, hck, _, hck'⟩ := h'.acks.1.at_ (show j < c.acks.len by rw [hr.acks]; exact hlt)
    obtain ⟨ac, hac, rfl⟩ : ∃ y, c.acks.xs[j]? = some y ∧ blC y = ck := by simpa using hck
    have hvv : c.votes.v = .slice (some ⟨bv, ov, none⟩) c.votes.len c.votes.cap := by rw [← hva]; rfl
    have htv : c.tags.v = .slice (some ⟨bt, ot, none⟩) c.tags.len c.tags.cap := by rw [← hta]; rfl
    have hav : c.acks.v = .slice (some ⟨bk, ok, none⟩) c.acks.len c.acks.cap := by rw [← haa]; rfl
    have hl2 := hr.votes
    have hl3 := hr.tags
    have hl4 := hr.acks
    have hon : onAt c j = ⟨j, m.org, vt, tg, ac⟩ := by simp only [onAt, hm, hvt, htg, hac]; rfl
    have hget : ((ons c).map onV)[j]? = some (onV ⟨j, m.org, vt, tg, ac⟩) := by
      rw [List.getElem?_map, ons, List.getElem?_map, List.getElem?_range hlt]
      simp only [Option.map_some, hon]
    refine run_as 7 (.slice (some ⟨b, off, none⟩) c.mem.len c.mem.cap) rfl hv ?_
    repeat (first | with_reducible (first | refine run_seq ?_ | refine run_region ?_ | refine runL_nil ?_ | refine run_skip ?_ | refine run_block ?_ | refine run_inBlock ?_) | refine run_exit rfl ?_ | refine runL_q (qt_pev tok rfl) rfl rfl rfl ?_ | refine runL_g rfl rfl (qt_pev tok rfl) rfl rfl rfl rfl rfl ?_ | refine runL_q (ql tok rfl) rfl rfl rfl ?_ | refine runL_g rfl rfl (ql tok rfl) rfl rfl rfl rfl rfl ?_ | (refine runL_op0 (sst tok rfl rfl rfl rfl rfl) ?_; rintro _ _ _ ⟨rfl, rfl, rfl⟩) | (refine runL_op (st_box rfl) rfl rfl rfl ?_; rintro _ _ _ ⟨_, rfl, rfl, rfl⟩) | (refine runL_op (st_alloc tok rfl) rfl rfl rfl ?_; rintro _ _ _ ⟨_, rfl, rfl, rfl⟩) | (refine runL_op (st_buildSlice tok rfl rfl rfl rfl rfl rfl rfl) rfl rfl rfl ?_; rintro _ _ _ ⟨_, rfl, rfl, rfl⟩) | refine runL_q (qt_indexN tok rfl rfl rfl rfl (fun _ => by omega)) rfl rfl rfl ?_ | refine runL_g rfl rfl (qt_indexN tok rfl rfl rfl rfl (fun _ => by omega)) rfl rfl rfl rfl rfl ?_ | refine runL_q (qt_ldM tok rfl hc rfl) rfl rfl rfl ?_ | refine runL_g rfl rfl (qt_ldM tok rfl hc rfl) rfl rfl rfl rfl rfl ?_ | refine runL_q (qt_ldM0 tok rfl hc rfl) rfl rfl rfl ?_ | refine runL_g rfl rfl (qt_ldM0 tok rfl hc rfl) rfl rfl rfl rfl rfl ?_)
    refine prn_start mixed ?_
    iterate 7 (first | refine prn_q rfl (qt_pev tok rfl) (by decide +kernel) rfl rfl rfl ?_ | refine prn_gK rfl rfl rfl (qt_pev tok rfl) (by decide +kernel) rfl rfl rfl ?_ | refine prn_gF rfl rfl rfl (by decide +kernel) rfl rfl rfl ?_ | refine prn_g rfl rfl rfl (qt_pev tok rfl) (by decide +kernel) rfl rfl rfl rfl rfl ?_ | refine prn_q rfl (ql tok rfl) (by decide +kernel) rfl rfl rfl ?_ | refine prn_gK rfl rfl rfl (ql tok rfl) (by decide +kernel) rfl rfl rfl ?_ | refine prn_gF rfl rfl rfl (by decide +kernel) rfl rfl rfl ?_ | refine prn_g rfl rfl rfl (ql tok rfl) (by decide +kernel) rfl rfl rfl rfl rfl ?_ | (refine prn_e0 rfl (sst tok rfl rfl rfl rfl rfl) (by decide +kernel) ?_; rintro _ _ _ ⟨rfl, rfl, rfl⟩) | (refine prn_e1 rfl (st_box rfl) (by decide +kernel) rfl rfl rfl ?_; rintro _ _ _ ⟨_, rfl, rfl, rfl⟩) | (refine prn_e1 rfl (st_alloc tok rfl) (by decide +kernel) rfl rfl rfl ?_; rintro _ _ _ ⟨_, rfl, rfl, rfl⟩) | (refine prn_e1 rfl (st_buildSlice tok rfl rfl rfl rfl rfl rfl rfl) (by decide +kernel) rfl rfl rfl ?_; rintro _ _ _ ⟨_, rfl, rfl, rfl⟩) | (refine prn_o0 rfl (sst tok rfl rfl rfl rfl rfl) (by decide +kernel) ?_; rintro _ _ _ ⟨rfl, rfl, rfl⟩; refine ⟨by (repeat (first | exact trivial | refine And.intro (pend_q rfl rfl rfl (qt_pev tok rfl)) ?_ | refine And.intro (pend_q rfl rfl rfl (ql tok rfl)) ?_)), ?_⟩) | (refine prn_o1 rfl (st_box rfl) (by decide +kernel) rfl rfl rfl ?_; rintro _ _ _ ⟨_, rfl, rfl, rfl⟩; refine ⟨by (repeat (first | exact trivial | refine And.intro (pend_q rfl rfl rfl (qt_pev tok rfl)) ?_ | refine And.intro (pend_q rfl rfl rfl (ql tok rfl)) ?_)), ?_⟩) | (refine prn_o1 rfl (st_alloc tok rfl) (by decide +kernel) rfl rfl rfl ?_; rintro _ _ _ ⟨_, rfl, rfl, rfl⟩; refine ⟨by (repeat (first | exact trivial | refine And.intro (pend_q rfl rfl rfl (qt_pev tok rfl)) ?_ | refine And.intro (pend_q rfl rfl rfl (ql tok rfl)) ?_)), ?_⟩) | (refine prn_o1 rfl (st_buildSlice tok rfl rfl rfl rfl rfl rfl rfl) (by decide +kernel) rfl rfl rfl ?_; rintro _ _ _ ⟨_, rfl, rfl, rfl⟩; refine ⟨by (repeat (first | exact trivial | refine And.intro (pend_q rfl rfl rfl (qt_pev tok rfl)) ?_ | refine And.intro (pend_q rfl rfl rfl (ql tok rfl)) ?_)), ?_⟩) | (refine prn_e1 rfl (qt_pev tok rfl) (by decide +kernel) rfl rfl rfl ?_; rintro _ _ _ ⟨rfl, rfl, rfl⟩) | refine prn_q rfl (qt_indexN tok rfl rfl rfl rfl (fun _ => by omega)) (by decide +kernel) rfl rfl rfl ?_ | refine prn_g rfl rfl rfl (qt_indexN tok rfl rfl rfl rfl (fun _ => by omega)) (by decide +kernel) rfl rfl rfl rfl rfl ?_ | refine prn_q rfl (qt_ldM tok rfl hbb rfl) (by decide +kernel) rfl rfl rfl ?_ | refine prn_g rfl rfl rfl (qt_ldM tok rfl hbb rfl) (by decide +kernel) rfl rfl rfl rfl rfl ?_ | refine prn_q rfl (qt_ldM0 tok rfl hbb rfl) (by decide +kernel) rfl rfl rfl ?_ | refine prn_g rfl rfl rfl (qt_ldM0 tok rfl hbb rfl) (by decide +kernel) rfl rfl rfl rfl rfl ?_)
    refine pr_as 20 (.slice (some ⟨bv, ov, none⟩) c.votes.len c.votes.cap) rfl hvv ?_
    iterate 6 (first | refine prn_q rfl (qt_pev tok rfl) (by decide +kernel) rfl rfl rfl ?_ | refine prn_gK rfl rfl rfl (qt_pev tok rfl) (by decide +kernel) rfl rfl rfl ?_ | refine prn_gF rfl rfl rfl (by decide +kernel) rfl rfl rfl ?_ | refine prn_g rfl rfl rfl (qt_pev tok rfl) (by decide +kernel) rfl rfl rfl rfl rfl ?_ | refine prn_q rfl (ql tok rfl) (by decide +kernel) rfl rfl rfl ?_ | refine prn_gK rfl rfl rfl (ql tok rfl) (by decide +kernel) rfl rfl rfl ?_ | refine prn_gF rfl rfl rfl (by decide +kernel) rfl rfl rfl ?_ | refine prn_g rfl rfl rfl (ql tok rfl) (by decide +kernel) rfl rfl rfl rfl rfl ?_ | (refine prn_e0 rfl (sst tok rfl rfl rfl rfl rfl) (by decide +kernel) ?_; rintro _ _ _ ⟨rfl, rfl, rfl⟩) | (refine prn_e1 rfl (st_box rfl) (by decide +kernel) rfl rfl rfl ?_; rintro _ _ _ ⟨_, rfl, rfl, rfl⟩) | (refine prn_e1 rfl (st_alloc tok rfl) (by decide +kernel) rfl rfl rfl ?_; rintro _ _ _ ⟨_, rfl, rfl, rfl⟩) | (refine prn_e1 rfl (st_buildSlice tok rfl rfl rfl rfl rfl rfl rfl) (by decide +kernel) rfl rfl rfl ?_; rintro _ _ _ ⟨_, rfl, rfl, rfl⟩) | (refine prn_o0 rfl (sst tok rfl rfl rfl rfl rfl) (by decide +kernel) ?_; rintro _ _ _ ⟨rfl, rfl, rfl⟩; refine ⟨by (repeat (first | exact trivial | refine And.intro (pend_q rfl rfl rfl (qt_pev tok rfl)) ?_ | refine And.intro (pend_q rfl rfl rfl (ql tok rfl)) ?_)), ?_⟩) | (refine prn_o1 rfl (st_box rfl) (by decide +kernel) rfl rfl rfl ?_; rintro _ _ _ ⟨_, rfl, rfl, rfl⟩; refine ⟨by (repeat (first | exact trivial | refine And.intro (pend_q rfl rfl rfl (qt_pev tok rfl)) ?_ | refine And.intro (pend_q rfl rfl rfl (ql tok rfl)) ?_)), ?_⟩) | (refine prn_o1 rfl (st_alloc tok rfl) (by decide +kernel) rfl rfl rfl ?_; rintro _ _ _ ⟨_, rfl, rfl, rfl⟩; refine ⟨by (repeat (first | exact trivial | refine And.intro (pend_q rfl rfl rfl (qt_pev tok rfl)) ?_ | refine And.intro (pend_q rfl rfl rfl (ql tok rfl)) ?_)), ?_⟩) | (refine prn_o1 rfl (st_buildSlice tok rfl rfl rfl rfl rfl rfl rfl) (by decide +kernel) rfl rfl rfl ?_; rintro _ _ _ ⟨_, rfl, rfl, rfl⟩; refine ⟨by (repeat (first | exact trivial | refine And.intro (pend_q rfl rfl rfl (qt_pev tok rfl)) ?_ | refine And.intro (pend_q rfl rfl rfl (ql tok rfl)) ?_)), ?_⟩) | (refine prn_e1 rfl (qt_pev tok rfl) (by decide +kernel) rfl rfl rfl ?_; rintro _ _ _ ⟨rfl, rfl, rfl⟩) | refine prn_q rfl (qt_indexN tok rfl rfl rfl rfl (fun _ => by omega)) (by decide +kernel) rfl rfl rfl ?_ | refine prn_g rfl rfl rfl (qt_indexN tok rfl rfl rfl rfl (fun _ => by omega)) (by decide +kernel) rfl rfl rfl rfl rfl ?_ | refine prn_q rfl (qt_ldM tok rfl hbb rfl) (by decide +kernel) rfl rfl rfl ?_ | refine prn_g rfl rfl rfl (qt_ldM tok rfl hbb rfl) (by decide +kernel) rfl rfl rfl rfl rfl ?_ | refine prn_q rfl (qt_ldM0 tok rfl hbb rfl) (by decide +kernel) rfl rfl rfl ?_ | refine prn_g rfl rfl rfl (qt_ldM0 tok rfl hbb rfl) (by decide +kernel) rfl rfl rfl rfl rfl ?_ | refine prn_q rfl (qt_ldM tok rfl hcv' rfl) (by decide +kernel) rfl rfl rfl ?_ | refine prn_g rfl rfl rfl (qt_ldM tok rfl hcv' rfl) (by decide +kernel) rfl rfl rfl rfl rfl ?_ | refine prn_q rfl (qt_ldM0 tok rfl hcv' rfl) (by decide +kernel) rfl rfl rfl ?_ | refine prn_g rfl rfl rfl (qt_ldM0 tok rfl hcv' rfl) (by decide +kernel) rfl rfl rfl rfl rfl ?_)
    refine pr_as 26 (.slice (some ⟨bt, ot, none⟩) c.tags.len c.tags.cap) rfl htv ?_
    iterate 6 (first | refine prn_q rfl (qt_pev tok rfl) (by decide +kernel) rfl rfl rfl ?_ | refine prn_gK rfl rfl rfl (qt_pev tok rfl) (by decide +kernel) rfl rfl rfl ?_ | refine prn_gF rfl rfl rfl (by decide +kernel) rfl rfl rfl ?_ | refine prn_g rfl rfl rfl (qt_pev tok rfl) (by decide +kernel) rfl rfl rfl rfl rfl ?_ | refine prn_q rfl (ql tok rfl) (by decide +kernel) rfl rfl rfl ?_ | refine prn_gK rfl rfl rfl (ql tok rfl) (by decide +kernel) rfl rfl rfl ?_ | refine prn_gF rfl rfl rfl (by decide +kernel) rfl rfl rfl ?_ | refine prn_g rfl rfl rfl (ql tok rfl) (by decide +kernel) rfl rfl rfl rfl rfl ?_ | (refine prn_e0 rfl (sst tok rfl rfl rfl rfl rfl) (by decide +kernel) ?_; rintro _ _ _ ⟨rfl, rfl, rfl⟩) | (refine prn_e1 rfl (st_box rfl) (by decide +kernel) rfl rfl rfl ?_; rintro _ _ _ ⟨_, rfl, rfl, rfl⟩) | (refine prn_e1 rfl (st_alloc tok rfl) (by decide +kernel) rfl rfl rfl ?_; rintro _ _ _ ⟨_, rfl, rfl, rfl⟩) | (refine prn_e1 rfl (st_buildSlice tok rfl rfl rfl rfl rfl rfl rfl) (by decide +kernel) rfl rfl rfl ?_; rintro _ _ _ ⟨_, rfl, rfl, rfl⟩) | (refine prn_o0 rfl (sst tok rfl rfl rfl rfl rfl) (by decide +kernel) ?_; rintro _ _ _ ⟨rfl, rfl, rfl⟩; refine ⟨by (repeat (first | exact trivial | refine And.intro (pend_q rfl rfl rfl (qt_pev tok rfl)) ?_ | refine And.intro (pend_q rfl rfl rfl (ql tok rfl)) ?_)), ?_⟩) | (refine prn_o1 rfl (st_box rfl) (by decide +kernel) rfl rfl rfl ?_; rintro _ _ _ ⟨_, rfl, rfl, rfl⟩; refine ⟨by (repeat (first | exact trivial | refine And.intro (pend_q rfl rfl rfl (qt_pev tok rfl)) ?_ | refine And.intro (pend_q rfl rfl rfl (ql tok rfl)) ?_)), ?_⟩) | (refine prn_o1 rfl (st_alloc tok rfl) (by decide +kernel) rfl rfl rfl ?_; rintro _ _ _ ⟨_, rfl, rfl, rfl⟩; refine ⟨by (repeat (first | exact trivial | refine And.intro (pend_q rfl rfl rfl (qt_pev tok rfl)) ?_ | refine And.intro (pend_q rfl rfl rfl (ql tok rfl)) ?_)), ?_⟩) | (refine prn_o1 rfl (st_buildSlice tok rfl rfl rfl rfl rfl rfl rfl) (by decide +kernel) rfl rfl rfl ?_; rintro _ _ _ ⟨_, rfl, rfl, rfl⟩; refine ⟨by (repeat (first | exact trivial | refine And.intro (pend_q rfl rfl rfl (qt_pev tok rfl)) ?_ | refine And.intro (pend_q rfl rfl rfl (ql tok rfl)) ?_)), ?_⟩) | (refine prn_e1 rfl (qt_pev tok rfl) (by decide +kernel) rfl rfl rfl ?_; rintro _ _ _ ⟨rfl, rfl, rfl⟩) | refine prn_q rfl (qt_indexN tok rfl rfl rfl rfl (fun _ => by omega)) (by decide +kernel) rfl rfl rfl ?_ | refine prn_g rfl rfl rfl (qt_indexN tok rfl rfl rfl rfl (fun _ => by omega)) (by decide +kernel) rfl rfl rfl rfl rfl ?_ | refine prn_q rfl (qt_ldM tok rfl hbb rfl) (by decide +kernel) rfl rfl rfl ?_ | refine prn_g rfl rfl rfl (qt_ldM tok rfl hbb rfl) (by decide +kernel) rfl rfl rfl rfl rfl ?_ | refine prn_q rfl (qt_ldM0 tok rfl hbb rfl) (by decide +kernel) rfl rfl rfl ?_ | refine prn_g rfl rfl rfl (qt_ldM0 tok rfl hbb rfl) (by decide +kernel) rfl rfl rfl rfl rfl ?_ | refine prn_q rfl (qt_ldM tok rfl hct rfl) (by decide +kernel) rfl rfl rfl ?_ | refine prn_g rfl rfl rfl (qt_ldM tok rfl hct rfl) (by decide +kernel) rfl rfl rfl rfl rfl ?_ | refine prn_q rfl (qt_ldM0 tok rfl hct rfl) (by decide +kernel) rfl rfl rfl ?_ | refine prn_g rfl rfl rfl (qt_ldM0 tok rfl hct rfl) (by decide +kernel) rfl rfl rfl rfl rfl ?_)
    refine pr_as 32 (.slice (some ⟨bk, ok, none⟩) c.acks.len c.acks.cap) rfl hav ?_
    iterate 4 (first | refine prn_q rfl (qt_pev tok rfl) (by decide +kernel) rfl rfl rfl ?_ | refine prn_gK rfl rfl rfl (qt_pev tok rfl) (by decide +kernel) rfl rfl rfl ?_ | refine prn_gF rfl rfl rfl (by decide +kernel) rfl rfl rfl ?_ | refine prn_g rfl rfl rfl (qt_pev tok rfl) (by decide +kernel) rfl rfl rfl rfl rfl ?_ | refine prn_q rfl (ql tok rfl) (by decide +kernel) rfl rfl rfl ?_ | refine prn_gK rfl rfl rfl (ql tok rfl) (by decide +kernel) rfl rfl rfl ?_ | refine prn_gF rfl rfl rfl (by decide +kernel) rfl rfl rfl ?_ | refine prn_g rfl rfl rfl (ql tok rfl) (by decide +kernel) rfl rfl rfl rfl rfl ?_ | (refine prn_e0 rfl (sst tok rfl rfl rfl rfl rfl) (by decide +kernel) ?_; rintro _ _ _ ⟨rfl, rfl, rfl⟩) | (refine prn_e1 rfl (st_box rfl) (by decide +kernel) rfl rfl rfl ?_; rintro _ _ _ ⟨_, rfl, rfl, rfl⟩) | (refine prn_e1 rfl (st_alloc tok rfl) (by decide +kernel) rfl rfl rfl ?_; rintro _ _ _ ⟨_, rfl, rfl, rfl⟩) | (refine prn_e1 rfl (st_buildSlice tok rfl rfl rfl rfl rfl rfl rfl) (by decide +kernel) rfl rfl rfl ?_; rintro _ _ _ ⟨_, rfl, rfl, rfl⟩) | (refine prn_o0 rfl (sst tok rfl rfl rfl rfl rfl) (by decide +kernel) ?_; rintro _ _ _ ⟨rfl, rfl, rfl⟩; refine ⟨by (repeat (first | exact trivial | refine And.intro (pend_q rfl rfl rfl (qt_pev tok rfl)) ?_ | refine And.intro (pend_q rfl rfl rfl (ql tok rfl)) ?_)), ?_⟩) | (refine prn_o1 rfl (st_box rfl) (by decide +kernel) rfl rfl rfl ?_; rintro _ _ _ ⟨_, rfl, rfl, rfl⟩; refine ⟨by (repeat (first | exact trivial | refine And.intro (pend_q rfl rfl rfl (qt_pev tok rfl)) ?_ | refine And.intro (pend_q rfl rfl rfl (ql tok rfl)) ?_)), ?_⟩) | (refine prn_o1 rfl (st_alloc tok rfl) (by decide +kernel) rfl rfl rfl ?_; rintro _ _ _ ⟨_, rfl, rfl, rfl⟩; refine ⟨by (repeat (first | exact trivial | refine And.intro (pend_q rfl rfl rfl (qt_pev tok rfl)) ?_ | refine And.intro (pend_q rfl rfl rfl (ql tok rfl)) ?_)), ?_⟩) | (refine prn_o1 rfl (st_buildSlice tok rfl rfl rfl rfl rfl rfl rfl) (by decide +kernel) rfl rfl rfl ?_; rintro _ _ _ ⟨_, rfl, rfl, rfl⟩; refine ⟨by (repeat (first | exact trivial | refine And.intro (pend_q rfl rfl rfl (qt_pev tok rfl)) ?_ | refine And.intro (pend_q rfl rfl rfl (ql tok rfl)) ?_)), ?_⟩) | (refine prn_e1 rfl (qt_pev tok rfl) (by decide +kernel) rfl rfl rfl ?_; rintro _ _ _ ⟨rfl, rfl, rfl⟩) | refine prn_q rfl (qt_indexN tok rfl rfl rfl rfl (fun _ => by omega)) (by decide +kernel) rfl rfl rfl ?_ | refine prn_g rfl rfl rfl (qt_indexN tok rfl rfl rfl rfl (fun _ => by omega)) (by decide +kernel) rfl rfl rfl rfl rfl ?_ | refine prn_q rfl (qt_ldM tok rfl hbb rfl) (by decide +kernel) rfl rfl rfl ?_ | refine prn_g rfl rfl rfl (qt_ldM tok rfl hbb rfl) (by decide +kernel) rfl rfl rfl rfl rfl ?_ | refine prn_q rfl (qt_ldM0 tok rfl hbb rfl) (by decide +kernel) rfl rfl rfl ?_ | refine prn_g rfl rfl rfl (qt_ldM0 tok rfl hbb rfl) (by decide +kernel) rfl rfl rfl rfl rfl ?_ | refine prn_q rfl (qt_ldM tok rfl hck' rfl) (by decide +kernel) rfl rfl rfl ?_ | refine prn_g rfl rfl rfl (qt_ldM tok rfl hck' rfl) (by decide +kernel) rfl rfl rfl rfl rfl ?_ | refine prn_q rfl (qt_ldM0 tok rfl hck' rfl) (by decide +kernel) rfl rfl rfl ?_ | refine prn_g rfl rfl rfl (qt_ldM0 tok rfl hck' rfl) (by decide +kernel) rfl rfl rfl rfl rfl ?_)
    refine prn_e1 rfl (st_yield rfl rfl (fun _ => hyield _ _ _ _ [_] hget hM1 hI1)) (by decide +kernel) rfl rfl rfl ?_
    rintro v M2 _ ⟨L2, rfl, hM2, hv2⟩
    rcases hv2 with ⟨rfl, hI2⟩ | ⟨rfl, hX⟩
    · repeat (first | with_reducible (first | refine run_seq ?_ | refine run_region ?_ | refine runL_nil ?_ | refine run_skip ?_ | refine run_block ?_ | refine run_inBlock ?_) | refine run_exit rfl ?_ | refine runL_q (qt_pev tok rfl) rfl rfl rfl ?_ | refine runL_gK rfl rfl (qt_pev tok rfl) rfl rfl rfl ?_ | refine runL_gF rfl rfl rfl rfl rfl ?_ | refine runL_g rfl rfl (qt_pev tok rfl) rfl rfl rfl rfl rfl ?_ | refine runL_q (ql tok rfl) rfl rfl rfl ?_ | refine runL_gK rfl rfl (ql tok rfl) rfl rfl rfl ?_ | refine runL_gF rfl rfl rfl rfl rfl ?_ | refine runL_g rfl rfl (ql tok rfl) rfl rfl rfl rfl rfl ?_ | (refine runL_op0 (sst tok rfl rfl rfl rfl rfl) ?_; rintro _ _ _ ⟨rfl, rfl, rfl⟩) | (refine runL_op (st_box rfl) rfl rfl rfl ?_; rintro _ _ _ ⟨_, rfl, rfl, rfl⟩) | (refine runL_op (st_alloc tok rfl) rfl rfl rfl ?_; rintro _ _ _ ⟨_, rfl, rfl, rfl⟩) | (refine runL_op (st_buildSlice tok rfl rfl rfl rfl rfl rfl rfl) rfl rfl rfl ?_; rintro _ _ _ ⟨_, rfl, rfl, rfl⟩) | refine prn_start mixed ?_ | refine prn_end (by decide +kernel) ?_ | refine prn_q rfl (qt_pev tok rfl) (by decide +kernel) rfl rfl rfl ?_ | refine prn_gK rfl rfl rfl (qt_pev tok rfl) (by decide +kernel) rfl rfl rfl ?_ | refine prn_gF rfl rfl rfl (by decide +kernel) rfl rfl rfl ?_ | refine prn_g rfl rfl rfl (qt_pev tok rfl) (by decide +kernel) rfl rfl rfl rfl rfl ?_ | refine prn_q rfl (ql tok rfl) (by decide +kernel) rfl rfl rfl ?_ | refine prn_gK rfl rfl rfl (ql tok rfl) (by decide +kernel) rfl rfl rfl ?_ | refine prn_gF rfl rfl rfl (by decide +kernel) rfl rfl rfl ?_ | refine prn_g rfl rfl rfl (ql tok rfl) (by decide +kernel) rfl rfl rfl rfl rfl ?_ | (refine prn_e0 rfl (sst tok rfl rfl rfl rfl rfl) (by decide +kernel) ?_; rintro _ _ _ ⟨rfl, rfl, rfl⟩) | (refine prn_e1 rfl (st_box rfl) (by decide +kernel) rfl rfl rfl ?_; rintro _ _ _ ⟨_, rfl, rfl, rfl⟩) | (refine prn_e1 rfl (st_alloc tok rfl) (by decide +kernel) rfl rfl rfl ?_; rintro _ _ _ ⟨_, rfl, rfl, rfl⟩) | (refine prn_e1 rfl (st_buildSlice tok rfl rfl rfl rfl rfl rfl rfl) (by decide +kernel) rfl rfl rfl ?_; rintro _ _ _ ⟨_, rfl, rfl, rfl⟩) | (refine prn_o0 rfl (sst tok rfl rfl rfl rfl rfl) (by decide +kernel) ?_; rintro _ _ _ ⟨rfl, rfl, rfl⟩; refine ⟨by (repeat (first | exact trivial | refine And.intro (pend_q rfl rfl rfl (qt_pev tok rfl)) ?_ | refine And.intro (pend_q rfl rfl rfl (ql tok rfl)) ?_)), ?_⟩) | (refine prn_o1 rfl (st_box rfl) (by decide +kernel) rfl rfl rfl ?_; rintro _ _ _ ⟨_, rfl, rfl, rfl⟩; refine ⟨by (repeat (first | exact trivial | refine And.intro (pend_q rfl rfl rfl (qt_pev tok rfl)) ?_ | refine And.intro (pend_q rfl rfl rfl (ql tok rfl)) ?_)), ?_⟩) | (refine prn_o1 rfl (st_alloc tok rfl) (by decide +kernel) rfl rfl rfl ?_; rintro _ _ _ ⟨_, rfl, rfl, rfl⟩; refine ⟨by (repeat (first | exact trivial | refine And.intro (pend_q rfl rfl rfl (qt_pev tok rfl)) ?_ | refine And.intro (pend_q rfl rfl rfl (ql tok rfl)) ?_)), ?_⟩) | (refine prn_o1 rfl (st_buildSlice tok rfl rfl rfl rfl rfl rfl rfl) (by decide +kernel) rfl rfl rfl ?_; rintro _ _ _ ⟨_, rfl, rfl, rfl⟩; refine ⟨by (repeat (first | exact trivial | refine And.intro (pend_q rfl rfl rfl (qt_pev tok rfl)) ?_ | refine And.intro (pend_q rfl rfl rfl (ql tok rfl)) ?_)), ?_⟩) | (refine prn_e1 rfl (qt_pev tok rfl) (by decide +kernel) rfl rfl rfl ?_; rintro _ _ _ ⟨rfl, rfl, rfl⟩))
      refine run_cond rfl (fun h => by cases h) (fun _ => ?_)
      repeat (first | with_reducible (first | refine run_seq ?_ | refine run_region ?_ | refine runL_nil ?_ | refine run_skip ?_ | refine run_block ?_ | refine run_inBlock ?_) | refine run_exit rfl ?_ | refine runL_q (qt_pev tok rfl) rfl rfl rfl ?_ | refine runL_g rfl rfl (qt_pev tok rfl) rfl rfl rfl rfl rfl ?_ | refine runL_q (ql tok rfl) rfl rfl rfl ?_ | refine runL_g rfl rfl (ql tok rfl) rfl rfl rfl rfl rfl ?_ | (refine runL_op0 (sst tok rfl rfl rfl rfl rfl) ?_; rintro _ _ _ ⟨rfl, rfl, rfl⟩) | (refine runL_op (st_box rfl) rfl rfl rfl ?_; rintro _ _ _ ⟨_, rfl, rfl, rfl⟩) | (refine runL_op (st_alloc tok rfl) rfl rfl rfl ?_; rintro _ _ _ ⟨_, rfl, rfl, rfl⟩) | (refine runL_op (st_buildSlice tok rfl rfl rfl rfl rfl rfl rfl) rfl rfl rfl ?_; rintro _ _ _ ⟨_, rfl, rfl, rfl⟩))
      exact run_mem (fun _ h => h.drop) (run_sub' (hnext _ _ _ ⟨hlt, rfl, Mem.le_trans hM1 hM2, hI2⟩) ⟨lk_succ rfl (by omega), rfl, by rw [hv]; rfl, rfl, rfl, trivial⟩)
    · repeat (first | with_reducible (first | refine run_seq ?_ | refine run_region ?_ | refine runL_nil ?_ | refine run_skip ?_ | refine run_block ?_ | refine run_inBlock ?_) | refine run_exit rfl ?_ | refine runL_q (qt_pev tok rfl) rfl rfl rfl ?_ | refine runL_gK rfl rfl (qt_pev tok rfl) rfl rfl rfl ?_ | refine runL_gF rfl rfl rfl rfl rfl ?_ | refine runL_g rfl rfl (qt_pev tok rfl) rfl rfl rfl rfl rfl ?_ | refine runL_q (ql tok rfl) rfl rfl rfl ?_ | refine runL_gK rfl rfl (ql tok rfl) rfl rfl rfl ?_ | refine runL_gF rfl rfl rfl rfl rfl ?_ | refine runL_g rfl rfl (ql tok rfl) rfl rfl rfl rfl rfl ?_ | (refine runL_op0 (sst tok rfl rfl rfl rfl rfl) ?_; rintro _ _ _ ⟨rfl, rfl, rfl⟩) | (refine runL_op (st_box rfl) rfl rfl rfl ?_; rintro _ _ _ ⟨_, rfl, rfl, rfl⟩) | (refine runL_op (st_alloc tok rfl) rfl rfl rfl ?_; rintro _ _ _ ⟨_, rfl, rfl, rfl⟩) | (refine runL_op (st_buildSlice tok rfl rfl rfl rfl rfl rfl rfl) rfl rfl rfl ?_; rintro _ _ _ ⟨_, rfl, rfl, rfl⟩) | refine prn_start mixed ?_ | refine prn_end (by decide +kernel) ?_ | refine prn_q rfl (qt_pev tok rfl) (by decide +kernel) rfl rfl rfl ?_ | refine prn_gK rfl rfl rfl (qt_pev tok rfl) (by decide +kernel) rfl rfl rfl ?_ | refine prn_gF rfl rfl rfl (by decide +kernel) rfl rfl rfl ?_ | refine prn_g rfl rfl rfl (qt_pev tok rfl) (by decide +kernel) rfl rfl rfl rfl rfl ?_ | refine prn_q rfl (ql tok rfl) (by decide +kernel) rfl rfl rfl ?_ | refine prn_gK rfl rfl rfl (ql tok rfl) (by decide +kernel) rfl rfl rfl ?_ | refine prn_gF rfl rfl rfl (by decide +kernel) rfl rfl rfl ?_ | refine prn_g rfl rfl rfl (ql tok rfl) (by decide +kernel) rfl rfl rfl rfl rfl ?_ | (refine prn_e0 rfl (sst tok rfl rfl rfl rfl rfl) (by decide +kernel) ?_; rintro _ _ _ ⟨rfl, rfl, rfl⟩) | (refine prn_e1 rfl (st_box rfl) (by decide +kernel) rfl rfl rfl ?_; rintro _ _ _ ⟨_, rfl, rfl, rfl⟩) | (refine prn_e1 rfl (st_alloc tok rfl) (by decide +kernel) rfl rfl rfl ?_; rintro _ _ _ ⟨_, rfl, rfl, rfl⟩) | (refine prn_e1 rfl (st_buildSlice tok rfl rfl rfl rfl rfl rfl rfl) (by decide +kernel) rfl rfl rfl ?_; rintro _ _ _ ⟨_, rfl, rfl, rfl⟩) | (refine prn_o0 rfl (sst tok rfl rfl rfl rfl rfl) (by decide +kernel) ?_; rintro _ _ _ ⟨rfl, rfl, rfl⟩; refine ⟨by (repeat (first | exact trivial | refine And.intro (pend_q rfl rfl rfl (qt_pev tok rfl)) ?_ | refine And.intro (pend_q rfl rfl rfl (ql tok rfl)) ?_)), ?_⟩) | (refine prn_o1 rfl (st_box rfl) (by decide +kernel) rfl rfl rfl ?_; rintro _ _ _ ⟨_, rfl, rfl, rfl⟩; refine ⟨by (repeat (first | exact trivial | refine And.intro (pend_q rfl rfl rfl (qt_pev tok rfl)) ?_ | refine And.intro (pend_q rfl rfl rfl (ql tok rfl)) ?_)), ?_⟩) | (refine prn_o1 rfl (st_alloc tok rfl) (by decide +kernel) rfl rfl rfl ?_; rintro _ _ _ ⟨_, rfl, rfl, rfl⟩; refine ⟨by (repeat (first | exact trivial | refine And.intro (pend_q rfl rfl rfl (qt_pev tok rfl)) ?_ | refine And.intro (pend_q rfl rfl rfl (ql tok rfl)) ?_)), ?_⟩) | (refine prn_o1 rfl (st_buildSlice tok rfl rfl rfl rfl rfl rfl rfl) (by decide +kernel) rfl rfl rfl ?_; rintro _ _ _ ⟨_, rfl, rfl, rfl⟩; refine ⟨by (repeat (first | exact trivial | refine And.intro (pend_q rfl rfl rfl (qt_pev tok rfl)) ?_ | refine And.intro (pend_q rfl rfl rfl (ql tok rfl)) ?_)), ?_⟩) | (refine prn_e1 rfl (qt_pev tok rfl) (by decide +kernel) rfl rfl rfl ?_; rintro _ _ _ ⟨rfl, rfl, rfl⟩))
      refine run_cond rfl (fun _ => ?_) (fun h => by cases h)
      exact run_ret hC (rs := []) rfl resN (fun _ h => h.drop) ⟨Mem.le_trans hM1 hM2, .inr ⟨_, hX⟩⟩
  · have hge : j = c.mem.len := by simp at h1; omega
    subst hge
    repeat (first | with_reducible (first | refine run_seq ?_ | refine run_region ?_ | refine runL_nil ?_ | refine run_skip ?_ | refine run_block ?_ | refine run_inBlock ?_) | refine run_exit rfl ?_ | refine runL_q (qt_pev tok rfl) rfl rfl rfl ?_ | refine runL_g rfl rfl (qt_pev tok rfl) rfl rfl rfl rfl rfl ?_ | refine runL_q (ql tok rfl) rfl rfl rfl ?_ | refine runL_g rfl rfl (ql tok rfl) rfl rfl rfl rfl rfl ?_ | (refine runL_op0 (sst tok rfl rfl rfl rfl rfl) ?_; rintro _ _ _ ⟨rfl, rfl, rfl⟩) | (refine runL_op (st_box rfl) rfl rfl rfl ?_; rintro _ _ _ ⟨_, rfl, rfl, rfl⟩) | (refine runL_op (st_alloc tok rfl) rfl rfl rfl ?_; rintro _ _ _ ⟨_, rfl, rfl, rfl⟩) | (refine runL_op (st_buildSlice tok rfl rfl rfl rfl rfl rfl rfl) rfl rfl rfl ?_; rintro _ _ _ ⟨_, rfl, rfl, rfl⟩))
    exact run_end hC (rs := []) rfl resN (fun _ h => h) ⟨hM1, .inl (by simpa [ons] using hI1)⟩
theorem members_ok (M : Mem) (L : HL) (c : Co) (h : CoOk M c) (hr : Rows c) : Tr Try.prog 56 [.agg ⟨coC c⟩] M L (fun v M' L' => M.le M' ∧ L = L' ∧ ∃ caps, v = .func (.func 69) #[] ⟨caps⟩ ∧ IterM Try.prog 69 caps M' ((ons c).map onV)) := by
  refine Tr.intro 4 Try.func56 rfl rfl Try.call56 rfl ?_
  intro C hC hro
  repeat (first | with_reducible (first | refine run_seq ?_ | refine run_region ?_ | refine runL_nil ?_ | refine run_skip ?_ | refine run_block ?_ | refine run_inBlock ?_) | refine run_exit rfl ?_ | refine runL_q (qt_pev tok rfl) rfl rfl rfl ?_ | refine runL_g rfl rfl (qt_pev tok rfl) rfl rfl rfl rfl rfl ?_ | refine runL_q (ql tok rfl) rfl rfl rfl ?_ | refine runL_g rfl rfl (ql tok rfl) rfl rfl rfl rfl rfl ?_ | (refine runL_op0 (sst tok rfl rfl rfl rfl rfl) ?_; rintro _ _ _ ⟨rfl, rfl, rfl⟩) | (refine runL_op (st_box rfl) rfl rfl rfl ?_; rintro _ _ _ ⟨_, rfl, rfl, rfl⟩) | (refine runL_op (st_alloc tok rfl) rfl rfl rfl ?_; rintro _ _ _ ⟨_, rfl, rfl, rfl⟩) | (refine runL_op (st_buildSlice tok rfl rfl rfl rfl rfl rfl rfl) rfl rfl rfl ?_; rintro _ _ _ ⟨_, rfl, rfl, rfl⟩))
  rename_i b1
  refine run_retE hC (rs := [.tmp 2]) rfl (resT rfl resN) fun w hw => ?_
  obtain ⟨M1, h1, h2, h3⟩ := hw.freeze1
  exact ⟨M1, L, h3, h1, rfl, _, rfl, members1_ok M1 c (h.le h1) hr b1 (Cells.ofBlk h2)⟩
end Go.Proofs.Ytpmepmdngdkafaa
namespace Go.Proofs.Ytpmepmdngdkafaa
open Go.Chi

/-! ### the votes -/
def neT (t : ByteArray) : Bool := !t.toList == (⟨#[]⟩ : ByteArray).toList
def badA (c : Co) (m : On) : Bool := (decide (m.vote > 2)) || ((m.ack && (c.state == 1)) || ((c.state == 2) && (m.vote != 1)))
def badB (m : On) : Bool := ((m.vote != 1) && neT m.tag) || ((m.vote == 1) && (checkR m.tag != 0))
def onOk (c : Co) (m : On) : Bool := !badA c m && !badB m
def votesR (c : Co) : Bool := (ons c).all (onOk c)
theorem ons_tag {c : Co} {m : On} (hm : m ∈ ons c) (h : ∀ t ∈ c.tags.xs, t.size < 4611686018427387904) : m.tag.size < 4611686018427387904 := by
  obtain ⟨k, _, rfl⟩ := List.mem_map.1 hm
  simp only [onAt]
  cases hk : c.tags.xs[k]? with
  | none => simp; decide
  | some t => exact h t (List.mem_of_getElem? hk)
set_option maxHeartbeats 8000000 in
theorem votes_ok (M : Mem) (L : HL) (c : Co) (h : CoOk M c) (hr : Rows c) : TrQ Try.prog 48 [.agg ⟨coC c⟩] M L (.bool (votesR c)) := by
  refine Tr.intro 46 Try.func48 rfl rfl Try.call48 rfl ?_
  intro C hC hro
  repeat (first | with_reducible (first | refine run_seq ?_ | refine run_region ?_ | refine runL_nil ?_ | refine run_skip ?_ | refine run_block ?_ | refine run_inBlock ?_) | refine run_exit rfl ?_ | refine runL_q (qt_pev tok rfl) rfl rfl rfl ?_ | refine runL_g rfl rfl (qt_pev tok rfl) rfl rfl rfl rfl rfl ?_ | refine runL_q (ql tok rfl) rfl rfl rfl ?_ | refine runL_g rfl rfl (ql tok rfl) rfl rfl rfl rfl rfl ?_ | (refine runL_op0 (sst tok rfl rfl rfl rfl rfl) ?_; rintro _ _ _ ⟨rfl, rfl, rfl⟩) | (refine runL_op (st_box rfl) rfl rfl rfl ?_; rintro _ _ _ ⟨_, rfl, rfl, rfl⟩) | (refine runL_op (st_alloc tok rfl) rfl rfl rfl ?_; rintro _ _ _ ⟨_, rfl, rfl, rfl⟩) | (refine runL_op (st_buildSlice tok rfl rfl rfl rfl rfl rfl rfl) rfl rfl rfl ?_; rintro _ _ _ ⟨_, rfl, rfl, rfl⟩) | (refine runL_op (st_callF rfl (fun _ => members_ok _ _ c h hr)) rfl rfl rfl ?_; rintro _ M1 _ ⟨hM1, rfl, caps, rfl, hit⟩))
  rename_i b1 b2
  refine run_rangeM hro rfl hit rfl (by intro x hx; obtain ⟨p, _, rfl⟩ := List.mem_map.1 hx; rfl)
    (fun k M' L' => ((ons c).take k).all (onOk c) = true ∧ M1.le M' ∧ L' = (b2, .cells ⟨[.bool false]⟩ 4 (0, 0)) :: (b1, .cells ⟨coC c⟩ 80 (0, 0)) :: L)
    (fun cd k M' L' => cd = .ret ∧ M1.le M' ∧ (ons c).all (onOk c) = false ∧ L' = (b2, .cells ⟨[.bool false]⟩ 4 (0, 0)) :: (b1, .cells ⟨coC c⟩ 80 (0, 0)) :: L)
    (fun k M2 M3 L2 h ⟨h0, h1, h2⟩ => ⟨h0, Mem.le_trans h1 h, h2⟩) ?_ ?_ ?_ ?_
  · exact ⟨rfl, Mem.le_refl _, rfl⟩
  · rintro j x M2 _ R R' C' hx hM2 ⟨hall, hM2', rfl⟩ B
    obtain ⟨m, he, rfl⟩ : ∃ p, (ons c)[j]? = some p ∧ onV p = x := by simpa using hx
    have hmt := ons_tag (List.mem_of_getElem? he) h.tag
    have hf : onOk c m = false → (ons c).all (onOk c) = false := fun hk => by
      rw [List.all_eq_false]; exact ⟨m, List.mem_of_getElem? he, by rw [hk]; simp⟩
    have ht : onOk c m = true → ((ons c).take (j + 1)).all (onOk c) = true := fun hk => by
      rw [take_snoc he, List.all_append, hall]; simp [hk]
    simp only [List.cons_append]
    repeat (first | with_reducible (first | refine run_seq ?_ | refine run_region ?_ | refine runL_nil ?_ | refine run_skip ?_ | refine run_block ?_ | refine run_inBlock ?_) | refine run_exit rfl ?_ | refine runL_q (qt_pev tok rfl) rfl rfl rfl ?_ | refine runL_g rfl rfl (qt_pev tok rfl) rfl rfl rfl rfl rfl ?_ | refine runL_q (ql tok rfl) rfl rfl rfl ?_ | refine runL_g rfl rfl (ql tok rfl) rfl rfl rfl rfl rfl ?_ | (refine runL_op0 (sst tok rfl rfl rfl rfl rfl) ?_; rintro _ _ _ ⟨rfl, rfl, rfl⟩) | (refine runL_op (st_box rfl) rfl rfl rfl ?_; rintro _ _ _ ⟨_, rfl, rfl, rfl⟩) | (refine runL_op (st_alloc tok rfl) rfl rfl rfl ?_; rintro _ _ _ ⟨_, rfl, rfl, rfl⟩) | (refine runL_op (st_buildSlice tok rfl rfl rfl rfl rfl rfl rfl) rfl rfl rfl ?_; rintro _ _ _ ⟨_, rfl, rfl, rfl⟩))
    rename_i b3
    refine B.begin' ((b3, .cells ⟨onC m⟩ 93 (0, 0)) :: (b2, .cells ⟨[.bool false]⟩ 4 (0, 0)) :: (b1, .cells ⟨coC c⟩ 80 (0, 0)) :: L) rfl ?_
    simp only [List.cons_append]
    repeat (first | with_reducible (first | refine run_seq ?_ | refine run_region ?_ | refine runL_nil ?_ | refine run_skip ?_ | refine run_block ?_ | refine run_inBlock ?_) | refine run_exit rfl ?_ | refine runL_q (qt_pev tok rfl) rfl rfl rfl ?_ | refine runL_g rfl rfl (qt_pev tok rfl) rfl rfl rfl rfl rfl ?_ | refine runL_q (ql tok rfl) rfl rfl rfl ?_ | refine runL_g rfl rfl (ql tok rfl) rfl rfl rfl rfl rfl ?_ | (refine runL_op0 (sst tok rfl rfl rfl rfl rfl) ?_; rintro _ _ _ ⟨rfl, rfl, rfl⟩) | (refine runL_op (st_box rfl) rfl rfl rfl ?_; rintro _ _ _ ⟨_, rfl, rfl, rfl⟩) | (refine runL_op (st_alloc tok rfl) rfl rfl rfl ?_; rintro _ _ _ ⟨_, rfl, rfl, rfl⟩) | (refine runL_op (st_buildSlice tok rfl rfl rfl rfl rfl rfl rfl) rfl rfl rfl ?_; rintro _ _ _ ⟨_, rfl, rfl, rfl⟩))
    refine run_cond rfl (fun h1 => ?_) (fun h1 => ?_)
    · have hk : onOk c m = false := by simp only [onOk, badA, h1]; rfl
      repeat (first | with_reducible (first | refine run_seq ?_ | refine run_region ?_ | refine runL_nil ?_ | refine run_skip ?_ | refine run_block ?_ | refine run_inBlock ?_) | refine run_exit rfl ?_ | refine runL_q (qt_pev tok rfl) rfl rfl rfl ?_ | refine runL_g rfl rfl (qt_pev tok rfl) rfl rfl rfl rfl rfl ?_ | refine runL_q (ql tok rfl) rfl rfl rfl ?_ | refine runL_g rfl rfl (ql tok rfl) rfl rfl rfl rfl rfl ?_ | (refine runL_op0 (sst tok rfl rfl rfl rfl rfl) ?_; rintro _ _ _ ⟨rfl, rfl, rfl⟩) | (refine runL_op (st_box rfl) rfl rfl rfl ?_; rintro _ _ _ ⟨_, rfl, rfl, rfl⟩) | (refine runL_op (st_alloc tok rfl) rfl rfl rfl ?_; rintro _ _ _ ⟨_, rfl, rfl, rfl⟩) | (refine runL_op (st_buildSlice tok rfl rfl rfl rfl rfl rfl rfl) rfl rfl rfl ?_; rintro _ _ _ ⟨_, rfl, rfl, rfl⟩))
      refine run_cond rfl (fun _ => ?_) (fun h => Bool.noConfusion (h.symm.trans h1))
      repeat (first | with_reducible (first | refine run_seq ?_ | refine run_region ?_ | refine runL_nil ?_ | refine run_skip ?_ | refine run_block ?_ | refine run_inBlock ?_) | refine run_exit rfl ?_ | refine runL_q (qt_pev tok rfl) rfl rfl rfl ?_ | refine runL_g rfl rfl (qt_pev tok rfl) rfl rfl rfl rfl rfl ?_ | refine runL_q (ql tok rfl) rfl rfl rfl ?_ | refine runL_g rfl rfl (ql tok rfl) rfl rfl rfl rfl rfl ?_ | (refine runL_op0 (sst tok rfl rfl rfl rfl rfl) ?_; rintro _ _ _ ⟨rfl, rfl, rfl⟩) | (refine runL_op (st_box rfl) rfl rfl rfl ?_; rintro _ _ _ ⟨_, rfl, rfl, rfl⟩) | (refine runL_op (st_alloc tok rfl) rfl rfl rfl ?_; rintro _ _ _ ⟨_, rfl, rfl, rfl⟩) | (refine runL_op (st_buildSlice tok rfl rfl rfl rfl rfl rfl rfl) rfl rfl rfl ?_; rintro _ _ _ ⟨_, rfl, rfl, rfl⟩))
      exact B.ret' (Mem.le_refl _) (fun _ h => h.drop) ⟨rfl, hM2', hf hk, rfl⟩
    · repeat (first | with_reducible (first | refine run_seq ?_ | refine run_region ?_ | refine runL_nil ?_ | refine run_skip ?_ | refine run_block ?_ | refine run_inBlock ?_) | refine run_exit rfl ?_ | refine runL_q (qt_pev tok rfl) rfl rfl rfl ?_ | refine runL_g rfl rfl (qt_pev tok rfl) rfl rfl rfl rfl rfl ?_ | refine runL_q (ql tok rfl) rfl rfl rfl ?_ | refine runL_g rfl rfl (ql tok rfl) rfl rfl rfl rfl rfl ?_ | (refine runL_op0 (sst tok rfl rfl rfl rfl rfl) ?_; rintro _ _ _ ⟨rfl, rfl, rfl⟩) | (refine runL_op (st_box rfl) rfl rfl rfl ?_; rintro _ _ _ ⟨_, rfl, rfl, rfl⟩) | (refine runL_op (st_alloc tok rfl) rfl rfl rfl ?_; rintro _ _ _ ⟨_, rfl, rfl, rfl⟩) | (refine runL_op (st_buildSlice tok rfl rfl rfl rfl rfl rfl rfl) rfl rfl rfl ?_; rintro _ _ _ ⟨_, rfl, rfl, rfl⟩))
      refine run_cond rfl (fun h2 => ?_) (fun h2 => ?_)
      · have hk : onOk c m = false := by simp only [onOk, badA, show (m.ack && (c.state == 1)) = true from h2]; simp
        repeat (first | with_reducible (first | refine run_seq ?_ | refine run_region ?_ | refine runL_nil ?_ | refine run_skip ?_ | refine run_block ?_ | refine run_inBlock ?_) | refine run_exit rfl ?_ | refine runL_q (qt_pev tok rfl) rfl rfl rfl ?_ | refine runL_g rfl rfl (qt_pev tok rfl) rfl rfl rfl rfl rfl ?_ | refine runL_q (ql tok rfl) rfl rfl rfl ?_ | refine runL_g rfl rfl (ql tok rfl) rfl rfl rfl rfl rfl ?_ | (refine runL_op0 (sst tok rfl rfl rfl rfl rfl) ?_; rintro _ _ _ ⟨rfl, rfl, rfl⟩) | (refine runL_op (st_box rfl) rfl rfl rfl ?_; rintro _ _ _ ⟨_, rfl, rfl, rfl⟩) | (refine runL_op (st_alloc tok rfl) rfl rfl rfl ?_; rintro _ _ _ ⟨_, rfl, rfl, rfl⟩) | (refine runL_op (st_buildSlice tok rfl rfl rfl rfl rfl rfl rfl) rfl rfl rfl ?_; rintro _ _ _ ⟨_, rfl, rfl, rfl⟩))
        refine run_cond rfl (fun _ => ?_) (fun h => Bool.noConfusion (h.symm.trans h2))
        repeat (first | with_reducible (first | refine run_seq ?_ | refine run_region ?_ | refine runL_nil ?_ | refine run_skip ?_ | refine run_block ?_ | refine run_inBlock ?_) | refine run_exit rfl ?_ | refine runL_q (qt_pev tok rfl) rfl rfl rfl ?_ | refine runL_g rfl rfl (qt_pev tok rfl) rfl rfl rfl rfl rfl ?_ | refine runL_q (ql tok rfl) rfl rfl rfl ?_ | refine runL_g rfl rfl (ql tok rfl) rfl rfl rfl rfl rfl ?_ | (refine runL_op0 (sst tok rfl rfl rfl rfl rfl) ?_; rintro _ _ _ ⟨rfl, rfl, rfl⟩) | (refine runL_op (st_box rfl) rfl rfl rfl ?_; rintro _ _ _ ⟨_, rfl, rfl, rfl⟩) | (refine runL_op (st_alloc tok rfl) rfl rfl rfl ?_; rintro _ _ _ ⟨_, rfl, rfl, rfl⟩) | (refine runL_op (st_buildSlice tok rfl rfl rfl rfl rfl rfl rfl) rfl rfl rfl ?_; rintro _ _ _ ⟨_, rfl, rfl, rfl⟩))
        exact B.ret' (Mem.le_refl _) (fun _ h => h.drop) ⟨rfl, hM2', hf hk, rfl⟩
      · repeat (first | with_reducible (first | refine run_seq ?_ | refine run_region ?_ | refine runL_nil ?_ | refine run_skip ?_ | refine run_block ?_ | refine run_inBlock ?_) | refine run_exit rfl ?_ | refine runL_q (qt_pev tok rfl) rfl rfl rfl ?_ | refine runL_g rfl rfl (qt_pev tok rfl) rfl rfl rfl rfl rfl ?_ | refine runL_q (ql tok rfl) rfl rfl rfl ?_ | refine runL_g rfl rfl (ql tok rfl) rfl rfl rfl rfl rfl ?_ | (refine runL_op0 (sst tok rfl rfl rfl rfl rfl) ?_; rintro _ _ _ ⟨rfl, rfl, rfl⟩) | (refine runL_op (st_box rfl) rfl rfl rfl ?_; rintro _ _ _ ⟨_, rfl, rfl, rfl⟩) | (refine runL_op (st_alloc tok rfl) rfl rfl rfl ?_; rintro _ _ _ ⟨_, rfl, rfl, rfl⟩) | (refine runL_op (st_buildSlice tok rfl rfl rfl rfl rfl rfl rfl) rfl rfl rfl ?_; rintro _ _ _ ⟨_, rfl, rfl, rfl⟩))
        refine run_cond rfl (fun h3 => ?_) (fun h3 => ?_)
        · have hk : onOk c m = false := by simp only [onOk, badA, show ((c.state == 2) && (m.vote != 1)) = true from h3]; simp
          repeat (first | with_reducible (first | refine run_seq ?_ | refine run_region ?_ | refine runL_nil ?_ | refine run_skip ?_ | refine run_block ?_ | refine run_inBlock ?_) | refine run_exit rfl ?_ | refine runL_q (qt_pev tok rfl) rfl rfl rfl ?_ | refine runL_g rfl rfl (qt_pev tok rfl) rfl rfl rfl rfl rfl ?_ | refine runL_q (ql tok rfl) rfl rfl rfl ?_ | refine runL_g rfl rfl (ql tok rfl) rfl rfl rfl rfl rfl ?_ | (refine runL_op0 (sst tok rfl rfl rfl rfl rfl) ?_; rintro _ _ _ ⟨rfl, rfl, rfl⟩) | (refine runL_op (st_box rfl) rfl rfl rfl ?_; rintro _ _ _ ⟨_, rfl, rfl, rfl⟩) | (refine runL_op (st_alloc tok rfl) rfl rfl rfl ?_; rintro _ _ _ ⟨_, rfl, rfl, rfl⟩) | (refine runL_op (st_buildSlice tok rfl rfl rfl rfl rfl rfl rfl) rfl rfl rfl ?_; rintro _ _ _ ⟨_, rfl, rfl, rfl⟩))
          exact B.ret' (Mem.le_refl _) (fun _ h => h.drop) ⟨rfl, hM2', hf hk, rfl⟩
        · have hbA : badA c m = false := by simp only [badA, show ((c.state == 2) && (m.vote != 1)) = false from h3, show (m.ack && (c.state == 1)) = false from h2, show decide (m.vote > 2) = false from h1]; rfl
          repeat (first | with_reducible (first | refine run_seq ?_ | refine run_region ?_ | refine runL_nil ?_ | refine run_skip ?_ | refine run_block ?_ | refine run_inBlock ?_) | refine run_exit rfl ?_ | refine runL_q (qt_pev tok rfl) rfl rfl rfl ?_ | refine runL_g rfl rfl (qt_pev tok rfl) rfl rfl rfl rfl rfl ?_ | refine runL_q (ql tok rfl) rfl rfl rfl ?_ | refine runL_g rfl rfl (ql tok rfl) rfl rfl rfl rfl rfl ?_ | (refine runL_op0 (sst tok rfl rfl rfl rfl rfl) ?_; rintro _ _ _ ⟨rfl, rfl, rfl⟩) | (refine runL_op (st_box rfl) rfl rfl rfl ?_; rintro _ _ _ ⟨_, rfl, rfl, rfl⟩) | (refine runL_op (st_alloc tok rfl) rfl rfl rfl ?_; rintro _ _ _ ⟨_, rfl, rfl, rfl⟩) | (refine runL_op (st_buildSlice tok rfl rfl rfl rfl rfl rfl rfl) rfl rfl rfl ?_; rintro _ _ _ ⟨_, rfl, rfl, rfl⟩))
          refine run_cond rfl (fun h4 => ?_) (fun h4 => ?_)
          · have hk : onOk c m = false := by simp only [onOk, badB, show ((m.vote != 1) && neT m.tag) = true from h4]; simp
            repeat (first | with_reducible (first | refine run_seq ?_ | refine run_region ?_ | refine runL_nil ?_ | refine run_skip ?_ | refine run_block ?_ | refine run_inBlock ?_) | refine run_exit rfl ?_ | refine runL_q (qt_pev tok rfl) rfl rfl rfl ?_ | refine runL_g rfl rfl (qt_pev tok rfl) rfl rfl rfl rfl rfl ?_ | refine runL_q (ql tok rfl) rfl rfl rfl ?_ | refine runL_g rfl rfl (ql tok rfl) rfl rfl rfl rfl rfl ?_ | (refine runL_op0 (sst tok rfl rfl rfl rfl rfl) ?_; rintro _ _ _ ⟨rfl, rfl, rfl⟩) | (refine runL_op (st_box rfl) rfl rfl rfl ?_; rintro _ _ _ ⟨_, rfl, rfl, rfl⟩) | (refine runL_op (st_alloc tok rfl) rfl rfl rfl ?_; rintro _ _ _ ⟨_, rfl, rfl, rfl⟩) | (refine runL_op (st_buildSlice tok rfl rfl rfl rfl rfl rfl rfl) rfl rfl rfl ?_; rintro _ _ _ ⟨_, rfl, rfl, rfl⟩))
            refine run_cond rfl (fun _ => ?_) (fun h => Bool.noConfusion (h.symm.trans h4))
            repeat (first | with_reducible (first | refine run_seq ?_ | refine run_region ?_ | refine runL_nil ?_ | refine run_skip ?_ | refine run_block ?_ | refine run_inBlock ?_) | refine run_exit rfl ?_ | refine runL_q (qt_pev tok rfl) rfl rfl rfl ?_ | refine runL_g rfl rfl (qt_pev tok rfl) rfl rfl rfl rfl rfl ?_ | refine runL_q (ql tok rfl) rfl rfl rfl ?_ | refine runL_g rfl rfl (ql tok rfl) rfl rfl rfl rfl rfl ?_ | (refine runL_op0 (sst tok rfl rfl rfl rfl rfl) ?_; rintro _ _ _ ⟨rfl, rfl, rfl⟩) | (refine runL_op (st_box rfl) rfl rfl rfl ?_; rintro _ _ _ ⟨_, rfl, rfl, rfl⟩) | (refine runL_op (st_alloc tok rfl) rfl rfl rfl ?_; rintro _ _ _ ⟨_, rfl, rfl, rfl⟩) | (refine runL_op (st_buildSlice tok rfl rfl rfl rfl rfl rfl rfl) rfl rfl rfl ?_; rintro _ _ _ ⟨_, rfl, rfl, rfl⟩))
            exact B.ret' (Mem.le_refl _) (fun _ h => h.drop) ⟨rfl, hM2', hf hk, rfl⟩
          · repeat (first | with_reducible (first | refine run_seq ?_ | refine run_region ?_ | refine runL_nil ?_ | refine run_skip ?_ | refine run_block ?_ | refine run_inBlock ?_) | refine run_exit rfl ?_ | refine runL_q (qt_pev tok rfl) rfl rfl rfl ?_ | refine runL_g rfl rfl (qt_pev tok rfl) rfl rfl rfl rfl rfl ?_ | refine runL_q (ql tok rfl) rfl rfl rfl ?_ | refine runL_g rfl rfl (ql tok rfl) rfl rfl rfl rfl rfl ?_ | (refine runL_op0 (sst tok rfl rfl rfl rfl rfl) ?_; rintro _ _ _ ⟨rfl, rfl, rfl⟩) | (refine runL_op (st_box rfl) rfl rfl rfl ?_; rintro _ _ _ ⟨_, rfl, rfl, rfl⟩) | (refine runL_op (st_alloc tok rfl) rfl rfl rfl ?_; rintro _ _ _ ⟨_, rfl, rfl, rfl⟩) | (refine runL_op (st_buildSlice tok rfl rfl rfl rfl rfl rfl rfl) rfl rfl rfl ?_; rintro _ _ _ ⟨_, rfl, rfl, rfl⟩) | refine runL_g rfl rfl (qt_callF rfl (fun _ => check_ok _ _ _ hmt)) rfl rfl rfl rfl rfl ?_)
            refine run_cond rfl (fun h5 => ?_) (fun h5 => ?_)
            · have hk : onOk c m = false := by simp only [onOk, badB, show ((m.vote == 1) && (checkR m.tag != 0)) = true from h5]; simp
              repeat (first | with_reducible (first | refine run_seq ?_ | refine run_region ?_ | refine runL_nil ?_ | refine run_skip ?_ | refine run_block ?_ | refine run_inBlock ?_) | refine run_exit rfl ?_ | refine runL_q (qt_pev tok rfl) rfl rfl rfl ?_ | refine runL_g rfl rfl (qt_pev tok rfl) rfl rfl rfl rfl rfl ?_ | refine runL_q (ql tok rfl) rfl rfl rfl ?_ | refine runL_g rfl rfl (ql tok rfl) rfl rfl rfl rfl rfl ?_ | (refine runL_op0 (sst tok rfl rfl rfl rfl rfl) ?_; rintro _ _ _ ⟨rfl, rfl, rfl⟩) | (refine runL_op (st_box rfl) rfl rfl rfl ?_; rintro _ _ _ ⟨_, rfl, rfl, rfl⟩) | (refine runL_op (st_alloc tok rfl) rfl rfl rfl ?_; rintro _ _ _ ⟨_, rfl, rfl, rfl⟩) | (refine runL_op (st_buildSlice tok rfl rfl rfl rfl rfl rfl rfl) rfl rfl rfl ?_; rintro _ _ _ ⟨_, rfl, rfl, rfl⟩))
              exact B.ret' (Mem.le_refl _) (fun _ h => h.drop) ⟨rfl, hM2', hf hk, rfl⟩
            · have hk : onOk c m = true := by simp only [onOk, hbA, badB, show ((m.vote == 1) && (checkR m.tag != 0)) = false from h5, show ((m.vote != 1) && neT m.tag) = false from h4]; rfl
              repeat (first | with_reducible (first | refine run_seq ?_ | refine run_region ?_ | refine runL_nil ?_ | refine run_skip ?_ | refine run_block ?_ | refine run_inBlock ?_) | refine run_exit rfl ?_ | refine runL_q (qt_pev tok rfl) rfl rfl rfl ?_ | refine runL_g rfl rfl (qt_pev tok rfl) rfl rfl rfl rfl rfl ?_ | refine runL_q (ql tok rfl) rfl rfl rfl ?_ | refine runL_g rfl rfl (ql tok rfl) rfl rfl rfl rfl rfl ?_ | (refine runL_op0 (sst tok rfl rfl rfl rfl rfl) ?_; rintro _ _ _ ⟨rfl, rfl, rfl⟩) | (refine runL_op (st_box rfl) rfl rfl rfl ?_; rintro _ _ _ ⟨_, rfl, rfl, rfl⟩) | (refine runL_op (st_alloc tok rfl) rfl rfl rfl ?_; rintro _ _ _ ⟨_, rfl, rfl, rfl⟩) | (refine runL_op (st_buildSlice tok rfl rfl rfl rfl rfl rfl rfl) rfl rfl rfl ?_; rintro _ _ _ ⟨_, rfl, rfl, rfl⟩))
              exact B.fin' (Mem.le_refl _) (fun _ h => h.drop) ⟨ht hk, hM2', rfl⟩
  · rintro D M2 _ hM2 ⟨h0, hM2', rfl⟩
    have hE : votesR c = true := by rw [votesR, ← h0, List.take_of_length_le (by simp)]
    rw [hE] at hC
    repeat (first | with_reducible (first | refine run_seq ?_ | refine run_region ?_ | refine runL_nil ?_ | refine run_skip ?_ | refine run_block ?_ | refine run_inBlock ?_) | refine run_exit rfl ?_ | refine runL_q (qt_pev tok rfl) rfl rfl rfl ?_ | refine runL_g rfl rfl (qt_pev tok rfl) rfl rfl rfl rfl rfl ?_ | refine runL_q (ql tok rfl) rfl rfl rfl ?_ | refine runL_g rfl rfl (ql tok rfl) rfl rfl rfl rfl rfl ?_ | (refine runL_op0 (sst tok rfl rfl rfl rfl rfl) ?_; rintro _ _ _ ⟨rfl, rfl, rfl⟩) | (refine runL_op (st_box rfl) rfl rfl rfl ?_; rintro _ _ _ ⟨_, rfl, rfl, rfl⟩) | (refine runL_op (st_alloc tok rfl) rfl rfl rfl ?_; rintro _ _ _ ⟨_, rfl, rfl, rfl⟩) | (refine runL_op (st_buildSlice tok rfl rfl rfl rfl rfl rfl rfl) rfl rfl rfl ?_; rintro _ _ _ ⟨_, rfl, rfl, rfl⟩))
    exact run_ret1 hC (by (repeat (first | with_reducible apply Upd.here | with_reducible apply Upd.there | with_reducible apply Upd.append_left))) (rs := [.cell 2 4]) rfl (rl tok rfl resN) (fun _ h => h.drop.drop.drop.of_le (Mem.le_trans hM1 hM2)) ⟨rfl, rfl, rfl⟩
  · rintro _ j D M2 _ hM2 ⟨rfl, hM2', hf, rfl⟩
    rw [show votesR c = false from hf] at hC
    exact run_ret1 hC (by (repeat (first | with_reducible apply Upd.here | with_reducible apply Upd.there | with_reducible apply Upd.append_left))) (rs := [.cell 2 4]) rfl (rl tok rfl resN) (fun _ h => h.drop.drop.drop.of_le (Mem.le_trans hM1 hM2)) ⟨rfl, rfl, rfl⟩

/-! ### which transactions may be -/
def coOk (c : Co) : Bool := ((namesR c && rowsR c) && votesR c) && timesR c
def coE (c : Co) : Int := if coOk c = true then 0 else 2
def lkV (f : Nat) (c : Co) : Value := .func (.func f) ⟨[.agg ⟨coC c⟩]⟩ ⟨[]⟩
set_option maxRecDepth 10000 in
set_option maxHeartbeats 8000000 in
theorem coCheck_ok (M : Mem) (L : HL) (c : Co) (h : CoOk M c) : TrQ Try.prog 24 [.agg ⟨coC c⟩] M L (.int .i64 (coE c)) := by
  refine Tr.intro 31 Try.func24 rfl rfl Try.call24 rfl ?_
  intro C hC hro
  repeat (first | with_reducible (first | refine run_seq ?_ | refine run_region ?_ | refine runL_nil ?_ | refine run_skip ?_ | refine run_block ?_ | refine run_inBlock ?_) | refine run_exit rfl ?_ | refine runL_q (qt_pev tok rfl) rfl rfl rfl ?_ | refine runL_g rfl rfl (qt_pev tok rfl) rfl rfl rfl rfl rfl ?_ | refine runL_q (ql tok rfl) rfl rfl rfl ?_ | refine runL_g rfl rfl (ql tok rfl) rfl rfl rfl rfl rfl ?_ | (refine runL_op0 (sst tok rfl rfl rfl rfl rfl) ?_; rintro _ _ _ ⟨rfl, rfl, rfl⟩) | (refine runL_op (st_box rfl) rfl rfl rfl ?_; rintro _ _ _ ⟨_, rfl, rfl, rfl⟩) | (refine runL_op (st_alloc tok rfl) rfl rfl rfl ?_; rintro _ _ _ ⟨_, rfl, rfl, rfl⟩) | (refine runL_op (st_buildSlice tok rfl rfl rfl rfl rfl rfl rfl) rfl rfl rfl ?_; rintro _ _ _ ⟨_, rfl, rfl, rfl⟩))
  rename_i b1 b2 b3
  refine run_mem (L' := (b3, .cells ⟨[lkV 46 c, lkV 47 c, lkV 48 c, lkV 49 c]⟩ 82 (0, 0)) :: (b2, .cells ⟨coC c⟩ 80 (0, 0)) :: (b1, .cells ⟨coC c⟩ 29 (0, 0)) :: L) (fun _ h => h) ?_
  refine run_sub' (σ' := [(20, .slice (some ⟨b3, 0, none⟩) 4 4), (21, .int .i64 4), (22, .int .i64 ((0 : Nat) : Int)), (2, .int .i64 0)]) ?_ ⟨rfl, rfl, rfl, rfl, trivial⟩
  refine run_loop ?_
  repeat (first | with_reducible (first | refine run_seq ?_ | refine run_region ?_ | refine runL_nil ?_ | refine run_skip ?_ | refine run_block ?_ | refine run_inBlock ?_) | refine run_exit rfl ?_ | refine runL_q (qt_pev tok rfl) rfl rfl rfl ?_ | refine runL_g rfl rfl (qt_pev tok rfl) rfl rfl rfl rfl rfl ?_ | refine runL_q (ql tok rfl) rfl rfl rfl ?_ | refine runL_g rfl rfl (ql tok rfl) rfl rfl rfl rfl rfl ?_ | (refine runL_op0 (sst tok rfl rfl rfl rfl rfl) ?_; rintro _ _ _ ⟨rfl, rfl, rfl⟩) | (refine runL_op (st_box rfl) rfl rfl rfl ?_; rintro _ _ _ ⟨_, rfl, rfl, rfl⟩) | (refine runL_op (st_alloc tok rfl) rfl rfl rfl ?_; rintro _ _ _ ⟨_, rfl, rfl, rfl⟩) | (refine runL_op (st_buildSlice tok rfl rfl rfl rfl rfl rfl rfl) rfl rfl rfl ?_; rintro _ _ _ ⟨_, rfl, rfl, rfl⟩))
  refine run_cond rfl (fun _ => ?_) (fun h => by cases h)
  repeat (first | with_reducible (first | refine run_seq ?_ | refine run_region ?_ | refine runL_nil ?_ | refine run_skip ?_ | refine run_block ?_ | refine run_inBlock ?_) | refine run_exit rfl ?_ | refine runL_q (qt_pev tok rfl) rfl rfl rfl ?_ | refine runL_g rfl rfl (qt_pev tok rfl) rfl rfl rfl rfl rfl ?_ | refine runL_q (ql tok rfl) rfl rfl rfl ?_ | refine runL_g rfl rfl (ql tok rfl) rfl rfl rfl rfl rfl ?_ | (refine runL_op0 (sst tok rfl rfl rfl rfl rfl) ?_; rintro _ _ _ ⟨rfl, rfl, rfl⟩) | (refine runL_op (st_box rfl) rfl rfl rfl ?_; rintro _ _ _ ⟨_, rfl, rfl, rfl⟩) | (refine runL_op (st_alloc tok rfl) rfl rfl rfl ?_; rintro _ _ _ ⟨_, rfl, rfl, rfl⟩) | (refine runL_op (st_buildSlice tok rfl rfl rfl rfl rfl rfl rfl) rfl rfl rfl ?_; rintro _ _ _ ⟨_, rfl, rfl, rfl⟩) | refine runL_q (qt_indexN tok rfl rfl rfl rfl (fun _ => by omega)) rfl rfl rfl ?_ | refine runL_q (st_callV rfl rfl (fun _ => names_ok _ _ c h)) rfl rfl rfl ?_)
  cases hk0 : namesR c
  · have hE : coE c = 2 := by simp [coE, coOk, hk0]
    refine run_cond rfl (fun _ => ?_) (fun h => by cases h)
    repeat (first | with_reducible (first | refine run_seq ?_ | refine run_region ?_ | refine runL_nil ?_ | refine run_skip ?_ | refine run_block ?_ | refine run_inBlock ?_) | refine run_exit rfl ?_ | refine runL_q (qt_pev tok rfl) rfl rfl rfl ?_ | refine runL_g rfl rfl (qt_pev tok rfl) rfl rfl rfl rfl rfl ?_ | refine runL_q (ql tok rfl) rfl rfl rfl ?_ | refine runL_g rfl rfl (ql tok rfl) rfl rfl rfl rfl rfl ?_ | (refine runL_op0 (sst tok rfl rfl rfl rfl rfl) ?_; rintro _ _ _ ⟨rfl, rfl, rfl⟩) | (refine runL_op (st_box rfl) rfl rfl rfl ?_; rintro _ _ _ ⟨_, rfl, rfl, rfl⟩) | (refine runL_op (st_alloc tok rfl) rfl rfl rfl ?_; rintro _ _ _ ⟨_, rfl, rfl, rfl⟩) | (refine runL_op (st_buildSlice tok rfl rfl rfl rfl rfl rfl rfl) rfl rfl rfl ?_; rintro _ _ _ ⟨_, rfl, rfl, rfl⟩))
    exact run_ret hC (rs := [.tmp 2]) rfl (resT rfl resN) (fun _ h => h.drop.drop.drop.drop) ⟨by rw [hE]; rfl, rfl, rfl⟩
  · refine run_cond rfl (fun h => by cases h) (fun _ => ?_)
    repeat (first | with_reducible (first | refine run_seq ?_ | refine run_region ?_ | refine runL_nil ?_ | refine run_skip ?_ | refine run_block ?_ | refine run_inBlock ?_) | refine run_exit rfl ?_ | refine runL_q (qt_pev tok rfl) rfl rfl rfl ?_ | refine runL_g rfl rfl (qt_pev tok rfl) rfl rfl rfl rfl rfl ?_ | refine runL_q (ql tok rfl) rfl rfl rfl ?_ | refine runL_g rfl rfl (ql tok rfl) rfl rfl rfl rfl rfl ?_ | (refine runL_op0 (sst tok rfl rfl rfl rfl rfl) ?_; rintro _ _ _ ⟨rfl, rfl, rfl⟩) | (refine runL_op (st_box rfl) rfl rfl rfl ?_; rintro _ _ _ ⟨_, rfl, rfl, rfl⟩) | (refine runL_op (st_alloc tok rfl) rfl rfl rfl ?_; rintro _ _ _ ⟨_, rfl, rfl, rfl⟩) | (refine runL_op (st_buildSlice tok rfl rfl rfl rfl rfl rfl rfl) rfl rfl rfl ?_; rintro _ _ _ ⟨_, rfl, rfl, rfl⟩))
    refine run_sub' (σ' := [(20, .slice (some ⟨b3, 0, none⟩) 4 4), (21, .int .i64 4), (22, .int .i64 ((1 : Nat) : Int)), (2, .int .i64 0)]) ?_ ⟨rfl, rfl, rfl, rfl, trivial⟩
    refine run_inLoop ?_
    repeat (first | with_reducible (first | refine run_seq ?_ | refine run_region ?_ | refine runL_nil ?_ | refine run_skip ?_ | refine run_block ?_ | refine run_inBlock ?_) | refine run_exit rfl ?_ | refine runL_q (qt_pev tok rfl) rfl rfl rfl ?_ | refine runL_g rfl rfl (qt_pev tok rfl) rfl rfl rfl rfl rfl ?_ | refine runL_q (ql tok rfl) rfl rfl rfl ?_ | refine runL_g rfl rfl (ql tok rfl) rfl rfl rfl rfl rfl ?_ | (refine runL_op0 (sst tok rfl rfl rfl rfl rfl) ?_; rintro _ _ _ ⟨rfl, rfl, rfl⟩) | (refine runL_op (st_box rfl) rfl rfl rfl ?_; rintro _ _ _ ⟨_, rfl, rfl, rfl⟩) | (refine runL_op (st_alloc tok rfl) rfl rfl rfl ?_; rintro _ _ _ ⟨_, rfl, rfl, rfl⟩) | (refine runL_op (st_buildSlice tok rfl rfl rfl rfl rfl rfl rfl) rfl rfl rfl ?_; rintro _ _ _ ⟨_, rfl, rfl, rfl⟩))
    refine run_cond rfl (fun _ => ?_) (fun h => by cases h)
    repeat (first | with_reducible (first | refine run_seq ?_ | refine run_region ?_ | refine runL_nil ?_ | refine run_skip ?_ | refine run_block ?_ | refine run_inBlock ?_) | refine run_exit rfl ?_ | refine runL_q (qt_pev tok rfl) rfl rfl rfl ?_ | refine runL_g rfl rfl (qt_pev tok rfl) rfl rfl rfl rfl rfl ?_ | refine runL_q (ql tok rfl) rfl rfl rfl ?_ | refine runL_g rfl rfl (ql tok rfl) rfl rfl rfl rfl rfl ?_ | (refine runL_op0 (sst tok rfl rfl rfl rfl rfl) ?_; rintro _ _ _ ⟨rfl, rfl, rfl⟩) | (refine runL_op (st_box rfl) rfl rfl rfl ?_; rintro _ _ _ ⟨_, rfl, rfl, rfl⟩) | (refine runL_op (st_alloc tok rfl) rfl rfl rfl ?_; rintro _ _ _ ⟨_, rfl, rfl, rfl⟩) | (refine runL_op (st_buildSlice tok rfl rfl rfl rfl rfl rfl rfl) rfl rfl rfl ?_; rintro _ _ _ ⟨_, rfl, rfl, rfl⟩) | refine runL_q (qt_indexN tok rfl rfl rfl rfl (fun _ => by omega)) rfl rfl rfl ?_ | refine runL_q (st_callV rfl rfl (fun _ => rows_ok _ _ c h)) rfl rfl rfl ?_)
    cases hk1 : rowsR c
    · have hE : coE c = 2 := by simp [coE, coOk, hk0, hk1]
      refine run_cond rfl (fun _ => ?_) (fun h => by cases h)
      repeat (first | with_reducible (first | refine run_seq ?_ | refine run_region ?_ | refine runL_nil ?_ | refine run_skip ?_ | refine run_block ?_ | refine run_inBlock ?_) | refine run_exit rfl ?_ | refine runL_q (qt_pev tok rfl) rfl rfl rfl ?_ | refine runL_g rfl rfl (qt_pev tok rfl) rfl rfl rfl rfl rfl ?_ | refine runL_q (ql tok rfl) rfl rfl rfl ?_ | refine runL_g rfl rfl (ql tok rfl) rfl rfl rfl rfl rfl ?_ | (refine runL_op0 (sst tok rfl rfl rfl rfl rfl) ?_; rintro _ _ _ ⟨rfl, rfl, rfl⟩) | (refine runL_op (st_box rfl) rfl rfl rfl ?_; rintro _ _ _ ⟨_, rfl, rfl, rfl⟩) | (refine runL_op (st_alloc tok rfl) rfl rfl rfl ?_; rintro _ _ _ ⟨_, rfl, rfl, rfl⟩) | (refine runL_op (st_buildSlice tok rfl rfl rfl rfl rfl rfl rfl) rfl rfl rfl ?_; rintro _ _ _ ⟨_, rfl, rfl, rfl⟩))
      exact run_ret hC (rs := [.tmp 2]) rfl (resT rfl resN) (fun _ h => h.drop.drop.drop.drop.drop) ⟨by rw [hE]; rfl, rfl, rfl⟩
    · refine run_cond rfl (fun h => by cases h) (fun _ => ?_)
      repeat (first | with_reducible (first | refine run_seq ?_ | refine run_region ?_ | refine runL_nil ?_ | refine run_skip ?_ | refine run_block ?_ | refine run_inBlock ?_) | refine run_exit rfl ?_ | refine runL_q (qt_pev tok rfl) rfl rfl rfl ?_ | refine runL_g rfl rfl (qt_pev tok rfl) rfl rfl rfl rfl rfl ?_ | refine runL_q (ql tok rfl) rfl rfl rfl ?_ | refine runL_g rfl rfl (ql tok rfl) rfl rfl rfl rfl rfl ?_ | (refine runL_op0 (sst tok rfl rfl rfl rfl rfl) ?_; rintro _ _ _ ⟨rfl, rfl, rfl⟩) | (refine runL_op (st_box rfl) rfl rfl rfl ?_; rintro _ _ _ ⟨_, rfl, rfl, rfl⟩) | (refine runL_op (st_alloc tok rfl) rfl rfl rfl ?_; rintro _ _ _ ⟨_, rfl, rfl, rfl⟩) | (refine runL_op (st_buildSlice tok rfl rfl rfl rfl rfl rfl rfl) rfl rfl rfl ?_; rintro _ _ _ ⟨_, rfl, rfl, rfl⟩))
      refine run_sub' (σ' := [(20, .slice (some ⟨b3, 0, none⟩) 4 4), (21, .int .i64 4), (22, .int .i64 ((2 : Nat) : Int)), (2, .int .i64 0)]) ?_ ⟨rfl, rfl, rfl, rfl, trivial⟩
      refine run_inLoop ?_
      repeat (first | with_reducible (first | refine run_seq ?_ | refine run_region ?_ | refine runL_nil ?_ | refine run_skip ?_ | refine run_block ?_ | refine run_inBlock ?_) | refine run_exit rfl ?_ | refine runL_q (qt_pev tok rfl) rfl rfl rfl ?_ | refine runL_g rfl rfl (qt_pev tok rfl) rfl rfl rfl rfl rfl ?_ | refine runL_q (ql tok rfl) rfl rfl rfl ?_ | refine runL_g rfl rfl (ql tok rfl) rfl rfl rfl rfl rfl ?_ | (refine runL_op0 (sst tok rfl rfl rfl rfl rfl) ?_; rintro _ _ _ ⟨rfl, rfl, rfl⟩) | (refine runL_op (st_box rfl) rfl rfl rfl ?_; rintro _ _ _ ⟨_, rfl, rfl, rfl⟩) | (refine runL_op (st_alloc tok rfl) rfl rfl rfl ?_; rintro _ _ _ ⟨_, rfl, rfl, rfl⟩) | (refine runL_op (st_buildSlice tok rfl rfl rfl rfl rfl rfl rfl) rfl rfl rfl ?_; rintro _ _ _ ⟨_, rfl, rfl, rfl⟩))
      refine run_cond rfl (fun _ => ?_) (fun h => by cases h)
      repeat (first | with_reducible (first | refine run_seq ?_ | refine run_region ?_ | refine runL_nil ?_ | refine run_skip ?_ | refine run_block ?_ | refine run_inBlock ?_) | refine run_exit rfl ?_ | refine runL_q (qt_pev tok rfl) rfl rfl rfl ?_ | refine runL_g rfl rfl (qt_pev tok rfl) rfl rfl rfl rfl rfl ?_ | refine runL_q (ql tok rfl) rfl rfl rfl ?_ | refine runL_g rfl rfl (ql tok rfl) rfl rfl rfl rfl rfl ?_ | (refine runL_op0 (sst tok rfl rfl rfl rfl rfl) ?_; rintro _ _ _ ⟨rfl, rfl, rfl⟩) | (refine runL_op (st_box rfl) rfl rfl rfl ?_; rintro _ _ _ ⟨_, rfl, rfl, rfl⟩) | (refine runL_op (st_alloc tok rfl) rfl rfl rfl ?_; rintro _ _ _ ⟨_, rfl, rfl, rfl⟩) | (refine runL_op (st_buildSlice tok rfl rfl rfl rfl rfl rfl rfl) rfl rfl rfl ?_; rintro _ _ _ ⟨_, rfl, rfl, rfl⟩) | refine runL_q (qt_indexN tok rfl rfl rfl rfl (fun _ => by omega)) rfl rfl rfl ?_ | refine runL_q (st_callV rfl rfl (fun _ => votes_ok _ _ c h (rowsR_rows hk1))) rfl rfl rfl ?_)
      cases hk2 : votesR c
      · have hE : coE c = 2 := by simp [coE, coOk, hk0, hk1, hk2]
        refine run_cond rfl (fun _ => ?_) (fun h => by cases h)
        repeat (first | with_reducible (first | refine run_seq ?_ | refine run_region ?_ | refine runL_nil ?_ | refine run_skip ?_ | refine run_block ?_ | refine run_inBlock ?_) | refine run_exit rfl ?_ | refine runL_q (qt_pev tok rfl) rfl rfl rfl ?_ | refine runL_g rfl rfl (qt_pev tok rfl) rfl rfl rfl rfl rfl ?_ | refine runL_q (ql tok rfl) rfl rfl rfl ?_ | refine runL_g rfl rfl (ql tok rfl) rfl rfl rfl rfl rfl ?_ | (refine runL_op0 (sst tok rfl rfl rfl rfl rfl) ?_; rintro _ _ _ ⟨rfl, rfl, rfl⟩) | (refine runL_op (st_box rfl) rfl rfl rfl ?_; rintro _ _ _ ⟨_, rfl, rfl, rfl⟩) | (refine runL_op (st_alloc tok rfl) rfl rfl rfl ?_; rintro _ _ _ ⟨_, rfl, rfl, rfl⟩) | (refine runL_op (st_buildSlice tok rfl rfl rfl rfl rfl rfl rfl) rfl rfl rfl ?_; rintro _ _ _ ⟨_, rfl, rfl, rfl⟩))
        exact run_ret hC (rs := [.tmp 2]) rfl (resT rfl resN) (fun _ h => h.drop.drop.drop.drop.drop.drop) ⟨by rw [hE]; rfl, rfl, rfl⟩
      · refine run_cond rfl (fun h => by cases h) (fun _ => ?_)
        repeat (first | with_reducible (first | refine run_seq ?_ | refine run_region ?_ | refine runL_nil ?_ | refine run_skip ?_ | refine run_block ?_ | refine run_inBlock ?_) | refine run_exit rfl ?_ | refine runL_q (qt_pev tok rfl) rfl rfl rfl ?_ | refine runL_g rfl rfl (qt_pev tok rfl) rfl rfl rfl rfl rfl ?_ | refine runL_q (ql tok rfl) rfl rfl rfl ?_ | refine runL_g rfl rfl (ql tok rfl) rfl rfl rfl rfl rfl ?_ | (refine runL_op0 (sst tok rfl rfl rfl rfl rfl) ?_; rintro _ _ _ ⟨rfl, rfl, rfl⟩) | (refine runL_op (st_box rfl) rfl rfl rfl ?_; rintro _ _ _ ⟨_, rfl, rfl, rfl⟩) | (refine runL_op (st_alloc tok rfl) rfl rfl rfl ?_; rintro _ _ _ ⟨_, rfl, rfl, rfl⟩) | (refine runL_op (st_buildSlice tok rfl rfl rfl rfl rfl rfl rfl) rfl rfl rfl ?_; rintro _ _ _ ⟨_, rfl, rfl, rfl⟩))
        refine run_sub' (σ' := [(20, .slice (some ⟨b3, 0, none⟩) 4 4), (21, .int .i64 4), (22, .int .i64 ((3 : Nat) : Int)), (2, .int .i64 0)]) ?_ ⟨rfl, rfl, rfl, rfl, trivial⟩
        refine run_inLoop ?_
        repeat (first | with_reducible (first | refine run_seq ?_ | refine run_region ?_ | refine runL_nil ?_ | refine run_skip ?_ | refine run_block ?_ | refine run_inBlock ?_) | refine run_exit rfl ?_ | refine runL_q (qt_pev tok rfl) rfl rfl rfl ?_ | refine runL_g rfl rfl (qt_pev tok rfl) rfl rfl rfl rfl rfl ?_ | refine runL_q (ql tok rfl) rfl rfl rfl ?_ | refine runL_g rfl rfl (ql tok rfl) rfl rfl rfl rfl rfl ?_ | (refine runL_op0 (sst tok rfl rfl rfl rfl rfl) ?_; rintro _ _ _ ⟨rfl, rfl, rfl⟩) | (refine runL_op (st_box rfl) rfl rfl rfl ?_; rintro _ _ _ ⟨_, rfl, rfl, rfl⟩) | (refine runL_op (st_alloc tok rfl) rfl rfl rfl ?_; rintro _ _ _ ⟨_, rfl, rfl, rfl⟩) | (refine runL_op (st_buildSlice tok rfl rfl rfl rfl rfl rfl rfl) rfl rfl rfl ?_; rintro _ _ _ ⟨_, rfl, rfl, rfl⟩))
        refine run_cond rfl (fun _ => ?_) (fun h => by cases h)
        repeat (first | with_reducible (first | refine run_seq ?_ | refine run_region ?_ | refine runL_nil ?_ | refine run_skip ?_ | refine run_block ?_ | refine run_inBlock ?_) | refine run_exit rfl ?_ | refine runL_q (qt_pev tok rfl) rfl rfl rfl ?_ | refine runL_g rfl rfl (qt_pev tok rfl) rfl rfl rfl rfl rfl ?_ | refine runL_q (ql tok rfl) rfl rfl rfl ?_ | refine runL_g rfl rfl (ql tok rfl) rfl rfl rfl rfl rfl ?_ | (refine runL_op0 (sst tok rfl rfl rfl rfl rfl) ?_; rintro _ _ _ ⟨rfl, rfl, rfl⟩) | (refine runL_op (st_box rfl) rfl rfl rfl ?_; rintro _ _ _ ⟨_, rfl, rfl, rfl⟩) | (refine runL_op (st_alloc tok rfl) rfl rfl rfl ?_; rintro _ _ _ ⟨_, rfl, rfl, rfl⟩) | (refine runL_op (st_buildSlice tok rfl rfl rfl rfl rfl rfl rfl) rfl rfl rfl ?_; rintro _ _ _ ⟨_, rfl, rfl, rfl⟩) | refine runL_q (qt_indexN tok rfl rfl rfl rfl (fun _ => by omega)) rfl rfl rfl ?_ | refine runL_q (st_callV rfl rfl (fun _ => times_ok _ _ c)) rfl rfl rfl ?_)
        cases hk3 : timesR c
        · have hE : coE c = 2 := by simp [coE, coOk, hk0, hk1, hk2, hk3]
          refine run_cond rfl (fun _ => ?_) (fun h => by cases h)
          repeat (first | with_reducible (first | refine run_seq ?_ | refine run_region ?_ | refine runL_nil ?_ | refine run_skip ?_ | refine run_block ?_ | refine run_inBlock ?_) | refine run_exit rfl ?_ | refine runL_q (qt_pev tok rfl) rfl rfl rfl ?_ | refine runL_g rfl rfl (qt_pev tok rfl) rfl rfl rfl rfl rfl ?_ | refine runL_q (ql tok rfl) rfl rfl rfl ?_ | refine runL_g rfl rfl (ql tok rfl) rfl rfl rfl rfl rfl ?_ | (refine runL_op0 (sst tok rfl rfl rfl rfl rfl) ?_; rintro _ _ _ ⟨rfl, rfl, rfl⟩) | (refine runL_op (st_box rfl) rfl rfl rfl ?_; rintro _ _ _ ⟨_, rfl, rfl, rfl⟩) | (refine runL_op (st_alloc tok rfl) rfl rfl rfl ?_; rintro _ _ _ ⟨_, rfl, rfl, rfl⟩) | (refine runL_op (st_buildSlice tok rfl rfl rfl rfl rfl rfl rfl) rfl rfl rfl ?_; rintro _ _ _ ⟨_, rfl, rfl, rfl⟩))
          exact run_ret hC (rs := [.tmp 2]) rfl (resT rfl resN) (fun _ h => h.drop.drop.drop.drop.drop.drop.drop) ⟨by rw [hE]; rfl, rfl, rfl⟩
        · refine run_cond rfl (fun h => by cases h) (fun _ => ?_)
          repeat (first | with_reducible (first | refine run_seq ?_ | refine run_region ?_ | refine runL_nil ?_ | refine run_skip ?_ | refine run_block ?_ | refine run_inBlock ?_) | refine run_exit rfl ?_ | refine runL_q (qt_pev tok rfl) rfl rfl rfl ?_ | refine runL_g rfl rfl (qt_pev tok rfl) rfl rfl rfl rfl rfl ?_ | refine runL_q (ql tok rfl) rfl rfl rfl ?_ | refine runL_g rfl rfl (ql tok rfl) rfl rfl rfl rfl rfl ?_ | (refine runL_op0 (sst tok rfl rfl rfl rfl rfl) ?_; rintro _ _ _ ⟨rfl, rfl, rfl⟩) | (refine runL_op (st_box rfl) rfl rfl rfl ?_; rintro _ _ _ ⟨_, rfl, rfl, rfl⟩) | (refine runL_op (st_alloc tok rfl) rfl rfl rfl ?_; rintro _ _ _ ⟨_, rfl, rfl, rfl⟩) | (refine runL_op (st_buildSlice tok rfl rfl rfl rfl rfl rfl rfl) rfl rfl rfl ?_; rintro _ _ _ ⟨_, rfl, rfl, rfl⟩))
          refine run_sub' (σ' := [(20, .slice (some ⟨b3, 0, none⟩) 4 4), (21, .int .i64 4), (22, .int .i64 ((4 : Nat) : Int)), (2, .int .i64 0)]) ?_ ⟨rfl, rfl, rfl, rfl, trivial⟩
          refine run_inLoop ?_
          repeat (first | with_reducible (first | refine run_seq ?_ | refine run_region ?_ | refine runL_nil ?_ | refine run_skip ?_ | refine run_block ?_ | refine run_inBlock ?_) | refine run_exit rfl ?_ | refine runL_q (qt_pev tok rfl) rfl rfl rfl ?_ | refine runL_g rfl rfl (qt_pev tok rfl) rfl rfl rfl rfl rfl ?_ | refine runL_q (ql tok rfl) rfl rfl rfl ?_ | refine runL_g rfl rfl (ql tok rfl) rfl rfl rfl rfl rfl ?_ | (refine runL_op0 (sst tok rfl rfl rfl rfl rfl) ?_; rintro _ _ _ ⟨rfl, rfl, rfl⟩) | (refine runL_op (st_box rfl) rfl rfl rfl ?_; rintro _ _ _ ⟨_, rfl, rfl, rfl⟩) | (refine runL_op (st_alloc tok rfl) rfl rfl rfl ?_; rintro _ _ _ ⟨_, rfl, rfl, rfl⟩) | (refine runL_op (st_buildSlice tok rfl rfl rfl rfl rfl rfl rfl) rfl rfl rfl ?_; rintro _ _ _ ⟨_, rfl, rfl, rfl⟩))
          refine run_cond rfl (fun h => by cases h) (fun _ => ?_)
          repeat (first | with_reducible (first | refine run_seq ?_ | refine run_region ?_ | refine runL_nil ?_ | refine run_skip ?_ | refine run_block ?_ | refine run_inBlock ?_) | refine run_exit rfl ?_ | refine runL_q (qt_pev tok rfl) rfl rfl rfl ?_ | refine runL_g rfl rfl (qt_pev tok rfl) rfl rfl rfl rfl rfl ?_ | refine runL_q (ql tok rfl) rfl rfl rfl ?_ | refine runL_g rfl rfl (ql tok rfl) rfl rfl rfl rfl rfl ?_ | (refine runL_op0 (sst tok rfl rfl rfl rfl rfl) ?_; rintro _ _ _ ⟨rfl, rfl, rfl⟩) | (refine runL_op (st_box rfl) rfl rfl rfl ?_; rintro _ _ _ ⟨_, rfl, rfl, rfl⟩) | (refine runL_op (st_alloc tok rfl) rfl rfl rfl ?_; rintro _ _ _ ⟨_, rfl, rfl, rfl⟩) | (refine runL_op (st_buildSlice tok rfl rfl rfl rfl rfl rfl rfl) rfl rfl rfl ?_; rintro _ _ _ ⟨_, rfl, rfl, rfl⟩))
          have hE : coE c = 0 := by simp [coE, coOk, hk0, hk1, hk2, hk3]
          exact run_ret hC (rs := [.tmp 2]) rfl (resT rfl resN) (fun _ h => h.drop.drop.drop.drop.drop.drop.drop) ⟨by rw [hE]; rfl, rfl, rfl⟩
end Go.Proofs.Ytpmepmdngdkafaa
namespace Go.Proofs.Ytpmepmdngdkafaa
open Go.Chi

theorem Tr.frz {P : Program} {f : FuncId} {args : List Value} {M : Mem} {L : HL} {K K' : Value → Mem → HL → Prop} (h : Tr P f args M L K) (hk : ∀ v M' L' w, Hp M' L' w → K v M' L' → ∃ M'' L'', Hp M'' L'' w ∧ K' v M'' L'') : Tr P f args M L K' :=
  ⟨h.1, fun w hw => (h.2 w hw).mono fun _ _ ⟨_, _, h1, h2⟩ => hk _ _ _ _ h1 h2⟩
theorem _root_.Go.Chi.Hp.subl {M : Mem} {L L' : HL} {w : World} (h : Hp M L w) (hs : L'.Sublist L) : Hp M L' w :=
  ⟨h.os, h.out, h.tape, h.blk, fun p hp => h.own p (hs.subset hp), (hs.map Prod.fst).nodup h.nodup, fun p hp => h.apart p (hs.subset hp)⟩
theorem qt_indexAs {P : Program} {T : TT} {ro : Option Nat} {σ : Env} {δ : Den} {cur : Path} {M : Mem} {L : HL} {d : Option Nat} {ty : TypeId} {pos : String} {aft : Array Edge} {g : Option (Nat × Bool)} (hT : TOk P T) {t : TypeId} {x y : Operand} {b off len cap : Nat} {k : IntKind} {n e s o : Nat}
    (hx : ev σ δ cur x = some (.slice (some ⟨b, off, none⟩) len cap)) (hy : ev σ δ cur y = some (.int k (n : Int))) (hu : und T t = some (.slice e)) (hi : sizeT T e = some s) (hb : Hy σ δ cur → n < len) (ho : off + n * s = o) :
    Qt P ro ⟨d, .indexAddr t x y, ty, pos, aft, g⟩ σ δ cur M L (.pointer (some ⟨b, o, none⟩)) := ho ▸ qt_indexN hT hx hy hu hi hb
theorem os_slice {e size n : Nat} {v : Value} {xs : List Value} {N : HL} (h : OS e size v n xs N) : ∃ a cap, v = .slice a n cap := by
  rcases h with ⟨rfl, rfl, _, _⟩ | ⟨b, cap, cs, rfl, _⟩
  · exact ⟨_, _, rfl⟩
  · exact ⟨_, _, rfl⟩
theorem mbC_all (xs : List Mb) : ∀ l ∈ xs.map mbC, l.length = 2 := by intro l hl; obtain ⟨p, _, rfl⟩ := List.mem_map.1 hl; rfl
theorem stC_all (xs : List ByteArray) : ∀ l ∈ xs.map stC, l.length = 1 := by intro l hl; obtain ⟨p, _, rfl⟩ := List.mem_map.1 hl; rfl
theorem u8C_all (xs : List Int) : ∀ l ∈ xs.map u8C, l.length = 1 := by intro l hl; obtain ⟨p, _, rfl⟩ := List.mem_map.1 hl; rfl
theorem blC_all (xs : List Bool) : ∀ l ∈ xs.map blC, l.length = 1 := by intro l hl; obtain ⟨p, _, rfl⟩ := List.mem_map.1 hl; rfl
theorem mbC_one (r : Mb) : ∀ u ∈ mbC r, u.oneCell' = true := by intro u hu; simp [mbC] at hu; rcases hu with rfl | rfl <;> rfl
theorem stC_one (r : ByteArray) : ∀ u ∈ stC r, u.oneCell' = true := by intro u hu; simp [stC] at hu; subst hu; rfl
theorem u8C_one (r : Int) : ∀ u ∈ u8C r, u.oneCell' = true := by intro u hu; simp [u8C] at hu; subst hu; rfl
theorem blC_one (r : Bool) : ∀ u ∈ blC r, u.oneCell' = true := by intro u hu; simp [blC] at hu; subst hu; rfl
theorem flat_one {α : Type} {f : α → List Value} (h : ∀ r, ∀ u ∈ f r, u.oneCell' = true) (l : List α) : ∀ u ∈ (l.map f).flatten, u.oneCell' = true := by
  intro u hu
  obtain ⟨x, hx, hu⟩ := List.mem_flatten.1 hu
  obtain ⟨y, _, rfl⟩ := List.mem_map.1 hx
  exact h y u hu
def U8Ok (M : Mem) (s : SU8) : Prop := s.Ok M ∧ s.len < 1000000
def BlOk (M : Mem) (s : SBl) : Prop := s.Ok M ∧ s.len < 1000000
theorem U8Ok.len {M : Mem} {s : SU8} (h : U8Ok M s) : s.xs.length = s.len := by have := h.1.1; simpa using this
theorem BlOk.len {M : Mem} {s : SBl} (h : BlOk M s) : s.xs.length = s.len := by have := h.1.1; simpa using this

/-! ### rows of our own -/
theorem ownM_ok (M : Mem) (L : HL) (s : SMb) (h : MbOk M s) : Tr Try.prog 57 [s.v] M L (fun v M' L' => M = M' ∧ ∃ (s' : SMb) (N : HL), v = s'.v ∧ s'.xs = s.xs ∧ s'.len = s.len ∧ L' = N ++ L ∧ OS 71 2 s'.v s.len (s.xs.map mbC).flatten N) := by
  have hl := h.len
  have h6 := h.2
  have hs : SlM M 2 s.a s.len (s.xs.map mbC) := h.1
  refine Tr.intro 5 Try.func57 rfl rfl Try.call57 rfl ?_
  intro C hC hro
  repeat (first | with_reducible (first | refine run_seq ?_ | refine run_region ?_ | refine runL_nil ?_ | refine run_skip ?_ | refine run_block ?_ | refine run_inBlock ?_) | refine run_exit rfl ?_ | refine runL_q (qt_pev tok rfl) rfl rfl rfl ?_ | refine runL_g rfl rfl (qt_pev tok rfl) rfl rfl rfl rfl rfl ?_ | refine runL_q (ql tok rfl) rfl rfl rfl ?_ | refine runL_g rfl rfl (ql tok rfl) rfl rfl rfl rfl rfl ?_ | (refine runL_op0 (sst tok rfl rfl rfl rfl rfl) ?_; rintro _ _ _ ⟨rfl, rfl, rfl⟩) | (refine runL_op (st_box rfl) rfl rfl rfl ?_; rintro _ _ _ ⟨_, rfl, rfl, rfl⟩) | (refine runL_op (st_alloc tok rfl) rfl rfl rfl ?_; rintro _ _ _ ⟨_, rfl, rfl, rfl⟩) | (refine runL_op (st_buildSlice tok rfl rfl rfl rfl rfl rfl rfl) rfl rfl rfl ?_; rintro _ _ _ ⟨_, rfl, rfl, rfl⟩))
  refine runL_op (st_appendG (xs := []) (n := 0) (m := s.len) tok rfl rfl rfl rfl rfl rfl rfl rfl (N := []) (List.Perm.refl _) (OS.nil _ _) (SrcG.ofSlM hs) (flat_one mbC_one _) (by omega) (by omega)) rfl rfl rfl ?_
  rintro va _ _ ⟨N1, rfl, rfl, hO1⟩
  simp only [Nat.zero_add, List.nil_append] at hO1
  obtain ⟨aa, ca, rfl⟩ := os_slice hO1
  repeat (first | with_reducible (first | refine run_seq ?_ | refine run_region ?_ | refine runL_nil ?_ | refine run_skip ?_ | refine run_block ?_ | refine run_inBlock ?_) | refine run_exit rfl ?_ | refine runL_q (qt_pev tok rfl) rfl rfl rfl ?_ | refine runL_g rfl rfl (qt_pev tok rfl) rfl rfl rfl rfl rfl ?_ | refine runL_q (ql tok rfl) rfl rfl rfl ?_ | refine runL_g rfl rfl (ql tok rfl) rfl rfl rfl rfl rfl ?_ | (refine runL_op0 (sst tok rfl rfl rfl rfl rfl) ?_; rintro _ _ _ ⟨rfl, rfl, rfl⟩) | (refine runL_op (st_box rfl) rfl rfl rfl ?_; rintro _ _ _ ⟨_, rfl, rfl, rfl⟩) | (refine runL_op (st_alloc tok rfl) rfl rfl rfl ?_; rintro _ _ _ ⟨_, rfl, rfl, rfl⟩) | (refine runL_op (st_buildSlice tok rfl rfl rfl rfl rfl rfl rfl) rfl rfl rfl ?_; rintro _ _ _ ⟨_, rfl, rfl, rfl⟩))
  exact run_ret hC (rs := [.tmp 2]) rfl (resT rfl resN) (fun _ h => h) ⟨rfl, ⟨aa, s.len, ca, s.xs⟩, N1, rfl, rfl, rfl, rfl, hO1⟩
theorem ownS_ok (M : Mem) (L : HL) (s : SStr) (h : StOk M s) : Tr Try.prog 58 [s.v] M L (fun v M' L' => M = M' ∧ ∃ (s' : SStr) (N : HL), v = s'.v ∧ s'.xs = s.xs ∧ s'.len = s.len ∧ L' = N ++ L ∧ OS 9 1 s'.v s.len (s.xs.map stC).flatten N) := by
  have hl := h.len
  have h6 := h.2
  have hs : SlM M 1 s.a s.len (s.xs.map stC) := h.1
  refine Tr.intro 5 Try.func58 rfl rfl Try.call58 rfl ?_
  intro C hC hro
  repeat (first | with_reducible (first | refine run_seq ?_ | refine run_region ?_ | refine runL_nil ?_ | refine run_skip ?_ | refine run_block ?_ | refine run_inBlock ?_) | refine run_exit rfl ?_ | refine runL_q (qt_pev tok rfl) rfl rfl rfl ?_ | refine runL_g rfl rfl (qt_pev tok rfl) rfl rfl rfl rfl rfl ?_ | refine runL_q (ql tok rfl) rfl rfl rfl ?_ | refine runL_g rfl rfl (ql tok rfl) rfl rfl rfl rfl rfl ?_ | (refine runL_op0 (sst tok rfl rfl rfl rfl rfl) ?_; rintro _ _ _ ⟨rfl, rfl, rfl⟩) | (refine runL_op (st_box rfl) rfl rfl rfl ?_; rintro _ _ _ ⟨_, rfl, rfl, rfl⟩) | (refine runL_op (st_alloc tok rfl) rfl rfl rfl ?_; rintro _ _ _ ⟨_, rfl, rfl, rfl⟩) | (refine runL_op (st_buildSlice tok rfl rfl rfl rfl rfl rfl rfl) rfl rfl rfl ?_; rintro _ _ _ ⟨_, rfl, rfl, rfl⟩))
  refine runL_op (st_appendG (xs := []) (n := 0) (m := s.len) tok rfl rfl rfl rfl rfl rfl rfl rfl (N := []) (List.Perm.refl _) (OS.nil _ _) (SrcG.ofSlM hs) (flat_one stC_one _) (by omega) (by omega)) rfl rfl rfl ?_
  rintro va _ _ ⟨N1, rfl, rfl, hO1⟩
  simp only [Nat.zero_add, List.nil_append] at hO1
  obtain ⟨aa, ca, rfl⟩ := os_slice hO1
  repeat (first | with_reducible (first | refine run_seq ?_ | refine run_region ?_ | refine runL_nil ?_ | refine run_skip ?_ | refine run_block ?_ | refine run_inBlock ?_) | refine run_exit rfl ?_ | refine runL_q (qt_pev tok rfl) rfl rfl rfl ?_ | refine runL_g rfl rfl (qt_pev tok rfl) rfl rfl rfl rfl rfl ?_ | refine runL_q (ql tok rfl) rfl rfl rfl ?_ | refine runL_g rfl rfl (ql tok rfl) rfl rfl rfl rfl rfl ?_ | (refine runL_op0 (sst tok rfl rfl rfl rfl rfl) ?_; rintro _ _ _ ⟨rfl, rfl, rfl⟩) | (refine runL_op (st_box rfl) rfl rfl rfl ?_; rintro _ _ _ ⟨_, rfl, rfl, rfl⟩) | (refine runL_op (st_alloc tok rfl) rfl rfl rfl ?_; rintro _ _ _ ⟨_, rfl, rfl, rfl⟩) | (refine runL_op (st_buildSlice tok rfl rfl rfl rfl rfl rfl rfl) rfl rfl rfl ?_; rintro _ _ _ ⟨_, rfl, rfl, rfl⟩))
  exact run_ret hC (rs := [.tmp 2]) rfl (resT rfl resN) (fun _ h => h) ⟨rfl, ⟨aa, s.len, ca, s.xs⟩, N1, rfl, rfl, rfl, rfl, hO1⟩
theorem ownU_ok (M : Mem) (L : HL) (s : SU8) (h : U8Ok M s) : Tr Try.prog 59 [s.v] M L (fun v M' L' => M = M' ∧ ∃ (s' : SU8) (N : HL), v = s'.v ∧ s'.xs = s.xs ∧ s'.len = s.len ∧ L' = N ++ L ∧ OS 5 1 s'.v s.len (s.xs.map u8C).flatten N) := by
  have hl := h.len
  have h6 := h.2
  have hs : SlM M 1 s.a s.len (s.xs.map u8C) := h.1
  refine Tr.intro 5 Try.func59 rfl rfl Try.call59 rfl ?_
  intro C hC hro
  repeat (first | with_reducible (first | refine run_seq ?_ | refine run_region ?_ | refine runL_nil ?_ | refine run_skip ?_ | refine run_block ?_ | refine run_inBlock ?_) | refine run_exit rfl ?_ | refine runL_q (qt_pev tok rfl) rfl rfl rfl ?_ | refine runL_g rfl rfl (qt_pev tok rfl) rfl rfl rfl rfl rfl ?_ | refine runL_q (ql tok rfl) rfl rfl rfl ?_ | refine runL_g rfl rfl (ql tok rfl) rfl rfl rfl rfl rfl ?_ | (refine runL_op0 (sst tok rfl rfl rfl rfl rfl) ?_; rintro _ _ _ ⟨rfl, rfl, rfl⟩) | (refine runL_op (st_box rfl) rfl rfl rfl ?_; rintro _ _ _ ⟨_, rfl, rfl, rfl⟩) | (refine runL_op (st_alloc tok rfl) rfl rfl rfl ?_; rintro _ _ _ ⟨_, rfl, rfl, rfl⟩) | (refine runL_op (st_buildSlice tok rfl rfl rfl rfl rfl rfl rfl) rfl rfl rfl ?_; rintro _ _ _ ⟨_, rfl, rfl, rfl⟩))
  refine runL_op (st_appendG (xs := []) (n := 0) (m := s.len) tok rfl rfl rfl rfl rfl rfl rfl rfl (N := []) (List.Perm.refl _) (OS.nil _ _) (SrcG.ofSlM hs) (flat_one u8C_one _) (by omega) (by omega)) rfl rfl rfl ?_
  rintro va _ _ ⟨N1, rfl, rfl, hO1⟩
  simp only [Nat.zero_add, List.nil_append] at hO1
  obtain ⟨aa, ca, rfl⟩ := os_slice hO1
  repeat (first | with_reducible (first | refine run_seq ?_ | refine run_region ?_ | refine runL_nil ?_ | refine run_skip ?_ | refine run_block ?_ | refine run_inBlock ?_) | refine run_exit rfl ?_ | refine runL_q (qt_pev tok rfl) rfl rfl rfl ?_ | refine runL_g rfl rfl (qt_pev tok rfl) rfl rfl rfl rfl rfl ?_ | refine runL_q (ql tok rfl) rfl rfl rfl ?_ | refine runL_g rfl rfl (ql tok rfl) rfl rfl rfl rfl rfl ?_ | (refine runL_op0 (sst tok rfl rfl rfl rfl rfl) ?_; rintro _ _ _ ⟨rfl, rfl, rfl⟩) | (refine runL_op (st_box rfl) rfl rfl rfl ?_; rintro _ _ _ ⟨_, rfl, rfl, rfl⟩) | (refine runL_op (st_alloc tok rfl) rfl rfl rfl ?_; rintro _ _ _ ⟨_, rfl, rfl, rfl⟩) | (refine runL_op (st_buildSlice tok rfl rfl rfl rfl rfl rfl rfl) rfl rfl rfl ?_; rintro _ _ _ ⟨_, rfl, rfl, rfl⟩))
  exact run_ret hC (rs := [.tmp 2]) rfl (resT rfl resN) (fun _ h => h) ⟨rfl, ⟨aa, s.len, ca, s.xs⟩, N1, rfl, rfl, rfl, rfl, hO1⟩
theorem ownB_ok (M : Mem) (L : HL) (s : SBl) (h : BlOk M s) : Tr Try.prog 60 [s.v] M L (fun v M' L' => M = M' ∧ ∃ (s' : SBl) (N : HL), v = s'.v ∧ s'.xs = s.xs ∧ s'.len = s.len ∧ L' = N ++ L ∧ OS 4 1 s'.v s.len (s.xs.map blC).flatten N) := by
  have hl := h.len
  have h6 := h.2
  have hs : SlM M 1 s.a s.len (s.xs.map blC) := h.1
  refine Tr.intro 5 Try.func60 rfl rfl Try.call60 rfl ?_
  intro C hC hro
  repeat (first | with_reducible (first | refine run_seq ?_ | refine run_region ?_ | refine runL_nil ?_ | refine run_skip ?_ | refine run_block ?_ | refine run_inBlock ?_) | refine run_exit rfl ?_ | refine runL_q (qt_pev tok rfl) rfl rfl rfl ?_ | refine runL_g rfl rfl (qt_pev tok rfl) rfl rfl rfl rfl rfl ?_ | refine runL_q (ql tok rfl) rfl rfl rfl ?_ | refine runL_g rfl rfl (ql tok rfl) rfl rfl rfl rfl rfl ?_ | (refine runL_op0 (sst tok rfl rfl rfl rfl rfl) ?_; rintro _ _ _ ⟨rfl, rfl, rfl⟩) | (refine runL_op (st_box rfl) rfl rfl rfl ?_; rintro _ _ _ ⟨_, rfl, rfl, rfl⟩) | (refine runL_op (st_alloc tok rfl) rfl rfl rfl ?_; rintro _ _ _ ⟨_, rfl, rfl, rfl⟩) | (refine runL_op (st_buildSlice tok rfl rfl rfl rfl rfl rfl rfl) rfl rfl rfl ?_; rintro _ _ _ ⟨_, rfl, rfl, rfl⟩))
  refine runL_op (st_appendG (xs := []) (n := 0) (m := s.len) tok rfl rfl rfl rfl rfl rfl rfl rfl (N := []) (List.Perm.refl _) (OS.nil _ _) (SrcG.ofSlM hs) (flat_one blC_one _) (by omega) (by omega)) rfl rfl rfl ?_
  rintro va _ _ ⟨N1, rfl, rfl, hO1⟩
  simp only [Nat.zero_add, List.nil_append] at hO1
  obtain ⟨aa, ca, rfl⟩ := os_slice hO1
  repeat (first | with_reducible (first | refine run_seq ?_ | refine run_region ?_ | refine runL_nil ?_ | refine run_skip ?_ | refine run_block ?_ | refine run_inBlock ?_) | refine run_exit rfl ?_ | refine runL_q (qt_pev tok rfl) rfl rfl rfl ?_ | refine runL_g rfl rfl (qt_pev tok rfl) rfl rfl rfl rfl rfl ?_ | refine runL_q (ql tok rfl) rfl rfl rfl ?_ | refine runL_g rfl rfl (ql tok rfl) rfl rfl rfl rfl rfl ?_ | (refine runL_op0 (sst tok rfl rfl rfl rfl rfl) ?_; rintro _ _ _ ⟨rfl, rfl, rfl⟩) | (refine runL_op (st_box rfl) rfl rfl rfl ?_; rintro _ _ _ ⟨_, rfl, rfl, rfl⟩) | (refine runL_op (st_alloc tok rfl) rfl rfl rfl ?_; rintro _ _ _ ⟨_, rfl, rfl, rfl⟩) | (refine runL_op (st_buildSlice tok rfl rfl rfl rfl rfl rfl rfl) rfl rfl rfl ?_; rintro _ _ _ ⟨_, rfl, rfl, rfl⟩))
  exact run_ret hC (rs := [.tmp 2]) rfl (resT rfl resN) (fun _ h => h) ⟨rfl, ⟨aa, s.len, ca, s.xs⟩, N1, rfl, rfl, rfl, rfl, hO1⟩
theorem ownM_frz (M : Mem) (L : HL) (s : SMb) (h : MbOk M s) : Tr Try.prog 57 [s.v] M L (fun v M' L' => M.le M' ∧ L = L' ∧ ∃ s' : SMb, v = s'.v ∧ s'.xs = s.xs ∧ s'.len = s.len ∧ MbOk M' s') :=
  Tr.frz (ownM_ok M L s h) fun v M' L' w hw ⟨h1, s', N, h2, h3, h4, h5, h6⟩ => by
    subst h1 h5
    have hl := h.len
    obtain ⟨M2, a', c', h7, h8, h9, h10⟩ := hw.freezeOS h6 (by simpa using hl) (mbC_all _)
    exact ⟨M2, L, h8, h7, rfl, ⟨a', s.len, c', s.xs⟩, h2.trans h9, rfl, rfl, h10, h.2⟩
theorem ownS_frz (M : Mem) (L : HL) (s : SStr) (h : StOk M s) : Tr Try.prog 58 [s.v] M L (fun v M' L' => M.le M' ∧ L = L' ∧ ∃ s' : SStr, v = s'.v ∧ s'.xs = s.xs ∧ s'.len = s.len ∧ StOk M' s') :=
  Tr.frz (ownS_ok M L s h) fun v M' L' w hw ⟨h1, s', N, h2, h3, h4, h5, h6⟩ => by
    subst h1 h5
    have hl := h.len
    obtain ⟨M2, a', c', h7, h8, h9, h10⟩ := hw.freezeOS h6 (by simpa using hl) (stC_all _)
    exact ⟨M2, L, h8, h7, rfl, ⟨a', s.len, c', s.xs⟩, h2.trans h9, rfl, rfl, h10, h.2⟩

/-! ### what a transaction says, wherever its rows lie -/
structure Ca where
  txn : Tx
  auditor : Int
  mem : List Mb
  bodies : List ByteArray
  votes : List Int
  tags : List ByteArray
  acks : List Bool
  state : Int
  since : Int
  sent : Int
def _root_.Go.Proofs.Ytpmepmdngdkafaa.Co.ab (c : Co) : Ca := ⟨c.txn, c.auditor, c.mem.xs, c.bodies.xs, c.votes.xs, c.tags.xs, c.acks.xs, c.state, c.since, c.sent⟩
/-- one whose last three rows are our own -/
structure Mk (M : Mem) (c : Co) (Nv Nt Na : HL) : Prop where
  mem : MbOk M c.mem
  bodies : StOk M c.bodies
  votes : OS 5 1 c.votes.v c.votes.len (c.votes.xs.map u8C).flatten Nv
  tags : OS 9 1 c.tags.v c.tags.len (c.tags.xs.map stC).flatten Nt
  acks : OS 4 1 c.acks.v c.acks.len (c.acks.xs.map blC).flatten Na
  lv : c.votes.xs.length = c.votes.len ∧ c.votes.len < 1000000
  lt : c.tags.xs.length = c.tags.len ∧ c.tags.len < 1000000
  la : c.acks.xs.length = c.acks.len ∧ c.acks.len < 1000000
  dig : ∀ m ∈ c.mem.xs, m.digest.size < 4611686018427387904
  bod : ∀ t ∈ c.bodies.xs, t.size < 4611686018427387904
  tag : ∀ t ∈ c.tags.xs, t.size < 4611686018427387904
theorem Mk.frz {M : Mem} {c : Co} {Nv Nt Na L : HL} {w : World} (h : Mk M c Nv Nt Na) (hw : Hp M (Na ++ (Nt ++ (Nv ++ L))) w) : ∃ M', M.le M' ∧ Hp M' L w ∧ CoOk M' c := by
  obtain ⟨M1, a1, c1, h1, h2, h3, h4⟩ := hw.freezeOS h.acks (by simpa using h.la.1) (blC_all _)
  obtain ⟨M2, a2, c2, h5, h6, h7, h8⟩ := h2.freezeOS h.tags (by simpa using h.lt.1) (stC_all _)
  obtain ⟨M3, a3, c3, h9, h10, h11, h12⟩ := h6.freezeOS h.votes (by simpa using h.lv.1) (u8C_all _)
  have e1 : c.acks.a = a1 := by cases h3; rfl
  have e2 : c.tags.a = a2 := by cases h7; rfl
  have e3 : c.votes.a = a3 := by cases h11; rfl
  subst e1 e2 e3
  have l1 := Mem.le_trans h1 (Mem.le_trans h5 h9)
  exact ⟨M3, l1, h10, ⟨h.mem.le l1, h.bodies.le l1, ⟨h12, h.lv.2⟩, ⟨SlM.le h9 h8, h.lt.2⟩, ⟨SlM.le (Mem.le_trans h5 h9) h4, h.la.2⟩, h.dig, h.bod, h.tag⟩⟩
def coZ : Co := ⟨⟨0, 0, 0⟩, 0, ⟨none, 0, 0, []⟩, ⟨none, 0, 0, []⟩, ⟨none, 0, 0, []⟩, ⟨none, 0, 0, []⟩, ⟨none, 0, 0, []⟩, 0, 0, 0⟩
def coR (c : Co) (e : Int) : Value := .tuple ⟨[.agg ⟨coC c⟩, .int .i64 e]⟩
set_option maxRecDepth 10000 in
set_option maxHeartbeats 8000000 in
theorem made_ok (M : Mem) (L : HL) (c : Co) (h : CoOk M c) : Tr Try.prog 34 [.agg ⟨coC c⟩] M L (fun v M' L' => (coE c = 2 ∧ v = coR coZ 2 ∧ M = M' ∧ L = L') ∨ (coE c = 0 ∧ M.le M' ∧ ∃ c' Nv Nt Na, v = coR c' 0 ∧ c'.ab = c.ab ∧ L' = Na ++ (Nt ++ (Nv ++ L)) ∧ Mk M' c' Nv Nt Na)) := by
  refine Tr.intro 32 Try.func34 rfl rfl Try.call34 rfl ?_
  intro C hC hro
  repeat (first | with_reducible (first | refine run_seq ?_ | refine run_region ?_ | refine runL_nil ?_ | refine run_skip ?_ | refine run_block ?_ | refine run_inBlock ?_) | refine run_exit rfl ?_ | refine runL_q (qt_pev tok rfl) rfl rfl rfl ?_ | refine runL_g rfl rfl (qt_pev tok rfl) rfl rfl rfl rfl rfl ?_ | refine runL_q (ql tok rfl) rfl rfl rfl ?_ | refine runL_g rfl rfl (ql tok rfl) rfl rfl rfl rfl rfl ?_ | (refine runL_op0 (sst tok rfl rfl rfl rfl rfl) ?_; rintro _ _ _ ⟨rfl, rfl, rfl⟩) | (refine runL_op (st_box rfl) rfl rfl rfl ?_; rintro _ _ _ ⟨_, rfl, rfl, rfl⟩) | (refine runL_op (st_alloc tok rfl) rfl rfl rfl ?_; rintro _ _ _ ⟨_, rfl, rfl, rfl⟩) | (refine runL_op (st_buildSlice tok rfl rfl rfl rfl rfl rfl rfl) rfl rfl rfl ?_; rintro _ _ _ ⟨_, rfl, rfl, rfl⟩) | refine runL_q (qt_callF rfl (fun _ => coCheck_ok _ _ c h)) rfl rfl rfl ?_)
  rename_i b1 b2
  refine run_cond rfl (fun h1 => ?_) (fun h1 => ?_)
  · have hE : coE c = 2 := by unfold coE at h1 ⊢; split at h1 <;> simp_all
    repeat (first | with_reducible (first | refine run_seq ?_ | refine run_region ?_ | refine runL_nil ?_ | refine run_skip ?_ | refine run_block ?_ | refine run_inBlock ?_) | refine run_exit rfl ?_ | refine runL_q (qt_pev tok rfl) rfl rfl rfl ?_ | refine runL_g rfl rfl (qt_pev tok rfl) rfl rfl rfl rfl rfl ?_ | refine runL_q (ql tok rfl) rfl rfl rfl ?_ | refine runL_g rfl rfl (ql tok rfl) rfl rfl rfl rfl rfl ?_ | (refine runL_op0 (sst tok rfl rfl rfl rfl rfl) ?_; rintro _ _ _ ⟨rfl, rfl, rfl⟩) | (refine runL_op (st_box rfl) rfl rfl rfl ?_; rintro _ _ _ ⟨_, rfl, rfl, rfl⟩) | (refine runL_op (st_alloc tok rfl) rfl rfl rfl ?_; rintro _ _ _ ⟨_, rfl, rfl, rfl⟩) | (refine runL_op (st_buildSlice tok rfl rfl rfl rfl rfl rfl rfl) rfl rfl rfl ?_; rintro _ _ _ ⟨_, rfl, rfl, rfl⟩))
    exact run_ret hC (rs := [.cell 2 29, .tmp 3]) rfl (rl tok rfl (resT rfl resN)) (fun _ h => h.drop.drop) (.inl ⟨hE, by rw [hE]; rfl, rfl, rfl⟩)
  · have hE : coE c = 0 := by simpa using h1
    repeat (first | with_reducible (first | refine run_seq ?_ | refine run_region ?_ | refine runL_nil ?_ | refine run_skip ?_ | refine run_block ?_ | refine run_inBlock ?_) | refine run_exit rfl ?_ | refine runL_q (qt_pev tok rfl) rfl rfl rfl ?_ | refine runL_g rfl rfl (qt_pev tok rfl) rfl rfl rfl rfl rfl ?_ | refine runL_q (ql tok rfl) rfl rfl rfl ?_ | refine runL_g rfl rfl (ql tok rfl) rfl rfl rfl rfl rfl ?_ | (refine runL_op0 (sst tok rfl rfl rfl rfl rfl) ?_; rintro _ _ _ ⟨rfl, rfl, rfl⟩) | (refine runL_op (st_box rfl) rfl rfl rfl ?_; rintro _ _ _ ⟨_, rfl, rfl, rfl⟩) | (refine runL_op (st_alloc tok rfl) rfl rfl rfl ?_; rintro _ _ _ ⟨_, rfl, rfl, rfl⟩) | (refine runL_op (st_buildSlice tok rfl rfl rfl rfl rfl rfl rfl) rfl rfl rfl ?_; rintro _ _ _ ⟨_, rfl, rfl, rfl⟩))
    refine prn_start mixed ?_
    refine pr_q 0 (by decide +kernel) rfl (qt_pev tok rfl) rfl rfl rfl ?_
    refine pr_q 1 (by decide +kernel) rfl (ql tok rfl) rfl rfl rfl ?_
    refine pr_q 3 (by decide +kernel) rfl (qt_pev tok rfl) rfl rfl rfl ?_
    refine pr_q 4 (by decide +kernel) rfl (ql tok rfl) rfl rfl rfl ?_
    refine pr_q 6 (by decide +kernel) rfl (qt_pev tok rfl) rfl rfl rfl ?_
    refine pr_q 7 (by decide +kernel) rfl (ql tok rfl) rfl rfl rfl ?_
    refine pr_q 9 (by decide +kernel) rfl (qt_pev tok rfl) rfl rfl rfl ?_
    refine pr_q 10 (by decide +kernel) rfl (ql tok rfl) rfl rfl rfl ?_
    refine pr_q 12 (by decide +kernel) rfl (qt_pev tok rfl) rfl rfl rfl ?_
    refine pr_q 13 (by decide +kernel) rfl (ql tok rfl) rfl rfl rfl ?_
    refine pr_one 2 (by decide +kernel) (eff1 2 rfl (st_callF rfl (fun _ => ownM_frz _ _ c.mem h.mem)) (by decide +kernel) (qs := _) rfl rfl rfl rfl ?_)
    rintro _ M1 _ ⟨hM1, rfl, m', rfl, hmx, hml, hmo⟩
    refine ⟨by (repeat (first | exact trivial | refine And.intro (pend_q rfl rfl rfl (qt_pev tok rfl)) ?_ | refine And.intro (pend_q rfl rfl rfl (ql tok rfl)) ?_)), ?_⟩
    refine pr_q 15 (by decide +kernel) rfl (qt_pev tok rfl) rfl rfl rfl ?_
    refine pr_one 5 (by decide +kernel) (eff1 5 rfl (st_callF rfl (fun _ => ownS_frz _ _ c.bodies (h.bodies.le hM1))) (by decide +kernel) (qs := _) rfl rfl rfl rfl ?_)
    rintro _ M2 _ ⟨hM2, rfl, s', rfl, hsx, hsl, hso⟩
    refine ⟨by (repeat (first | exact trivial | refine And.intro (pend_q rfl rfl rfl (qt_pev tok rfl)) ?_ | refine And.intro (pend_q rfl rfl rfl (ql tok rfl)) ?_)), ?_⟩
    have h2 := (h.le hM1).le hM2
    refine pr_one 8 (by decide +kernel) (eff1 8 rfl (st_callF rfl (fun _ => ownU_ok _ _ c.votes (h2.votes))) (by decide +kernel) (qs := _) rfl rfl rfl rfl ?_)
    rintro _ _ _ ⟨rfl, v', Nv, rfl, hvx, hvl, rfl, hvo⟩
    refine ⟨by (repeat (first | exact trivial | refine And.intro (pend_q rfl rfl rfl (qt_pev tok rfl)) ?_ | refine And.intro (pend_q rfl rfl rfl (ql tok rfl)) ?_)), ?_⟩
    refine pr_one 11 (by decide +kernel) (eff1 11 rfl (st_callF rfl (fun _ => ownS_ok _ _ c.tags (h2.tags))) (by decide +kernel) (qs := _) rfl rfl rfl rfl ?_)
    rintro _ _ _ ⟨rfl, t', Nt, rfl, htx, htl, rfl, hto⟩
    refine ⟨by (repeat (first | exact trivial | refine And.intro (pend_q rfl rfl rfl (qt_pev tok rfl)) ?_ | refine And.intro (pend_q rfl rfl rfl (ql tok rfl)) ?_)), ?_⟩
    refine pr_one 14 (by decide +kernel) (eff1 14 rfl (st_callF rfl (fun _ => ownB_ok _ _ c.acks (h2.acks))) (by decide +kernel) (qs := _) rfl rfl rfl rfl ?_)
    rintro _ _ _ ⟨rfl, a', Na, rfl, hax, hal, rfl, hao⟩
    refine ⟨by (repeat (first | exact trivial | refine And.intro (pend_q rfl rfl rfl (qt_pev tok rfl)) ?_ | refine And.intro (pend_q rfl rfl rfl (ql tok rfl)) ?_)), ?_⟩
    refine pr_one 16 (by decide +kernel) (eff0 16 rfl (sst tok rfl rfl rfl rfl rfl) (by decide +kernel) (qs := _) rfl ?_)
    rintro _ _ _ ⟨rfl, rfl, rfl⟩
    refine ⟨by (repeat (first | exact trivial | refine And.intro (pend_q rfl rfl rfl (qt_pev tok rfl)) ?_ | refine And.intro (pend_q rfl rfl rfl (ql tok rfl)) ?_)), ?_⟩
    refine pr_q 17 (by decide +kernel) rfl (qt_pev tok rfl) rfl rfl rfl ?_
    refine pr_one 18 (by decide +kernel) (eff0 18 rfl (sst tok rfl rfl rfl rfl rfl) (by decide +kernel) (qs := _) rfl ?_)
    rintro _ _ _ ⟨rfl, rfl, rfl⟩
    refine ⟨by (repeat (first | exact trivial | refine And.intro (pend_q rfl rfl rfl (qt_pev tok rfl)) ?_ | refine And.intro (pend_q rfl rfl rfl (ql tok rfl)) ?_)), ?_⟩
    refine pr_q 19 (by decide +kernel) rfl (qt_pev tok rfl) rfl rfl rfl ?_
    refine pr_one 20 (by decide +kernel) (eff0 20 rfl (sst tok rfl rfl rfl rfl rfl) (by decide +kernel) (qs := _) rfl ?_)
    rintro _ _ _ ⟨rfl, rfl, rfl⟩
    refine ⟨by (repeat (first | exact trivial | refine And.intro (pend_q rfl rfl rfl (qt_pev tok rfl)) ?_ | refine And.intro (pend_q rfl rfl rfl (ql tok rfl)) ?_)), ?_⟩
    refine pr_q 21 (by decide +kernel) rfl (qt_pev tok rfl) rfl rfl rfl ?_
    refine pr_one 22 (by decide +kernel) (eff0 22 rfl (sst tok rfl rfl rfl rfl rfl) (by decide +kernel) (qs := _) rfl ?_)
    rintro _ _ _ ⟨rfl, rfl, rfl⟩
    refine ⟨by (repeat (first | exact trivial | refine And.intro (pend_q rfl rfl rfl (qt_pev tok rfl)) ?_ | refine And.intro (pend_q rfl rfl rfl (ql tok rfl)) ?_)), ?_⟩
    refine pr_q 23 (by decide +kernel) rfl (qt_pev tok rfl) rfl rfl rfl ?_
    refine pr_one 24 (by decide +kernel) (eff0 24 rfl (sst tok rfl rfl rfl rfl rfl) (by decide +kernel) (qs := _) rfl ?_)
    rintro _ _ _ ⟨rfl, rfl, rfl⟩
    refine ⟨by (repeat (first | exact trivial | refine And.intro (pend_q rfl rfl rfl (qt_pev tok rfl)) ?_ | refine And.intro (pend_q rfl rfl rfl (ql tok rfl)) ?_)), ?_⟩
    refine pr_end (by decide +kernel) (by decide +kernel) ?_
    repeat (first | with_reducible (first | refine run_seq ?_ | refine run_region ?_ | refine runL_nil ?_ | refine run_skip ?_ | refine run_block ?_ | refine run_inBlock ?_) | refine run_exit rfl ?_ | refine runL_q (qt_pev tok rfl) rfl rfl rfl ?_ | refine runL_g rfl rfl (qt_pev tok rfl) rfl rfl rfl rfl rfl ?_ | refine runL_q (ql tok rfl) rfl rfl rfl ?_ | refine runL_g rfl rfl (ql tok rfl) rfl rfl rfl rfl rfl ?_ | (refine runL_op0 (sst tok rfl rfl rfl rfl rfl) ?_; rintro _ _ _ ⟨rfl, rfl, rfl⟩) | (refine runL_op (st_box rfl) rfl rfl rfl ?_; rintro _ _ _ ⟨_, rfl, rfl, rfl⟩) | (refine runL_op (st_alloc tok rfl) rfl rfl rfl ?_; rintro _ _ _ ⟨_, rfl, rfl, rfl⟩) | (refine runL_op (st_buildSlice tok rfl rfl rfl rfl rfl rfl rfl) rfl rfl rfl ?_; rintro _ _ _ ⟨_, rfl, rfl, rfl⟩))
    refine run_ret hC (rs := [.cell 2 29, .tmp 3]) rfl (rl tok rfl (resT rfl resN)) (L' := Na ++ (Nt ++ (Nv ++ L))) (fun _ h => ?_) (.inr ⟨hE, Mem.le_trans hM1 hM2, ⟨c.txn, c.auditor, m', s', v', t', a', c.state, c.since, c.sent⟩, Nv, Nt, Na, rfl, ?_, rfl, ?_⟩)
    · exact h.subl (((((List.sublist_cons_self _ _).trans (List.sublist_cons_self _ _)).append_left Nv).append_left Nt).append_left Na)
    · simp only [Co.ab, hmx, hsx, hvx, htx, hax]
    · exact ⟨hmo.le hM2, hso, by rw [hvx, hvl]; exact hvo, by rw [htx, htl]; exact hto, by rw [hax, hal]; exact hao, ⟨by rw [hvx, hvl]; exact U8Ok.len h.votes, by rw [hvl]; exact h.votes.2⟩, ⟨by rw [htx, htl]; exact StOk.len h.tags, by rw [htl]; exact h.tags.2⟩, ⟨by rw [hax, hal]; exact BlOk.len h.acks, by rw [hal]; exact h.acks.2⟩, by rw [hmx]; exact h.dig, by rw [hsx]; exact h.bod, by rw [htx]; exact h.tag⟩
end Go.Proofs.Ytpmepmdngdkafaa
namespace Go.Proofs.Ytpmepmdngdkafaa
open Go.Chi

/-! ### a member's place -/
def memR (xs : List Mb) (org : Int) : Option Nat := xs.findIdx? (fun m => m.org == org)
def memV : Option Nat → Value
  | some k => .tuple ⟨[.int .i64 (k : Int), .int .i64 0]⟩
  | none => .tuple ⟨[.int .i64 0, .int .i64 3]⟩
def ixI : Option Nat → Int
  | some k => k
  | none => -1
theorem memR_lt {xs : List Mb} {org : Int} {k : Nat} (h : memR xs org = some k) : k < xs.length := (List.findIdx?_eq_some_iff_getElem.1 h).1
theorem memR_at {xs : List Mb} {org : Int} {j : Nat} {m : Mb} (hm : xs[j]? = some m) (hp : ∀ x ∈ xs.take j, (x.org == org) = false) (h : (m.org == org) = true) : memR xs org = some j := by
  obtain ⟨hl, he⟩ := List.getElem?_eq_some_iff.1 hm
  refine List.findIdx?_eq_some_iff_getElem.2 ⟨hl, by rw [he]; exact h, fun i hi => ?_⟩
  have : xs[i]'(by omega) ∈ xs.take j := List.mem_iff_getElem?.2 ⟨i, by rw [List.getElem?_take, if_pos hi, List.getElem?_eq_getElem (by omega)]⟩
  rw [hp _ this]; simp
theorem memR_none {xs : List Mb} {org : Int} (hp : ∀ x ∈ xs, (x.org == org) = false) : memR xs org = none := List.findIdx?_eq_none_iff.2 hp
theorem isM_ok (M : Mem) (L : HL) (b : Nat) (m : Mb) (org : Int) (hb : (b, .cells ⟨[.int .i64 org]⟩ 3 (0, 0)) ∈ L) : TrQ Try.prog 63 [.agg ⟨mbC m⟩, .pointer (some ⟨b, 0, none⟩)] M L (.bool (m.org == org)) := by
  refine Tr.intro 8 Try.func63 rfl rfl Try.call63 rfl ?_
  intro C hC hro
  repeat (first | with_reducible (first | refine run_seq ?_ | refine run_region ?_ | refine runL_nil ?_ | refine run_skip ?_ | refine run_block ?_ | refine run_inBlock ?_) | refine run_exit rfl ?_ | refine runL_q (qt_pev tok rfl) rfl rfl rfl ?_ | refine runL_g rfl rfl (qt_pev tok rfl) rfl rfl rfl rfl rfl ?_ | refine runL_q (ql tok rfl) rfl rfl rfl ?_ | refine runL_g rfl rfl (ql tok rfl) rfl rfl rfl rfl rfl ?_ | (refine runL_op0 (sst tok rfl rfl rfl rfl rfl) ?_; rintro _ _ _ ⟨rfl, rfl, rfl⟩) | (refine runL_op (st_box rfl) rfl rfl rfl ?_; rintro _ _ _ ⟨_, rfl, rfl, rfl⟩) | (refine runL_op (st_alloc tok rfl) rfl rfl rfl ?_; rintro _ _ _ ⟨_, rfl, rfl, rfl⟩) | (refine runL_op (st_buildSlice tok rfl rfl rfl rfl rfl rfl rfl) rfl rfl rfl ?_; rintro _ _ _ ⟨_, rfl, rfl, rfl⟩))
  exact run_ret hC (rs := [.tmp 3]) rfl (resT rfl resN) (fun _ h => h.drop) ⟨rfl, rfl, rfl⟩
set_option maxRecDepth 10000 in
set_option maxHeartbeats 4000000 in
theorem indexM_ok (M : Mem) (L : HL) (b0 : Nat) (s : SMb) (hs : MbOk M s) (org : Int) (hb : (b0, .cells ⟨[.int .i64 org]⟩ 3 (0, 0)) ∈ L) : TrQ Try.prog 62 [s.v, .func (.func 63) ⟨[]⟩ ⟨[.pointer (some ⟨b0, 0, none⟩)]⟩] M L (.int .i64 (ixI (memR s.xs org))) := by
  have hl := hs.len
  have h6 := hs.2
  refine Tr.intro 19 Try.func62 rfl rfl Try.call62 rfl ?_
  intro C hC hro
  repeat (first | with_reducible (first | refine run_seq ?_ | refine run_region ?_ | refine runL_nil ?_ | refine run_skip ?_ | refine run_block ?_ | refine run_inBlock ?_) | refine run_exit rfl ?_ | refine runL_q (qt_pev tok rfl) rfl rfl rfl ?_ | refine runL_g rfl rfl (qt_pev tok rfl) rfl rfl rfl rfl rfl ?_ | refine runL_q (ql tok rfl) rfl rfl rfl ?_ | refine runL_g rfl rfl (ql tok rfl) rfl rfl rfl rfl rfl ?_ | (refine runL_op0 (sst tok rfl rfl rfl rfl rfl) ?_; rintro _ _ _ ⟨rfl, rfl, rfl⟩) | (refine runL_op (st_box rfl) rfl rfl rfl ?_; rintro _ _ _ ⟨_, rfl, rfl, rfl⟩) | (refine runL_op (st_alloc tok rfl) rfl rfl rfl ?_; rintro _ _ _ ⟨_, rfl, rfl, rfl⟩) | (refine runL_op (st_buildSlice tok rfl rfl rfl rfl rfl rfl rfl) rfl rfl rfl ?_; rintro _ _ _ ⟨_, rfl, rfl, rfl⟩))
  refine run_loopN (fun j σ1 M1 L1 => j ≤ s.len ∧ (∀ x ∈ s.xs.take j, (x.org == org) = false) ∧ M = M1 ∧ L = L1 ∧ σ1 = [(8, .int .i64 (j : Int)), (7, .int .i64 (s.len : Int)), (0, s.v), (1, .func (.func 63) ⟨[]⟩ ⟨[.pointer (some ⟨b0, 0, none⟩)]⟩)]) s.len [(8, .int .i64 ((0 : Nat) : Int)), (7, .int .i64 (s.len : Int)), (0, s.v), (1, .func (.func 63) ⟨[]⟩ ⟨[.pointer (some ⟨b0, 0, none⟩)]⟩)] ?_ ⟨Nat.zero_le _, by simp, rfl, rfl, rfl⟩ (fun j _ _ _ h => h.1) ?_
  · exact ⟨rfl, rfl, rfl, rfl, trivial⟩
  rintro j _ _ _ ⟨hj, hp, rfl, rfl, rfl⟩ hnext
  repeat (first | with_reducible (first | refine run_seq ?_ | refine run_region ?_ | refine runL_nil ?_ | refine run_skip ?_ | refine run_block ?_ | refine run_inBlock ?_) | refine run_exit rfl ?_ | refine runL_q (qt_pev tok rfl) rfl rfl rfl ?_ | refine runL_g rfl rfl (qt_pev tok rfl) rfl rfl rfl rfl rfl ?_ | refine runL_q (ql tok rfl) rfl rfl rfl ?_ | refine runL_g rfl rfl (ql tok rfl) rfl rfl rfl rfl rfl ?_ | (refine runL_op0 (sst tok rfl rfl rfl rfl rfl) ?_; rintro _ _ _ ⟨rfl, rfl, rfl⟩) | (refine runL_op (st_box rfl) rfl rfl rfl ?_; rintro _ _ _ ⟨_, rfl, rfl, rfl⟩) | (refine runL_op (st_alloc tok rfl) rfl rfl rfl ?_; rintro _ _ _ ⟨_, rfl, rfl, rfl⟩) | (refine runL_op (st_buildSlice tok rfl rfl rfl rfl rfl rfl rfl) rfl rfl rfl ?_; rintro _ _ _ ⟨_, rfl, rfl, rfl⟩))
  refine run_cond rfl (fun h1 => ?_) (fun h1 => ?_)
  · have hlt : j < s.len := by simpa using h1
    obtain ⟨b, off, m, hma, hm, hc⟩ := SMb.at_ hs.1 hlt
    have hv : s.v = .slice (some ⟨b, off, none⟩) s.len s.cap := by rw [← hma]; rfl
    refine run_as 0 (.slice (some ⟨b, off, none⟩) s.len s.cap) rfl hv ?_
    repeat (first | with_reducible (first | refine run_seq ?_ | refine run_region ?_ | refine runL_nil ?_ | refine run_skip ?_ | refine run_block ?_ | refine run_inBlock ?_) | refine run_exit rfl ?_ | refine runL_q (qt_pev tok rfl) rfl rfl rfl ?_ | refine runL_g rfl rfl (qt_pev tok rfl) rfl rfl rfl rfl rfl ?_ | refine runL_q (ql tok rfl) rfl rfl rfl ?_ | refine runL_g rfl rfl (ql tok rfl) rfl rfl rfl rfl rfl ?_ | (refine runL_op0 (sst tok rfl rfl rfl rfl rfl) ?_; rintro _ _ _ ⟨rfl, rfl, rfl⟩) | (refine runL_op (st_box rfl) rfl rfl rfl ?_; rintro _ _ _ ⟨_, rfl, rfl, rfl⟩) | (refine runL_op (st_alloc tok rfl) rfl rfl rfl ?_; rintro _ _ _ ⟨_, rfl, rfl, rfl⟩) | (refine runL_op (st_buildSlice tok rfl rfl rfl rfl rfl rfl rfl) rfl rfl rfl ?_; rintro _ _ _ ⟨_, rfl, rfl, rfl⟩) | refine runL_q (qt_indexN tok rfl rfl rfl rfl (fun _ => by omega)) rfl rfl rfl ?_ | refine runL_g rfl rfl (qt_indexN tok rfl rfl rfl rfl (fun _ => by omega)) rfl rfl rfl rfl rfl ?_ | refine runL_q (qt_ldM tok rfl hc rfl) rfl rfl rfl ?_ | refine runL_g rfl rfl (qt_ldM tok rfl hc rfl) rfl rfl rfl rfl rfl ?_ | refine runL_q (qt_ldM0 tok rfl hc rfl) rfl rfl rfl ?_ | refine runL_g rfl rfl (qt_ldM0 tok rfl hc rfl) rfl rfl rfl rfl rfl ?_ | refine runL_q (st_callV rfl rfl (fun _ => isM_ok _ _ b0 m org hb)) rfl rfl rfl ?_)
    refine run_cond rfl (fun h2 => ?_) (fun h2 => ?_)
    · repeat (first | with_reducible (first | refine run_seq ?_ | refine run_region ?_ | refine runL_nil ?_ | refine run_skip ?_ | refine run_block ?_ | refine run_inBlock ?_) | refine run_exit rfl ?_ | refine runL_q (qt_pev tok rfl) rfl rfl rfl ?_ | refine runL_g rfl rfl (qt_pev tok rfl) rfl rfl rfl rfl rfl ?_ | refine runL_q (ql tok rfl) rfl rfl rfl ?_ | refine runL_g rfl rfl (ql tok rfl) rfl rfl rfl rfl rfl ?_ | (refine runL_op0 (sst tok rfl rfl rfl rfl rfl) ?_; rintro _ _ _ ⟨rfl, rfl, rfl⟩) | (refine runL_op (st_box rfl) rfl rfl rfl ?_; rintro _ _ _ ⟨_, rfl, rfl, rfl⟩) | (refine runL_op (st_alloc tok rfl) rfl rfl rfl ?_; rintro _ _ _ ⟨_, rfl, rfl, rfl⟩) | (refine runL_op (st_buildSlice tok rfl rfl rfl rfl rfl rfl rfl) rfl rfl rfl ?_; rintro _ _ _ ⟨_, rfl, rfl, rfl⟩))
      exact run_ret hC (rs := [.tmp 4]) rfl (resT rfl resN) (fun _ h => h) ⟨by rw [memR_at hm hp h2]; rfl, rfl, rfl⟩
    · repeat (first | with_reducible (first | refine run_seq ?_ | refine run_region ?_ | refine runL_nil ?_ | refine run_skip ?_ | refine run_block ?_ | refine run_inBlock ?_) | refine run_exit rfl ?_ | refine runL_q (qt_pev tok rfl) rfl rfl rfl ?_ | refine runL_g rfl rfl (qt_pev tok rfl) rfl rfl rfl rfl rfl ?_ | refine runL_q (ql tok rfl) rfl rfl rfl ?_ | refine runL_g rfl rfl (ql tok rfl) rfl rfl rfl rfl rfl ?_ | (refine runL_op0 (sst tok rfl rfl rfl rfl rfl) ?_; rintro _ _ _ ⟨rfl, rfl, rfl⟩) | (refine runL_op (st_box rfl) rfl rfl rfl ?_; rintro _ _ _ ⟨_, rfl, rfl, rfl⟩) | (refine runL_op (st_alloc tok rfl) rfl rfl rfl ?_; rintro _ _ _ ⟨_, rfl, rfl, rfl⟩) | (refine runL_op (st_buildSlice tok rfl rfl rfl rfl rfl rfl rfl) rfl rfl rfl ?_; rintro _ _ _ ⟨_, rfl, rfl, rfl⟩))
      refine run_sub' (hnext _ _ _ ⟨hlt, fun x hx => ?_, rfl, rfl, rfl⟩) ⟨lk_succ rfl (by omega), rfl, by rw [hv]; rfl, rfl, trivial⟩
      rw [take_snoc hm] at hx
      rcases List.mem_append.1 hx with hx | hx
      · exact hp x hx
      · simp at hx; subst hx; exact h2
  · have hge : j = s.len := by simp at h1; omega
    rw [hge, List.take_of_length_le (by omega)] at hp
    repeat (first | with_reducible (first | refine run_seq ?_ | refine run_region ?_ | refine runL_nil ?_ | refine run_skip ?_ | refine run_block ?_ | refine run_inBlock ?_) | refine run_exit rfl ?_ | refine runL_q (qt_pev tok rfl) rfl rfl rfl ?_ | refine runL_g rfl rfl (qt_pev tok rfl) rfl rfl rfl rfl rfl ?_ | refine runL_q (ql tok rfl) rfl rfl rfl ?_ | refine runL_g rfl rfl (ql tok rfl) rfl rfl rfl rfl rfl ?_ | (refine runL_op0 (sst tok rfl rfl rfl rfl rfl) ?_; rintro _ _ _ ⟨rfl, rfl, rfl⟩) | (refine runL_op (st_box rfl) rfl rfl rfl ?_; rintro _ _ _ ⟨_, rfl, rfl, rfl⟩) | (refine runL_op (st_alloc tok rfl) rfl rfl rfl ?_; rintro _ _ _ ⟨_, rfl, rfl, rfl⟩) | (refine runL_op (st_buildSlice tok rfl rfl rfl rfl rfl rfl rfl) rfl rfl rfl ?_; rintro _ _ _ ⟨_, rfl, rfl, rfl⟩))
    exact run_ret hC (rs := [.tmp 4]) rfl (resT rfl resN) (fun _ h => h) ⟨by rw [memR_none hp]; rfl, rfl, rfl⟩
set_option maxHeartbeats 4000000 in
theorem member_ok (M : Mem) (L : HL) (c : Co) (h : MbOk M c.mem) (org : Int) : TrQ Try.prog 36 [.agg ⟨coC c⟩, .int .i64 org] M L (memV (memR c.mem.xs org)) := by
  have h6 := h.2
  have hl := h.len
  refine Tr.intro 14 Try.func36 rfl rfl Try.call36 rfl ?_
  intro C hC hro
  repeat (first | with_reducible (first | refine run_seq ?_ | refine run_region ?_ | refine runL_nil ?_ | refine run_skip ?_ | refine run_block ?_ | refine run_inBlock ?_) | refine run_exit rfl ?_ | refine runL_q (qt_pev tok rfl) rfl rfl rfl ?_ | refine runL_g rfl rfl (qt_pev tok rfl) rfl rfl rfl rfl rfl ?_ | refine runL_q (ql tok rfl) rfl rfl rfl ?_ | refine runL_g rfl rfl (ql tok rfl) rfl rfl rfl rfl rfl ?_ | (refine runL_op0 (sst tok rfl rfl rfl rfl rfl) ?_; rintro _ _ _ ⟨rfl, rfl, rfl⟩) | (refine runL_op (st_box rfl) rfl rfl rfl ?_; rintro _ _ _ ⟨_, rfl, rfl, rfl⟩) | (refine runL_op (st_alloc tok rfl) rfl rfl rfl ?_; rintro _ _ _ ⟨_, rfl, rfl, rfl⟩) | (refine runL_op (st_buildSlice tok rfl rfl rfl rfl rfl rfl rfl) rfl rfl rfl ?_; rintro _ _ _ ⟨_, rfl, rfl, rfl⟩))
  rename_i b1 b2
  refine runL_q (qt_callF rfl (fun _ => indexM_ok _ _ b2 c.mem h org List.mem_cons_self)) rfl rfl rfl ?_
  repeat (first | with_reducible (first | refine run_seq ?_ | refine run_region ?_ | refine runL_nil ?_ | refine run_skip ?_ | refine run_block ?_ | refine run_inBlock ?_) | refine run_exit rfl ?_ | refine runL_q (qt_pev tok rfl) rfl rfl rfl ?_ | refine runL_g rfl rfl (qt_pev tok rfl) rfl rfl rfl rfl rfl ?_ | refine runL_q (ql tok rfl) rfl rfl rfl ?_ | refine runL_g rfl rfl (ql tok rfl) rfl rfl rfl rfl rfl ?_ | (refine runL_op0 (sst tok rfl rfl rfl rfl rfl) ?_; rintro _ _ _ ⟨rfl, rfl, rfl⟩) | (refine runL_op (st_box rfl) rfl rfl rfl ?_; rintro _ _ _ ⟨_, rfl, rfl, rfl⟩) | (refine runL_op (st_alloc tok rfl) rfl rfl rfl ?_; rintro _ _ _ ⟨_, rfl, rfl, rfl⟩) | (refine runL_op (st_buildSlice tok rfl rfl rfl rfl rfl rfl rfl) rfl rfl rfl ?_; rintro _ _ _ ⟨_, rfl, rfl, rfl⟩))
  cases hk : memR c.mem.xs org with
  | none =>
    refine run_cond rfl (fun _ => ?_) (fun h => by cases h)
    repeat (first | with_reducible (first | refine run_seq ?_ | refine run_region ?_ | refine runL_nil ?_ | refine run_skip ?_ | refine run_block ?_ | refine run_inBlock ?_) | refine run_exit rfl ?_ | refine runL_q (qt_pev tok rfl) rfl rfl rfl ?_ | refine runL_g rfl rfl (qt_pev tok rfl) rfl rfl rfl rfl rfl ?_ | refine runL_q (ql tok rfl) rfl rfl rfl ?_ | refine runL_g rfl rfl (ql tok rfl) rfl rfl rfl rfl rfl ?_ | (refine runL_op0 (sst tok rfl rfl rfl rfl rfl) ?_; rintro _ _ _ ⟨rfl, rfl, rfl⟩) | (refine runL_op (st_box rfl) rfl rfl rfl ?_; rintro _ _ _ ⟨_, rfl, rfl, rfl⟩) | (refine runL_op (st_alloc tok rfl) rfl rfl rfl ?_; rintro _ _ _ ⟨_, rfl, rfl, rfl⟩) | (refine runL_op (st_buildSlice tok rfl rfl rfl rfl rfl rfl rfl) rfl rfl rfl ?_; rintro _ _ _ ⟨_, rfl, rfl, rfl⟩))
    exact run_ret hC (rs := [.tmp 4, .tmp 5]) rfl (resT rfl (resT rfl resN)) (fun _ h => h.drop.drop) ⟨by rw [hk]; rfl, rfl, rfl⟩
  | some k =>
    refine run_cond rfl (fun h => ?_) (fun _ => ?_)
    · exfalso
      have : ((k : Nat) : Int) < 0 := of_decide_eq_true h
      omega
    repeat (first | with_reducible (first | refine run_seq ?_ | refine run_region ?_ | refine runL_nil ?_ | refine run_skip ?_ | refine run_block ?_ | refine run_inBlock ?_) | refine run_exit rfl ?_ | refine runL_q (qt_pev tok rfl) rfl rfl rfl ?_ | refine runL_g rfl rfl (qt_pev tok rfl) rfl rfl rfl rfl rfl ?_ | refine runL_q (ql tok rfl) rfl rfl rfl ?_ | refine runL_g rfl rfl (ql tok rfl) rfl rfl rfl rfl rfl ?_ | (refine runL_op0 (sst tok rfl rfl rfl rfl rfl) ?_; rintro _ _ _ ⟨rfl, rfl, rfl⟩) | (refine runL_op (st_box rfl) rfl rfl rfl ?_; rintro _ _ _ ⟨_, rfl, rfl, rfl⟩) | (refine runL_op (st_alloc tok rfl) rfl rfl rfl ?_; rintro _ _ _ ⟨_, rfl, rfl, rfl⟩) | (refine runL_op (st_buildSlice tok rfl rfl rfl rfl rfl rfl rfl) rfl rfl rfl ?_; rintro _ _ _ ⟨_, rfl, rfl, rfl⟩))
    exact run_ret hC (rs := [.tmp 4, .tmp 5]) rfl (resT rfl (resT rfl resN)) (fun _ h => h.drop.drop) ⟨by rw [hk]; rfl, rfl, rfl⟩

/-! ### a vote among votes -/
set_option maxHeartbeats 4000000 in
theorem indexU_ok (M : Mem) (L : HL) (s : SU8) (hs : U8Ok M s) (v : Int) : Tr Try.prog 76 [s.v, .int .u8 v] M L (fun r M' L' => M = M' ∧ L = L' ∧ ∃ z : Int, r = .int .i64 z ∧ (decide (z ≥ 0)) = s.xs.any (fun x => v == x)) := by
  have hl := hs.len
  have h6 := hs.2
  refine Tr.intro 19 Try.func76 rfl rfl Try.call76 rfl ?_
  intro C hC hro
  repeat (first | with_reducible (first | refine run_seq ?_ | refine run_region ?_ | refine runL_nil ?_ | refine run_skip ?_ | refine run_block ?_ | refine run_inBlock ?_) | refine run_exit rfl ?_ | refine runL_q (qt_pev tok rfl) rfl rfl rfl ?_ | refine runL_g rfl rfl (qt_pev tok rfl) rfl rfl rfl rfl rfl ?_ | refine runL_q (ql tok rfl) rfl rfl rfl ?_ | refine runL_g rfl rfl (ql tok rfl) rfl rfl rfl rfl rfl ?_ | (refine runL_op0 (sst tok rfl rfl rfl rfl rfl) ?_; rintro _ _ _ ⟨rfl, rfl, rfl⟩) | (refine runL_op (st_box rfl) rfl rfl rfl ?_; rintro _ _ _ ⟨_, rfl, rfl, rfl⟩) | (refine runL_op (st_alloc tok rfl) rfl rfl rfl ?_; rintro _ _ _ ⟨_, rfl, rfl, rfl⟩) | (refine runL_op (st_buildSlice tok rfl rfl rfl rfl rfl rfl rfl) rfl rfl rfl ?_; rintro _ _ _ ⟨_, rfl, rfl, rfl⟩))
  refine run_loopN (fun j σ1 M1 L1 => j ≤ s.len ∧ (s.xs.take j).any (fun x => v == x) = false ∧ M = M1 ∧ L = L1 ∧ σ1 = [(8, .int .i64 (j : Int)), (7, .int .i64 (s.len : Int)), (0, s.v), (1, .int .u8 v)]) s.len [(8, .int .i64 ((0 : Nat) : Int)), (7, .int .i64 (s.len : Int)), (0, s.v), (1, .int .u8 v)] ?_ ⟨Nat.zero_le _, by simp, rfl, rfl, rfl⟩ (fun j _ _ _ h => h.1) ?_
  · exact ⟨rfl, rfl, rfl, rfl, trivial⟩
  rintro j _ _ _ ⟨hj, hp, rfl, rfl, rfl⟩ hnext
  repeat (first | with_reducible (first | refine run_seq ?_ | refine run_region ?_ | refine runL_nil ?_ | refine run_skip ?_ | refine run_block ?_ | refine run_inBlock ?_) | refine run_exit rfl ?_ | refine runL_q (qt_pev tok rfl) rfl rfl rfl ?_ | refine runL_g rfl rfl (qt_pev tok rfl) rfl rfl rfl rfl rfl ?_ | refine runL_q (ql tok rfl) rfl rfl rfl ?_ | refine runL_g rfl rfl (ql tok rfl) rfl rfl rfl rfl rfl ?_ | (refine runL_op0 (sst tok rfl rfl rfl rfl rfl) ?_; rintro _ _ _ ⟨rfl, rfl, rfl⟩) | (refine runL_op (st_box rfl) rfl rfl rfl ?_; rintro _ _ _ ⟨_, rfl, rfl, rfl⟩) | (refine runL_op (st_alloc tok rfl) rfl rfl rfl ?_; rintro _ _ _ ⟨_, rfl, rfl, rfl⟩) | (refine runL_op (st_buildSlice tok rfl rfl rfl rfl rfl rfl rfl) rfl rfl rfl ?_; rintro _ _ _ ⟨_, rfl, rfl, rfl⟩))
  refine run_cond rfl (fun h1 => ?_) (fun h1 => ?_)
  · have hlt : j < s.len := by simpa using h1
    obtain ⟨b, off, cv, hma, hcv, _, hc⟩ := hs.1.at_ hlt
    obtain ⟨x, hx, rfl⟩ : ∃ y, s.xs[j]? = some y ∧ u8C y = cv := by simpa using hcv
    have hv : s.v = .slice (some ⟨b, off, none⟩) s.len s.cap := by rw [← hma]; rfl
    refine run_as 0 (.slice (some ⟨b, off, none⟩) s.len s.cap) rfl hv ?_
    repeat (first | with_reducible (first | refine run_seq ?_ | refine run_region ?_ | refine runL_nil ?_ | refine run_skip ?_ | refine run_block ?_ | refine run_inBlock ?_) | refine run_exit rfl ?_ | refine runL_q (qt_pev tok rfl) rfl rfl rfl ?_ | refine runL_g rfl rfl (qt_pev tok rfl) rfl rfl rfl rfl rfl ?_ | refine runL_q (ql tok rfl) rfl rfl rfl ?_ | refine runL_g rfl rfl (ql tok rfl) rfl rfl rfl rfl rfl ?_ | (refine runL_op0 (sst tok rfl rfl rfl rfl rfl) ?_; rintro _ _ _ ⟨rfl, rfl, rfl⟩) | (refine runL_op (st_box rfl) rfl rfl rfl ?_; rintro _ _ _ ⟨_, rfl, rfl, rfl⟩) | (refine runL_op (st_alloc tok rfl) rfl rfl rfl ?_; rintro _ _ _ ⟨_, rfl, rfl, rfl⟩) | (refine runL_op (st_buildSlice tok rfl rfl rfl rfl rfl rfl rfl) rfl rfl rfl ?_; rintro _ _ _ ⟨_, rfl, rfl, rfl⟩) | refine runL_q (qt_indexN tok rfl rfl rfl rfl (fun _ => by omega)) rfl rfl rfl ?_ | refine runL_g rfl rfl (qt_indexN tok rfl rfl rfl rfl (fun _ => by omega)) rfl rfl rfl rfl rfl ?_ | refine runL_q (qt_ldM tok rfl hc rfl) rfl rfl rfl ?_ | refine runL_g rfl rfl (qt_ldM tok rfl hc rfl) rfl rfl rfl rfl rfl ?_ | refine runL_q (qt_ldM0 tok rfl hc rfl) rfl rfl rfl ?_ | refine runL_g rfl rfl (qt_ldM0 tok rfl hc rfl) rfl rfl rfl rfl rfl ?_)
    refine run_cond rfl (fun h2 => ?_) (fun h2 => ?_)
    · repeat (first | with_reducible (first | refine run_seq ?_ | refine run_region ?_ | refine runL_nil ?_ | refine run_skip ?_ | refine run_block ?_ | refine run_inBlock ?_) | refine run_exit rfl ?_ | refine runL_q (qt_pev tok rfl) rfl rfl rfl ?_ | refine runL_g rfl rfl (qt_pev tok rfl) rfl rfl rfl rfl rfl ?_ | refine runL_q (ql tok rfl) rfl rfl rfl ?_ | refine runL_g rfl rfl (ql tok rfl) rfl rfl rfl rfl rfl ?_ | (refine runL_op0 (sst tok rfl rfl rfl rfl rfl) ?_; rintro _ _ _ ⟨rfl, rfl, rfl⟩) | (refine runL_op (st_box rfl) rfl rfl rfl ?_; rintro _ _ _ ⟨_, rfl, rfl, rfl⟩) | (refine runL_op (st_alloc tok rfl) rfl rfl rfl ?_; rintro _ _ _ ⟨_, rfl, rfl, rfl⟩) | (refine runL_op (st_buildSlice tok rfl rfl rfl rfl rfl rfl rfl) rfl rfl rfl ?_; rintro _ _ _ ⟨_, rfl, rfl, rfl⟩))
      exact run_ret hC (rs := [.tmp 4]) rfl (resT rfl resN) (fun _ h => h) ⟨rfl, rfl, _, rfl, by rw [any_true (fun x => v == x) hx h2]; simp⟩
    · repeat (first | with_reducible (first | refine run_seq ?_ | refine run_region ?_ | refine runL_nil ?_ | refine run_skip ?_ | refine run_block ?_ | refine run_inBlock ?_) | refine run_exit rfl ?_ | refine runL_q (qt_pev tok rfl) rfl rfl rfl ?_ | refine runL_g rfl rfl (qt_pev tok rfl) rfl rfl rfl rfl rfl ?_ | refine runL_q (ql tok rfl) rfl rfl rfl ?_ | refine runL_g rfl rfl (ql tok rfl) rfl rfl rfl rfl rfl ?_ | (refine runL_op0 (sst tok rfl rfl rfl rfl rfl) ?_; rintro _ _ _ ⟨rfl, rfl, rfl⟩) | (refine runL_op (st_box rfl) rfl rfl rfl ?_; rintro _ _ _ ⟨_, rfl, rfl, rfl⟩) | (refine runL_op (st_alloc tok rfl) rfl rfl rfl ?_; rintro _ _ _ ⟨_, rfl, rfl, rfl⟩) | (refine runL_op (st_buildSlice tok rfl rfl rfl rfl rfl rfl rfl) rfl rfl rfl ?_; rintro _ _ _ ⟨_, rfl, rfl, rfl⟩))
      exact run_sub' (hnext _ _ _ ⟨hlt, by rw [any_snoc (fun x => v == x) hx hp]; exact h2, rfl, rfl, rfl⟩) ⟨lk_succ rfl (by omega), rfl, by rw [hv]; rfl, rfl, trivial⟩
  · have hge : j = s.len := by simp at h1; omega
    rw [hge, List.take_of_length_le (by omega)] at hp
    repeat (first | with_reducible (first | refine run_seq ?_ | refine run_region ?_ | refine runL_nil ?_ | refine run_skip ?_ | refine run_block ?_ | refine run_inBlock ?_) | refine run_exit rfl ?_ | refine runL_q (qt_pev tok rfl) rfl rfl rfl ?_ | refine runL_g rfl rfl (qt_pev tok rfl) rfl rfl rfl rfl rfl ?_ | refine runL_q (ql tok rfl) rfl rfl rfl ?_ | refine runL_g rfl rfl (ql tok rfl) rfl rfl rfl rfl rfl ?_ | (refine runL_op0 (sst tok rfl rfl rfl rfl rfl) ?_; rintro _ _ _ ⟨rfl, rfl, rfl⟩) | (refine runL_op (st_box rfl) rfl rfl rfl ?_; rintro _ _ _ ⟨_, rfl, rfl, rfl⟩) | (refine runL_op (st_alloc tok rfl) rfl rfl rfl ?_; rintro _ _ _ ⟨_, rfl, rfl, rfl⟩) | (refine runL_op (st_buildSlice tok rfl rfl rfl rfl rfl rfl rfl) rfl rfl rfl ?_; rintro _ _ _ ⟨_, rfl, rfl, rfl⟩))
    exact run_ret hC (rs := [.tmp 4]) rfl (resT rfl resN) (fun _ h => h) ⟨rfl, rfl, _, rfl, by rw [hp]; rfl⟩
def hasR (xs : List Int) (v : Int) : Bool := xs.any (fun x => v == x)
theorem containsU_ok (M : Mem) (L : HL) (s : SU8) (hs : U8Ok M s) (v : Int) : TrQ Try.prog 65 [s.v, .int .u8 v] M L (.bool (hasR s.xs v)) := by
  refine Tr.intro 9 Try.func65 rfl rfl Try.call65 rfl ?_
  intro C hC hro
  repeat (first | with_reducible (first | refine run_seq ?_ | refine run_region ?_ | refine runL_nil ?_ | refine run_skip ?_ | refine run_block ?_ | refine run_inBlock ?_) | refine run_exit rfl ?_ | refine runL_q (qt_pev tok rfl) rfl rfl rfl ?_ | refine runL_g rfl rfl (qt_pev tok rfl) rfl rfl rfl rfl rfl ?_ | refine runL_q (ql tok rfl) rfl rfl rfl ?_ | refine runL_g rfl rfl (ql tok rfl) rfl rfl rfl rfl rfl ?_ | (refine runL_op0 (sst tok rfl rfl rfl rfl rfl) ?_; rintro _ _ _ ⟨rfl, rfl, rfl⟩) | (refine runL_op (st_box rfl) rfl rfl rfl ?_; rintro _ _ _ ⟨_, rfl, rfl, rfl⟩) | (refine runL_op (st_alloc tok rfl) rfl rfl rfl ?_; rintro _ _ _ ⟨_, rfl, rfl, rfl⟩) | (refine runL_op (st_buildSlice tok rfl rfl rfl rfl rfl rfl rfl) rfl rfl rfl ?_; rintro _ _ _ ⟨_, rfl, rfl, rfl⟩))
  refine runL_op (st_callF rfl (fun _ => indexU_ok _ _ s hs v)) rfl rfl rfl ?_
  rintro _ _ _ ⟨rfl, rfl, z, rfl, hz⟩
  repeat (first | with_reducible (first | refine run_seq ?_ | refine run_region ?_ | refine runL_nil ?_ | refine run_skip ?_ | refine run_block ?_ | refine run_inBlock ?_) | refine run_exit rfl ?_ | refine runL_q (qt_pev tok rfl) rfl rfl rfl ?_ | refine runL_g rfl rfl (qt_pev tok rfl) rfl rfl rfl rfl rfl ?_ | refine runL_q (ql tok rfl) rfl rfl rfl ?_ | refine runL_g rfl rfl (ql tok rfl) rfl rfl rfl rfl rfl ?_ | (refine runL_op0 (sst tok rfl rfl rfl rfl rfl) ?_; rintro _ _ _ ⟨rfl, rfl, rfl⟩) | (refine runL_op (st_box rfl) rfl rfl rfl ?_; rintro _ _ _ ⟨_, rfl, rfl, rfl⟩) | (refine runL_op (st_alloc tok rfl) rfl rfl rfl ?_; rintro _ _ _ ⟨_, rfl, rfl, rfl⟩) | (refine runL_op (st_buildSlice tok rfl rfl rfl rfl rfl rfl rfl) rfl rfl rfl ?_; rintro _ _ _ ⟨_, rfl, rfl, rfl⟩))
  exact run_ret hC (rs := [.tmp 4]) rfl (resT rfl resN) (fun _ h => h) ⟨by rw [hasR, ← hz]; rfl, rfl, rfl⟩
theorem has_ok (M : Mem) (L : HL) (c : Co) (h : U8Ok M c.votes) (v : Int) : TrQ Try.prog 39 [.agg ⟨coC c⟩, .int .u8 v] M L (.bool (hasR c.votes.xs v)) := by
  refine Tr.intro 9 Try.func39 rfl rfl Try.call39 rfl ?_
  intro C hC hro
  repeat (first | with_reducible (first | refine run_seq ?_ | refine run_region ?_ | refine runL_nil ?_ | refine run_skip ?_ | refine run_block ?_ | refine run_inBlock ?_) | refine run_exit rfl ?_ | refine runL_q (qt_pev tok rfl) rfl rfl rfl ?_ | refine runL_g rfl rfl (qt_pev tok rfl) rfl rfl rfl rfl rfl ?_ | refine runL_q (ql tok rfl) rfl rfl rfl ?_ | refine runL_g rfl rfl (ql tok rfl) rfl rfl rfl rfl rfl ?_ | (refine runL_op0 (sst tok rfl rfl rfl rfl rfl) ?_; rintro _ _ _ ⟨rfl, rfl, rfl⟩) | (refine runL_op (st_box rfl) rfl rfl rfl ?_; rintro _ _ _ ⟨_, rfl, rfl, rfl⟩) | (refine runL_op (st_alloc tok rfl) rfl rfl rfl ?_; rintro _ _ _ ⟨_, rfl, rfl, rfl⟩) | (refine runL_op (st_buildSlice tok rfl rfl rfl rfl rfl rfl rfl) rfl rfl rfl ?_; rintro _ _ _ ⟨_, rfl, rfl, rfl⟩) | refine runL_q (qt_callF rfl (fun _ => containsU_ok _ _ c.votes h v)) rfl rfl rfl ?_)
  exact run_ret hC (rs := [.tmp 4]) rfl (resT rfl resN) (fun _ h => h.drop) ⟨rfl, rfl, rfl⟩
end Go.Proofs.Ytpmepmdngdkafaa
namespace Go.Proofs.Ytpmepmdngdkafaa
open Go.Chi

/-! ### what a transaction says decides what it may be -/
structure Lens (c : Co) : Prop where
  mem : c.mem.xs.length = c.mem.len
  bodies : c.bodies.xs.length = c.bodies.len
  votes : c.votes.xs.length = c.votes.len
  tags : c.tags.xs.length = c.tags.len
  acks : c.acks.xs.length = c.acks.len
theorem CoOk.lens {M : Mem} {c : Co} (h : CoOk M c) : Lens c := ⟨h.mem.len, h.bodies.len, U8Ok.len h.votes, h.tags.len, BlOk.len h.acks⟩
def Ca.co (a : Ca) : Co := ⟨a.txn, a.auditor, ⟨none, a.mem.length, 0, a.mem⟩, ⟨none, a.bodies.length, 0, a.bodies⟩, ⟨none, a.votes.length, 0, a.votes⟩, ⟨none, a.tags.length, 0, a.tags⟩, ⟨none, a.acks.length, 0, a.acks⟩, a.state, a.since, a.sent⟩
def mayA (a : Ca) : Bool := coOk a.co
theorem coOk_ab {c : Co} (h : Lens c) : coOk c = mayA c.ab := by
  obtain ⟨h1, h2, h3, h4, h5⟩ := h
  obtain ⟨t, au, ⟨ma, ml, mc, mx⟩, ⟨ba, bl, bc, bx⟩, ⟨va, vl, vc, vx⟩, ⟨ta, tl, tc, tx⟩, ⟨aa, al, ac, ax⟩, st, si, se⟩ := c
  simp only at h1 h2 h3 h4 h5
  subst h1 h2 h3 h4 h5
  rfl
theorem coE_ab {c : Co} (h : Lens c) : coE c = if mayA c.ab = true then 0 else 2 := by rw [coE, coOk_ab h]
def caZ : Ca := coZ.ab
theorem coZ_ok (M : Mem) : CoOk M coZ := ⟨MbOk.nil M, StOk.nil M, ⟨SlM.nil _ _ _, by decide⟩, StOk.nil M, ⟨SlM.nil _ _ _, by decide⟩, (fun m h => by cases h), (fun m h => by cases h), (fun m h => by cases h)⟩
/-- what a function that yields a transaction, and an error, answers -/
def CoK (M : Mem) (L : HL) (r : Ca × Int) : Value → Mem → HL → Prop := fun v M' L' => M.le M' ∧ L = L' ∧ ∃ c', v = coR c' r.2 ∧ c'.ab = r.1 ∧ CoOk M' c'
theorem CoK.none (M : Mem) (L : HL) (e : Int) {M' : Mem} (h : M.le M') : CoK M L (caZ, e) (coR coZ e) M' L := ⟨h, rfl, coZ, rfl, rfl, coZ_ok _⟩
def madeA (a : Ca) : Ca × Int := if mayA a = true then (a, 0) else (caZ, 2)
theorem made_frz (M : Mem) (L : HL) (c : Co) (h : CoOk M c) : Tr Try.prog 34 [.agg ⟨coC c⟩] M L (CoK M L (madeA c.ab)) :=
  Tr.frz (made_ok M L c h) fun v M' L' w hw hk => by
    have hE := coE_ab h.lens
    rcases hk with ⟨h1, rfl, rfl, rfl⟩ | ⟨h1, hM, c', Nv, Nt, Na, rfl, hab, rfl, hmk⟩
    · have : ¬ mayA c.ab = true := fun e => by rw [h1, if_pos e] at hE; cases hE
      rw [madeA, if_neg this]
      exact ⟨M, L, hw, CoK.none _ _ _ (Mem.le_refl _)⟩
    · have : mayA c.ab = true := Classical.byContradiction fun e => by rw [h1, if_neg e] at hE; cases hE
      obtain ⟨M2, h2, h3, h4⟩ := hmk.frz hw
      rw [madeA, if_pos this]
      exact ⟨M2, L, h3, Mem.le_trans hM h2, rfl, c', rfl, hab, h4⟩

/-! ### a mark, and a decision -/
def markA (a : Ca) (now : Int) : Ca × Int := if mayA a = true ∧ 0 ≤ now then ({ a with sent := now }, 0) else (caZ, 2)
set_option maxRecDepth 10000 in
set_option maxHeartbeats 4000000 in
theorem mark_ok (M : Mem) (L : HL) (c : Co) (h : CoOk M c) (now : Int) : Tr Try.prog 15 [.agg ⟨coC c⟩, .int .i64 now] M L (CoK M L (markA c.ab now)) := by
  refine Tr.intro 22 Try.func15 rfl rfl Try.call15 rfl ?_
  intro C hC hro
  repeat (first | with_reducible (first | refine run_seq ?_ | refine run_region ?_ | refine runL_nil ?_ | refine run_skip ?_ | refine run_block ?_ | refine run_inBlock ?_) | refine run_exit rfl ?_ | refine runL_q (qt_pev tok rfl) rfl rfl rfl ?_ | refine runL_g rfl rfl (qt_pev tok rfl) rfl rfl rfl rfl rfl ?_ | refine runL_q (ql tok rfl) rfl rfl rfl ?_ | refine runL_g rfl rfl (ql tok rfl) rfl rfl rfl rfl rfl ?_ | (refine runL_op0 (sst tok rfl rfl rfl rfl rfl) ?_; rintro _ _ _ ⟨rfl, rfl, rfl⟩) | (refine runL_op (st_box rfl) rfl rfl rfl ?_; rintro _ _ _ ⟨_, rfl, rfl, rfl⟩) | (refine runL_op (st_alloc tok rfl) rfl rfl rfl ?_; rintro _ _ _ ⟨_, rfl, rfl, rfl⟩) | (refine runL_op (st_buildSlice tok rfl rfl rfl rfl rfl rfl rfl) rfl rfl rfl ?_; rintro _ _ _ ⟨_, rfl, rfl, rfl⟩))
  refine runL_op (st_callF rfl (fun _ => made_frz _ _ c h)) rfl rfl rfl ?_
  rintro _ M1 _ ⟨hM1, rfl, c', rfl, hab, hok⟩
  by_cases hm : mayA c.ab = true
  · rw [madeA, if_pos hm] at hab ⊢
    replace hab : c'.ab = c.ab := hab
    repeat (first | with_reducible (first | refine run_seq ?_ | refine run_region ?_ | refine runL_nil ?_ | refine run_skip ?_ | refine run_block ?_ | refine run_inBlock ?_) | refine run_exit rfl ?_ | refine runL_q (qt_pev tok rfl) rfl rfl rfl ?_ | refine runL_g rfl rfl (qt_pev tok rfl) rfl rfl rfl rfl rfl ?_ | refine runL_q (ql tok rfl) rfl rfl rfl ?_ | refine runL_g rfl rfl (ql tok rfl) rfl rfl rfl rfl rfl ?_ | (refine runL_op0 (sst tok rfl rfl rfl rfl rfl) ?_; rintro _ _ _ ⟨rfl, rfl, rfl⟩) | (refine runL_op (st_box rfl) rfl rfl rfl ?_; rintro _ _ _ ⟨_, rfl, rfl, rfl⟩) | (refine runL_op (st_alloc tok rfl) rfl rfl rfl ?_; rintro _ _ _ ⟨_, rfl, rfl, rfl⟩) | (refine runL_op (st_buildSlice tok rfl rfl rfl rfl rfl rfl rfl) rfl rfl rfl ?_; rintro _ _ _ ⟨_, rfl, rfl, rfl⟩))
    refine run_cond rfl (fun h1 => ?_) (fun h1 => ?_)
    · have h2 : ¬ 0 ≤ now := by
        have : decide (now < 0) = true := h1
        simpa using this
      rw [markA, if_neg (fun e => h2 e.2)] at hC
      repeat (first | with_reducible (first | refine run_seq ?_ | refine run_region ?_ | refine runL_nil ?_ | refine run_skip ?_ | refine run_block ?_ | refine run_inBlock ?_) | refine run_exit rfl ?_ | refine runL_q (qt_pev tok rfl) rfl rfl rfl ?_ | refine runL_g rfl rfl (qt_pev tok rfl) rfl rfl rfl rfl rfl ?_ | refine runL_q (ql tok rfl) rfl rfl rfl ?_ | refine runL_g rfl rfl (ql tok rfl) rfl rfl rfl rfl rfl ?_ | (refine runL_op0 (sst tok rfl rfl rfl rfl rfl) ?_; rintro _ _ _ ⟨rfl, rfl, rfl⟩) | (refine runL_op (st_box rfl) rfl rfl rfl ?_; rintro _ _ _ ⟨_, rfl, rfl, rfl⟩) | (refine runL_op (st_alloc tok rfl) rfl rfl rfl ?_; rintro _ _ _ ⟨_, rfl, rfl, rfl⟩) | (refine runL_op (st_buildSlice tok rfl rfl rfl rfl rfl rfl rfl) rfl rfl rfl ?_; rintro _ _ _ ⟨_, rfl, rfl, rfl⟩))
      exact run_ret hC (rs := [.cell 4 29, .tmp 5]) rfl (rl tok rfl (resT rfl resN)) (fun _ h => h.drop.drop) (CoK.none _ _ _ hM1)
    · have h2 : 0 ≤ now := by
        have : decide (now < 0) = false := h1
        simpa using this
      rw [markA, if_pos ⟨hm, h2⟩] at hC
      repeat (first | with_reducible (first | refine run_seq ?_ | refine run_region ?_ | refine runL_nil ?_ | refine run_skip ?_ | refine run_block ?_ | refine run_inBlock ?_) | refine run_exit rfl ?_ | refine runL_q (qt_pev tok rfl) rfl rfl rfl ?_ | refine runL_g rfl rfl (qt_pev tok rfl) rfl rfl rfl rfl rfl ?_ | refine runL_q (ql tok rfl) rfl rfl rfl ?_ | refine runL_g rfl rfl (ql tok rfl) rfl rfl rfl rfl rfl ?_ | (refine runL_op0 (sst tok rfl rfl rfl rfl rfl) ?_; rintro _ _ _ ⟨rfl, rfl, rfl⟩) | (refine runL_op (st_box rfl) rfl rfl rfl ?_; rintro _ _ _ ⟨_, rfl, rfl, rfl⟩) | (refine runL_op (st_alloc tok rfl) rfl rfl rfl ?_; rintro _ _ _ ⟨_, rfl, rfl, rfl⟩) | (refine runL_op (st_buildSlice tok rfl rfl rfl rfl rfl rfl rfl) rfl rfl rfl ?_; rintro _ _ _ ⟨_, rfl, rfl, rfl⟩))
      exact run_ret hC (rs := [.cell 4 29, .tmp 5]) rfl (rl tok rfl (resT rfl resN)) (fun _ h => h.drop.drop) ⟨hM1, rfl, { c' with sent := now }, rfl, by rw [← hab]; rfl, ⟨hok.mem, hok.bodies, hok.votes, hok.tags, hok.acks, hok.dig, hok.bod, hok.tag⟩⟩
  · rw [madeA, if_neg hm] at hab ⊢
    rw [markA, if_neg (fun e => hm e.1)] at hC
    repeat (first | with_reducible (first | refine run_seq ?_ | refine run_region ?_ | refine runL_nil ?_ | refine run_skip ?_ | refine run_block ?_ | refine run_inBlock ?_) | refine run_exit rfl ?_ | refine runL_q (qt_pev tok rfl) rfl rfl rfl ?_ | refine runL_g rfl rfl (qt_pev tok rfl) rfl rfl rfl rfl rfl ?_ | refine runL_q (ql tok rfl) rfl rfl rfl ?_ | refine runL_g rfl rfl (ql tok rfl) rfl rfl rfl rfl rfl ?_ | (refine runL_op0 (sst tok rfl rfl rfl rfl rfl) ?_; rintro _ _ _ ⟨rfl, rfl, rfl⟩) | (refine runL_op (st_box rfl) rfl rfl rfl ?_; rintro _ _ _ ⟨_, rfl, rfl, rfl⟩) | (refine runL_op (st_alloc tok rfl) rfl rfl rfl ?_; rintro _ _ _ ⟨_, rfl, rfl, rfl⟩) | (refine runL_op (st_buildSlice tok rfl rfl rfl rfl rfl rfl rfl) rfl rfl rfl ?_; rintro _ _ _ ⟨_, rfl, rfl, rfl⟩))
    refine run_cond rfl (fun h1 => ?_) (fun h1 => by simp at h1)
    repeat (first | with_reducible (first | refine run_seq ?_ | refine run_region ?_ | refine runL_nil ?_ | refine run_skip ?_ | refine run_block ?_ | refine run_inBlock ?_) | refine run_exit rfl ?_ | refine runL_q (qt_pev tok rfl) rfl rfl rfl ?_ | refine runL_g rfl rfl (qt_pev tok rfl) rfl rfl rfl rfl rfl ?_ | refine runL_q (ql tok rfl) rfl rfl rfl ?_ | refine runL_g rfl rfl (ql tok rfl) rfl rfl rfl rfl rfl ?_ | (refine runL_op0 (sst tok rfl rfl rfl rfl rfl) ?_; rintro _ _ _ ⟨rfl, rfl, rfl⟩) | (refine runL_op (st_box rfl) rfl rfl rfl ?_; rintro _ _ _ ⟨_, rfl, rfl, rfl⟩) | (refine runL_op (st_alloc tok rfl) rfl rfl rfl ?_; rintro _ _ _ ⟨_, rfl, rfl, rfl⟩) | (refine runL_op (st_buildSlice tok rfl rfl rfl rfl rfl rfl rfl) rfl rfl rfl ?_; rintro _ _ _ ⟨_, rfl, rfl, rfl⟩))
    exact run_ret hC (rs := [.cell 4 29, .tmp 5]) rfl (rl tok rfl (resT rfl resN)) (fun _ h => h.drop.drop) (CoK.none _ _ _ hM1)
def allYes (a : Ca) : Bool := !(hasR a.votes 2 || hasR a.votes 0)
def decideA (a : Ca) (commit : Bool) : Ca × Int :=
  if mayA a = true then if (a.state != 1) = true ∨ (commit = true ∧ allYes a = false) then (caZ, 8) else ({ a with state := if commit = true then 2 else 3, sent := -1 }, 0) else (caZ, 2)
set_option maxRecDepth 10000 in
set_option maxHeartbeats 8000000 in
theorem decide_ok (M : Mem) (L : HL) (c : Co) (h : CoOk M c) (commit : Bool) : Tr Try.prog 11 [.agg ⟨coC c⟩, .bool commit] M L (CoK M L (decideA c.ab commit)) := by
  refine Tr.intro 36 Try.func11 rfl rfl Try.call11 rfl ?_
  intro C hC hro
  repeat (first | with_reducible (first | refine run_seq ?_ | refine run_region ?_ | refine runL_nil ?_ | refine run_skip ?_ | refine run_block ?_ | refine run_inBlock ?_) | refine run_exit rfl ?_ | refine runL_q (qt_pev tok rfl) rfl rfl rfl ?_ | refine runL_g rfl rfl (qt_pev tok rfl) rfl rfl rfl rfl rfl ?_ | refine runL_q (ql tok rfl) rfl rfl rfl ?_ | refine runL_g rfl rfl (ql tok rfl) rfl rfl rfl rfl rfl ?_ | (refine runL_op0 (sst tok rfl rfl rfl rfl rfl) ?_; rintro _ _ _ ⟨rfl, rfl, rfl⟩) | (refine runL_op (st_box rfl) rfl rfl rfl ?_; rintro _ _ _ ⟨_, rfl, rfl, rfl⟩) | (refine runL_op (st_alloc tok rfl) rfl rfl rfl ?_; rintro _ _ _ ⟨_, rfl, rfl, rfl⟩) | (refine runL_op (st_buildSlice tok rfl rfl rfl rfl rfl rfl rfl) rfl rfl rfl ?_; rintro _ _ _ ⟨_, rfl, rfl, rfl⟩))
  refine runL_op (st_callF rfl (fun _ => made_frz _ _ c h)) rfl rfl rfl ?_
  rintro _ M1 _ ⟨hM1, rfl, c', rfl, hab, hok⟩
  by_cases hm : mayA c.ab = true
  · rw [madeA, if_pos hm] at hab ⊢
    replace hab : c'.ab = c.ab := hab
    rw [decideA, if_pos hm, ← hab] at hC
    repeat (first | with_reducible (first | refine run_seq ?_ | refine run_region ?_ | refine runL_nil ?_ | refine run_skip ?_ | refine run_block ?_ | refine run_inBlock ?_) | refine run_exit rfl ?_ | refine runL_q (qt_pev tok rfl) rfl rfl rfl ?_ | refine runL_g rfl rfl (qt_pev tok rfl) rfl rfl rfl rfl rfl ?_ | refine runL_q (ql tok rfl) rfl rfl rfl ?_ | refine runL_g rfl rfl (ql tok rfl) rfl rfl rfl rfl rfl ?_ | (refine runL_op0 (sst tok rfl rfl rfl rfl rfl) ?_; rintro _ _ _ ⟨rfl, rfl, rfl⟩) | (refine runL_op (st_box rfl) rfl rfl rfl ?_; rintro _ _ _ ⟨_, rfl, rfl, rfl⟩) | (refine runL_op (st_alloc tok rfl) rfl rfl rfl ?_; rintro _ _ _ ⟨_, rfl, rfl, rfl⟩) | (refine runL_op (st_buildSlice tok rfl rfl rfl rfl rfl rfl rfl) rfl rfl rfl ?_; rintro _ _ _ ⟨_, rfl, rfl, rfl⟩))
    refine run_cond rfl (fun h1 => by cases h1) (fun _ => ?_)
    repeat (first | with_reducible (first | refine run_seq ?_ | refine run_region ?_ | refine runL_nil ?_ | refine run_skip ?_ | refine run_block ?_ | refine run_inBlock ?_) | refine run_exit rfl ?_ | refine runL_q (qt_pev tok rfl) rfl rfl rfl ?_ | refine runL_g rfl rfl (qt_pev tok rfl) rfl rfl rfl rfl rfl ?_ | refine runL_q (ql tok rfl) rfl rfl rfl ?_ | refine runL_g rfl rfl (ql tok rfl) rfl rfl rfl rfl rfl ?_ | (refine runL_op0 (sst tok rfl rfl rfl rfl rfl) ?_; rintro _ _ _ ⟨rfl, rfl, rfl⟩) | (refine runL_op (st_box rfl) rfl rfl rfl ?_; rintro _ _ _ ⟨_, rfl, rfl, rfl⟩) | (refine runL_op (st_alloc tok rfl) rfl rfl rfl ?_; rintro _ _ _ ⟨_, rfl, rfl, rfl⟩) | (refine runL_op (st_buildSlice tok rfl rfl rfl rfl rfl rfl rfl) rfl rfl rfl ?_; rintro _ _ _ ⟨_, rfl, rfl, rfl⟩))
    refine run_cond rfl (fun h1 => ?_) (fun h1 => ?_)
    · rw [if_pos (.inl h1)] at hC
      repeat (first | with_reducible (first | refine run_seq ?_ | refine run_region ?_ | refine runL_nil ?_ | refine run_skip ?_ | refine run_block ?_ | refine run_inBlock ?_) | refine run_exit rfl ?_ | refine runL_q (qt_pev tok rfl) rfl rfl rfl ?_ | refine runL_g rfl rfl (qt_pev tok rfl) rfl rfl rfl rfl rfl ?_ | refine runL_q (ql tok rfl) rfl rfl rfl ?_ | refine runL_g rfl rfl (ql tok rfl) rfl rfl rfl rfl rfl ?_ | (refine runL_op0 (sst tok rfl rfl rfl rfl rfl) ?_; rintro _ _ _ ⟨rfl, rfl, rfl⟩) | (refine runL_op (st_box rfl) rfl rfl rfl ?_; rintro _ _ _ ⟨_, rfl, rfl, rfl⟩) | (refine runL_op (st_alloc tok rfl) rfl rfl rfl ?_; rintro _ _ _ ⟨_, rfl, rfl, rfl⟩) | (refine runL_op (st_buildSlice tok rfl rfl rfl rfl rfl rfl rfl) rfl rfl rfl ?_; rintro _ _ _ ⟨_, rfl, rfl, rfl⟩))
      refine run_cond rfl (fun _ => ?_) (fun h => Bool.noConfusion (h.symm.trans h1))
      repeat (first | with_reducible (first | refine run_seq ?_ | refine run_region ?_ | refine runL_nil ?_ | refine run_skip ?_ | refine run_block ?_ | refine run_inBlock ?_) | refine run_exit rfl ?_ | refine runL_q (qt_pev tok rfl) rfl rfl rfl ?_ | refine runL_g rfl rfl (qt_pev tok rfl) rfl rfl rfl rfl rfl ?_ | refine runL_q (ql tok rfl) rfl rfl rfl ?_ | refine runL_g rfl rfl (ql tok rfl) rfl rfl rfl rfl rfl ?_ | (refine runL_op0 (sst tok rfl rfl rfl rfl rfl) ?_; rintro _ _ _ ⟨rfl, rfl, rfl⟩) | (refine runL_op (st_box rfl) rfl rfl rfl ?_; rintro _ _ _ ⟨_, rfl, rfl, rfl⟩) | (refine runL_op (st_alloc tok rfl) rfl rfl rfl ?_; rintro _ _ _ ⟨_, rfl, rfl, rfl⟩) | (refine runL_op (st_buildSlice tok rfl rfl rfl rfl rfl rfl rfl) rfl rfl rfl ?_; rintro _ _ _ ⟨_, rfl, rfl, rfl⟩))
      exact run_ret hC (rs := [.cell 4 29, .tmp 5]) rfl (rl tok rfl (resT rfl resN)) (fun _ h => h.drop.drop) (CoK.none _ _ _ hM1)
    · repeat (first | with_reducible (first | refine run_seq ?_ | refine run_region ?_ | refine runL_nil ?_ | refine run_skip ?_ | refine run_block ?_ | refine run_inBlock ?_) | refine run_exit rfl ?_ | refine runL_q (qt_pev tok rfl) rfl rfl rfl ?_ | refine runL_g rfl rfl (qt_pev tok rfl) rfl rfl rfl rfl rfl ?_ | refine runL_q (ql tok rfl) rfl rfl rfl ?_ | refine runL_g rfl rfl (ql tok rfl) rfl rfl rfl rfl rfl ?_ | (refine runL_op0 (sst tok rfl rfl rfl rfl rfl) ?_; rintro _ _ _ ⟨rfl, rfl, rfl⟩) | (refine runL_op (st_box rfl) rfl rfl rfl ?_; rintro _ _ _ ⟨_, rfl, rfl, rfl⟩) | (refine runL_op (st_alloc tok rfl) rfl rfl rfl ?_; rintro _ _ _ ⟨_, rfl, rfl, rfl⟩) | (refine runL_op (st_buildSlice tok rfl rfl rfl rfl rfl rfl rfl) rfl rfl rfl ?_; rintro _ _ _ ⟨_, rfl, rfl, rfl⟩) | refine runL_g rfl rfl (qt_callF rfl (fun _ => has_ok _ _ c' hok.votes _)) rfl rfl rfl rfl rfl ?_)
      refine run_cond rfl (fun h2 => ?_) (fun h2 => ?_)
      · have h3 : commit = true ∧ allYes c'.ab = false := by
          have : (commit && (hasR c'.votes.xs 2 || hasR c'.votes.xs 0)) = true := h2
          rw [Bool.and_eq_true] at this
          exact ⟨this.1, by rw [allYes, show c'.ab.votes = c'.votes.xs from rfl, this.2]; rfl⟩
        rw [if_pos (.inr h3)] at hC
        repeat (first | with_reducible (first | refine run_seq ?_ | refine run_region ?_ | refine runL_nil ?_ | refine run_skip ?_ | refine run_block ?_ | refine run_inBlock ?_) | refine run_exit rfl ?_ | refine runL_q (qt_pev tok rfl) rfl rfl rfl ?_ | refine runL_g rfl rfl (qt_pev tok rfl) rfl rfl rfl rfl rfl ?_ | refine runL_q (ql tok rfl) rfl rfl rfl ?_ | refine runL_g rfl rfl (ql tok rfl) rfl rfl rfl rfl rfl ?_ | (refine runL_op0 (sst tok rfl rfl rfl rfl rfl) ?_; rintro _ _ _ ⟨rfl, rfl, rfl⟩) | (refine runL_op (st_box rfl) rfl rfl rfl ?_; rintro _ _ _ ⟨_, rfl, rfl, rfl⟩) | (refine runL_op (st_alloc tok rfl) rfl rfl rfl ?_; rintro _ _ _ ⟨_, rfl, rfl, rfl⟩) | (refine runL_op (st_buildSlice tok rfl rfl rfl rfl rfl rfl rfl) rfl rfl rfl ?_; rintro _ _ _ ⟨_, rfl, rfl, rfl⟩))
        exact run_ret hC (rs := [.cell 4 29, .tmp 5]) rfl (rl tok rfl (resT rfl resN)) (fun _ h => h.drop.drop) (CoK.none _ _ _ hM1)
      · have h3 : ¬ ((c'.ab.state != 1) = true ∨ (commit = true ∧ allYes c'.ab = false)) := by
          have e1 : (c'.ab.state != 1) = false := h1
          have e2 : (commit && (hasR c'.votes.xs 2 || hasR c'.votes.xs 0)) = false := h2
          rintro (h | ⟨h, h'⟩)
          · rw [e1] at h; cases h
          · rw [h, Bool.true_and] at e2
            rw [allYes, show c'.ab.votes = c'.votes.xs from rfl, e2] at h'
            cases h'
        rw [if_neg h3] at hC
        repeat (first | with_reducible (first | refine run_seq ?_ | refine run_region ?_ | refine runL_nil ?_ | refine run_skip ?_ | refine run_block ?_ | refine run_inBlock ?_) | refine run_exit rfl ?_ | refine runL_q (qt_pev tok rfl) rfl rfl rfl ?_ | refine runL_g rfl rfl (qt_pev tok rfl) rfl rfl rfl rfl rfl ?_ | refine runL_q (ql tok rfl) rfl rfl rfl ?_ | refine runL_g rfl rfl (ql tok rfl) rfl rfl rfl rfl rfl ?_ | (refine runL_op0 (sst tok rfl rfl rfl rfl rfl) ?_; rintro _ _ _ ⟨rfl, rfl, rfl⟩) | (refine runL_op (st_box rfl) rfl rfl rfl ?_; rintro _ _ _ ⟨_, rfl, rfl, rfl⟩) | (refine runL_op (st_alloc tok rfl) rfl rfl rfl ?_; rintro _ _ _ ⟨_, rfl, rfl, rfl⟩) | (refine runL_op (st_buildSlice tok rfl rfl rfl rfl rfl rfl rfl) rfl rfl rfl ?_; rintro _ _ _ ⟨_, rfl, rfl, rfl⟩))
        refine run_cond rfl (fun h4 => ?_) (fun h4 => ?_)
        · rw [if_pos h4] at hC
          repeat (first | with_reducible (first | refine run_seq ?_ | refine run_region ?_ | refine runL_nil ?_ | refine run_skip ?_ | refine run_block ?_ | refine run_inBlock ?_) | refine run_exit rfl ?_ | refine runL_q (qt_pev tok rfl) rfl rfl rfl ?_ | refine runL_g rfl rfl (qt_pev tok rfl) rfl rfl rfl rfl rfl ?_ | refine runL_q (ql tok rfl) rfl rfl rfl ?_ | refine runL_g rfl rfl (ql tok rfl) rfl rfl rfl rfl rfl ?_ | (refine runL_op0 (sst tok rfl rfl rfl rfl rfl) ?_; rintro _ _ _ ⟨rfl, rfl, rfl⟩) | (refine runL_op (st_box rfl) rfl rfl rfl ?_; rintro _ _ _ ⟨_, rfl, rfl, rfl⟩) | (refine runL_op (st_alloc tok rfl) rfl rfl rfl ?_; rintro _ _ _ ⟨_, rfl, rfl, rfl⟩) | (refine runL_op (st_buildSlice tok rfl rfl rfl rfl rfl rfl rfl) rfl rfl rfl ?_; rintro _ _ _ ⟨_, rfl, rfl, rfl⟩))
          exact run_ret hC (rs := [.cell 4 29, .tmp 5]) rfl (rl tok rfl (resT rfl resN)) (fun _ h => h.drop.drop) ⟨hM1, rfl, { c' with state := 2, sent := -1 }, rfl, rfl, ⟨hok.mem, hok.bodies, hok.votes, hok.tags, hok.acks, hok.dig, hok.bod, hok.tag⟩⟩
        · rw [if_neg (by rw [h4]; simp)] at hC
          repeat (first | with_reducible (first | refine run_seq ?_ | refine run_region ?_ | refine runL_nil ?_ | refine run_skip ?_ | refine run_block ?_ | refine run_inBlock ?_) | refine run_exit rfl ?_ | refine runL_q (qt_pev tok rfl) rfl rfl rfl ?_ | refine runL_g rfl rfl (qt_pev tok rfl) rfl rfl rfl rfl rfl ?_ | refine runL_q (ql tok rfl) rfl rfl rfl ?_ | refine runL_g rfl rfl (ql tok rfl) rfl rfl rfl rfl rfl ?_ | (refine runL_op0 (sst tok rfl rfl rfl rfl rfl) ?_; rintro _ _ _ ⟨rfl, rfl, rfl⟩) | (refine runL_op (st_box rfl) rfl rfl rfl ?_; rintro _ _ _ ⟨_, rfl, rfl, rfl⟩) | (refine runL_op (st_alloc tok rfl) rfl rfl rfl ?_; rintro _ _ _ ⟨_, rfl, rfl, rfl⟩) | (refine runL_op (st_buildSlice tok rfl rfl rfl rfl rfl rfl rfl) rfl rfl rfl ?_; rintro _ _ _ ⟨_, rfl, rfl, rfl⟩))
          exact run_ret hC (rs := [.cell 4 29, .tmp 5]) rfl (rl tok rfl (resT rfl resN)) (fun _ h => h.drop.drop) ⟨hM1, rfl, { c' with state := 3, sent := -1 }, rfl, rfl, ⟨hok.mem, hok.bodies, hok.votes, hok.tags, hok.acks, hok.dig, hok.bod, hok.tag⟩⟩
  · rw [madeA, if_neg hm] at hab ⊢
    rw [decideA, if_neg hm] at hC
    repeat (first | with_reducible (first | refine run_seq ?_ | refine run_region ?_ | refine runL_nil ?_ | refine run_skip ?_ | refine run_block ?_ | refine run_inBlock ?_) | refine run_exit rfl ?_ | refine runL_q (qt_pev tok rfl) rfl rfl rfl ?_ | refine runL_g rfl rfl (qt_pev tok rfl) rfl rfl rfl rfl rfl ?_ | refine runL_q (ql tok rfl) rfl rfl rfl ?_ | refine runL_g rfl rfl (ql tok rfl) rfl rfl rfl rfl rfl ?_ | (refine runL_op0 (sst tok rfl rfl rfl rfl rfl) ?_; rintro _ _ _ ⟨rfl, rfl, rfl⟩) | (refine runL_op (st_box rfl) rfl rfl rfl ?_; rintro _ _ _ ⟨_, rfl, rfl, rfl⟩) | (refine runL_op (st_alloc tok rfl) rfl rfl rfl ?_; rintro _ _ _ ⟨_, rfl, rfl, rfl⟩) | (refine runL_op (st_buildSlice tok rfl rfl rfl rfl rfl rfl rfl) rfl rfl rfl ?_; rintro _ _ _ ⟨_, rfl, rfl, rfl⟩))
    refine run_cond rfl (fun h1 => ?_) (fun h1 => by simp at h1)
    repeat (first | with_reducible (first | refine run_seq ?_ | refine run_region ?_ | refine runL_nil ?_ | refine run_skip ?_ | refine run_block ?_ | refine run_inBlock ?_) | refine run_exit rfl ?_ | refine runL_q (qt_pev tok rfl) rfl rfl rfl ?_ | refine runL_g rfl rfl (qt_pev tok rfl) rfl rfl rfl rfl rfl ?_ | refine runL_q (ql tok rfl) rfl rfl rfl ?_ | refine runL_g rfl rfl (ql tok rfl) rfl rfl rfl rfl rfl ?_ | (refine runL_op0 (sst tok rfl rfl rfl rfl rfl) ?_; rintro _ _ _ ⟨rfl, rfl, rfl⟩) | (refine runL_op (st_box rfl) rfl rfl rfl ?_; rintro _ _ _ ⟨_, rfl, rfl, rfl⟩) | (refine runL_op (st_alloc tok rfl) rfl rfl rfl ?_; rintro _ _ _ ⟨_, rfl, rfl, rfl⟩) | (refine runL_op (st_buildSlice tok rfl rfl rfl rfl rfl rfl rfl) rfl rfl rfl ?_; rintro _ _ _ ⟨_, rfl, rfl, rfl⟩))
    exact run_ret hC (rs := [.cell 4 29, .tmp 5]) rfl (rl tok rfl (resT rfl resN)) (fun _ h => h.drop.drop) (CoK.none _ _ _ hM1)
end Go.Proofs.Ytpmepmdngdkafaa
namespace Go.Chi
section
variable {κ : Type} [DecidableEq κ]
/-- a key that is there, or is made there -/
def kvTouch (es : KV κ) (a : κ) (z : Value) (clock : Nat) : KV κ := match es with
  | [] => [(a, z, clock)]
  | x :: es => if a = x.1 then x :: es else x :: kvTouch es a z clock
def kvBorn (es : KV κ) (a : κ) (clock : Nat) : Nat := match es with
  | [] => clock
  | x :: es => if a = x.1 then x.2.2 else kvBorn es a clock
structure KvOk (es : KV κ) (clock : Nat) : Prop where
  nodup : (es.map (·.2.2)).Nodup
  lt : ∀ x ∈ es, x.2.2 < clock
omit [DecidableEq κ] in
theorem KvOk.nil (clock : Nat) : KvOk ([] : KV κ) clock := ⟨by simp, fun x h => by cases h⟩
theorem kvGet_set (a : κ) (v : Value) (clock : Nat) (b : κ) : ∀ es : KV κ, kvGet (kvSet es a v clock) b = if b = a then some v else kvGet es b
  | [] => by simp only [kvSet, kvGet]
  | x :: es => by
    simp only [kvSet]
    split
    · rename_i e
      subst e
      simp only [kvGet]
      split
      · rfl
      · rfl
    · rename_i e
      simp only [kvGet, kvGet_set a v clock b es]
      by_cases e2 : b = x.1
      · rw [if_pos e2, if_pos e2, if_neg (fun h => e (by rw [← h]; exact e2))]
      · rw [if_neg e2, if_neg e2]
theorem kvGet_touch (a : κ) (z : Value) (clock : Nat) : ∀ es : KV κ, (kvGet (kvTouch es a z clock) a).getD z = (kvGet es a).getD z
  | [] => by simp [kvTouch, kvGet]
  | x :: es => by
    simp only [kvTouch]
    split
    · rfl
    · rename_i e
      simp only [kvGet, if_neg e]
      exact kvGet_touch a z clock es
theorem kvBorn_mem (a : κ) (clock : Nat) : ∀ es : KV κ, kvBorn es a clock = clock ∨ kvBorn es a clock ∈ es.map (·.2.2)
  | [] => .inl rfl
  | x :: es => by
    simp only [kvBorn]
    split
    · exact .inr (by simp)
    · rcases kvBorn_mem a clock es with h | h
      · exact .inl h
      · exact .inr (by rw [List.map_cons]; exact List.mem_cons_of_mem _ h)
theorem touch_set {enc : κ → Value} (a : κ) (z v : Value) (clock : Nat) : ∀ es : KV κ, KvOk es clock →
    ∃ i, (ents enc (kvTouch es a z clock)).findIdx? (fun e => (e.born : Int) == ((kvBorn es a clock : Nat) : Int)) = some i ∧ (ents enc (kvTouch es a z clock)).modify i (fun e => { e with val := v }) = ents enc (kvSet es a v clock)
  | [], _ => ⟨0, by simp [kvTouch, kvBorn, ents, List.findIdx?_cons], by simp [kvTouch, kvSet, ents]⟩
  | x :: es, h => by
    by_cases e : a = x.1
    · refine ⟨0, ?_, ?_⟩
      · simp only [kvTouch, kvBorn, if_pos e, ents, List.map_cons]
        simp [List.findIdx?_cons]
      · simp only [kvTouch, kvSet, if_pos e, ents, List.map_cons]
        simp
    · obtain ⟨i, h1, h2⟩ := touch_set (enc := enc) a z v clock es ⟨(List.nodup_cons.1 (by rw [← List.map_cons]; exact h.nodup)).2, fun y hy => h.lt y (List.mem_cons_of_mem _ hy)⟩
      have hne : x.2.2 ≠ kvBorn es a clock := by
        rcases kvBorn_mem a clock es with hb | hb
        · have := h.lt x List.mem_cons_self; omega
        · intro he
          rw [← he] at hb
          have hnd := h.nodup
          rw [List.map_cons] at hnd
          exact (List.nodup_cons.1 hnd).1 hb
      refine ⟨i + 1, ?_, ?_⟩
      · simp only [kvTouch, kvBorn, if_neg e, ents, List.map_cons]
        rw [List.findIdx?_cons]
        have hf : (((x.2.2 : Nat) : Int) == ((kvBorn es a clock : Nat) : Int)) = false := by
          rw [beq_eq_false_iff_ne]; omega
        simp only [hf]
        simp only [ents] at h1
        rw [h1]; rfl
      · simp only [kvTouch, kvSet, if_neg e, ents, List.map_cons]
        simp only [ents] at h2
        simp [h2]
theorem kvSet_births (a : κ) (v : Value) (clock : Nat) : ∀ es : KV κ, (kvSet es a v clock).map (·.2.2) = if (kvGet es a).isSome then es.map (·.2.2) else es.map (·.2.2) ++ [clock]
  | [] => by simp [kvSet, kvGet]
  | x :: es => by
    simp only [kvSet, kvGet]
    split
    · simp
    · rw [List.map_cons, kvSet_births a v clock es]
      split <;> simp
theorem KvOk.set {es : KV κ} {clock : Nat} (h : KvOk es clock) (a : κ) (v : Value) : KvOk (kvSet es a v clock) (if (kvGet es a).isSome then clock else clock + 1) := by
  have hb := kvSet_births a v clock es
  constructor
  · rw [hb]
    split
    · exact h.nodup
    · rw [List.nodup_append]
      refine ⟨h.nodup, by simp, fun x hx y hy e => ?_⟩
      obtain ⟨z, hz, rfl⟩ := List.mem_map.1 hx
      have := h.lt z hz
      simp at hy
      omega
  · intro x hx
    have hm : x.2.2 ∈ (kvSet es a v clock).map (·.2.2) := List.mem_map_of_mem (f := fun x : κ × Value × Nat => x.2.2) hx
    rw [hb] at hm
    split at hm
    · rename_i hs
      rw [if_pos hs]
      obtain ⟨z, hz, e⟩ := List.mem_map.1 hm
      have := h.lt z hz
      omega
    · rename_i hs
      rw [if_neg hs]
      rcases List.mem_append.1 hm with hm | hm
      · obtain ⟨z, hz, e⟩ := List.mem_map.1 hm
        have := h.lt z hz
        omega
      · simp at hm; omega
theorem touch_of (a : κ) (z : Value) (clock : Nat) : ∀ es : KV κ, kvTouch es a z clock = if (kvGet es a).isSome then es else es ++ [(a, z, clock)]
  | [] => by simp [kvTouch, kvGet]
  | x :: es => by
    simp only [kvTouch, kvGet]
    split
    · simp
    · rw [touch_of a z clock es]
      split <;> simp
theorem born_of (a : κ) (clock : Nat) : ∀ (es : KV κ) (i : Nat),
    (∀ j u, fnd a es i = some (j, u) → i ≤ j ∧ ∃ x, es[j - i]? = some x ∧ x.1 = a ∧ x.2.1 = u ∧ x.2.2 = kvBorn es a clock) ∧ (fnd a es i = none → kvBorn es a clock = clock)
  | [], i => ⟨fun j u h => by simp [fnd] at h, fun _ => rfl⟩
  | x :: es, i => by
    obtain ⟨ih1, ih2⟩ := born_of a clock es (i + 1)
    constructor
    · intro j u h
      simp only [fnd] at h
      split at h
      · rename_i e
        cases h
        exact ⟨Nat.le_refl _, x, by simp, e.symm, rfl, by simp [kvBorn, e]⟩
      · rename_i e
        obtain ⟨h1, y, h2, h3⟩ := ih1 j u h
        refine ⟨by omega, y, ?_, by simpa only [kvBorn, if_neg e] using h3⟩
        rw [show j - i = (j - (i + 1)) + 1 from by omega]; simpa using h2
    · intro h
      simp only [fnd] at h
      split at h
      · cases h
      · rename_i e
        simp only [kvBorn, if_neg e, ih2 h]
variable {P : Program} {kt : TypeId} {enc : κ → Value} {T : TT} {ro : Option Nat} {σ : Env} {δ : Den} {cur : Path} {M : Mem} {L : HL} {d : Option Nat} {op : Op} {ty : TypeId} {pos : String} {aft : Array Edge} {g : Option (Nat × Bool)} {v : Value}
theorem st_mapEntry (hT : TOk P T) (hk : KeyLaw P kt enc) {t : TypeId} {x y : Operand} {b : Nat} {et : TypeId} {kv z : Value} {a : κ} {es : KV κ} {clock : Nat} {L' : HL}
    (hu : und T t = some (.map kt et)) (hx : ev σ δ cur x = some (.map (some b))) (hy : ev σ δ cur y = some kv) (he : kv = enc a) (hz : zeroT T et = some z)
    (hL : Upd L b (.map ⟨ents enc es⟩ clock) (.map ⟨ents enc (kvTouch es a z clock)⟩ (if (kvGet es a).isSome then clock else clock + 1)) L') :
    St P ro ⟨d, .mapEntry t x y, ty, pos, aft, g⟩ σ δ cur M L (fun v' M' L'' => v' = .tuple ⟨[(kvGet es a).getD z, .int .i64 ((kvBorn es a clock : Nat) : Int)]⟩ ∧ M = M' ∧ L'' = L') := fun act w hs hcur hp => by
  have hb' := hp.own _ hL.mem
  subst he
  refine opWp_value (v := .tuple ⟨[(kvGet es a).getD z, .int .i64 ((kvBorn es a clock : Nat) : Int)]⟩) (w' := w.putObj b (.map ⟨ents enc (kvTouch es a z clock)⟩ (if (kvGet es a).isSome then clock else clock + 1))) ?_ ⟨M, L', hp.putObj hL, rfl, rfl, rfl⟩
  rw [semAt_of (by intro c e; cases e)]
  have hget : (getObj b).run P w = .ok (.map ⟨ents enc es⟩ clock) w := by simp [getObj, Sem.run, hb']
  have hset : ∀ o, (setObj b o).run P w = .ok () (w.putObj b o) := fun o => by simp [setObj, Sem.run, hb', World.putObj]
  have hzv : (zeroValue et).run P w = .ok z w := run_zeroT hT hz w
  simp only [execOp, Instr.mapEntry, ev_sound hs hcur hx, ev_sound hs hcur hy, Sem.run_bind, run_und hT hu, Result.andThen_ok, hget, hk.chk, findKey_ok hk]
  have hg := fnd_get a es 0
  obtain ⟨h1, h2⟩ := born_of a clock es 0
  cases h : fnd a es 0 with
  | none =>
    rw [h] at hg
    simp only [hzv, hset, Result.andThen_ok, Sem.run_pure, Sem.run_bind]
    rw [touch_of, ← hg, h2 h]
    simp [ents, goInt]
  | some r =>
    obtain ⟨j, u⟩ := r
    obtain ⟨_, y, h3, h4, h5, h6⟩ := h1 j u h
    simp only [Nat.sub_zero] at h3
    rw [h] at hg
    have hkey : (((⟨ents enc es⟩ : Array MapEntry)[j]?).map (·.key)).getD (enc a) = enc a := by simp [ents, h3, h4]
    have hborn : (((⟨ents enc es⟩ : Array MapEntry)[j]?).map (·.born)).getD 0 = kvBorn es a clock := by simp [ents, h3, h6]
    have hmod : (⟨ents enc es⟩ : Array MapEntry).modify j (fun e => { e with key := enc a }) = ⟨ents enc es⟩ := by
      apply Array.ext'
      simp only [Array.toList_modify, ents]
      apply List.ext_getElem?
      intro n
      simp only [List.getElem?_modify, List.getElem?_map]
      cases hn : es[n]? with
      | none => simp
      | some y' =>
        simp only [Option.map_some]
        by_cases e : j = n
        · subst e; rw [h3] at hn; cases hn; simp [h4]
        · simp [e]
    simp only [hkey, hmod, Sem.run_bind, Instr.keyThatStays, hk.bits, if_true, Sem.run_pure, Result.andThen_ok, hset]
    rw [touch_of, ← hg]
    simp [goInt, ents, h3, h6]
theorem st_entryStore {t : TypeId} {x s q : Operand} {b c1 : Nat} {z : Value} {a : κ} {es : KV κ} {clock : Nat} {L' : HL} (hok : KvOk es clock)
    (hx : ev σ δ cur x = some (.map (some b))) (hs' : ev σ δ cur s = some (.int .i64 ((kvBorn es a clock : Nat) : Int))) (hq : ev σ δ cur q = some v)
    (hL : Upd L b (.map ⟨ents enc (kvTouch es a z clock)⟩ c1) (.map ⟨ents enc (kvSet es a v clock)⟩ c1) L') :
    St P ro ⟨d, .entryStore t x s q, ty, pos, aft, g⟩ σ δ cur M L (fun v' M' L'' => v' = undef ∧ M = M' ∧ L'' = L') := fun act w hs hcur hp => by
  have hb' := hp.own _ hL.mem
  refine opWp_skip (w' := w.putObj b (.map ⟨ents enc (kvSet es a v clock)⟩ c1)) ?_ ⟨M, L', hp.putObj hL, rfl, rfl, rfl⟩
  rw [semAt_of (by intro c e; cases e)]
  have hget : (getObj b).run P w = .ok (.map ⟨ents enc (kvTouch es a z clock)⟩ c1) w := by simp [getObj, Sem.run, hb']
  have hset : ∀ o, (setObj b o).run P w = .ok () (w.putObj b o) := fun o => by simp [setObj, Sem.run, hb', World.putObj]
  obtain ⟨i, h1, h2⟩ := touch_set (enc := enc) a z v clock es hok
  have h1' : (⟨ents enc (kvTouch es a z clock)⟩ : Array MapEntry).findIdx? (fun e => (e.born : Int) == ((kvBorn es a clock : Nat) : Int)) = some i := by
    rw [← h1]; exact List.findIdx?_toArray _ _
  have h2' : (⟨ents enc (kvTouch es a z clock)⟩ : Array MapEntry).modify i (fun e => { e with val := v }) = ⟨ents enc (kvSet es a v clock)⟩ := by
    apply Array.ext'
    simp only [Array.toList_modify]
    exact h2
  simp only [execOp, Instr.entryStore, ev_sound hs hcur hx, ev_sound hs hcur hs', ev_sound hs hcur hq, Sem.run_bind, Result.andThen_ok, hget, asInt, asIntOf, Sem.run_pure, h1', h2', hset]
end
end Go.Chi
namespace Go.Chi
/-- bytes, as a text -/
def bytesI (ns : List Int) : ByteArray := ns.foldl (fun r n => r.push (UInt8.ofNat n.toNat)) ByteArray.empty
section
variable {P : Program} {T : TT} {ro : Option Nat} {σ : Env} {δ : Den} {cur : Path} {M : Mem} {L : HL} {d : Option Nat} {ty : TypeId} {pos : String} {aft : Array Edge} {g : Option (Nat × Bool)} {v : Value}
theorem _root_.Go.Chi.Qt.as {o : Oper} {v' : Value} (h : Qt P ro o σ δ cur M L v) (e : v = v') : Qt P ro o σ δ cur M L v' := e ▸ h
theorem qt_bytesStr (hT : TOk P T) {s t e : TypeId} {x : Operand} {b n c : Nat} (ns : List Int) (hs' : und T s = some (.slice e)) (he : und T e = some (.int .u8)) (hu : und T t = some .string) (hx : ev σ δ cur x = some (.slice (some ⟨b, 0, none⟩) n c)) (hc : Cells M L b 0 (ns.map (Value.int .u8))) (hl : ns.length = n) :
    Qt P ro ⟨d, .convert s t x, ty, pos, aft, g⟩ σ δ cur M L (.string (bytesI ns)) :=
  qt_of_run (semAt_of (by intro c e; cases e)) fun a w hs hcur hp => by
    have h1 := run_loadCells (P := P) hp (ns.map (Value.int .u8)) [] (by simpa using hc)
    have h2 : (loadCells ⟨b, 0, none⟩ n).run P w = .ok (ns.map (Value.int .u8)).toArray w := by
      simp only [List.length_nil, List.nil_append, List.length_map, hl] at h1
      exact h1
    have h3 := run_bytesToString w ⟨b, 0, none⟩ n c ns h2
    have h4 := run_convert_bytes_string (P := P) w s t e (some ⟨b, 0, none⟩) n c (und_ok hT hs') (und_ok hT he) (und_ok hT hu)
    simp only [execOp, ev_sound hs hcur hx, Sem.run_bind, h4, h3, Result.andThen_ok, Sem.run_pure]
    rfl
theorem qt_concat {t u : TypeId} {x y : Operand} {a b : ByteArray} (hx : ev σ δ cur x = some (.string a)) (hy : ev σ δ cur y = some (.string b)) (hsz : a.size + b.size < 4611686018427387904) :
    Qt P ro ⟨d, .binOp .add t x y u, ty, pos, aft, g⟩ σ δ cur M L (.string (a ++ b)) :=
  qt_of_run (semAt_of (by intro c e; cases e)) fun act w hs hcur hp => by
    have hn : ¬ ((a.size + b.size : Nat) : Int) > IntKind.i64.max := by
      have : IntKind.i64.max = 9223372036854775807 := by decide
      omega
    simp only [execOp, eqGuard, binOp, ev_sound hs hcur hx, ev_sound hs hcur hy, Op.stringOp, hn, if_false]
    simp
end
end Go.Chi
namespace Go.Proofs.Ytpmepmdngdkafaa
open Go.Chi

/-! ### an acknowledgement -/
def ackA (a : Ca) (org : Int) : Ca × Int :=
  if mayA a = true then match memR a.mem org with
    | none => (caZ, 3)
    | some k => if (a.state == 1) = true then (caZ, 8) else if (a.acks[k]?).getD false = true then (caZ, 9) else ({ a with acks := a.acks.set k true }, 0)
  else (caZ, 2)
theorem mayA_rows {M : Mem} {c : Co} (h : CoOk M c) (hm : mayA c.ab = true) : Rows c := by
  rw [← coOk_ab h.lens, coOk] at hm
  simp only [Bool.and_eq_true] at hm
  exact rowsR_rows hm.1.1.2
theorem ab_len {c c' : Co} (hab : c'.ab = c.ab) : c'.mem.xs = c.mem.xs ∧ c'.bodies.xs = c.bodies.xs ∧ c'.votes.xs = c.votes.xs ∧ c'.tags.xs = c.tags.xs ∧ c'.acks.xs = c.acks.xs ∧ c'.state = c.state := by
  simp only [Co.ab, Ca.mk.injEq] at hab
  obtain ⟨_, _, h3, h4, h5, h6, h7, h8, _, _⟩ := hab
  exact ⟨h3, h4, h5, h6, h7, h8⟩
set_option maxRecDepth 10000 in
set_option maxHeartbeats 8000000 in
theorem ack_ok (M : Mem) (L : HL) (c : Co) (h : CoOk M c) (org : Int) : Tr Try.prog 13 [.agg ⟨coC c⟩, .int .i64 org] M L (CoK M L (ackA c.ab org)) := by
  have hE := coE_ab h.lens
  refine Tr.intro 45 Try.func13 rfl rfl Try.call13 rfl ?_
  intro C hC hro
  repeat (first | with_reducible (first | refine run_seq ?_ | refine run_region ?_ | refine runL_nil ?_ | refine run_skip ?_ | refine run_block ?_ | refine run_inBlock ?_) | refine run_exit rfl ?_ | refine runL_q (qt_pev tok rfl) rfl rfl rfl ?_ | refine runL_g rfl rfl (qt_pev tok rfl) rfl rfl rfl rfl rfl ?_ | refine runL_q (ql tok rfl) rfl rfl rfl ?_ | refine runL_g rfl rfl (ql tok rfl) rfl rfl rfl rfl rfl ?_ | (refine runL_op0 (sst tok rfl rfl rfl rfl rfl) ?_; rintro _ _ _ ⟨rfl, rfl, rfl⟩) | (refine runL_op (st_box rfl) rfl rfl rfl ?_; rintro _ _ _ ⟨_, rfl, rfl, rfl⟩) | (refine runL_op (st_alloc tok rfl) rfl rfl rfl ?_; rintro _ _ _ ⟨_, rfl, rfl, rfl⟩) | (refine runL_op (st_buildSlice tok rfl rfl rfl rfl rfl rfl rfl) rfl rfl rfl ?_; rintro _ _ _ ⟨_, rfl, rfl, rfl⟩))
  refine runL_op (st_callF rfl (fun _ => made_ok _ _ c h)) rfl rfl rfl ?_
  rintro _ M1 _ hk
  rcases hk with ⟨h1, rfl, rfl, rfl⟩ | ⟨h1, hM1, c', Nv, Nt, Na, rfl, hab, rfl, hmk⟩
  · have hm : ¬ mayA c.ab = true := fun e => by rw [h1, if_pos e] at hE; cases hE
    rw [ackA, if_neg hm] at hC
    repeat (first | with_reducible (first | refine run_seq ?_ | refine run_region ?_ | refine runL_nil ?_ | refine run_skip ?_ | refine run_block ?_ | refine run_inBlock ?_) | refine run_exit rfl ?_ | refine runL_q (qt_pev tok rfl) rfl rfl rfl ?_ | refine runL_g rfl rfl (qt_pev tok rfl) rfl rfl rfl rfl rfl ?_ | refine runL_q (ql tok rfl) rfl rfl rfl ?_ | refine runL_g rfl rfl (ql tok rfl) rfl rfl rfl rfl rfl ?_ | (refine runL_op0 (sst tok rfl rfl rfl rfl rfl) ?_; rintro _ _ _ ⟨rfl, rfl, rfl⟩) | (refine runL_op (st_box rfl) rfl rfl rfl ?_; rintro _ _ _ ⟨_, rfl, rfl, rfl⟩) | (refine runL_op (st_alloc tok rfl) rfl rfl rfl ?_; rintro _ _ _ ⟨_, rfl, rfl, rfl⟩) | (refine runL_op (st_buildSlice tok rfl rfl rfl rfl rfl rfl rfl) rfl rfl rfl ?_; rintro _ _ _ ⟨_, rfl, rfl, rfl⟩))
    refine run_cond rfl (fun _ => ?_) (fun h => by cases h)
    repeat (first | with_reducible (first | refine run_seq ?_ | refine run_region ?_ | refine runL_nil ?_ | refine run_skip ?_ | refine run_block ?_ | refine run_inBlock ?_) | refine run_exit rfl ?_ | refine runL_q (qt_pev tok rfl) rfl rfl rfl ?_ | refine runL_g rfl rfl (qt_pev tok rfl) rfl rfl rfl rfl rfl ?_ | refine runL_q (ql tok rfl) rfl rfl rfl ?_ | refine runL_g rfl rfl (ql tok rfl) rfl rfl rfl rfl rfl ?_ | (refine runL_op0 (sst tok rfl rfl rfl rfl rfl) ?_; rintro _ _ _ ⟨rfl, rfl, rfl⟩) | (refine runL_op (st_box rfl) rfl rfl rfl ?_; rintro _ _ _ ⟨_, rfl, rfl, rfl⟩) | (refine runL_op (st_alloc tok rfl) rfl rfl rfl ?_; rintro _ _ _ ⟨_, rfl, rfl, rfl⟩) | (refine runL_op (st_buildSlice tok rfl rfl rfl rfl rfl rfl rfl) rfl rfl rfl ?_; rintro _ _ _ ⟨_, rfl, rfl, rfl⟩))
    exact run_ret hC (rs := [.cell 4 29, .tmp 5]) rfl (rl tok rfl (resT rfl resN)) (fun _ h => h.drop.drop) (CoK.none _ _ _ (Mem.le_refl _))
  have hm : mayA c.ab = true := Classical.byContradiction fun e => by rw [h1, if_neg e] at hE; cases hE
  have hr := mayA_rows h hm
  obtain ⟨x1, x2, x3, x4, x5, x6⟩ := ab_len hab
  rw [ackA, if_pos hm, ← hab] at hC
  repeat (first | with_reducible (first | refine run_seq ?_ | refine run_region ?_ | refine runL_nil ?_ | refine run_skip ?_ | refine run_block ?_ | refine run_inBlock ?_) | refine run_exit rfl ?_ | refine runL_q (qt_pev tok rfl) rfl rfl rfl ?_ | refine runL_g rfl rfl (qt_pev tok rfl) rfl rfl rfl rfl rfl ?_ | refine runL_q (ql tok rfl) rfl rfl rfl ?_ | refine runL_g rfl rfl (ql tok rfl) rfl rfl rfl rfl rfl ?_ | (refine runL_op0 (sst tok rfl rfl rfl rfl rfl) ?_; rintro _ _ _ ⟨rfl, rfl, rfl⟩) | (refine runL_op (st_box rfl) rfl rfl rfl ?_; rintro _ _ _ ⟨_, rfl, rfl, rfl⟩) | (refine runL_op (st_alloc tok rfl) rfl rfl rfl ?_; rintro _ _ _ ⟨_, rfl, rfl, rfl⟩) | (refine runL_op (st_buildSlice tok rfl rfl rfl rfl rfl rfl rfl) rfl rfl rfl ?_; rintro _ _ _ ⟨_, rfl, rfl, rfl⟩))
  refine run_cond rfl (fun h => by cases h) (fun _ => ?_)
  repeat (first | with_reducible (first | refine run_seq ?_ | refine run_region ?_ | refine runL_nil ?_ | refine run_skip ?_ | refine run_block ?_ | refine run_inBlock ?_) | refine run_exit rfl ?_ | refine runL_q (qt_pev tok rfl) rfl rfl rfl ?_ | refine runL_g rfl rfl (qt_pev tok rfl) rfl rfl rfl rfl rfl ?_ | refine runL_q (ql tok rfl) rfl rfl rfl ?_ | refine runL_g rfl rfl (ql tok rfl) rfl rfl rfl rfl rfl ?_ | (refine runL_op0 (sst tok rfl rfl rfl rfl rfl) ?_; rintro _ _ _ ⟨rfl, rfl, rfl⟩) | (refine runL_op (st_box rfl) rfl rfl rfl ?_; rintro _ _ _ ⟨_, rfl, rfl, rfl⟩) | (refine runL_op (st_alloc tok rfl) rfl rfl rfl ?_; rintro _ _ _ ⟨_, rfl, rfl, rfl⟩) | (refine runL_op (st_buildSlice tok rfl rfl rfl rfl rfl rfl rfl) rfl rfl rfl ?_; rintro _ _ _ ⟨_, rfl, rfl, rfl⟩) | refine runL_q (qt_callF rfl (fun _ => member_ok _ _ c' hmk.mem org)) rfl rfl rfl ?_)
  rw [show c'.ab.mem = c'.mem.xs from rfl] at hC
  cases hk : memR c'.mem.xs org with
  | none =>
    rw [hk] at hC
    repeat (first | with_reducible (first | refine run_seq ?_ | refine run_region ?_ | refine runL_nil ?_ | refine run_skip ?_ | refine run_block ?_ | refine run_inBlock ?_) | refine run_exit rfl ?_ | refine runL_q (qt_pev tok rfl) rfl rfl rfl ?_ | refine runL_g rfl rfl (qt_pev tok rfl) rfl rfl rfl rfl rfl ?_ | refine runL_q (ql tok rfl) rfl rfl rfl ?_ | refine runL_g rfl rfl (ql tok rfl) rfl rfl rfl rfl rfl ?_ | (refine runL_op0 (sst tok rfl rfl rfl rfl rfl) ?_; rintro _ _ _ ⟨rfl, rfl, rfl⟩) | (refine runL_op (st_box rfl) rfl rfl rfl ?_; rintro _ _ _ ⟨_, rfl, rfl, rfl⟩) | (refine runL_op (st_alloc tok rfl) rfl rfl rfl ?_; rintro _ _ _ ⟨_, rfl, rfl, rfl⟩) | (refine runL_op (st_buildSlice tok rfl rfl rfl rfl rfl rfl rfl) rfl rfl rfl ?_; rintro _ _ _ ⟨_, rfl, rfl, rfl⟩))
    refine run_cond rfl (fun _ => ?_) (fun h => by cases h)
    repeat (first | with_reducible (first | refine run_seq ?_ | refine run_region ?_ | refine runL_nil ?_ | refine run_skip ?_ | refine run_block ?_ | refine run_inBlock ?_) | refine run_exit rfl ?_ | refine runL_q (qt_pev tok rfl) rfl rfl rfl ?_ | refine runL_g rfl rfl (qt_pev tok rfl) rfl rfl rfl rfl rfl ?_ | refine runL_q (ql tok rfl) rfl rfl rfl ?_ | refine runL_g rfl rfl (ql tok rfl) rfl rfl rfl rfl rfl ?_ | (refine runL_op0 (sst tok rfl rfl rfl rfl rfl) ?_; rintro _ _ _ ⟨rfl, rfl, rfl⟩) | (refine runL_op (st_box rfl) rfl rfl rfl ?_; rintro _ _ _ ⟨_, rfl, rfl, rfl⟩) | (refine runL_op (st_alloc tok rfl) rfl rfl rfl ?_; rintro _ _ _ ⟨_, rfl, rfl, rfl⟩) | (refine runL_op (st_buildSlice tok rfl rfl rfl rfl rfl rfl rfl) rfl rfl rfl ?_; rintro _ _ _ ⟨_, rfl, rfl, rfl⟩))
    exact run_ret hC (rs := [.cell 4 29, .tmp 5]) rfl (rl tok rfl (resT rfl resN)) (fun _ h => h.dropAll.dropAll.dropAll.drop.drop) (CoK.none _ _ _ hM1)
  | some k =>
    rw [hk] at hC
    have hkl := memR_lt hk
    have hka : k < c'.acks.xs.length := by
      have := hr.acks
      have := h.lens.acks
      have := h.lens.mem
      rw [x5]; rw [x1] at hkl; omega
    obtain ⟨ac, hac⟩ : ∃ y, c'.acks.xs[k]? = some y := ⟨_, List.getElem?_eq_getElem hka⟩
    obtain ⟨b, cap, pre, post, hv, rfl, hpre, hset⟩ := OS.mid (ls := c'.acks.xs.map blC) hmk.acks (blC_all _) (by simpa using hmk.la.1) (k := k) (c := blC ac) (by rw [List.getElem?_map, hac]; rfl)
    have hpre1 : pre.length = k := by omega
    have hal := hmk.la.1
    have hgd : (c'.ab.acks[k]?).getD false = ac := by rw [show c'.ab.acks = c'.acks.xs from rfl, hac]; rfl
    simp only [hgd] at hC
    simp only [List.cons_append, List.nil_append]
    repeat (first | with_reducible (first | refine run_seq ?_ | refine run_region ?_ | refine runL_nil ?_ | refine run_skip ?_ | refine run_block ?_ | refine run_inBlock ?_) | refine run_exit rfl ?_ | refine runL_q (qt_pev tok rfl) rfl rfl rfl ?_ | refine runL_g rfl rfl (qt_pev tok rfl) rfl rfl rfl rfl rfl ?_ | refine runL_q (ql tok rfl) rfl rfl rfl ?_ | refine runL_g rfl rfl (ql tok rfl) rfl rfl rfl rfl rfl ?_ | (refine runL_op0 (sst tok rfl rfl rfl rfl rfl) ?_; rintro _ _ _ ⟨rfl, rfl, rfl⟩) | (refine runL_op (st_box rfl) rfl rfl rfl ?_; rintro _ _ _ ⟨_, rfl, rfl, rfl⟩) | (refine runL_op (st_alloc tok rfl) rfl rfl rfl ?_; rintro _ _ _ ⟨_, rfl, rfl, rfl⟩) | (refine runL_op (st_buildSlice tok rfl rfl rfl rfl rfl rfl rfl) rfl rfl rfl ?_; rintro _ _ _ ⟨_, rfl, rfl, rfl⟩))
    refine run_cond rfl (fun h => by cases h) (fun _ => ?_)
    repeat (first | with_reducible (first | refine run_seq ?_ | refine run_region ?_ | refine runL_nil ?_ | refine run_skip ?_ | refine run_block ?_ | refine run_inBlock ?_) | refine run_exit rfl ?_ | refine runL_q (qt_pev tok rfl) rfl rfl rfl ?_ | refine runL_g rfl rfl (qt_pev tok rfl) rfl rfl rfl rfl rfl ?_ | refine runL_q (ql tok rfl) rfl rfl rfl ?_ | refine runL_g rfl rfl (ql tok rfl) rfl rfl rfl rfl rfl ?_ | (refine runL_op0 (sst tok rfl rfl rfl rfl rfl) ?_; rintro _ _ _ ⟨rfl, rfl, rfl⟩) | (refine runL_op (st_box rfl) rfl rfl rfl ?_; rintro _ _ _ ⟨_, rfl, rfl, rfl⟩) | (refine runL_op (st_alloc tok rfl) rfl rfl rfl ?_; rintro _ _ _ ⟨_, rfl, rfl, rfl⟩) | (refine runL_op (st_buildSlice tok rfl rfl rfl rfl rfl rfl rfl) rfl rfl rfl ?_; rintro _ _ _ ⟨_, rfl, rfl, rfl⟩))
    refine run_cond rfl (fun h2 => ?_) (fun h2 => ?_)
    · rw [if_pos (show (c'.ab.state == 1) = true from h2)] at hC
      repeat (first | with_reducible (first | refine run_seq ?_ | refine run_region ?_ | refine runL_nil ?_ | refine run_skip ?_ | refine run_block ?_ | refine run_inBlock ?_) | refine run_exit rfl ?_ | refine runL_q (qt_pev tok rfl) rfl rfl rfl ?_ | refine runL_g rfl rfl (qt_pev tok rfl) rfl rfl rfl rfl rfl ?_ | refine runL_q (ql tok rfl) rfl rfl rfl ?_ | refine runL_g rfl rfl (ql tok rfl) rfl rfl rfl rfl rfl ?_ | (refine runL_op0 (sst tok rfl rfl rfl rfl rfl) ?_; rintro _ _ _ ⟨rfl, rfl, rfl⟩) | (refine runL_op (st_box rfl) rfl rfl rfl ?_; rintro _ _ _ ⟨_, rfl, rfl, rfl⟩) | (refine runL_op (st_alloc tok rfl) rfl rfl rfl ?_; rintro _ _ _ ⟨_, rfl, rfl, rfl⟩) | (refine runL_op (st_buildSlice tok rfl rfl rfl rfl rfl rfl rfl) rfl rfl rfl ?_; rintro _ _ _ ⟨_, rfl, rfl, rfl⟩))
      exact run_ret hC (rs := [.cell 4 29, .tmp 5]) rfl (rl tok rfl (resT rfl resN)) (fun _ h => Hp.dropAll (N := Nv) (Hp.dropAll (N := Nt) (Hp.drop h)) |>.drop.drop) (CoK.none _ _ _ hM1)
    rw [if_neg (by rw [show (c'.ab.state == 1) = false from h2]; simp)] at hC
    repeat (first | with_reducible (first | refine run_seq ?_ | refine run_region ?_ | refine runL_nil ?_ | refine run_skip ?_ | refine run_block ?_ | refine run_inBlock ?_) | refine run_exit rfl ?_)
    iterate 2 (first | refine runL_q (qt_pev tok rfl) rfl rfl rfl ?_ | refine runL_gK rfl rfl (qt_pev tok rfl) rfl rfl rfl ?_ | refine runL_gF rfl rfl rfl rfl rfl ?_ | refine runL_g rfl rfl (qt_pev tok rfl) rfl rfl rfl rfl rfl ?_ | refine runL_q (ql tok rfl) rfl rfl rfl ?_ | refine runL_gK rfl rfl (ql tok rfl) rfl rfl rfl ?_ | refine runL_gF rfl rfl rfl rfl rfl ?_ | refine runL_g rfl rfl (ql tok rfl) rfl rfl rfl rfl rfl ?_ | (refine runL_op0 (sst tok rfl rfl rfl rfl rfl) ?_; rintro _ _ _ ⟨rfl, rfl, rfl⟩) | (refine runL_op (st_box rfl) rfl rfl rfl ?_; rintro _ _ _ ⟨_, rfl, rfl, rfl⟩) | (refine runL_op (st_alloc tok rfl) rfl rfl rfl ?_; rintro _ _ _ ⟨_, rfl, rfl, rfl⟩) | (refine runL_op (st_buildSlice tok rfl rfl rfl rfl rfl rfl rfl) rfl rfl rfl ?_; rintro _ _ _ ⟨_, rfl, rfl, rfl⟩))
    refine runL_as 35 (.slice (some ⟨b, 0, none⟩) c'.acks.len cap) rfl hv ?_
    repeat (first | with_reducible (first | refine run_seq ?_ | refine run_region ?_ | refine runL_nil ?_ | refine run_skip ?_ | refine run_block ?_ | refine run_inBlock ?_) | refine run_exit rfl ?_ | refine runL_q (qt_pev tok rfl) rfl rfl rfl ?_ | refine runL_g rfl rfl (qt_pev tok rfl) rfl rfl rfl rfl rfl ?_ | refine runL_q (ql tok rfl) rfl rfl rfl ?_ | refine runL_g rfl rfl (ql tok rfl) rfl rfl rfl rfl rfl ?_ | (refine runL_op0 (sst tok rfl rfl rfl rfl rfl) ?_; rintro _ _ _ ⟨rfl, rfl, rfl⟩) | (refine runL_op (st_box rfl) rfl rfl rfl ?_; rintro _ _ _ ⟨_, rfl, rfl, rfl⟩) | (refine runL_op (st_alloc tok rfl) rfl rfl rfl ?_; rintro _ _ _ ⟨_, rfl, rfl, rfl⟩) | (refine runL_op (st_buildSlice tok rfl rfl rfl rfl rfl rfl rfl) rfl rfl rfl ?_; rintro _ _ _ ⟨_, rfl, rfl, rfl⟩) | refine runL_q (qt_indexAs (n := k) (o := pre.length) tok rfl rfl rfl rfl (fun _ => by omega) (by rw [hpre, Nat.zero_add])) rfl rfl rfl ?_ | refine runL_q (qt_ldB0 tok rfl (SegAt.mid _ _ _) (by (repeat (first | with_reducible apply List.mem_cons_self | with_reducible assumption | with_reducible apply List.mem_cons_of_mem | with_reducible apply List.mem_append_right))) rfl) rfl rfl rfl ?_)
    refine run_cond rfl (fun h3 => ?_) (fun h3 => ?_)
    · rw [if_pos h3] at hC
      repeat (first | with_reducible (first | refine run_seq ?_ | refine run_region ?_ | refine runL_nil ?_ | refine run_skip ?_ | refine run_block ?_ | refine run_inBlock ?_) | refine run_exit rfl ?_ | refine runL_q (qt_pev tok rfl) rfl rfl rfl ?_ | refine runL_g rfl rfl (qt_pev tok rfl) rfl rfl rfl rfl rfl ?_ | refine runL_q (ql tok rfl) rfl rfl rfl ?_ | refine runL_g rfl rfl (ql tok rfl) rfl rfl rfl rfl rfl ?_ | (refine runL_op0 (sst tok rfl rfl rfl rfl rfl) ?_; rintro _ _ _ ⟨rfl, rfl, rfl⟩) | (refine runL_op (st_box rfl) rfl rfl rfl ?_; rintro _ _ _ ⟨_, rfl, rfl, rfl⟩) | (refine runL_op (st_alloc tok rfl) rfl rfl rfl ?_; rintro _ _ _ ⟨_, rfl, rfl, rfl⟩) | (refine runL_op (st_buildSlice tok rfl rfl rfl rfl rfl rfl rfl) rfl rfl rfl ?_; rintro _ _ _ ⟨_, rfl, rfl, rfl⟩))
      exact run_ret hC (rs := [.cell 4 29, .tmp 5]) rfl (rl tok rfl (resT rfl resN)) (fun _ h => Hp.dropAll (N := Nv) (Hp.dropAll (N := Nt) (Hp.drop h)) |>.drop.drop) (CoK.none _ _ _ hM1)
    rw [if_neg (by rw [h3]; simp)] at hC
    repeat (first | with_reducible (first | refine run_seq ?_ | refine run_region ?_ | refine runL_nil ?_ | refine run_skip ?_ | refine run_block ?_ | refine run_inBlock ?_) | refine run_exit rfl ?_)
    iterate 2 (first | refine runL_q (qt_pev tok rfl) rfl rfl rfl ?_ | refine runL_gK rfl rfl (qt_pev tok rfl) rfl rfl rfl ?_ | refine runL_gF rfl rfl rfl rfl rfl ?_ | refine runL_g rfl rfl (qt_pev tok rfl) rfl rfl rfl rfl rfl ?_ | refine runL_q (ql tok rfl) rfl rfl rfl ?_ | refine runL_gK rfl rfl (ql tok rfl) rfl rfl rfl ?_ | refine runL_gF rfl rfl rfl rfl rfl ?_ | refine runL_g rfl rfl (ql tok rfl) rfl rfl rfl rfl rfl ?_ | (refine runL_op0 (sst tok rfl rfl rfl rfl rfl) ?_; rintro _ _ _ ⟨rfl, rfl, rfl⟩) | (refine runL_op (st_box rfl) rfl rfl rfl ?_; rintro _ _ _ ⟨_, rfl, rfl, rfl⟩) | (refine runL_op (st_alloc tok rfl) rfl rfl rfl ?_; rintro _ _ _ ⟨_, rfl, rfl, rfl⟩) | (refine runL_op (st_buildSlice tok rfl rfl rfl rfl rfl rfl rfl) rfl rfl rfl ?_; rintro _ _ _ ⟨_, rfl, rfl, rfl⟩))
    refine runL_as 41 (.slice (some ⟨b, 0, none⟩) c'.acks.len cap) rfl hv ?_
    repeat (first | with_reducible (first | refine run_seq ?_ | refine run_region ?_ | refine runL_nil ?_ | refine run_skip ?_ | refine run_block ?_ | refine run_inBlock ?_) | refine run_exit rfl ?_ | refine runL_q (qt_pev tok rfl) rfl rfl rfl ?_ | refine runL_g rfl rfl (qt_pev tok rfl) rfl rfl rfl rfl rfl ?_ | refine runL_q (ql tok rfl) rfl rfl rfl ?_ | refine runL_g rfl rfl (ql tok rfl) rfl rfl rfl rfl rfl ?_ | (refine runL_op0 (sst tok rfl rfl rfl rfl rfl) ?_; rintro _ _ _ ⟨rfl, rfl, rfl⟩) | (refine runL_op (st_box rfl) rfl rfl rfl ?_; rintro _ _ _ ⟨_, rfl, rfl, rfl⟩) | (refine runL_op (st_alloc tok rfl) rfl rfl rfl ?_; rintro _ _ _ ⟨_, rfl, rfl, rfl⟩) | (refine runL_op (st_buildSlice tok rfl rfl rfl rfl rfl rfl rfl) rfl rfl rfl ?_; rintro _ _ _ ⟨_, rfl, rfl, rfl⟩) | refine runL_q (qt_indexAs (n := k) (o := pre.length) tok rfl rfl rfl rfl (fun _ => by omega) (by rw [hpre, Nat.zero_add])) rfl rfl rfl ?_ | (refine runL_op0 (st_store tok rfl rfl rfl rfl rfl (by (repeat (first | with_reducible apply Upd.here | with_reducible apply Upd.there | with_reducible apply Upd.append_left))) (setE_mid (j := 0) rfl)) ?_; rintro _ _ _ ⟨rfl, rfl, rfl⟩))
    have hset1 := hset (blC true) rfl
    refine run_retE hC (rs := [.cell 4 29, .tmp 5]) rfl (rl tok rfl (resT rfl resN)) fun w hw => ?_
    have hmk2 : Mk M1 { c' with acks := { c'.acks with xs := c'.acks.xs.set k true } } Nv Nt [(b, .cells ⟨pre ++ (blC true ++ post)⟩ 4 (0, 0))] :=
      ⟨hmk.mem, hmk.bodies, hmk.votes, hmk.tags, by rw [List.map_set]; exact hset1, hmk.lv, hmk.lt, ⟨by simpa using hmk.la.1, hmk.la.2⟩, hmk.dig, hmk.bod, hmk.tag⟩
    obtain ⟨M2, h5, h6, h7⟩ := hmk2.frz hw
    exact ⟨M2, L, h6.drop.drop, Mem.le_trans hM1 h5, rfl, { c' with acks := { c'.acks with xs := c'.acks.xs.set k true } }, rfl, rfl, h7⟩

/-! ### a vote -/
def voteBad (yes : Bool) (tag : ByteArray) : Bool := (yes != neT tag) || (yes && (checkR tag != 0))
def voteA (a : Ca) (org : Int) (yes : Bool) (tag : ByteArray) : Ca × Int :=
  if mayA a = true ∧ voteBad yes tag = false then match memR a.mem org with
    | none => (caZ, 3)
    | some k => if (a.state != 1) = true then (caZ, 8) else if ((a.votes[k]?).getD 0 != 0) = true then (caZ, 9) else ({ a with votes := a.votes.set k (if yes = true then 1 else 2), tags := a.tags.set k tag }, 0)
  else (caZ, 2)
set_option maxRecDepth 10000 in
set_option maxHeartbeats 8000000 in
theorem vote_ok (M : Mem) (L : HL) (c : Co) (h : CoOk M c) (org : Int) (yes : Bool) (tag : ByteArray) (ht : tag.size < 4611686018427387904) : Tr Try.prog 9 [.agg ⟨coC c⟩, .int .i64 org, .bool yes, .string tag] M L (CoK M L (voteA c.ab org yes tag)) := by
  have hE := coE_ab h.lens
  refine Tr.intro 73 Try.func9 rfl rfl Try.call9 rfl ?_
  intro C hC hro
  repeat (first | with_reducible (first | refine run_seq ?_ | refine run_region ?_ | refine runL_nil ?_ | refine run_skip ?_ | refine run_block ?_ | refine run_inBlock ?_) | refine run_exit rfl ?_ | refine runL_q (qt_pev tok rfl) rfl rfl rfl ?_ | refine runL_g rfl rfl (qt_pev tok rfl) rfl rfl rfl rfl rfl ?_ | refine runL_q (ql tok rfl) rfl rfl rfl ?_ | refine runL_g rfl rfl (ql tok rfl) rfl rfl rfl rfl rfl ?_ | (refine runL_op0 (sst tok rfl rfl rfl rfl rfl) ?_; rintro _ _ _ ⟨rfl, rfl, rfl⟩) | (refine runL_op (st_box rfl) rfl rfl rfl ?_; rintro _ _ _ ⟨_, rfl, rfl, rfl⟩) | (refine runL_op (st_alloc tok rfl) rfl rfl rfl ?_; rintro _ _ _ ⟨_, rfl, rfl, rfl⟩) | (refine runL_op (st_buildSlice tok rfl rfl rfl rfl rfl rfl rfl) rfl rfl rfl ?_; rintro _ _ _ ⟨_, rfl, rfl, rfl⟩))
  refine runL_op (st_callF rfl (fun _ => made_ok _ _ c h)) rfl rfl rfl ?_
  rintro _ M1 _ hk
  rcases hk with ⟨h1, rfl, rfl, rfl⟩ | ⟨h1, hM1, c', Nv, Nt, Na, rfl, hab, rfl, hmk⟩
  · have hm : ¬ mayA c.ab = true := fun e => by rw [h1, if_pos e] at hE; cases hE
    rw [voteA, if_neg (fun e => hm e.1)] at hC
    repeat (first | with_reducible (first | refine run_seq ?_ | refine run_region ?_ | refine runL_nil ?_ | refine run_skip ?_ | refine run_block ?_ | refine run_inBlock ?_) | refine run_exit rfl ?_ | refine runL_q (qt_pev tok rfl) rfl rfl rfl ?_ | refine runL_g rfl rfl (qt_pev tok rfl) rfl rfl rfl rfl rfl ?_ | refine runL_q (ql tok rfl) rfl rfl rfl ?_ | refine runL_g rfl rfl (ql tok rfl) rfl rfl rfl rfl rfl ?_ | (refine runL_op0 (sst tok rfl rfl rfl rfl rfl) ?_; rintro _ _ _ ⟨rfl, rfl, rfl⟩) | (refine runL_op (st_box rfl) rfl rfl rfl ?_; rintro _ _ _ ⟨_, rfl, rfl, rfl⟩) | (refine runL_op (st_alloc tok rfl) rfl rfl rfl ?_; rintro _ _ _ ⟨_, rfl, rfl, rfl⟩) | (refine runL_op (st_buildSlice tok rfl rfl rfl rfl rfl rfl rfl) rfl rfl rfl ?_; rintro _ _ _ ⟨_, rfl, rfl, rfl⟩) | refine runL_g rfl rfl (qt_callF rfl (fun _ => check_ok _ _ _ ht)) rfl rfl rfl rfl rfl ?_)
    refine run_cond rfl (fun _ => ?_) (fun h => by cases h)
    repeat (first | with_reducible (first | refine run_seq ?_ | refine run_region ?_ | refine runL_nil ?_ | refine run_skip ?_ | refine run_block ?_ | refine run_inBlock ?_) | refine run_exit rfl ?_ | refine runL_q (qt_pev tok rfl) rfl rfl rfl ?_ | refine runL_g rfl rfl (qt_pev tok rfl) rfl rfl rfl rfl rfl ?_ | refine runL_q (ql tok rfl) rfl rfl rfl ?_ | refine runL_g rfl rfl (ql tok rfl) rfl rfl rfl rfl rfl ?_ | (refine runL_op0 (sst tok rfl rfl rfl rfl rfl) ?_; rintro _ _ _ ⟨rfl, rfl, rfl⟩) | (refine runL_op (st_box rfl) rfl rfl rfl ?_; rintro _ _ _ ⟨_, rfl, rfl, rfl⟩) | (refine runL_op (st_alloc tok rfl) rfl rfl rfl ?_; rintro _ _ _ ⟨_, rfl, rfl, rfl⟩) | (refine runL_op (st_buildSlice tok rfl rfl rfl rfl rfl rfl rfl) rfl rfl rfl ?_; rintro _ _ _ ⟨_, rfl, rfl, rfl⟩))
    exact run_ret hC (rs := [.cell 8 29, .tmp 9]) rfl (rl tok rfl (resT rfl resN)) (fun _ h => h.drop.drop) (CoK.none _ _ _ (Mem.le_refl _))
  have hm : mayA c.ab = true := Classical.byContradiction fun e => by rw [h1, if_neg e] at hE; cases hE
  have hr := mayA_rows h hm
  obtain ⟨x1, x2, x3, x4, x5, x6⟩ := ab_len hab
  repeat (first | with_reducible (first | refine run_seq ?_ | refine run_region ?_ | refine runL_nil ?_ | refine run_skip ?_ | refine run_block ?_ | refine run_inBlock ?_) | refine run_exit rfl ?_ | refine runL_q (qt_pev tok rfl) rfl rfl rfl ?_ | refine runL_g rfl rfl (qt_pev tok rfl) rfl rfl rfl rfl rfl ?_ | refine runL_q (ql tok rfl) rfl rfl rfl ?_ | refine runL_g rfl rfl (ql tok rfl) rfl rfl rfl rfl rfl ?_ | (refine runL_op0 (sst tok rfl rfl rfl rfl rfl) ?_; rintro _ _ _ ⟨rfl, rfl, rfl⟩) | (refine runL_op (st_box rfl) rfl rfl rfl ?_; rintro _ _ _ ⟨_, rfl, rfl, rfl⟩) | (refine runL_op (st_alloc tok rfl) rfl rfl rfl ?_; rintro _ _ _ ⟨_, rfl, rfl, rfl⟩) | (refine runL_op (st_buildSlice tok rfl rfl rfl rfl rfl rfl rfl) rfl rfl rfl ?_; rintro _ _ _ ⟨_, rfl, rfl, rfl⟩) | refine runL_g rfl rfl (qt_callF rfl (fun _ => check_ok _ _ _ ht)) rfl rfl rfl rfl rfl ?_)
  refine run_cond rfl (fun h2 => ?_) (fun h2 => ?_)
  · have hb : voteBad yes tag = true := h2
    rw [voteA, if_neg (fun e => by rw [hb] at e; cases e.2)] at hC
    repeat (first | with_reducible (first | refine run_seq ?_ | refine run_region ?_ | refine runL_nil ?_ | refine run_skip ?_ | refine run_block ?_ | refine run_inBlock ?_) | refine run_exit rfl ?_ | refine runL_q (qt_pev tok rfl) rfl rfl rfl ?_ | refine runL_g rfl rfl (qt_pev tok rfl) rfl rfl rfl rfl rfl ?_ | refine runL_q (ql tok rfl) rfl rfl rfl ?_ | refine runL_g rfl rfl (ql tok rfl) rfl rfl rfl rfl rfl ?_ | (refine runL_op0 (sst tok rfl rfl rfl rfl rfl) ?_; rintro _ _ _ ⟨rfl, rfl, rfl⟩) | (refine runL_op (st_box rfl) rfl rfl rfl ?_; rintro _ _ _ ⟨_, rfl, rfl, rfl⟩) | (refine runL_op (st_alloc tok rfl) rfl rfl rfl ?_; rintro _ _ _ ⟨_, rfl, rfl, rfl⟩) | (refine runL_op (st_buildSlice tok rfl rfl rfl rfl rfl rfl rfl) rfl rfl rfl ?_; rintro _ _ _ ⟨_, rfl, rfl, rfl⟩))
    exact run_ret hC (rs := [.cell 8 29, .tmp 9]) rfl (rl tok rfl (resT rfl resN)) (fun _ h => h.dropAll.dropAll.dropAll.drop.drop) (CoK.none _ _ _ hM1)
  have hb : voteBad yes tag = false := h2
  rw [voteA, if_pos ⟨hm, hb⟩, ← hab] at hC
  repeat (first | with_reducible (first | refine run_seq ?_ | refine run_region ?_ | refine runL_nil ?_ | refine run_skip ?_ | refine run_block ?_ | refine run_inBlock ?_) | refine run_exit rfl ?_ | refine runL_q (qt_pev tok rfl) rfl rfl rfl ?_ | refine runL_g rfl rfl (qt_pev tok rfl) rfl rfl rfl rfl rfl ?_ | refine runL_q (ql tok rfl) rfl rfl rfl ?_ | refine runL_g rfl rfl (ql tok rfl) rfl rfl rfl rfl rfl ?_ | (refine runL_op0 (sst tok rfl rfl rfl rfl rfl) ?_; rintro _ _ _ ⟨rfl, rfl, rfl⟩) | (refine runL_op (st_box rfl) rfl rfl rfl ?_; rintro _ _ _ ⟨_, rfl, rfl, rfl⟩) | (refine runL_op (st_alloc tok rfl) rfl rfl rfl ?_; rintro _ _ _ ⟨_, rfl, rfl, rfl⟩) | (refine runL_op (st_buildSlice tok rfl rfl rfl rfl rfl rfl rfl) rfl rfl rfl ?_; rintro _ _ _ ⟨_, rfl, rfl, rfl⟩) | refine runL_q (qt_callF rfl (fun _ => member_ok _ _ c' hmk.mem org)) rfl rfl rfl ?_)
  rw [show c'.ab.mem = c'.mem.xs from rfl] at hC
  cases hk : memR c'.mem.xs org with
  | none =>
    rw [hk] at hC
    repeat (first | with_reducible (first | refine run_seq ?_ | refine run_region ?_ | refine runL_nil ?_ | refine run_skip ?_ | refine run_block ?_ | refine run_inBlock ?_) | refine run_exit rfl ?_ | refine runL_q (qt_pev tok rfl) rfl rfl rfl ?_ | refine runL_g rfl rfl (qt_pev tok rfl) rfl rfl rfl rfl rfl ?_ | refine runL_q (ql tok rfl) rfl rfl rfl ?_ | refine runL_g rfl rfl (ql tok rfl) rfl rfl rfl rfl rfl ?_ | (refine runL_op0 (sst tok rfl rfl rfl rfl rfl) ?_; rintro _ _ _ ⟨rfl, rfl, rfl⟩) | (refine runL_op (st_box rfl) rfl rfl rfl ?_; rintro _ _ _ ⟨_, rfl, rfl, rfl⟩) | (refine runL_op (st_alloc tok rfl) rfl rfl rfl ?_; rintro _ _ _ ⟨_, rfl, rfl, rfl⟩) | (refine runL_op (st_buildSlice tok rfl rfl rfl rfl rfl rfl rfl) rfl rfl rfl ?_; rintro _ _ _ ⟨_, rfl, rfl, rfl⟩))
    refine run_cond rfl (fun _ => ?_) (fun h => by cases h)
    repeat (first | with_reducible (first | refine run_seq ?_ | refine run_region ?_ | refine runL_nil ?_ | refine run_skip ?_ | refine run_block ?_ | refine run_inBlock ?_) | refine run_exit rfl ?_ | refine runL_q (qt_pev tok rfl) rfl rfl rfl ?_ | refine runL_g rfl rfl (qt_pev tok rfl) rfl rfl rfl rfl rfl ?_ | refine runL_q (ql tok rfl) rfl rfl rfl ?_ | refine runL_g rfl rfl (ql tok rfl) rfl rfl rfl rfl rfl ?_ | (refine runL_op0 (sst tok rfl rfl rfl rfl rfl) ?_; rintro _ _ _ ⟨rfl, rfl, rfl⟩) | (refine runL_op (st_box rfl) rfl rfl rfl ?_; rintro _ _ _ ⟨_, rfl, rfl, rfl⟩) | (refine runL_op (st_alloc tok rfl) rfl rfl rfl ?_; rintro _ _ _ ⟨_, rfl, rfl, rfl⟩) | (refine runL_op (st_buildSlice tok rfl rfl rfl rfl rfl rfl rfl) rfl rfl rfl ?_; rintro _ _ _ ⟨_, rfl, rfl, rfl⟩))
    exact run_ret hC (rs := [.cell 8 29, .tmp 9]) rfl (rl tok rfl (resT rfl resN)) (fun _ h => h.dropAll.dropAll.dropAll.drop.drop) (CoK.none _ _ _ hM1)
  | some k =>
    rw [hk] at hC
    have hkl := memR_lt hk
    have hka : k < c'.votes.xs.length ∧ k < c'.tags.xs.length := by
      have := hr.votes
      have := hr.tags
      have := h.lens.votes
      have := h.lens.tags
      have := h.lens.mem
      rw [x3, x4]; rw [x1] at hkl; omega
    obtain ⟨vt, hvt⟩ : ∃ y, c'.votes.xs[k]? = some y := ⟨_, List.getElem?_eq_getElem hka.1⟩
    obtain ⟨tg, htg⟩ : ∃ y, c'.tags.xs[k]? = some y := ⟨_, List.getElem?_eq_getElem hka.2⟩
    obtain ⟨b, cap, pre, post, hv, rfl, hpre, hset⟩ := OS.mid (ls := c'.votes.xs.map u8C) hmk.votes (u8C_all _) (by simpa using hmk.lv.1) (k := k) (c := u8C vt) (by rw [List.getElem?_map, hvt]; rfl)
    obtain ⟨b', cap', pre', post', hv', rfl, hpre', hset'⟩ := OS.mid (ls := c'.tags.xs.map stC) hmk.tags (stC_all _) (by simpa using hmk.lt.1) (k := k) (c := stC tg) (by rw [List.getElem?_map, htg]; rfl)
    have hvl := hmk.lv.1
    have htl := hmk.lt.1
    have hgd : (c'.ab.votes[k]?).getD 0 = vt := by rw [show c'.ab.votes = c'.votes.xs from rfl, hvt]; rfl
    simp only [hgd] at hC
    simp only [List.cons_append, List.nil_append]
    repeat (first | with_reducible (first | refine run_seq ?_ | refine run_region ?_ | refine runL_nil ?_ | refine run_skip ?_ | refine run_block ?_ | refine run_inBlock ?_) | refine run_exit rfl ?_ | refine runL_q (qt_pev tok rfl) rfl rfl rfl ?_ | refine runL_g rfl rfl (qt_pev tok rfl) rfl rfl rfl rfl rfl ?_ | refine runL_q (ql tok rfl) rfl rfl rfl ?_ | refine runL_g rfl rfl (ql tok rfl) rfl rfl rfl rfl rfl ?_ | (refine runL_op0 (sst tok rfl rfl rfl rfl rfl) ?_; rintro _ _ _ ⟨rfl, rfl, rfl⟩) | (refine runL_op (st_box rfl) rfl rfl rfl ?_; rintro _ _ _ ⟨_, rfl, rfl, rfl⟩) | (refine runL_op (st_alloc tok rfl) rfl rfl rfl ?_; rintro _ _ _ ⟨_, rfl, rfl, rfl⟩) | (refine runL_op (st_buildSlice tok rfl rfl rfl rfl rfl rfl rfl) rfl rfl rfl ?_; rintro _ _ _ ⟨_, rfl, rfl, rfl⟩))
    refine run_cond rfl (fun h => by cases h) (fun _ => ?_)
    repeat (first | with_reducible (first | refine run_seq ?_ | refine run_region ?_ | refine runL_nil ?_ | refine run_skip ?_ | refine run_block ?_ | refine run_inBlock ?_) | refine run_exit rfl ?_ | refine runL_q (qt_pev tok rfl) rfl rfl rfl ?_ | refine runL_g rfl rfl (qt_pev tok rfl) rfl rfl rfl rfl rfl ?_ | refine runL_q (ql tok rfl) rfl rfl rfl ?_ | refine runL_g rfl rfl (ql tok rfl) rfl rfl rfl rfl rfl ?_ | (refine runL_op0 (sst tok rfl rfl rfl rfl rfl) ?_; rintro _ _ _ ⟨rfl, rfl, rfl⟩) | (refine runL_op (st_box rfl) rfl rfl rfl ?_; rintro _ _ _ ⟨_, rfl, rfl, rfl⟩) | (refine runL_op (st_alloc tok rfl) rfl rfl rfl ?_; rintro _ _ _ ⟨_, rfl, rfl, rfl⟩) | (refine runL_op (st_buildSlice tok rfl rfl rfl rfl rfl rfl rfl) rfl rfl rfl ?_; rintro _ _ _ ⟨_, rfl, rfl, rfl⟩))
    refine run_cond rfl (fun h2 => ?_) (fun h2 => ?_)
    · rw [if_pos (show (c'.ab.state != 1) = true from h2)] at hC
      repeat (first | with_reducible (first | refine run_seq ?_ | refine run_region ?_ | refine runL_nil ?_ | refine run_skip ?_ | refine run_block ?_ | refine run_inBlock ?_) | refine run_exit rfl ?_ | refine runL_q (qt_pev tok rfl) rfl rfl rfl ?_ | refine runL_g rfl rfl (qt_pev tok rfl) rfl rfl rfl rfl rfl ?_ | refine runL_q (ql tok rfl) rfl rfl rfl ?_ | refine runL_g rfl rfl (ql tok rfl) rfl rfl rfl rfl rfl ?_ | (refine runL_op0 (sst tok rfl rfl rfl rfl rfl) ?_; rintro _ _ _ ⟨rfl, rfl, rfl⟩) | (refine runL_op (st_box rfl) rfl rfl rfl ?_; rintro _ _ _ ⟨_, rfl, rfl, rfl⟩) | (refine runL_op (st_alloc tok rfl) rfl rfl rfl ?_; rintro _ _ _ ⟨_, rfl, rfl, rfl⟩) | (refine runL_op (st_buildSlice tok rfl rfl rfl rfl rfl rfl rfl) rfl rfl rfl ?_; rintro _ _ _ ⟨_, rfl, rfl, rfl⟩))
      exact run_ret hC (rs := [.cell 8 29, .tmp 9]) rfl (rl tok rfl (resT rfl resN)) (fun _ h => Hp.dropAll (N := Na) h |>.drop.drop.drop.drop) (CoK.none _ _ _ hM1)
    rw [if_neg (by rw [show (c'.ab.state != 1) = false from h2]; simp)] at hC
    repeat (first | with_reducible (first | refine run_seq ?_ | refine run_region ?_ | refine runL_nil ?_ | refine run_skip ?_ | refine run_block ?_ | refine run_inBlock ?_) | refine run_exit rfl ?_)
    iterate 2 (first | refine runL_q (qt_pev tok rfl) rfl rfl rfl ?_ | refine runL_gK rfl rfl (qt_pev tok rfl) rfl rfl rfl ?_ | refine runL_gF rfl rfl rfl rfl rfl ?_ | refine runL_g rfl rfl (qt_pev tok rfl) rfl rfl rfl rfl rfl ?_ | refine runL_q (ql tok rfl) rfl rfl rfl ?_ | refine runL_gK rfl rfl (ql tok rfl) rfl rfl rfl ?_ | refine runL_gF rfl rfl rfl rfl rfl ?_ | refine runL_g rfl rfl (ql tok rfl) rfl rfl rfl rfl rfl ?_ | (refine runL_op0 (sst tok rfl rfl rfl rfl rfl) ?_; rintro _ _ _ ⟨rfl, rfl, rfl⟩) | (refine runL_op (st_box rfl) rfl rfl rfl ?_; rintro _ _ _ ⟨_, rfl, rfl, rfl⟩) | (refine runL_op (st_alloc tok rfl) rfl rfl rfl ?_; rintro _ _ _ ⟨_, rfl, rfl, rfl⟩) | (refine runL_op (st_buildSlice tok rfl rfl rfl rfl rfl rfl rfl) rfl rfl rfl ?_; rintro _ _ _ ⟨_, rfl, rfl, rfl⟩))
    refine runL_as 52 (.slice (some ⟨b, 0, none⟩) c'.votes.len cap) rfl hv ?_
    repeat (first | with_reducible (first | refine run_seq ?_ | refine run_region ?_ | refine runL_nil ?_ | refine run_skip ?_ | refine run_block ?_ | refine run_inBlock ?_) | refine run_exit rfl ?_ | refine runL_q (qt_pev tok rfl) rfl rfl rfl ?_ | refine runL_g rfl rfl (qt_pev tok rfl) rfl rfl rfl rfl rfl ?_ | refine runL_q (ql tok rfl) rfl rfl rfl ?_ | refine runL_g rfl rfl (ql tok rfl) rfl rfl rfl rfl rfl ?_ | (refine runL_op0 (sst tok rfl rfl rfl rfl rfl) ?_; rintro _ _ _ ⟨rfl, rfl, rfl⟩) | (refine runL_op (st_box rfl) rfl rfl rfl ?_; rintro _ _ _ ⟨_, rfl, rfl, rfl⟩) | (refine runL_op (st_alloc tok rfl) rfl rfl rfl ?_; rintro _ _ _ ⟨_, rfl, rfl, rfl⟩) | (refine runL_op (st_buildSlice tok rfl rfl rfl rfl rfl rfl rfl) rfl rfl rfl ?_; rintro _ _ _ ⟨_, rfl, rfl, rfl⟩) | refine runL_q (qt_indexAs (n := k) (o := pre.length) tok rfl rfl rfl rfl (fun _ => by omega) (by rw [hpre, Nat.zero_add])) rfl rfl rfl ?_ | refine runL_q (qt_ldB0 tok rfl (SegAt.mid _ _ _) (by (repeat (first | with_reducible apply List.mem_cons_self | with_reducible assumption | with_reducible apply List.mem_cons_of_mem | with_reducible apply List.mem_append_right))) rfl) rfl rfl rfl ?_)
    refine run_cond rfl (fun h3 => ?_) (fun h3 => ?_)
    · rw [if_pos (show (vt != 0) = true from h3)] at hC
      repeat (first | with_reducible (first | refine run_seq ?_ | refine run_region ?_ | refine runL_nil ?_ | refine run_skip ?_ | refine run_block ?_ | refine run_inBlock ?_) | refine run_exit rfl ?_ | refine runL_q (qt_pev tok rfl) rfl rfl rfl ?_ | refine runL_g rfl rfl (qt_pev tok rfl) rfl rfl rfl rfl rfl ?_ | refine runL_q (ql tok rfl) rfl rfl rfl ?_ | refine runL_g rfl rfl (ql tok rfl) rfl rfl rfl rfl rfl ?_ | (refine runL_op0 (sst tok rfl rfl rfl rfl rfl) ?_; rintro _ _ _ ⟨rfl, rfl, rfl⟩) | (refine runL_op (st_box rfl) rfl rfl rfl ?_; rintro _ _ _ ⟨_, rfl, rfl, rfl⟩) | (refine runL_op (st_alloc tok rfl) rfl rfl rfl ?_; rintro _ _ _ ⟨_, rfl, rfl, rfl⟩) | (refine runL_op (st_buildSlice tok rfl rfl rfl rfl rfl rfl rfl) rfl rfl rfl ?_; rintro _ _ _ ⟨_, rfl, rfl, rfl⟩))
      exact run_ret hC (rs := [.cell 8 29, .tmp 9]) rfl (rl tok rfl (resT rfl resN)) (fun _ h => Hp.dropAll (N := Na) h |>.drop.drop.drop.drop) (CoK.none _ _ _ hM1)
    rw [if_neg (by rw [show (vt != 0) = false from h3]; simp)] at hC
    repeat (first | with_reducible (first | refine run_seq ?_ | refine run_region ?_ | refine runL_nil ?_ | refine run_skip ?_ | refine run_block ?_ | refine run_inBlock ?_) | refine run_exit rfl ?_)
    refine prn_start mixed ?_
    iterate 2 (first | refine prn_q rfl (qt_pev tok rfl) (by decide +kernel) rfl rfl rfl ?_ | refine prn_gK rfl rfl rfl (qt_pev tok rfl) (by decide +kernel) rfl rfl rfl ?_ | refine prn_gF rfl rfl rfl (by decide +kernel) rfl rfl rfl ?_ | refine prn_g rfl rfl rfl (qt_pev tok rfl) (by decide +kernel) rfl rfl rfl rfl rfl ?_ | refine prn_q rfl (ql tok rfl) (by decide +kernel) rfl rfl rfl ?_ | refine prn_gK rfl rfl rfl (ql tok rfl) (by decide +kernel) rfl rfl rfl ?_ | refine prn_gF rfl rfl rfl (by decide +kernel) rfl rfl rfl ?_ | refine prn_g rfl rfl rfl (ql tok rfl) (by decide +kernel) rfl rfl rfl rfl rfl ?_ | (refine prn_e0 rfl (sst tok rfl rfl rfl rfl rfl) (by decide +kernel) ?_; rintro _ _ _ ⟨rfl, rfl, rfl⟩) | (refine prn_e1 rfl (st_box rfl) (by decide +kernel) rfl rfl rfl ?_; rintro _ _ _ ⟨_, rfl, rfl, rfl⟩) | (refine prn_e1 rfl (st_alloc tok rfl) (by decide +kernel) rfl rfl rfl ?_; rintro _ _ _ ⟨_, rfl, rfl, rfl⟩) | (refine prn_e1 rfl (st_buildSlice tok rfl rfl rfl rfl rfl rfl rfl) (by decide +kernel) rfl rfl rfl ?_; rintro _ _ _ ⟨_, rfl, rfl, rfl⟩) | (refine prn_o0 rfl (sst tok rfl rfl rfl rfl rfl) (by decide +kernel) ?_; rintro _ _ _ ⟨rfl, rfl, rfl⟩; refine ⟨by (repeat (first | exact trivial | refine And.intro (pend_q rfl rfl rfl (qt_pev tok rfl)) ?_ | refine And.intro (pend_q rfl rfl rfl (ql tok rfl)) ?_)), ?_⟩) | (refine prn_o1 rfl (st_box rfl) (by decide +kernel) rfl rfl rfl ?_; rintro _ _ _ ⟨_, rfl, rfl, rfl⟩; refine ⟨by (repeat (first | exact trivial | refine And.intro (pend_q rfl rfl rfl (qt_pev tok rfl)) ?_ | refine And.intro (pend_q rfl rfl rfl (ql tok rfl)) ?_)), ?_⟩) | (refine prn_o1 rfl (st_alloc tok rfl) (by decide +kernel) rfl rfl rfl ?_; rintro _ _ _ ⟨_, rfl, rfl, rfl⟩; refine ⟨by (repeat (first | exact trivial | refine And.intro (pend_q rfl rfl rfl (qt_pev tok rfl)) ?_ | refine And.intro (pend_q rfl rfl rfl (ql tok rfl)) ?_)), ?_⟩) | (refine prn_o1 rfl (st_buildSlice tok rfl rfl rfl rfl rfl rfl rfl) (by decide +kernel) rfl rfl rfl ?_; rintro _ _ _ ⟨_, rfl, rfl, rfl⟩; refine ⟨by (repeat (first | exact trivial | refine And.intro (pend_q rfl rfl rfl (qt_pev tok rfl)) ?_ | refine And.intro (pend_q rfl rfl rfl (ql tok rfl)) ?_)), ?_⟩) | (refine prn_e1 rfl (qt_pev tok rfl) (by decide +kernel) rfl rfl rfl ?_; rintro _ _ _ ⟨rfl, rfl, rfl⟩))
    refine pr_as 59 (.slice (some ⟨b, 0, none⟩) c'.votes.len cap) rfl hv ?_
    iterate 3 (first | refine prn_q rfl (qt_pev tok rfl) (by decide +kernel) rfl rfl rfl ?_ | refine prn_gK rfl rfl rfl (qt_pev tok rfl) (by decide +kernel) rfl rfl rfl ?_ | refine prn_gF rfl rfl rfl (by decide +kernel) rfl rfl rfl ?_ | refine prn_g rfl rfl rfl (qt_pev tok rfl) (by decide +kernel) rfl rfl rfl rfl rfl ?_ | refine prn_q rfl (ql tok rfl) (by decide +kernel) rfl rfl rfl ?_ | refine prn_gK rfl rfl rfl (ql tok rfl) (by decide +kernel) rfl rfl rfl ?_ | refine prn_gF rfl rfl rfl (by decide +kernel) rfl rfl rfl ?_ | refine prn_g rfl rfl rfl (ql tok rfl) (by decide +kernel) rfl rfl rfl rfl rfl ?_ | (refine prn_e0 rfl (sst tok rfl rfl rfl rfl rfl) (by decide +kernel) ?_; rintro _ _ _ ⟨rfl, rfl, rfl⟩) | (refine prn_e1 rfl (st_box rfl) (by decide +kernel) rfl rfl rfl ?_; rintro _ _ _ ⟨_, rfl, rfl, rfl⟩) | (refine prn_e1 rfl (st_alloc tok rfl) (by decide +kernel) rfl rfl rfl ?_; rintro _ _ _ ⟨_, rfl, rfl, rfl⟩) | (refine prn_e1 rfl (st_buildSlice tok rfl rfl rfl rfl rfl rfl rfl) (by decide +kernel) rfl rfl rfl ?_; rintro _ _ _ ⟨_, rfl, rfl, rfl⟩) | (refine prn_o0 rfl (sst tok rfl rfl rfl rfl rfl) (by decide +kernel) ?_; rintro _ _ _ ⟨rfl, rfl, rfl⟩; refine ⟨by (repeat (first | exact trivial | refine And.intro (pend_q rfl rfl rfl (qt_pev tok rfl)) ?_ | refine And.intro (pend_q rfl rfl rfl (ql tok rfl)) ?_)), ?_⟩) | (refine prn_o1 rfl (st_box rfl) (by decide +kernel) rfl rfl rfl ?_; rintro _ _ _ ⟨_, rfl, rfl, rfl⟩; refine ⟨by (repeat (first | exact trivial | refine And.intro (pend_q rfl rfl rfl (qt_pev tok rfl)) ?_ | refine And.intro (pend_q rfl rfl rfl (ql tok rfl)) ?_)), ?_⟩) | (refine prn_o1 rfl (st_alloc tok rfl) (by decide +kernel) rfl rfl rfl ?_; rintro _ _ _ ⟨_, rfl, rfl, rfl⟩; refine ⟨by (repeat (first | exact trivial | refine And.intro (pend_q rfl rfl rfl (qt_pev tok rfl)) ?_ | refine And.intro (pend_q rfl rfl rfl (ql tok rfl)) ?_)), ?_⟩) | (refine prn_o1 rfl (st_buildSlice tok rfl rfl rfl rfl rfl rfl rfl) (by decide +kernel) rfl rfl rfl ?_; rintro _ _ _ ⟨_, rfl, rfl, rfl⟩; refine ⟨by (repeat (first | exact trivial | refine And.intro (pend_q rfl rfl rfl (qt_pev tok rfl)) ?_ | refine And.intro (pend_q rfl rfl rfl (ql tok rfl)) ?_)), ?_⟩) | (refine prn_e1 rfl (qt_pev tok rfl) (by decide +kernel) rfl rfl rfl ?_; rintro _ _ _ ⟨rfl, rfl, rfl⟩))
    refine pr_as 62 (.slice (some ⟨b', 0, none⟩) c'.tags.len cap') rfl hv' ?_
    iterate 3 (first | refine prn_q rfl (qt_pev tok rfl) (by decide +kernel) rfl rfl rfl ?_ | refine prn_gK rfl rfl rfl (qt_pev tok rfl) (by decide +kernel) rfl rfl rfl ?_ | refine prn_gF rfl rfl rfl (by decide +kernel) rfl rfl rfl ?_ | refine prn_g rfl rfl rfl (qt_pev tok rfl) (by decide +kernel) rfl rfl rfl rfl rfl ?_ | refine prn_q rfl (ql tok rfl) (by decide +kernel) rfl rfl rfl ?_ | refine prn_gK rfl rfl rfl (ql tok rfl) (by decide +kernel) rfl rfl rfl ?_ | refine prn_gF rfl rfl rfl (by decide +kernel) rfl rfl rfl ?_ | refine prn_g rfl rfl rfl (ql tok rfl) (by decide +kernel) rfl rfl rfl rfl rfl ?_ | (refine prn_e0 rfl (sst tok rfl rfl rfl rfl rfl) (by decide +kernel) ?_; rintro _ _ _ ⟨rfl, rfl, rfl⟩) | (refine prn_e1 rfl (st_box rfl) (by decide +kernel) rfl rfl rfl ?_; rintro _ _ _ ⟨_, rfl, rfl, rfl⟩) | (refine prn_e1 rfl (st_alloc tok rfl) (by decide +kernel) rfl rfl rfl ?_; rintro _ _ _ ⟨_, rfl, rfl, rfl⟩) | (refine prn_e1 rfl (st_buildSlice tok rfl rfl rfl rfl rfl rfl rfl) (by decide +kernel) rfl rfl rfl ?_; rintro _ _ _ ⟨_, rfl, rfl, rfl⟩) | (refine prn_o0 rfl (sst tok rfl rfl rfl rfl rfl) (by decide +kernel) ?_; rintro _ _ _ ⟨rfl, rfl, rfl⟩; refine ⟨by (repeat (first | exact trivial | refine And.intro (pend_q rfl rfl rfl (qt_pev tok rfl)) ?_ | refine And.intro (pend_q rfl rfl rfl (ql tok rfl)) ?_)), ?_⟩) | (refine prn_o1 rfl (st_box rfl) (by decide +kernel) rfl rfl rfl ?_; rintro _ _ _ ⟨_, rfl, rfl, rfl⟩; refine ⟨by (repeat (first | exact trivial | refine And.intro (pend_q rfl rfl rfl (qt_pev tok rfl)) ?_ | refine And.intro (pend_q rfl rfl rfl (ql tok rfl)) ?_)), ?_⟩) | (refine prn_o1 rfl (st_alloc tok rfl) (by decide +kernel) rfl rfl rfl ?_; rintro _ _ _ ⟨_, rfl, rfl, rfl⟩; refine ⟨by (repeat (first | exact trivial | refine And.intro (pend_q rfl rfl rfl (qt_pev tok rfl)) ?_ | refine And.intro (pend_q rfl rfl rfl (ql tok rfl)) ?_)), ?_⟩) | (refine prn_o1 rfl (st_buildSlice tok rfl rfl rfl rfl rfl rfl rfl) (by decide +kernel) rfl rfl rfl ?_; rintro _ _ _ ⟨_, rfl, rfl, rfl⟩; refine ⟨by (repeat (first | exact trivial | refine And.intro (pend_q rfl rfl rfl (qt_pev tok rfl)) ?_ | refine And.intro (pend_q rfl rfl rfl (ql tok rfl)) ?_)), ?_⟩) | (refine prn_e1 rfl (qt_pev tok rfl) (by decide +kernel) rfl rfl rfl ?_; rintro _ _ _ ⟨rfl, rfl, rfl⟩) | refine prn_q rfl (qt_indexAs (n := k) (o := pre.length) tok rfl rfl rfl rfl (fun _ => by omega) (by rw [hpre, Nat.zero_add])) (by decide +kernel) rfl rfl rfl ?_)
    refine prn_o0 rfl (st_store tok rfl rfl rfl rfl rfl (by (repeat (first | with_reducible apply Upd.here | with_reducible apply Upd.there | with_reducible apply Upd.append_left))) (setE_mid (j := 0) rfl)) (by decide +kernel) ?_
    rintro _ _ _ ⟨rfl, rfl, rfl⟩
    refine ⟨?_, ?_⟩
    · (repeat (first | exact trivial | refine And.intro (pend_q rfl rfl rfl (qt_pev tok rfl)) ?_ | refine And.intro (pend_q rfl rfl rfl (ql tok rfl)) ?_))
      refine And.intro (pend_q rfl rfl rfl (Qt.as (ql tok rfl) hv')) ?_
      (repeat (first | exact trivial | refine And.intro (pend_q rfl rfl rfl (qt_pev tok rfl)) ?_ | refine And.intro (pend_q rfl rfl rfl (ql tok rfl)) ?_))
    iterate 1 (first | refine prn_q rfl (qt_pev tok rfl) (by decide +kernel) rfl rfl rfl ?_ | refine prn_gK rfl rfl rfl (qt_pev tok rfl) (by decide +kernel) rfl rfl rfl ?_ | refine prn_gF rfl rfl rfl (by decide +kernel) rfl rfl rfl ?_ | refine prn_g rfl rfl rfl (qt_pev tok rfl) (by decide +kernel) rfl rfl rfl rfl rfl ?_ | refine prn_q rfl (ql tok rfl) (by decide +kernel) rfl rfl rfl ?_ | refine prn_gK rfl rfl rfl (ql tok rfl) (by decide +kernel) rfl rfl rfl ?_ | refine prn_gF rfl rfl rfl (by decide +kernel) rfl rfl rfl ?_ | refine prn_g rfl rfl rfl (ql tok rfl) (by decide +kernel) rfl rfl rfl rfl rfl ?_ | (refine prn_e0 rfl (sst tok rfl rfl rfl rfl rfl) (by decide +kernel) ?_; rintro _ _ _ ⟨rfl, rfl, rfl⟩) | (refine prn_e1 rfl (st_box rfl) (by decide +kernel) rfl rfl rfl ?_; rintro _ _ _ ⟨_, rfl, rfl, rfl⟩) | (refine prn_e1 rfl (st_alloc tok rfl) (by decide +kernel) rfl rfl rfl ?_; rintro _ _ _ ⟨_, rfl, rfl, rfl⟩) | (refine prn_e1 rfl (st_buildSlice tok rfl rfl rfl rfl rfl rfl rfl) (by decide +kernel) rfl rfl rfl ?_; rintro _ _ _ ⟨_, rfl, rfl, rfl⟩) | (refine prn_o0 rfl (sst tok rfl rfl rfl rfl rfl) (by decide +kernel) ?_; rintro _ _ _ ⟨rfl, rfl, rfl⟩; refine ⟨by (repeat (first | exact trivial | refine And.intro (pend_q rfl rfl rfl (qt_pev tok rfl)) ?_ | refine And.intro (pend_q rfl rfl rfl (ql tok rfl)) ?_)), ?_⟩) | (refine prn_o1 rfl (st_box rfl) (by decide +kernel) rfl rfl rfl ?_; rintro _ _ _ ⟨_, rfl, rfl, rfl⟩; refine ⟨by (repeat (first | exact trivial | refine And.intro (pend_q rfl rfl rfl (qt_pev tok rfl)) ?_ | refine And.intro (pend_q rfl rfl rfl (ql tok rfl)) ?_)), ?_⟩) | (refine prn_o1 rfl (st_alloc tok rfl) (by decide +kernel) rfl rfl rfl ?_; rintro _ _ _ ⟨_, rfl, rfl, rfl⟩; refine ⟨by (repeat (first | exact trivial | refine And.intro (pend_q rfl rfl rfl (qt_pev tok rfl)) ?_ | refine And.intro (pend_q rfl rfl rfl (ql tok rfl)) ?_)), ?_⟩) | (refine prn_o1 rfl (st_buildSlice tok rfl rfl rfl rfl rfl rfl rfl) (by decide +kernel) rfl rfl rfl ?_; rintro _ _ _ ⟨_, rfl, rfl, rfl⟩; refine ⟨by (repeat (first | exact trivial | refine And.intro (pend_q rfl rfl rfl (qt_pev tok rfl)) ?_ | refine And.intro (pend_q rfl rfl rfl (ql tok rfl)) ?_)), ?_⟩) | (refine prn_e1 rfl (qt_pev tok rfl) (by decide +kernel) rfl rfl rfl ?_; rintro _ _ _ ⟨rfl, rfl, rfl⟩) | refine prn_q rfl (qt_indexAs (n := k) (o := pre'.length) tok rfl rfl rfl rfl (fun _ => by omega) (by rw [hpre', Nat.zero_add])) (by decide +kernel) rfl rfl rfl ?_)
    refine prn_e0 rfl (st_store tok rfl rfl rfl rfl rfl (by (repeat (first | with_reducible apply Upd.here | with_reducible apply Upd.there | with_reducible apply Upd.append_left))) (setE_mid (j := 0) rfl)) (by decide +kernel) ?_
    rintro _ _ _ ⟨rfl, rfl, rfl⟩
    repeat (first | with_reducible (first | refine run_seq ?_ | refine run_region ?_ | refine runL_nil ?_ | refine run_skip ?_ | refine run_block ?_ | refine run_inBlock ?_) | refine run_exit rfl ?_ | refine runL_q (qt_pev tok rfl) rfl rfl rfl ?_ | refine runL_g rfl rfl (qt_pev tok rfl) rfl rfl rfl rfl rfl ?_ | refine runL_q (ql tok rfl) rfl rfl rfl ?_ | refine runL_g rfl rfl (ql tok rfl) rfl rfl rfl rfl rfl ?_ | (refine runL_op0 (sst tok rfl rfl rfl rfl rfl) ?_; rintro _ _ _ ⟨rfl, rfl, rfl⟩) | (refine runL_op (st_box rfl) rfl rfl rfl ?_; rintro _ _ _ ⟨_, rfl, rfl, rfl⟩) | (refine runL_op (st_alloc tok rfl) rfl rfl rfl ?_; rintro _ _ _ ⟨_, rfl, rfl, rfl⟩) | (refine runL_op (st_buildSlice tok rfl rfl rfl rfl rfl rfl rfl) rfl rfl rfl ?_; rintro _ _ _ ⟨_, rfl, rfl, rfl⟩) | refine prn_start mixed ?_ | refine prn_end (by decide +kernel) ?_ | refine prn_q rfl (qt_pev tok rfl) (by decide +kernel) rfl rfl rfl ?_ | refine prn_g rfl rfl rfl (qt_pev tok rfl) (by decide +kernel) rfl rfl rfl rfl rfl ?_ | refine prn_q rfl (ql tok rfl) (by decide +kernel) rfl rfl rfl ?_ | refine prn_g rfl rfl rfl (ql tok rfl) (by decide +kernel) rfl rfl rfl rfl rfl ?_ | (refine prn_e0 rfl (sst tok rfl rfl rfl rfl rfl) (by decide +kernel) ?_; rintro _ _ _ ⟨rfl, rfl, rfl⟩) | (refine prn_e1 rfl (st_box rfl) (by decide +kernel) rfl rfl rfl ?_; rintro _ _ _ ⟨_, rfl, rfl, rfl⟩) | (refine prn_e1 rfl (st_alloc tok rfl) (by decide +kernel) rfl rfl rfl ?_; rintro _ _ _ ⟨_, rfl, rfl, rfl⟩) | (refine prn_e1 rfl (st_buildSlice tok rfl rfl rfl rfl rfl rfl rfl) (by decide +kernel) rfl rfl rfl ?_; rintro _ _ _ ⟨_, rfl, rfl, rfl⟩) | (refine prn_o0 rfl (sst tok rfl rfl rfl rfl rfl) (by decide +kernel) ?_; rintro _ _ _ ⟨rfl, rfl, rfl⟩; refine ⟨by (repeat (first | exact trivial | refine And.intro (pend_q rfl rfl rfl (qt_pev tok rfl)) ?_ | refine And.intro (pend_q rfl rfl rfl (ql tok rfl)) ?_)), ?_⟩) | (refine prn_o1 rfl (st_box rfl) (by decide +kernel) rfl rfl rfl ?_; rintro _ _ _ ⟨_, rfl, rfl, rfl⟩; refine ⟨by (repeat (first | exact trivial | refine And.intro (pend_q rfl rfl rfl (qt_pev tok rfl)) ?_ | refine And.intro (pend_q rfl rfl rfl (ql tok rfl)) ?_)), ?_⟩) | (refine prn_o1 rfl (st_alloc tok rfl) (by decide +kernel) rfl rfl rfl ?_; rintro _ _ _ ⟨_, rfl, rfl, rfl⟩; refine ⟨by (repeat (first | exact trivial | refine And.intro (pend_q rfl rfl rfl (qt_pev tok rfl)) ?_ | refine And.intro (pend_q rfl rfl rfl (ql tok rfl)) ?_)), ?_⟩) | (refine prn_o1 rfl (st_buildSlice tok rfl rfl rfl rfl rfl rfl rfl) (by decide +kernel) rfl rfl rfl ?_; rintro _ _ _ ⟨_, rfl, rfl, rfl⟩; refine ⟨by (repeat (first | exact trivial | refine And.intro (pend_q rfl rfl rfl (qt_pev tok rfl)) ?_ | refine And.intro (pend_q rfl rfl rfl (ql tok rfl)) ?_)), ?_⟩) | (refine prn_e1 rfl (qt_pev tok rfl) (by decide +kernel) rfl rfl rfl ?_; rintro _ _ _ ⟨rfl, rfl, rfl⟩))
    have fin : ∀ (v : Int) (L0 : HL) (w : World), Hp M1 (Na ++ (b', .cells ⟨pre' ++ (stC tag ++ post')⟩ 9 (0, 0)) :: (b, .cells ⟨pre ++ (u8C v ++ post)⟩ 5 (0, 0)) :: L0) w →
        ∃ M2, M1.le M2 ∧ Hp M2 L0 w ∧ CoOk M2 { c' with votes := { c'.votes with xs := c'.votes.xs.set k v }, tags := { c'.tags with xs := c'.tags.xs.set k tag } } := by
      intro v L0 w hw
      have hset1 := hset (u8C v) rfl
      have hset2 := hset' (stC tag) rfl
      have hmk2 : Mk M1 { c' with votes := { c'.votes with xs := c'.votes.xs.set k v }, tags := { c'.tags with xs := c'.tags.xs.set k tag } } [(b, .cells ⟨pre ++ (u8C v ++ post)⟩ 5 (0, 0))] [(b', .cells ⟨pre' ++ (stC tag ++ post')⟩ 9 (0, 0))] Na :=
        ⟨hmk.mem, hmk.bodies, by rw [List.map_set]; exact hset1, by rw [List.map_set]; exact hset2, hmk.acks, ⟨by simpa using hmk.lv.1, hmk.lv.2⟩, ⟨by simpa using hmk.lt.1, hmk.lt.2⟩, hmk.la, hmk.dig, hmk.bod, fun t ht' => by
          rcases List.mem_or_eq_of_mem_set ht' with h | h
          · exact hmk.tag t h
          · rw [h]; exact ht⟩
      exact hmk2.frz hw
    refine run_cond rfl (fun h4 => ?_) (fun h4 => ?_)
    · rw [if_pos h4] at hC
      repeat (first | with_reducible (first | refine run_seq ?_ | refine run_region ?_ | refine runL_nil ?_ | refine run_skip ?_ | refine run_block ?_ | refine run_inBlock ?_) | refine run_exit rfl ?_)
      iterate 2 (first | refine runL_q (qt_pev tok rfl) rfl rfl rfl ?_ | refine runL_gK rfl rfl (qt_pev tok rfl) rfl rfl rfl ?_ | refine runL_gF rfl rfl rfl rfl rfl ?_ | refine runL_g rfl rfl (qt_pev tok rfl) rfl rfl rfl rfl rfl ?_ | refine runL_q (ql tok rfl) rfl rfl rfl ?_ | refine runL_gK rfl rfl (ql tok rfl) rfl rfl rfl ?_ | refine runL_gF rfl rfl rfl rfl rfl ?_ | refine runL_g rfl rfl (ql tok rfl) rfl rfl rfl rfl rfl ?_ | (refine runL_op0 (sst tok rfl rfl rfl rfl rfl) ?_; rintro _ _ _ ⟨rfl, rfl, rfl⟩) | (refine runL_op (st_box rfl) rfl rfl rfl ?_; rintro _ _ _ ⟨_, rfl, rfl, rfl⟩) | (refine runL_op (st_alloc tok rfl) rfl rfl rfl ?_; rintro _ _ _ ⟨_, rfl, rfl, rfl⟩) | (refine runL_op (st_buildSlice tok rfl rfl rfl rfl rfl rfl rfl) rfl rfl rfl ?_; rintro _ _ _ ⟨_, rfl, rfl, rfl⟩))
      refine runL_as 69 (.slice (some ⟨b, 0, none⟩) c'.votes.len cap) rfl hv ?_
      repeat (first | with_reducible (first | refine run_seq ?_ | refine run_region ?_ | refine runL_nil ?_ | refine run_skip ?_ | refine run_block ?_ | refine run_inBlock ?_) | refine run_exit rfl ?_ | refine runL_q (qt_pev tok rfl) rfl rfl rfl ?_ | refine runL_g rfl rfl (qt_pev tok rfl) rfl rfl rfl rfl rfl ?_ | refine runL_q (ql tok rfl) rfl rfl rfl ?_ | refine runL_g rfl rfl (ql tok rfl) rfl rfl rfl rfl rfl ?_ | (refine runL_op0 (sst tok rfl rfl rfl rfl rfl) ?_; rintro _ _ _ ⟨rfl, rfl, rfl⟩) | (refine runL_op (st_box rfl) rfl rfl rfl ?_; rintro _ _ _ ⟨_, rfl, rfl, rfl⟩) | (refine runL_op (st_alloc tok rfl) rfl rfl rfl ?_; rintro _ _ _ ⟨_, rfl, rfl, rfl⟩) | (refine runL_op (st_buildSlice tok rfl rfl rfl rfl rfl rfl rfl) rfl rfl rfl ?_; rintro _ _ _ ⟨_, rfl, rfl, rfl⟩) | refine runL_q (qt_indexAs (n := k) (o := pre.length) tok rfl rfl rfl rfl (fun _ => by omega) (by rw [hpre, Nat.zero_add])) rfl rfl rfl ?_ | (refine runL_op0 (st_store tok rfl rfl rfl rfl rfl (by (repeat (first | with_reducible apply Upd.here | with_reducible apply Upd.there | with_reducible apply Upd.append_left))) (setE_mid (j := 0) rfl)) ?_; rintro _ _ _ ⟨rfl, rfl, rfl⟩))
      refine run_retE hC (rs := [.cell 8 29, .tmp 9]) rfl (rl tok rfl (resT rfl resN)) fun w hw => ?_
      obtain ⟨M2, h5, h6, h7⟩ := fin 1 _ w hw
      exact ⟨M2, L, h6.drop.drop, Mem.le_trans hM1 h5, rfl, { c' with votes := { c'.votes with xs := c'.votes.xs.set k 1 }, tags := { c'.tags with xs := c'.tags.xs.set k tag } }, rfl, rfl, h7⟩
    · rw [if_neg (by rw [h4]; simp)] at hC
      repeat (first | with_reducible (first | refine run_seq ?_ | refine run_region ?_ | refine runL_nil ?_ | refine run_skip ?_ | refine run_block ?_ | refine run_inBlock ?_) | refine run_exit rfl ?_ | refine runL_q (qt_pev tok rfl) rfl rfl rfl ?_ | refine runL_g rfl rfl (qt_pev tok rfl) rfl rfl rfl rfl rfl ?_ | refine runL_q (ql tok rfl) rfl rfl rfl ?_ | refine runL_g rfl rfl (ql tok rfl) rfl rfl rfl rfl rfl ?_ | (refine runL_op0 (sst tok rfl rfl rfl rfl rfl) ?_; rintro _ _ _ ⟨rfl, rfl, rfl⟩) | (refine runL_op (st_box rfl) rfl rfl rfl ?_; rintro _ _ _ ⟨_, rfl, rfl, rfl⟩) | (refine runL_op (st_alloc tok rfl) rfl rfl rfl ?_; rintro _ _ _ ⟨_, rfl, rfl, rfl⟩) | (refine runL_op (st_buildSlice tok rfl rfl rfl rfl rfl rfl rfl) rfl rfl rfl ?_; rintro _ _ _ ⟨_, rfl, rfl, rfl⟩))
      refine run_retE hC (rs := [.cell 8 29, .tmp 9]) rfl (rl tok rfl (resT rfl resN)) fun w hw => ?_
      obtain ⟨M2, h5, h6, h7⟩ := fin 2 _ w hw
      exact ⟨M2, L, h6.drop.drop, Mem.le_trans hM1 h5, rfl, { c' with votes := { c'.votes with xs := c'.votes.xs.set k 2 }, tags := { c'.tags with xs := c'.tags.xs.set k tag } }, rfl, rfl, h7⟩
end Go.Proofs.Ytpmepmdngdkafaa
namespace Go.Chi

section
variable {P : Program} {T : TT} {ro : Option Nat} {σ : Env} {δ : Den} {cur : Path} {M : Mem} {L : HL} {d : Option Nat} {op : Op} {ty : TypeId} {pos : String} {aft : Array Edge} {g : Option (Nat × Bool)} {v : Value}

/-- a new slice of one-celled elements -/
theorem st_makeSlice (hT : TOk P T) {t e by_ : Nat} {z : Value} {x y : Operand} {k k' : IntKind} (n : Nat) (ht : und T t = some (.slice e)) (hi : sizeT T e = some 1) (hz : zeroT T e = some z) (hzc : cellsL z = [z]) (hb : bytesT T e = some by_)
    (hx : ev σ δ cur x = some (.int k (n : Int))) (hy : ev σ δ cur y = some (.int k' (n : Int))) (hroom : by_ * n ≤ 281474976710656) (hn : n < 4611686018427387904) :
    St P ro ⟨d, .makeSlice t x y, ty, pos, aft, g⟩ σ δ cur M L (fun v' M' L' => ∃ b, v' = .slice (some ⟨b, 0, none⟩) n n ∧ M = M' ∧ L' = (b, .cells ⟨List.replicate n z⟩ e (0, 0)) :: L) := fun a w hs hcur hp => by
  obtain ⟨i, hi1, his⟩ := sizeT_ok hi
  obtain ⟨i2, hi2, hz2⟩ := zeroT_ok hz
  obtain ⟨i3, hi3, rfl⟩ := bytesT_ok hb
  rw [hi1] at hi2 hi3
  cases hi2
  cases hi3
  have hrun := run_make (P := P) w t e i z (und_ok hT ht) (hT.info _ _ hi1) hz2 k k' n n (by omega) (Int.le_refl _) (by
    have h : ((i.bytes * n : Nat) : Int) ≤ 281474976710656 := by omega
    rwa [Int.natCast_mul] at h) (by omega)
  have hcells : madeCells z.cells (n * i.size) = ⟨List.replicate n z⟩ := by
    have : z.cells = #[z] := by apply Array.ext'; rw [cellsL_eq]; exact hzc
    rw [his, Nat.mul_one, this]
    exact Array.ext' (toList_madeCells_one z n)
  simp only [Int.toNat_natCast, hcells] at hrun
  refine opWp_value (v := .slice (some ⟨w.heap.size, 0, none⟩) n n) (w' := w.alloc (.cells ⟨List.replicate n z⟩ e)) ?_ ⟨M, _, hp.push _, _, rfl, rfl, rfl⟩
  rw [semAt_of (by intro c e; cases e)]
  simp only [execOp, ev_sound hs hcur hx, ev_sound hs hcur hy, Sem.run_bind, hrun, Result.andThen_ok, Sem.run_pure]
/-- one-celled elements are copied into a block of ours -/
theorem st_copy (hT : TOk P T) {x y : Operand} {t e b o dl dc b' o' sl sc : Nat} {cs news : List Value} {et : TypeId} {L' : HL} (hx : ev σ δ cur x = some (.slice (some ⟨b, o, none⟩) dl dc)) (hy : ev σ δ cur y = some (.slice (some ⟨b', o', none⟩) sl sc))
    (ht : und T t = some (.slice e)) (hi : sizeT T e = some 1) (hsrc : Cells M L b' o' news) (hlen : news.length = Nat.min sl dl) (hfit : o + news.length ≤ cs.length) (h1 : oneL news = true)
    (hu : Upd L b (.cells ⟨cs⟩ et (0, 0)) (.cells ⟨setSeg cs o news⟩ et (0, 0)) L') :
    St P ro ⟨d, .call ⟨.builtin .copy, #[x, y], #[t, t]⟩, ty, pos, aft, g⟩ σ δ cur M L (fun v' M' L'' => v' = .int .i64 (news.length : Int) ∧ M = M' ∧ L'' = L') := fun a w hse hcur hp => by
  obtain ⟨i, hi1, his⟩ := sizeT_ok hi
  have hes := ev_sound hse hcur hx
  have hey := ev_sound hse hcur hy
  have hrun := run_copy_row (P := P) w t t ty e b o dl dc ⟨b', o', none⟩ sl sc ⟨cs⟩ et news (und_ok hT ht) (by rw [hT.info _ _ hi1]; simp [his]) (hp.own _ hu.mem) hlen
    (fun j v hv => by
      have := hsrc.cell hp hv
      simpa [add_none] using this) (by simpa using hfit) (oneL_ok h1)
  refine opWp_value (v := .int .i64 (news.length : Int)) (w' := w.setRow b ⟨setSeg cs o news⟩) ?_ ⟨M, L', hp.setRow hu, rfl, rfl, rfl⟩
  rw [semAt_of (by intro c e; cases e)]
  simp only [execOp, resolve, Sem.run_bind, Sem.run_pure, Result.andThen_ok, invoke, builtin, List.map_toArray, List.map_cons, List.map_nil, hes, hey, hrun]
  rfl
end

section
variable {P : Program} {ro : Option Nat} {o : Oper} {σ : Env} {δ : Den} {cur : Path} {M : Mem} {L : HL}
/-- an operation whose guard is never met -/
theorem qt_dead {s : Nat} {b b' : Bool} {v : Value} (hl : lka σ δ cur s = some (.bool b')) (hs : (s, b) ∈ cur) (hne : b' ≠ b) : Qt P ro o σ δ cur M L v := fun a w h1 h2 h3 => by
  have e1 := lka_sound h1 h2 hl
  have e2 := h2 _ hs
  rw [e1] at e2
  injection e2 with e2
  injection e2 with e2
  exact absurd e2 hne
theorem St.frz {K K' : Value → Mem → HL → Prop} (h : St P ro o σ δ cur M L K) (hk : ∀ v M' L' w, Hp M' L' w → K v M' L' → ∃ M'' L'', Hp M'' L'' w ∧ K' v M'' L'') : St P ro o σ δ cur M L K' :=
  fun a w h1 h2 h3 => (h a w h1 h2 h3).mono fun _ _ ⟨_, _, h4, h5⟩ => hk _ _ _ _ h4 h5
/-- a block that was made just now is given up for good -/
theorem St.frz1 {V : Nat → Value} {ob : Obj} (h : St P ro o σ δ cur M L (fun v' M' L' => ∃ b, v' = V b ∧ M = M' ∧ L' = (b, ob) :: L)) : St P ro o σ δ cur M L (fun v' M' L' => M.le M' ∧ L = L' ∧ ∃ b, v' = V b ∧ M'.blk b = some ob) :=
  h.frz fun v M' L' w hw ⟨b, h1, h2, h3⟩ => by
    subst h2 h3
    obtain ⟨M2, h4, h5, h6⟩ := hw.freeze1
    exact ⟨M2, L, h6, h4, rfl, b, h1, h5⟩
end
/-- what a call makes of blocks that are given up before it -/
theorem Tr.give {P : Program} {f : FuncId} {args : List Value} {M : Mem} {N L : HL} {K : Value → Mem → HL → Prop} (hc : ∀ w, (callFunc f ⟨args⟩).run P w = .ok (.enter f ⟨args⟩) w)
    (h : ∀ M', M.le M' → (∀ b o, (b, o) ∈ N → M'.blk b = some o) → Tr P f args M' L K) : Tr P f args M (N ++ L) K := by
  refine ⟨hc, fun w hw => ?_⟩
  have key : ∀ (N : HL) (M : Mem), Hp M (N ++ L) w → ∃ M', M.le M' ∧ (∀ b o, (b, o) ∈ N → M'.blk b = some o) ∧ Hp M' L w := by
    intro N
    induction N with
    | nil => exact fun M h => ⟨M, Mem.le_refl _, (fun b o h => by cases h), h⟩
    | cons x N ih =>
      intro M h
      obtain ⟨M1, h1, h2, h3⟩ := Hp.freeze1 (b := x.1) (o := x.2) h
      obtain ⟨M2, h4, h5, h6⟩ := ih M1 h3
      exact ⟨M2, Mem.le_trans h1 h4, fun b o hm => by
        rcases List.mem_cons.1 hm with e | hm
        · cases e; exact h4.blk _ _ h2
        · exact h5 b o hm, h6⟩
  obtain ⟨M1, h1, h2, h3⟩ := key N M hw
  exact (h M1 h1 h2).2 w h3
theorem rep_flat (z : Value) : ∀ n : Nat, List.replicate n z = (List.replicate n [z]).flatten
  | 0 => rfl
  | n + 1 => by rw [List.replicate_succ, List.replicate_succ, List.flatten_cons, ← rep_flat z n]; rfl
/-- the block's cells as a slice -/
theorem SlM.rep {M : Mem} {b e n : Nat} {z : Value} (h : M.blk b = some (.cells ⟨List.replicate n z⟩ e (0, 0))) : SlM M 1 (some ⟨b, 0, none⟩) n (List.replicate n [z]) := by
  have := SlM.ofBlk (M := M) (b := b) (e := e) (size := 1) (ls := List.replicate n [z]) h (rep_flat z n) (fun l hl => by rw [(List.mem_replicate.1 hl).2]; rfl)
  simpa using this
section
variable {P : Program} {C : Cx} {n : Nat} {k : List Item} {ds : List Deferred} {σ : Env} {δ : Den} {M : Mem} {L : HL} {ops : Array Oper} {X : List Nat}
theorem pr_three {D : List Nat} (e f g : Nat) (hac : (acyc ops && chkC ops D [e, f, g]) = true) (h : chkE1 ops D e = true ∧ EffOk P C n ops k ds D X σ δ M L e) (h' : chkE1 ops D f = true ∧ EffOk P C n ops k ds D X σ δ M L f) (h'' : chkE1 ops D g = true ∧ EffOk P C n ops k ds D X σ δ M L g) : PR P C n ops k ds D X σ δ M L := by
  rw [Bool.and_eq_true] at hac
  refine pr_es [e, f, g] hac.1 hac.2 (by simp) fun x hx => ?_
  simp only [List.mem_cons, List.not_mem_nil, or_false] at hx
  rcases hx with rfl | rfl | rfl
  · exact h
  · exact h'
  · exact h''
theorem pr_four {D : List Nat} (e f g i : Nat) (hac : (acyc ops && chkC ops D [e, f, g, i]) = true) (h : chkE1 ops D e = true ∧ EffOk P C n ops k ds D X σ δ M L e) (h' : chkE1 ops D f = true ∧ EffOk P C n ops k ds D X σ δ M L f) (h'' : chkE1 ops D g = true ∧ EffOk P C n ops k ds D X σ δ M L g) (h4 : chkE1 ops D i = true ∧ EffOk P C n ops k ds D X σ δ M L i) : PR P C n ops k ds D X σ δ M L := by
  rw [Bool.and_eq_true] at hac
  refine pr_es [e, f, g, i] hac.1 hac.2 (by simp) fun x hx => ?_
  simp only [List.mem_cons, List.not_mem_nil, or_false] at hx
  rcases hx with rfl | rfl | rfl | rfl
  · exact h
  · exact h'
  · exact h''
  · exact h4
end
end Go.Chi
