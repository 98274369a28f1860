import Derived.Test.YtpmepmdngdkafaaBBA
import Derived.Test.YtpmepmdngdkafaaBBE
import Derived.Test.YtpmepmdngdkafaaBBB
namespace Go.Proofs.Ytpmepmdngdkafaa
open Go.Chi

theorem isT_nil : isT ⟨#[]⟩ = false := by decide +kernel
theorem neT_isT {t : ByteArray} (h : neT t = false) : isT t = false := by
  have e : t = ⟨#[]⟩ := by
    unfold neT at h
    rw [Bool.not_eq_false', bytes_beq] at h
    exact of_decide_eq_true h
  rw [e]; exact isT_nil
set_option maxRecDepth 10000 in
set_option maxHeartbeats 16000000 in
theorem refVote_ok (M : Mem) (L : HL) (c : Co) (h : CoOk M c) (org : Int) (yes : Bool) (tag : ByteArray) (ht : tag.size < 4611686018427387904) : Tr Try.prog 10 [.agg ⟨coC c⟩, .int .i64 org, .bool yes, .string tag] M L (CoK M L (voteA c.ab org yes tag)) := by
  refine Tr.intro 72 Try.func10 rfl rfl Try.call10 rfl ?_
  intro C hC hro
  repeat (first | with_reducible (first | refine run_seq ?_ | refine run_region ?_ | refine runL_nil ?_ | refine run_skip ?_ | refine run_block ?_ | refine run_inBlock ?_) | refine run_exit rfl ?_ | refine runL_q (qt_pev tok rfl) rfl rfl rfl ?_ | refine runL_g rfl rfl (qt_pev tok rfl) rfl rfl rfl rfl rfl ?_ | refine runL_q (ql tok rfl) rfl rfl rfl ?_ | refine runL_g rfl rfl (ql tok rfl) rfl rfl rfl rfl rfl ?_ | (refine runL_op0 (sst tok rfl rfl rfl rfl rfl) ?_; rintro _ _ _ ⟨rfl, rfl, rfl⟩) | (refine runL_op (st_box rfl) rfl rfl rfl ?_; rintro _ _ _ ⟨_, rfl, rfl, rfl⟩) | (refine runL_op (st_alloc tok rfl) rfl rfl rfl ?_; rintro _ _ _ ⟨_, rfl, rfl, rfl⟩) | (refine runL_op (st_buildSlice tok rfl rfl rfl rfl rfl rfl rfl) rfl rfl rfl ?_; rintro _ _ _ ⟨_, rfl, rfl, rfl⟩) | refine runL_q (qt_callF rfl (fun _ => refMay_ok _ _ c h)) rfl rfl rfl ?_ | refine runL_g rfl rfl (qt_callF rfl (fun _ => ref06May_ok _ _ _ ht)) rfl rfl rfl rfl rfl ?_)
  have hvb : voteBad yes tag = ((yes && !isT tag) || (!yes && neT tag)) := by
    cases h5 : neT tag
    · rw [neT_isT h5]
      unfold voteBad
      rw [h5]
      cases yes <;> simp [bne]
    · unfold voteBad isT bne
      rw [h5]
      have : (checkR tag == 0) = true ∨ (checkR tag == 0) = false := by cases (checkR tag == 0) <;> simp
      cases yes <;> cases (checkR tag == 0) <;> rfl
  refine run_cond rfl (fun h1 => ?_) (fun h1 => ?_)
  · have h2 : ¬ (mayA c.ab = true ∧ voteBad yes tag = false) := by
      have : ((!mayA c.ab || (yes && !isT tag)) || (!yes && neT tag)) = true := h1
      rintro ⟨e1, e2⟩
      rw [hvb] at e2
      rw [e1, Bool.not_true, Bool.false_or, e2] at this
      cases this
    rw [voteA, if_neg h2] at hC
    repeat (first | with_reducible (first | refine run_seq ?_ | refine run_region ?_ | refine runL_nil ?_ | refine run_skip ?_ | refine run_block ?_ | refine run_inBlock ?_) | refine run_exit rfl ?_ | refine runL_q (qt_pev tok rfl) rfl rfl rfl ?_ | refine runL_g rfl rfl (qt_pev tok rfl) rfl rfl rfl rfl rfl ?_ | refine runL_q (ql tok rfl) rfl rfl rfl ?_ | refine runL_g rfl rfl (ql tok rfl) rfl rfl rfl rfl rfl ?_ | (refine runL_op0 (sst tok rfl rfl rfl rfl rfl) ?_; rintro _ _ _ ⟨rfl, rfl, rfl⟩) | (refine runL_op (st_box rfl) rfl rfl rfl ?_; rintro _ _ _ ⟨_, rfl, rfl, rfl⟩) | (refine runL_op (st_alloc tok rfl) rfl rfl rfl ?_; rintro _ _ _ ⟨_, rfl, rfl, rfl⟩) | (refine runL_op (st_buildSlice tok rfl rfl rfl rfl rfl rfl rfl) rfl rfl rfl ?_; rintro _ _ _ ⟨_, rfl, rfl, rfl⟩))
    exact run_ret hC (rs := [.cell 8 29, .tmp 9]) rfl (rl tok rfl (resT rfl resN)) (fun _ h => h.drop.drop.drop) (CoK.none _ _ _ (Mem.le_refl _))
  have h2 : mayA c.ab = true ∧ voteBad yes tag = false := by
    have : ((!mayA c.ab || (yes && !isT tag)) || (!yes && neT tag)) = false := h1
    rw [hvb]
    rw [Bool.or_assoc, Bool.or_eq_false_iff] at this
    exact ⟨by simpa using this.1, this.2⟩
  obtain ⟨hm, hb⟩ := h2
  have hr := mayA_rows h hm
  rw [voteA, if_pos ⟨hm, hb⟩] at hC
  repeat (first | with_reducible (first | refine run_seq ?_ | refine run_region ?_ | refine runL_nil ?_ | refine run_skip ?_ | refine run_block ?_ | refine run_inBlock ?_) | refine run_exit rfl ?_ | refine runL_q (qt_pev tok rfl) rfl rfl rfl ?_ | refine runL_g rfl rfl (qt_pev tok rfl) rfl rfl rfl rfl rfl ?_ | refine runL_q (ql tok rfl) rfl rfl rfl ?_ | refine runL_g rfl rfl (ql tok rfl) rfl rfl rfl rfl rfl ?_ | (refine runL_op0 (sst tok rfl rfl rfl rfl rfl) ?_; rintro _ _ _ ⟨rfl, rfl, rfl⟩) | (refine runL_op (st_box rfl) rfl rfl rfl ?_; rintro _ _ _ ⟨_, rfl, rfl, rfl⟩) | (refine runL_op (st_alloc tok rfl) rfl rfl rfl ?_; rintro _ _ _ ⟨_, rfl, rfl, rfl⟩) | (refine runL_op (st_buildSlice tok rfl rfl rfl rfl rfl rfl rfl) rfl rfl rfl ?_; rintro _ _ _ ⟨_, rfl, rfl, rfl⟩) | refine runL_q (qt_callF rfl (fun _ => place_ok _ _ c.mem h.mem org)) rfl rfl rfl ?_)
  rw [show c.ab.mem = c.mem.xs from rfl] at hC
  cases hk : memR c.mem.xs org with
  | none =>
    rw [hk] at hC
    refine run_cond rfl (fun _ => ?_) (fun h => by cases h)
    repeat (first | with_reducible (first | refine run_seq ?_ | refine run_region ?_ | refine runL_nil ?_ | refine run_skip ?_ | refine run_block ?_ | refine run_inBlock ?_) | refine run_exit rfl ?_ | refine runL_q (qt_pev tok rfl) rfl rfl rfl ?_ | refine runL_g rfl rfl (qt_pev tok rfl) rfl rfl rfl rfl rfl ?_ | refine runL_q (ql tok rfl) rfl rfl rfl ?_ | refine runL_g rfl rfl (ql tok rfl) rfl rfl rfl rfl rfl ?_ | (refine runL_op0 (sst tok rfl rfl rfl rfl rfl) ?_; rintro _ _ _ ⟨rfl, rfl, rfl⟩) | (refine runL_op (st_box rfl) rfl rfl rfl ?_; rintro _ _ _ ⟨_, rfl, rfl, rfl⟩) | (refine runL_op (st_alloc tok rfl) rfl rfl rfl ?_; rintro _ _ _ ⟨_, rfl, rfl, rfl⟩) | (refine runL_op (st_buildSlice tok rfl rfl rfl rfl rfl rfl rfl) rfl rfl rfl ?_; rintro _ _ _ ⟨_, rfl, rfl, rfl⟩))
    exact run_ret hC (rs := [.cell 8 29, .tmp 9]) rfl (rl tok rfl (resT rfl resN)) (fun _ h => h.drop.drop.drop) (CoK.none _ _ _ (Mem.le_refl _))
  | some k =>
    rw [hk] at hC
    have hkl := memR_lt hk
    have hml := h.mem.len
    have hrv := hr.votes
    have hrt := hr.tags
    have hka : k < c.votes.len := by omega
    obtain ⟨b, off, vt, hvv, hvt, hcv⟩ := SU8.at' h.votes hka
    have hgd : (c.ab.votes[k]?).getD 0 = vt := by rw [show c.ab.votes = c.votes.xs from rfl, hvt]; rfl
    simp only [hgd] at hC
    refine run_cond rfl (fun h => ?_) (fun _ => ?_)
    · exfalso
      have : ((k : Nat) : Int) < 0 := of_decide_eq_true h
      omega
    repeat (first | with_reducible (first | refine run_seq ?_ | refine run_region ?_ | refine runL_nil ?_ | refine run_skip ?_ | refine run_block ?_ | refine run_inBlock ?_) | refine run_exit rfl ?_ | refine runL_q (qt_pev tok rfl) rfl rfl rfl ?_ | refine runL_g rfl rfl (qt_pev tok rfl) rfl rfl rfl rfl rfl ?_ | refine runL_q (ql tok rfl) rfl rfl rfl ?_ | refine runL_g rfl rfl (ql tok rfl) rfl rfl rfl rfl rfl ?_ | (refine runL_op0 (sst tok rfl rfl rfl rfl rfl) ?_; rintro _ _ _ ⟨rfl, rfl, rfl⟩) | (refine runL_op (st_box rfl) rfl rfl rfl ?_; rintro _ _ _ ⟨_, rfl, rfl, rfl⟩) | (refine runL_op (st_alloc tok rfl) rfl rfl rfl ?_; rintro _ _ _ ⟨_, rfl, rfl, rfl⟩) | (refine runL_op (st_buildSlice tok rfl rfl rfl rfl rfl rfl rfl) rfl rfl rfl ?_; rintro _ _ _ ⟨_, rfl, rfl, rfl⟩))
    refine run_cond rfl (fun h2 => ?_) (fun h2 => ?_)
    · rw [if_pos (show (c.ab.state != 1) = true from h2)] at hC
      repeat (first | with_reducible (first | refine run_seq ?_ | refine run_region ?_ | refine runL_nil ?_ | refine run_skip ?_ | refine run_block ?_ | refine run_inBlock ?_) | refine run_exit rfl ?_ | refine runL_q (qt_pev tok rfl) rfl rfl rfl ?_ | refine runL_g rfl rfl (qt_pev tok rfl) rfl rfl rfl rfl rfl ?_ | refine runL_q (ql tok rfl) rfl rfl rfl ?_ | refine runL_g rfl rfl (ql tok rfl) rfl rfl rfl rfl rfl ?_ | (refine runL_op0 (sst tok rfl rfl rfl rfl rfl) ?_; rintro _ _ _ ⟨rfl, rfl, rfl⟩) | (refine runL_op (st_box rfl) rfl rfl rfl ?_; rintro _ _ _ ⟨_, rfl, rfl, rfl⟩) | (refine runL_op (st_alloc tok rfl) rfl rfl rfl ?_; rintro _ _ _ ⟨_, rfl, rfl, rfl⟩) | (refine runL_op (st_buildSlice tok rfl rfl rfl rfl rfl rfl rfl) rfl rfl rfl ?_; rintro _ _ _ ⟨_, rfl, rfl, rfl⟩))
      exact run_ret hC (rs := [.cell 8 29, .tmp 9]) rfl (rl tok rfl (resT rfl resN)) (fun _ h => h.drop.drop.drop) (CoK.none _ _ _ (Mem.le_refl _))
    rw [if_neg (by rw [show (c.ab.state != 1) = false from h2]; simp)] at hC
    repeat (first | with_reducible (first | refine run_seq ?_ | refine run_region ?_ | refine runL_nil ?_ | refine run_skip ?_ | refine run_block ?_ | refine run_inBlock ?_) | refine run_exit rfl ?_)
    iterate 2 (first | refine runL_q (qt_pev tok rfl) rfl rfl rfl ?_ | refine runL_gK rfl rfl (qt_pev tok rfl) rfl rfl rfl ?_ | refine runL_gF rfl rfl rfl rfl rfl ?_ | refine runL_g rfl rfl (qt_pev tok rfl) rfl rfl rfl rfl rfl ?_ | refine runL_q (ql tok rfl) rfl rfl rfl ?_ | refine runL_gK rfl rfl (ql tok rfl) rfl rfl rfl ?_ | refine runL_gF rfl rfl rfl rfl rfl ?_ | refine runL_g rfl rfl (ql tok rfl) rfl rfl rfl rfl rfl ?_ | (refine runL_op0 (sst tok rfl rfl rfl rfl rfl) ?_; rintro _ _ _ ⟨rfl, rfl, rfl⟩) | (refine runL_op (st_box rfl) rfl rfl rfl ?_; rintro _ _ _ ⟨_, rfl, rfl, rfl⟩) | (refine runL_op (st_alloc tok rfl) rfl rfl rfl ?_; rintro _ _ _ ⟨_, rfl, rfl, rfl⟩) | (refine runL_op (st_buildSlice tok rfl rfl rfl rfl rfl rfl rfl) rfl rfl rfl ?_; rintro _ _ _ ⟨_, rfl, rfl, rfl⟩))
    refine runL_as 48 (.slice (some ⟨b, off, none⟩) c.votes.len c.votes.cap) rfl hvv ?_
    iterate 1 (first | refine runL_q (qt_pev tok rfl) rfl rfl rfl ?_ | refine runL_gK rfl rfl (qt_pev tok rfl) rfl rfl rfl ?_ | refine runL_gF rfl rfl rfl rfl rfl ?_ | refine runL_g rfl rfl (qt_pev tok rfl) rfl rfl rfl rfl rfl ?_ | refine runL_q (ql tok rfl) rfl rfl rfl ?_ | refine runL_gK rfl rfl (ql tok rfl) rfl rfl rfl ?_ | refine runL_gF rfl rfl rfl rfl rfl ?_ | refine runL_g rfl rfl (ql tok rfl) rfl rfl rfl rfl rfl ?_ | (refine runL_op0 (sst tok rfl rfl rfl rfl rfl) ?_; rintro _ _ _ ⟨rfl, rfl, rfl⟩) | (refine runL_op (st_box rfl) rfl rfl rfl ?_; rintro _ _ _ ⟨_, rfl, rfl, rfl⟩) | (refine runL_op (st_alloc tok rfl) rfl rfl rfl ?_; rintro _ _ _ ⟨_, rfl, rfl, rfl⟩) | (refine runL_op (st_buildSlice tok rfl rfl rfl rfl rfl rfl rfl) rfl rfl rfl ?_; rintro _ _ _ ⟨_, rfl, rfl, rfl⟩))
    refine runL_as 49 (.int .i64 (k : Int)) rfl rfl ?_
    repeat (first | with_reducible (first | refine run_seq ?_ | refine run_region ?_ | refine runL_nil ?_ | refine run_skip ?_ | refine run_block ?_ | refine run_inBlock ?_) | refine run_exit rfl ?_ | refine runL_q (qt_pev tok rfl) rfl rfl rfl ?_ | refine runL_g rfl rfl (qt_pev tok rfl) rfl rfl rfl rfl rfl ?_ | refine runL_q (ql tok rfl) rfl rfl rfl ?_ | refine runL_g rfl rfl (ql tok rfl) rfl rfl rfl rfl rfl ?_ | (refine runL_op0 (sst tok rfl rfl rfl rfl rfl) ?_; rintro _ _ _ ⟨rfl, rfl, rfl⟩) | (refine runL_op (st_box rfl) rfl rfl rfl ?_; rintro _ _ _ ⟨_, rfl, rfl, rfl⟩) | (refine runL_op (st_alloc tok rfl) rfl rfl rfl ?_; rintro _ _ _ ⟨_, rfl, rfl, rfl⟩) | (refine runL_op (st_buildSlice tok rfl rfl rfl rfl rfl rfl rfl) rfl rfl rfl ?_; rintro _ _ _ ⟨_, rfl, rfl, rfl⟩) | refine runL_q (qt_indexN tok rfl rfl rfl rfl (fun _ => by omega)) rfl rfl rfl ?_ | refine runL_g rfl rfl (qt_indexN tok rfl rfl rfl rfl (fun _ => by omega)) rfl rfl rfl rfl rfl ?_ | refine runL_q (qt_ldM tok rfl hcv rfl) rfl rfl rfl ?_ | refine runL_g rfl rfl (qt_ldM tok rfl hcv rfl) rfl rfl rfl rfl rfl ?_ | refine runL_q (qt_ldM0 tok rfl hcv rfl) rfl rfl rfl ?_ | refine runL_g rfl rfl (qt_ldM0 tok rfl hcv rfl) rfl rfl rfl rfl rfl ?_)
    refine run_cond rfl (fun h3 => ?_) (fun h3 => ?_)
    · rw [if_pos (show (vt != 0) = true from h3)] at hC
      repeat (first | with_reducible (first | refine run_seq ?_ | refine run_region ?_ | refine runL_nil ?_ | refine run_skip ?_ | refine run_block ?_ | refine run_inBlock ?_) | refine run_exit rfl ?_ | refine runL_q (qt_pev tok rfl) rfl rfl rfl ?_ | refine runL_g rfl rfl (qt_pev tok rfl) rfl rfl rfl rfl rfl ?_ | refine runL_q (ql tok rfl) rfl rfl rfl ?_ | refine runL_g rfl rfl (ql tok rfl) rfl rfl rfl rfl rfl ?_ | (refine runL_op0 (sst tok rfl rfl rfl rfl rfl) ?_; rintro _ _ _ ⟨rfl, rfl, rfl⟩) | (refine runL_op (st_box rfl) rfl rfl rfl ?_; rintro _ _ _ ⟨_, rfl, rfl, rfl⟩) | (refine runL_op (st_alloc tok rfl) rfl rfl rfl ?_; rintro _ _ _ ⟨_, rfl, rfl, rfl⟩) | (refine runL_op (st_buildSlice tok rfl rfl rfl rfl rfl rfl rfl) rfl rfl rfl ?_; rintro _ _ _ ⟨_, rfl, rfl, rfl⟩))
      exact run_ret hC (rs := [.cell 8 29, .tmp 9]) rfl (rl tok rfl (resT rfl resN)) (fun _ h => h.drop.drop.drop) (CoK.none _ _ _ (Mem.le_refl _))
    rw [if_neg (by rw [show (vt != 0) = false from h3]; simp)] at hC
    repeat (first | with_reducible (first | refine run_seq ?_ | refine run_region ?_ | refine runL_nil ?_ | refine run_skip ?_ | refine run_block ?_ | refine run_inBlock ?_) | refine run_exit rfl ?_ | refine runL_q (qt_pev tok rfl) rfl rfl rfl ?_ | refine runL_g rfl rfl (qt_pev tok rfl) rfl rfl rfl rfl rfl ?_ | refine runL_q (ql tok rfl) rfl rfl rfl ?_ | refine runL_g rfl rfl (ql tok rfl) rfl rfl rfl rfl rfl ?_ | (refine runL_op0 (sst tok rfl rfl rfl rfl rfl) ?_; rintro _ _ _ ⟨rfl, rfl, rfl⟩) | (refine runL_op (st_box rfl) rfl rfl rfl ?_; rintro _ _ _ ⟨_, rfl, rfl, rfl⟩) | (refine runL_op (st_alloc tok rfl) rfl rfl rfl ?_; rintro _ _ _ ⟨_, rfl, rfl, rfl⟩) | (refine runL_op (st_buildSlice tok rfl rfl rfl rfl rfl rfl rfl) rfl rfl rfl ?_; rintro _ _ _ ⟨_, rfl, rfl, rfl⟩))
    refine runL_op (st_callF rfl (fun _ => refOwn_ok _ _ c h)) rfl rfl rfl ?_
    rintro _ M1 _ ⟨hM1, c', Nv, Nt, Na, rfl, hab, rfl, hmk⟩
    obtain ⟨x1, x2, x3, x4, x5, x6⟩ := ab_len hab
    rw [← hab] at hC
    have hvt' : c'.votes.xs[k]? = some vt := by rw [x3]; exact hvt
    have htl0 := h.tags.len
    obtain ⟨tg, htg⟩ : ∃ y, c'.tags.xs[k]? = some y := ⟨_, List.getElem?_eq_getElem (by rw [x4]; omega)⟩
    obtain ⟨b', cap, pre, post, hv, rfl, hpre, hset⟩ := OS.mid (ls := c'.votes.xs.map u8C) hmk.votes (u8C_all _) (by simpa using hmk.lv.1) (k := k) (c := u8C vt) (by rw [List.getElem?_map, hvt']; rfl)
    obtain ⟨b2, cap', pre', post', hv', rfl, hpre', hset'⟩ := OS.mid (ls := c'.tags.xs.map stC) hmk.tags (stC_all _) (by simpa using hmk.lt.1) (k := k) (c := stC tg) (by rw [List.getElem?_map, htg]; rfl)
    have hvl := hmk.lv.1
    have htl := hmk.lt.1
    have hkv' : k < c'.votes.xs.length := (List.getElem?_eq_some_iff.1 hvt').1
    have hkt' : k < c'.tags.xs.length := (List.getElem?_eq_some_iff.1 htg).1
    simp only [List.cons_append, List.nil_append]
    have fin : ∀ (v : Int) (L0 : HL) (w : World), Hp M1 (Na ++ (b2, .cells ⟨pre' ++ (stC tag ++ post')⟩ 9 (0, 0)) :: (b', .cells ⟨pre ++ (u8C v ++ post)⟩ 5 (0, 0)) :: L0) w →
        ∃ M2, M1.le M2 ∧ Hp M2 L0 w ∧ CoOk M2 { c' with votes := { c'.votes with xs := c'.votes.xs.set k v }, tags := { c'.tags with xs := c'.tags.xs.set k tag } } := by
      intro v L0 w hw
      have hset1 := hset (u8C v) rfl
      have hset2 := hset' (stC tag) rfl
      have hmk2 : Mk M1 { c' with votes := { c'.votes with xs := c'.votes.xs.set k v }, tags := { c'.tags with xs := c'.tags.xs.set k tag } } [(b', .cells ⟨pre ++ (u8C v ++ post)⟩ 5 (0, 0))] [(b2, .cells ⟨pre' ++ (stC tag ++ post')⟩ 9 (0, 0))] Na :=
        ⟨hmk.mem, hmk.bodies, by rw [List.map_set]; exact hset1, by rw [List.map_set]; exact hset2, hmk.acks, ⟨by simpa using hmk.lv.1, hmk.lv.2⟩, ⟨by simpa using hmk.lt.1, hmk.lt.2⟩, hmk.la, hmk.dig, hmk.bod, fun t ht' => by
          rcases List.mem_or_eq_of_mem_set ht' with h | h
          · exact hmk.tag t h
          · rw [h]; exact ht⟩
      exact hmk2.frz hw
    repeat (first | with_reducible (first | refine run_seq ?_ | refine run_region ?_ | refine runL_nil ?_ | refine run_skip ?_ | refine run_block ?_ | refine run_inBlock ?_) | refine run_exit rfl ?_ | refine runL_q (qt_pev tok rfl) rfl rfl rfl ?_ | refine runL_g rfl rfl (qt_pev tok rfl) rfl rfl rfl rfl rfl ?_ | refine runL_q (ql tok rfl) rfl rfl rfl ?_ | refine runL_g rfl rfl (ql tok rfl) rfl rfl rfl rfl rfl ?_ | (refine runL_op0 (sst tok rfl rfl rfl rfl rfl) ?_; rintro _ _ _ ⟨rfl, rfl, rfl⟩) | (refine runL_op (st_box rfl) rfl rfl rfl ?_; rintro _ _ _ ⟨_, rfl, rfl, rfl⟩) | (refine runL_op (st_alloc tok rfl) rfl rfl rfl ?_; rintro _ _ _ ⟨_, rfl, rfl, rfl⟩) | (refine runL_op (st_buildSlice tok rfl rfl rfl rfl rfl rfl rfl) rfl rfl rfl ?_; rintro _ _ _ ⟨_, rfl, rfl, rfl⟩) | refine prn_start mixed ?_ | refine prn_end (by decide +kernel) ?_ | refine prn_q rfl (qt_pev tok rfl) (by decide +kernel) rfl rfl rfl ?_ | refine prn_g rfl rfl rfl (qt_pev tok rfl) (by decide +kernel) rfl rfl rfl rfl rfl ?_ | refine prn_q rfl (ql tok rfl) (by decide +kernel) rfl rfl rfl ?_ | refine prn_g rfl rfl rfl (ql tok rfl) (by decide +kernel) rfl rfl rfl rfl rfl ?_ | (refine prn_e0 rfl (sst tok rfl rfl rfl rfl rfl) (by decide +kernel) ?_; rintro _ _ _ ⟨rfl, rfl, rfl⟩) | (refine prn_e1 rfl (st_box rfl) (by decide +kernel) rfl rfl rfl ?_; rintro _ _ _ ⟨_, rfl, rfl, rfl⟩) | (refine prn_e1 rfl (st_alloc tok rfl) (by decide +kernel) rfl rfl rfl ?_; rintro _ _ _ ⟨_, rfl, rfl, rfl⟩) | (refine prn_e1 rfl (st_buildSlice tok rfl rfl rfl rfl rfl rfl rfl) (by decide +kernel) rfl rfl rfl ?_; rintro _ _ _ ⟨_, rfl, rfl, rfl⟩) | (refine prn_o0 rfl (sst tok rfl rfl rfl rfl rfl) (by decide +kernel) ?_; rintro _ _ _ ⟨rfl, rfl, rfl⟩; refine ⟨by (repeat (first | exact trivial | refine And.intro (pend_q rfl rfl rfl (qt_pev tok rfl)) ?_ | refine And.intro (pend_q rfl rfl rfl (ql tok rfl)) ?_)), ?_⟩) | (refine prn_o1 rfl (st_box rfl) (by decide +kernel) rfl rfl rfl ?_; rintro _ _ _ ⟨_, rfl, rfl, rfl⟩; refine ⟨by (repeat (first | exact trivial | refine And.intro (pend_q rfl rfl rfl (qt_pev tok rfl)) ?_ | refine And.intro (pend_q rfl rfl rfl (ql tok rfl)) ?_)), ?_⟩) | (refine prn_o1 rfl (st_alloc tok rfl) (by decide +kernel) rfl rfl rfl ?_; rintro _ _ _ ⟨_, rfl, rfl, rfl⟩; refine ⟨by (repeat (first | exact trivial | refine And.intro (pend_q rfl rfl rfl (qt_pev tok rfl)) ?_ | refine And.intro (pend_q rfl rfl rfl (ql tok rfl)) ?_)), ?_⟩) | (refine prn_o1 rfl (st_buildSlice tok rfl rfl rfl rfl rfl rfl rfl) (by decide +kernel) rfl rfl rfl ?_; rintro _ _ _ ⟨_, rfl, rfl, rfl⟩; refine ⟨by (repeat (first | exact trivial | refine And.intro (pend_q rfl rfl rfl (qt_pev tok rfl)) ?_ | refine And.intro (pend_q rfl rfl rfl (ql tok rfl)) ?_)), ?_⟩) | (refine prn_e1 rfl (qt_pev tok rfl) (by decide +kernel) rfl rfl rfl ?_; rintro _ _ _ ⟨rfl, rfl, rfl⟩))
    refine runL_as 60 (.slice (some ⟨b', 0, none⟩) c'.votes.len cap) rfl hv ?_
    refine runL_as 61 (.int .i64 (k : Int)) rfl rfl ?_
    repeat (first | with_reducible (first | refine run_seq ?_ | refine run_region ?_ | refine runL_nil ?_ | refine run_skip ?_ | refine run_block ?_ | refine run_inBlock ?_) | refine run_exit rfl ?_ | refine runL_q (qt_pev tok rfl) rfl rfl rfl ?_ | refine runL_g rfl rfl (qt_pev tok rfl) rfl rfl rfl rfl rfl ?_ | refine runL_q (ql tok rfl) rfl rfl rfl ?_ | refine runL_g rfl rfl (ql tok rfl) rfl rfl rfl rfl rfl ?_ | (refine runL_op0 (sst tok rfl rfl rfl rfl rfl) ?_; rintro _ _ _ ⟨rfl, rfl, rfl⟩) | (refine runL_op (st_box rfl) rfl rfl rfl ?_; rintro _ _ _ ⟨_, rfl, rfl, rfl⟩) | (refine runL_op (st_alloc tok rfl) rfl rfl rfl ?_; rintro _ _ _ ⟨_, rfl, rfl, rfl⟩) | (refine runL_op (st_buildSlice tok rfl rfl rfl rfl rfl rfl rfl) rfl rfl rfl ?_; rintro _ _ _ ⟨_, rfl, rfl, rfl⟩) | refine runL_q (qt_indexAs (n := k) (o := pre.length) tok rfl rfl rfl rfl (fun _ => by omega) (by rw [hpre, Nat.zero_add])) rfl rfl rfl ?_ | (refine runL_op0 (st_store tok rfl rfl rfl rfl rfl (by (repeat (first | with_reducible apply Upd.here | with_reducible apply Upd.there | with_reducible apply Upd.append_left))) (setE_mid (j := 0) rfl)) ?_; rintro _ _ _ ⟨rfl, rfl, rfl⟩))
    refine run_cond rfl (fun h4 => ?_) (fun h4 => ?_)
    · rw [if_pos h4] at hC
      repeat (first | with_reducible (first | refine run_seq ?_ | refine run_region ?_ | refine runL_nil ?_ | refine run_skip ?_ | refine run_block ?_ | refine run_inBlock ?_) | refine run_exit rfl ?_ | refine runL_q (qt_pev tok rfl) rfl rfl rfl ?_ | refine runL_g rfl rfl (qt_pev tok rfl) rfl rfl rfl rfl rfl ?_ | refine runL_q (ql tok rfl) rfl rfl rfl ?_ | refine runL_g rfl rfl (ql tok rfl) rfl rfl rfl rfl rfl ?_ | (refine runL_op0 (sst tok rfl rfl rfl rfl rfl) ?_; rintro _ _ _ ⟨rfl, rfl, rfl⟩) | (refine runL_op (st_box rfl) rfl rfl rfl ?_; rintro _ _ _ ⟨_, rfl, rfl, rfl⟩) | (refine runL_op (st_alloc tok rfl) rfl rfl rfl ?_; rintro _ _ _ ⟨_, rfl, rfl, rfl⟩) | (refine runL_op (st_buildSlice tok rfl rfl rfl rfl rfl rfl rfl) rfl rfl rfl ?_; rintro _ _ _ ⟨_, rfl, rfl, rfl⟩))
      refine runL_as 64 (.slice (some ⟨b', 0, none⟩) c'.votes.len cap) rfl hv ?_
      refine runL_as 65 (.int .i64 (k : Int)) rfl rfl ?_
      repeat (first | with_reducible (first | refine run_seq ?_ | refine run_region ?_ | refine runL_nil ?_ | refine run_skip ?_ | refine run_block ?_ | refine run_inBlock ?_) | refine run_exit rfl ?_ | refine runL_q (qt_pev tok rfl) rfl rfl rfl ?_ | refine runL_g rfl rfl (qt_pev tok rfl) rfl rfl rfl rfl rfl ?_ | refine runL_q (ql tok rfl) rfl rfl rfl ?_ | refine runL_g rfl rfl (ql tok rfl) rfl rfl rfl rfl rfl ?_ | (refine runL_op0 (sst tok rfl rfl rfl rfl rfl) ?_; rintro _ _ _ ⟨rfl, rfl, rfl⟩) | (refine runL_op (st_box rfl) rfl rfl rfl ?_; rintro _ _ _ ⟨_, rfl, rfl, rfl⟩) | (refine runL_op (st_alloc tok rfl) rfl rfl rfl ?_; rintro _ _ _ ⟨_, rfl, rfl, rfl⟩) | (refine runL_op (st_buildSlice tok rfl rfl rfl rfl rfl rfl rfl) rfl rfl rfl ?_; rintro _ _ _ ⟨_, rfl, rfl, rfl⟩) | refine runL_q (qt_indexAs (n := k) (o := pre.length) tok rfl rfl rfl rfl (fun _ => by omega) (by rw [hpre, Nat.zero_add])) rfl rfl rfl ?_ | (refine runL_op0 (st_store tok rfl rfl rfl rfl rfl (by (repeat (first | with_reducible apply Upd.here | with_reducible apply Upd.there | with_reducible apply Upd.append_left))) (setE_mid (j := 0) rfl)) ?_; rintro _ _ _ ⟨rfl, rfl, rfl⟩))
      refine runL_as 67 (.slice (some ⟨b2, 0, none⟩) c'.tags.len cap') rfl hv' ?_
      refine runL_as 68 (.int .i64 (k : Int)) rfl rfl ?_
      repeat (first | with_reducible (first | refine run_seq ?_ | refine run_region ?_ | refine runL_nil ?_ | refine run_skip ?_ | refine run_block ?_ | refine run_inBlock ?_) | refine run_exit rfl ?_ | refine runL_q (qt_pev tok rfl) rfl rfl rfl ?_ | refine runL_g rfl rfl (qt_pev tok rfl) rfl rfl rfl rfl rfl ?_ | refine runL_q (ql tok rfl) rfl rfl rfl ?_ | refine runL_g rfl rfl (ql tok rfl) rfl rfl rfl rfl rfl ?_ | (refine runL_op0 (sst tok rfl rfl rfl rfl rfl) ?_; rintro _ _ _ ⟨rfl, rfl, rfl⟩) | (refine runL_op (st_box rfl) rfl rfl rfl ?_; rintro _ _ _ ⟨_, rfl, rfl, rfl⟩) | (refine runL_op (st_alloc tok rfl) rfl rfl rfl ?_; rintro _ _ _ ⟨_, rfl, rfl, rfl⟩) | (refine runL_op (st_buildSlice tok rfl rfl rfl rfl rfl rfl rfl) rfl rfl rfl ?_; rintro _ _ _ ⟨_, rfl, rfl, rfl⟩) | refine runL_q (qt_indexAs (n := k) (o := pre'.length) tok rfl rfl rfl rfl (fun _ => by omega) (by rw [hpre', Nat.zero_add])) rfl rfl rfl ?_ | (refine runL_op0 (st_store tok rfl rfl rfl rfl rfl (by (repeat (first | with_reducible apply Upd.here | with_reducible apply Upd.there | with_reducible apply Upd.append_left))) (setE_mid (j := 0) rfl)) ?_; rintro _ _ _ ⟨rfl, rfl, rfl⟩))
      refine run_retE hC (rs := [.cell 8 29, .tmp 9]) rfl (rl tok rfl (resT rfl resN)) fun w hw => ?_
      obtain ⟨M2, h5, h6, h7⟩ := fin 1 _ w hw.drop
      exact ⟨M2, L, h6.drop.drop.drop, Mem.le_trans hM1 h5, rfl, { c' with votes := { c'.votes with xs := c'.votes.xs.set k 1 }, tags := { c'.tags with xs := c'.tags.xs.set k tag } }, rfl, by rw [← x1]; rfl, h7⟩
    · rw [if_neg (by rw [h4]; simp)] at hC
      repeat (first | with_reducible (first | refine run_seq ?_ | refine run_region ?_ | refine runL_nil ?_ | refine run_skip ?_ | refine run_block ?_ | refine run_inBlock ?_) | refine run_exit rfl ?_ | refine runL_q (qt_pev tok rfl) rfl rfl rfl ?_ | refine runL_g rfl rfl (qt_pev tok rfl) rfl rfl rfl rfl rfl ?_ | refine runL_q (ql tok rfl) rfl rfl rfl ?_ | refine runL_g rfl rfl (ql tok rfl) rfl rfl rfl rfl rfl ?_ | (refine runL_op0 (sst tok rfl rfl rfl rfl rfl) ?_; rintro _ _ _ ⟨rfl, rfl, rfl⟩) | (refine runL_op (st_box rfl) rfl rfl rfl ?_; rintro _ _ _ ⟨_, rfl, rfl, rfl⟩) | (refine runL_op (st_alloc tok rfl) rfl rfl rfl ?_; rintro _ _ _ ⟨_, rfl, rfl, rfl⟩) | (refine runL_op (st_buildSlice tok rfl rfl rfl rfl rfl rfl rfl) rfl rfl rfl ?_; rintro _ _ _ ⟨_, rfl, rfl, rfl⟩))
      refine runL_as 67 (.slice (some ⟨b2, 0, none⟩) c'.tags.len cap') rfl hv' ?_
      refine runL_as 68 (.int .i64 (k : Int)) rfl rfl ?_
      repeat (first | with_reducible (first | refine run_seq ?_ | refine run_region ?_ | refine runL_nil ?_ | refine run_skip ?_ | refine run_block ?_ | refine run_inBlock ?_) | refine run_exit rfl ?_ | refine runL_q (qt_pev tok rfl) rfl rfl rfl ?_ | refine runL_g rfl rfl (qt_pev tok rfl) rfl rfl rfl rfl rfl ?_ | refine runL_q (ql tok rfl) rfl rfl rfl ?_ | refine runL_g rfl rfl (ql tok rfl) rfl rfl rfl rfl rfl ?_ | (refine runL_op0 (sst tok rfl rfl rfl rfl rfl) ?_; rintro _ _ _ ⟨rfl, rfl, rfl⟩) | (refine runL_op (st_box rfl) rfl rfl rfl ?_; rintro _ _ _ ⟨_, rfl, rfl, rfl⟩) | (refine runL_op (st_alloc tok rfl) rfl rfl rfl ?_; rintro _ _ _ ⟨_, rfl, rfl, rfl⟩) | (refine runL_op (st_buildSlice tok rfl rfl rfl rfl rfl rfl rfl) rfl rfl rfl ?_; rintro _ _ _ ⟨_, rfl, rfl, rfl⟩) | refine runL_q (qt_indexAs (n := k) (o := pre'.length) tok rfl rfl rfl rfl (fun _ => by omega) (by rw [hpre', Nat.zero_add])) rfl rfl rfl ?_ | (refine runL_op0 (st_store tok rfl rfl rfl rfl rfl (by (repeat (first | with_reducible apply Upd.here | with_reducible apply Upd.there | with_reducible apply Upd.append_left))) (setE_mid (j := 0) rfl)) ?_; rintro _ _ _ ⟨rfl, rfl, rfl⟩))
      refine run_retE hC (rs := [.cell 8 29, .tmp 9]) rfl (rl tok rfl (resT rfl resN)) fun w hw => ?_
      obtain ⟨M2, h5, h6, h7⟩ := fin 2 _ w hw.drop
      exact ⟨M2, L, h6.drop.drop.drop, Mem.le_trans hM1 h5, rfl, { c' with votes := { c'.votes with xs := c'.votes.xs.set k 2 }, tags := { c'.tags with xs := c'.tags.xs.set k tag } }, rfl, by rw [← x1]; rfl, h7⟩
end Go.Proofs.Ytpmepmdngdkafaa
namespace Go.Proofs.Ytpmepmdngdkafaa
open Go.Chi

/-! ### the document's new transaction -/
theorem newA_big {t : Tx} {au : Int} {mem : List Mb} {bodies : List ByteArray} {now : Int} (h : 6 < mem.length ∨ 6 < bodies.length) : newA t au mem bodies now = (caZ, 2) := by
  unfold newA
  split
  · rfl
  · rename_i h1
    have h2 : 6 < bodies.length := h.resolve_left h1
    have h3 : ¬ mayA (newC t au mem bodies now) = true := by
      intro e
      simp only [mayA, coOk, Bool.and_eq_true] at e
      have hr := e.1.1.2
      simp only [rowsR, bodiesR, Bool.and_eq_true, Bool.or_eq_true, beq_iff_eq] at hr
      have h4 := hr.1.1.1.1
      simp only [newC, Ca.co] at h4
      rcases h4 with h4 | ⟨_, h4⟩
      · omega
      · simp at h4
    rw [madeA, if_neg h3]
set_option maxRecDepth 10000 in
set_option maxHeartbeats 32000000 in
theorem refNew_ok (M : Mem) (L : HL) (t : Tx) (au : Int) (s : SMb) (bs : SStr) (now : Int) (hs : MbOk M s) (hb : StOk M bs) (hd : ∀ m ∈ s.xs, m.digest.size < 4611686018427387904) (hbd : ∀ t ∈ bs.xs, t.size < 4611686018427387904) : Tr Try.prog 25 [.agg ⟨txC t⟩, .int .i64 au, s.v, bs.v, .int .i64 now] M L (CoK M L (newA t au s.xs bs.xs now)) := by
  have hl := hs.len
  have hbl := hb.len
  have h6 := hs.2
  refine Tr.intro 42 Try.func25 rfl rfl Try.call25 rfl ?_
  intro C hC hro
  repeat (first | with_reducible (first | refine run_seq ?_ | refine run_region ?_ | refine runL_nil ?_ | refine run_skip ?_ | refine run_block ?_ | refine run_inBlock ?_) | refine run_exit rfl ?_ | refine runL_q (qt_pev tok rfl) rfl rfl rfl ?_ | refine runL_g rfl rfl (qt_pev tok rfl) rfl rfl rfl rfl rfl ?_ | refine runL_q (ql tok rfl) rfl rfl rfl ?_ | refine runL_g rfl rfl (ql tok rfl) rfl rfl rfl rfl rfl ?_ | (refine runL_op0 (sst tok rfl rfl rfl rfl rfl) ?_; rintro _ _ _ ⟨rfl, rfl, rfl⟩) | (refine runL_op (st_box rfl) rfl rfl rfl ?_; rintro _ _ _ ⟨_, rfl, rfl, rfl⟩) | (refine runL_op (st_alloc tok rfl) rfl rfl rfl ?_; rintro _ _ _ ⟨_, rfl, rfl, rfl⟩) | (refine runL_op (st_buildSlice tok rfl rfl rfl rfl rfl rfl rfl) rfl rfl rfl ?_; rintro _ _ _ ⟨_, rfl, rfl, rfl⟩))
  rename_i b5 b10
  refine run_cond rfl (fun h => ?_) (fun h => ?_)
  · have h1 : 6 < s.xs.length ∨ 6 < bs.xs.length := by
      have : (decide ((s.len : Int) > 6) || decide ((bs.len : Int) > 6)) = true := h
      simp at this
      omega
    rw [newA_big h1] at hC
    repeat (first | with_reducible (first | refine run_seq ?_ | refine run_region ?_ | refine runL_nil ?_ | refine run_skip ?_ | refine run_block ?_ | refine run_inBlock ?_) | refine run_exit rfl ?_ | refine runL_q (qt_pev tok rfl) rfl rfl rfl ?_ | refine runL_g rfl rfl (qt_pev tok rfl) rfl rfl rfl rfl rfl ?_ | refine runL_q (ql tok rfl) rfl rfl rfl ?_ | refine runL_g rfl rfl (ql tok rfl) rfl rfl rfl rfl rfl ?_ | (refine runL_op0 (sst tok rfl rfl rfl rfl rfl) ?_; rintro _ _ _ ⟨rfl, rfl, rfl⟩) | (refine runL_op (st_box rfl) rfl rfl rfl ?_; rintro _ _ _ ⟨_, rfl, rfl, rfl⟩) | (refine runL_op (st_alloc tok rfl) rfl rfl rfl ?_; rintro _ _ _ ⟨_, rfl, rfl, rfl⟩) | (refine runL_op (st_buildSlice tok rfl rfl rfl rfl rfl rfl rfl) rfl rfl rfl ?_; rintro _ _ _ ⟨_, rfl, rfl, rfl⟩))
    exact run_ret hC (rs := [.cell 10 29, .tmp 11]) rfl (rl tok rfl (resT rfl resN)) (fun _ h => h.drop.drop) (CoK.none _ _ _ (Mem.le_refl _))
  have hle : ¬ 6 < s.xs.length := by
    have : (decide ((s.len : Int) > 6) || decide ((bs.len : Int) > 6)) = false := h
    simp at this
    omega
  rw [newA, if_neg hle] at hC
  refine run_skip ?_
  refine run_seq ?_
  refine run_cut (fun σ' M' L' => ∃ b13 c', M.le M' ∧ CoOk M' c' ∧ c'.ab = newC t au s.xs bs.xs now ∧ L' = (b13, .cells ⟨coC c'⟩ 29 (0, 0)) :: (b10, .cells ⟨coC coZ⟩ 29 (0, 0)) :: (b5, .cells ⟨txC t⟩ 23 (0, 0)) :: L ∧ σ' = [(13, .pointer (some ⟨b13, 0, none⟩)), (10, .pointer (some ⟨b10, 0, none⟩)), (11, .int .i64 0)]) ?_ ?_
  · rintro _ M1 _ ⟨b13, c', hM1, hok, hab, rfl, rfl⟩
    rw [← hab] at hC
    repeat (first | with_reducible (first | refine run_seq ?_ | refine run_region ?_ | refine runL_nil ?_ | refine run_skip ?_ | refine run_block ?_ | refine run_inBlock ?_) | refine run_exit rfl ?_ | refine runL_q (qt_pev tok rfl) rfl rfl rfl ?_ | refine runL_g rfl rfl (qt_pev tok rfl) rfl rfl rfl rfl rfl ?_ | refine runL_q (ql tok rfl) rfl rfl rfl ?_ | refine runL_g rfl rfl (ql tok rfl) rfl rfl rfl rfl rfl ?_ | (refine runL_op0 (sst tok rfl rfl rfl rfl rfl) ?_; rintro _ _ _ ⟨rfl, rfl, rfl⟩) | (refine runL_op (st_box rfl) rfl rfl rfl ?_; rintro _ _ _ ⟨_, rfl, rfl, rfl⟩) | (refine runL_op (st_alloc tok rfl) rfl rfl rfl ?_; rintro _ _ _ ⟨_, rfl, rfl, rfl⟩) | (refine runL_op (st_buildSlice tok rfl rfl rfl rfl rfl rfl rfl) rfl rfl rfl ?_; rintro _ _ _ ⟨_, rfl, rfl, rfl⟩) | refine runL_q (qt_callF rfl (fun _ => refMay_ok _ _ c' hok)) rfl rfl rfl ?_)
    refine run_cond rfl (fun h7 => ?_) (fun h7 => ?_)
    · have h8 : ¬ mayA c'.ab = true := by
        have : (!mayA c'.ab) = true := h7
        simpa using this
      rw [madeA, if_neg h8] at hC
      repeat (first | with_reducible (first | refine run_seq ?_ | refine run_region ?_ | refine runL_nil ?_ | refine run_skip ?_ | refine run_block ?_ | refine run_inBlock ?_) | refine run_exit rfl ?_ | refine runL_q (qt_pev tok rfl) rfl rfl rfl ?_ | refine runL_g rfl rfl (qt_pev tok rfl) rfl rfl rfl rfl rfl ?_ | refine runL_q (ql tok rfl) rfl rfl rfl ?_ | refine runL_g rfl rfl (ql tok rfl) rfl rfl rfl rfl rfl ?_ | (refine runL_op0 (sst tok rfl rfl rfl rfl rfl) ?_; rintro _ _ _ ⟨rfl, rfl, rfl⟩) | (refine runL_op (st_box rfl) rfl rfl rfl ?_; rintro _ _ _ ⟨_, rfl, rfl, rfl⟩) | (refine runL_op (st_alloc tok rfl) rfl rfl rfl ?_; rintro _ _ _ ⟨_, rfl, rfl, rfl⟩) | (refine runL_op (st_buildSlice tok rfl rfl rfl rfl rfl rfl rfl) rfl rfl rfl ?_; rintro _ _ _ ⟨_, rfl, rfl, rfl⟩))
      exact run_ret hC (rs := [.cell 10 29, .tmp 11]) rfl (rl tok rfl (resT rfl resN)) (fun _ h => h.drop.drop.drop) (CoK.none _ _ _ hM1)
    · have h8 : mayA c'.ab = true := by
        have : (!mayA c'.ab) = false := h7
        simpa using this
      rw [madeA, if_pos h8] at hC
      repeat (first | with_reducible (first | refine run_seq ?_ | refine run_region ?_ | refine runL_nil ?_ | refine run_skip ?_ | refine run_block ?_ | refine run_inBlock ?_) | refine run_exit rfl ?_ | refine runL_q (qt_pev tok rfl) rfl rfl rfl ?_ | refine runL_g rfl rfl (qt_pev tok rfl) rfl rfl rfl rfl rfl ?_ | refine runL_q (ql tok rfl) rfl rfl rfl ?_ | refine runL_g rfl rfl (ql tok rfl) rfl rfl rfl rfl rfl ?_ | (refine runL_op0 (sst tok rfl rfl rfl rfl rfl) ?_; rintro _ _ _ ⟨rfl, rfl, rfl⟩) | (refine runL_op (st_box rfl) rfl rfl rfl ?_; rintro _ _ _ ⟨_, rfl, rfl, rfl⟩) | (refine runL_op (st_alloc tok rfl) rfl rfl rfl ?_; rintro _ _ _ ⟨_, rfl, rfl, rfl⟩) | (refine runL_op (st_buildSlice tok rfl rfl rfl rfl rfl rfl rfl) rfl rfl rfl ?_; rintro _ _ _ ⟨_, rfl, rfl, rfl⟩))
      exact run_ret hC (rs := [.cell 10 29, .tmp 11]) rfl (rl tok rfl (resT rfl resN)) (fun _ h => h.drop.drop.drop) ⟨hM1, rfl, c', rfl, rfl, hok⟩
  intro hnext
  have hMM := Mem.le_refl M
  refine prn_start mixed ?_
  refine pr_q 0 (by decide +kernel) rfl (ql tok rfl) rfl rfl rfl ?_
  refine pr_q 1 (by decide +kernel) rfl (qt_pev tok rfl) rfl rfl rfl ?_
  refine pr_q 2 (by decide +kernel) rfl (qt_pev tok rfl) rfl rfl rfl ?_
  refine pr_q 3 (by decide +kernel) rfl (qt_pev tok rfl) rfl rfl rfl ?_
  refine pr_q 4 (by decide +kernel) rfl (qt_pev tok rfl) rfl rfl rfl ?_
  refine pr_q 6 (by decide +kernel) rfl (qt_pev tok rfl) rfl rfl rfl ?_
  refine pr_q 8 (by decide +kernel) rfl (qt_pev tok rfl) rfl rfl rfl ?_
  refine pr_q 10 (by decide +kernel) rfl (qt_pev tok rfl) rfl rfl rfl ?_
  refine pr_four 5 7 9 13 (by decide +kernel) ?_ ?_ ?_ ?_
  · refine eff1 5 rfl (St.frz1 (st_makeSlice (n := s.len) tok rfl rfl rfl rfl rfl rfl rfl (by omega) (by omega))) (by decide +kernel) (qs := _) rfl rfl rfl rfl ?_
    rintro _ M5 _ ⟨hM5, rfl, b5, rfl, hb5⟩
    refine ⟨by (repeat (first | exact trivial | refine And.intro (pend_q rfl rfl rfl (qt_pev tok rfl)) ?_ | refine And.intro (pend_q rfl rfl rfl (ql tok rfl)) ?_ | refine And.intro (pend_q rfl rfl rfl (Qt.as (qt_pev tok rfl) hc1v.symm)) ?_)), ?_⟩
    have hMM := Mem.le_trans hMM hM5
    have hs := MbOk.le hM5 hs
    have hb := StOk.le hM5 hb
    refine pr_three 7 9 13 (by decide +kernel) ?_ ?_ ?_
    · refine eff1 7 rfl (St.frz1 (st_makeSlice (n := s.len) tok rfl rfl rfl rfl rfl rfl rfl (by omega) (by omega))) (by decide +kernel) (qs := _) rfl rfl rfl rfl ?_
      rintro _ M7 _ ⟨hM7, rfl, b7, rfl, hb7⟩
      refine ⟨by (repeat (first | exact trivial | refine And.intro (pend_q rfl rfl rfl (qt_pev tok rfl)) ?_ | refine And.intro (pend_q rfl rfl rfl (ql tok rfl)) ?_ | refine And.intro (pend_q rfl rfl rfl (Qt.as (qt_pev tok rfl) hc1v.symm)) ?_)), ?_⟩
      have hMM := Mem.le_trans hMM hM7
      have hs := MbOk.le hM7 hs
      have hb := StOk.le hM7 hb
      have hb5 := hM7.blk _ _ hb5
      refine pr_two 9 13 (by decide +kernel) ?_ ?_
      · refine eff1 9 rfl (St.frz1 (st_makeSlice (n := s.len) tok rfl rfl rfl rfl rfl rfl rfl (by omega) (by omega))) (by decide +kernel) (qs := _) rfl rfl rfl rfl ?_
        rintro _ M9 _ ⟨hM9, rfl, b9, rfl, hb9⟩
        refine ⟨by (repeat (first | exact trivial | refine And.intro (pend_q rfl rfl rfl (qt_pev tok rfl)) ?_ | refine And.intro (pend_q rfl rfl rfl (ql tok rfl)) ?_ | refine And.intro (pend_q rfl rfl rfl (Qt.as (qt_pev tok rfl) hc1v.symm)) ?_)), ?_⟩
        have hMM := Mem.le_trans hMM hM9
        have hs := MbOk.le hM9 hs
        have hb := StOk.le hM9 hb
        have hb5 := hM9.blk _ _ hb5
        have hb7 := hM9.blk _ _ hb7
        obtain ⟨c1, hc1e⟩ : ∃ c1 : Co, c1 = ⟨t, au, s, bs, ⟨some ⟨b5, 0, none⟩, s.len, s.len, List.replicate s.len 0⟩, ⟨some ⟨b7, 0, none⟩, s.len, s.len, List.replicate s.len ⟨#[]⟩⟩, ⟨some ⟨b9, 0, none⟩, s.len, s.len, List.replicate s.len false⟩, 1, now, -1⟩ := ⟨_, rfl⟩
        have hc1 : CoOk _ c1 := hc1e ▸ newCo hs hb hb5 hb7 hb9 hd hbd t au now
        have hc1v : (Value.agg ⟨coC c1⟩) = .agg ⟨coC ⟨t, au, s, bs, ⟨some ⟨b5, 0, none⟩, s.len, s.len, List.replicate s.len 0⟩, ⟨some ⟨b7, 0, none⟩, s.len, s.len, List.replicate s.len ⟨#[]⟩⟩, ⟨some ⟨b9, 0, none⟩, s.len, s.len, List.replicate s.len false⟩, 1, now, -1⟩⟩ := by rw [hc1e]
        refine pr_q 11 (by decide +kernel) rfl (Qt.as (qt_pev tok rfl) hc1v.symm) rfl rfl rfl ?_
        refine pr_two 12 13 (by decide +kernel) ?_ ?_
        · refine eff1 12 rfl (st_callF rfl (fun _ => refOwn_frz _ _ c1 hc1)) (by decide +kernel) (qs := _) rfl rfl rfl rfl ?_
          rintro _ M12 _ ⟨hM12, rfl, c', rfl, hab, hok⟩
          refine ⟨by (repeat (first | exact trivial | refine And.intro (pend_q rfl rfl rfl (qt_pev tok rfl)) ?_ | refine And.intro (pend_q rfl rfl rfl (ql tok rfl)) ?_ | refine And.intro (pend_q rfl rfl rfl (Qt.as (qt_pev tok rfl) hc1v.symm)) ?_)), ?_⟩
          refine pr_one 13 (by decide +kernel) (eff1 13 rfl (st_alloc tok rfl) (by decide +kernel) (qs := _) rfl rfl rfl rfl ?_)
          rintro _ _ _ ⟨b13, rfl, rfl, rfl⟩
          refine ⟨by (repeat (first | exact trivial | refine And.intro (pend_q rfl rfl rfl (qt_pev tok rfl)) ?_ | refine And.intro (pend_q rfl rfl rfl (ql tok rfl)) ?_ | refine And.intro (pend_q rfl rfl rfl (Qt.as (qt_pev tok rfl) hc1v.symm)) ?_)), ?_⟩
          refine pr_one 14 (by decide +kernel) (eff0 14 rfl (sst tok rfl rfl rfl rfl rfl) (by decide +kernel) (qs := _) rfl ?_)
          rintro _ _ _ ⟨rfl, rfl, rfl⟩
          refine ⟨by (repeat (first | exact trivial | refine And.intro (pend_q rfl rfl rfl (qt_pev tok rfl)) ?_ | refine And.intro (pend_q rfl rfl rfl (ql tok rfl)) ?_ | refine And.intro (pend_q rfl rfl rfl (Qt.as (qt_pev tok rfl) hc1v.symm)) ?_)), ?_⟩
          refine pr_end (by decide +kernel) (by decide +kernel) ?_
          exact run_sub' (hnext _ _ _ ⟨b13, c', Mem.le_trans hMM hM12, hok, hab.trans (newAb hl hc1e), rfl, rfl⟩) ⟨rfl, rfl, rfl, trivial⟩
        · refine eff1 13 rfl (st_alloc tok rfl) (by decide +kernel) (qs := _) rfl rfl rfl rfl ?_
          rintro _ _ _ ⟨b13, rfl, rfl, rfl⟩
          refine ⟨by (repeat (first | exact trivial | refine And.intro (pend_q rfl rfl rfl (qt_pev tok rfl)) ?_ | refine And.intro (pend_q rfl rfl rfl (ql tok rfl)) ?_ | refine And.intro (pend_q rfl rfl rfl (Qt.as (qt_pev tok rfl) hc1v.symm)) ?_)), ?_⟩
          refine pr_one 12 (by decide +kernel) (eff1 12 rfl (st_callF rfl (fun _ => refOwn_frz _ _ c1 hc1)) (by decide +kernel) (qs := _) rfl rfl rfl rfl ?_)
          rintro _ M12 _ ⟨hM12, rfl, c', rfl, hab, hok⟩
          refine ⟨by (repeat (first | exact trivial | refine And.intro (pend_q rfl rfl rfl (qt_pev tok rfl)) ?_ | refine And.intro (pend_q rfl rfl rfl (ql tok rfl)) ?_ | refine And.intro (pend_q rfl rfl rfl (Qt.as (qt_pev tok rfl) hc1v.symm)) ?_)), ?_⟩
          refine pr_one 14 (by decide +kernel) (eff0 14 rfl (sst tok rfl rfl rfl rfl rfl) (by decide +kernel) (qs := _) rfl ?_)
          rintro _ _ _ ⟨rfl, rfl, rfl⟩
          refine ⟨by (repeat (first | exact trivial | refine And.intro (pend_q rfl rfl rfl (qt_pev tok rfl)) ?_ | refine And.intro (pend_q rfl rfl rfl (ql tok rfl)) ?_ | refine And.intro (pend_q rfl rfl rfl (Qt.as (qt_pev tok rfl) hc1v.symm)) ?_)), ?_⟩
          refine pr_end (by decide +kernel) (by decide +kernel) ?_
          exact run_sub' (hnext _ _ _ ⟨b13, c', Mem.le_trans hMM hM12, hok, hab.trans (newAb hl hc1e), rfl, rfl⟩) ⟨rfl, rfl, rfl, trivial⟩
      · refine eff1 13 rfl (st_alloc tok rfl) (by decide +kernel) (qs := _) rfl rfl rfl rfl ?_
        rintro _ _ _ ⟨b13, rfl, rfl, rfl⟩
        refine ⟨by (repeat (first | exact trivial | refine And.intro (pend_q rfl rfl rfl (qt_pev tok rfl)) ?_ | refine And.intro (pend_q rfl rfl rfl (ql tok rfl)) ?_ | refine And.intro (pend_q rfl rfl rfl (Qt.as (qt_pev tok rfl) hc1v.symm)) ?_)), ?_⟩
        refine pr_one 9 (by decide +kernel) (eff1 9 rfl (St.frz1 (st_makeSlice (n := s.len) tok rfl rfl rfl rfl rfl rfl rfl (by omega) (by omega))) (by decide +kernel) (qs := _) rfl rfl rfl rfl ?_)
        rintro _ M9 _ ⟨hM9, rfl, b9, rfl, hb9⟩
        refine ⟨by (repeat (first | exact trivial | refine And.intro (pend_q rfl rfl rfl (qt_pev tok rfl)) ?_ | refine And.intro (pend_q rfl rfl rfl (ql tok rfl)) ?_ | refine And.intro (pend_q rfl rfl rfl (Qt.as (qt_pev tok rfl) hc1v.symm)) ?_)), ?_⟩
        have hMM := Mem.le_trans hMM hM9
        have hs := MbOk.le hM9 hs
        have hb := StOk.le hM9 hb
        have hb5 := hM9.blk _ _ hb5
        have hb7 := hM9.blk _ _ hb7
        obtain ⟨c1, hc1e⟩ : ∃ c1 : Co, c1 = ⟨t, au, s, bs, ⟨some ⟨b5, 0, none⟩, s.len, s.len, List.replicate s.len 0⟩, ⟨some ⟨b7, 0, none⟩, s.len, s.len, List.replicate s.len ⟨#[]⟩⟩, ⟨some ⟨b9, 0, none⟩, s.len, s.len, List.replicate s.len false⟩, 1, now, -1⟩ := ⟨_, rfl⟩
        have hc1 : CoOk _ c1 := hc1e ▸ newCo hs hb hb5 hb7 hb9 hd hbd t au now
        have hc1v : (Value.agg ⟨coC c1⟩) = .agg ⟨coC ⟨t, au, s, bs, ⟨some ⟨b5, 0, none⟩, s.len, s.len, List.replicate s.len 0⟩, ⟨some ⟨b7, 0, none⟩, s.len, s.len, List.replicate s.len ⟨#[]⟩⟩, ⟨some ⟨b9, 0, none⟩, s.len, s.len, List.replicate s.len false⟩, 1, now, -1⟩⟩ := by rw [hc1e]
        refine pr_q 11 (by decide +kernel) rfl (Qt.as (qt_pev tok rfl) hc1v.symm) rfl rfl rfl ?_
        refine pr_one 12 (by decide +kernel) (eff1 12 rfl (st_callF rfl (fun _ => refOwn_frz _ _ c1 hc1)) (by decide +kernel) (qs := _) rfl rfl rfl rfl ?_)
        rintro _ M12 _ ⟨hM12, rfl, c', rfl, hab, hok⟩
        refine ⟨by (repeat (first | exact trivial | refine And.intro (pend_q rfl rfl rfl (qt_pev tok rfl)) ?_ | refine And.intro (pend_q rfl rfl rfl (ql tok rfl)) ?_ | refine And.intro (pend_q rfl rfl rfl (Qt.as (qt_pev tok rfl) hc1v.symm)) ?_)), ?_⟩
        refine pr_one 14 (by decide +kernel) (eff0 14 rfl (sst tok rfl rfl rfl rfl rfl) (by decide +kernel) (qs := _) rfl ?_)
        rintro _ _ _ ⟨rfl, rfl, rfl⟩
        refine ⟨by (repeat (first | exact trivial | refine And.intro (pend_q rfl rfl rfl (qt_pev tok rfl)) ?_ | refine And.intro (pend_q rfl rfl rfl (ql tok rfl)) ?_ | refine And.intro (pend_q rfl rfl rfl (Qt.as (qt_pev tok rfl) hc1v.symm)) ?_)), ?_⟩
        refine pr_end (by decide +kernel) (by decide +kernel) ?_
        exact run_sub' (hnext _ _ _ ⟨b13, c', Mem.le_trans hMM hM12, hok, hab.trans (newAb hl hc1e), rfl, rfl⟩) ⟨rfl, rfl, rfl, trivial⟩
    · refine eff1 9 rfl (St.frz1 (st_makeSlice (n := s.len) tok rfl rfl rfl rfl rfl rfl rfl (by omega) (by omega))) (by decide +kernel) (qs := _) rfl rfl rfl rfl ?_
      rintro _ M9 _ ⟨hM9, rfl, b9, rfl, hb9⟩
      refine ⟨by (repeat (first | exact trivial | refine And.intro (pend_q rfl rfl rfl (qt_pev tok rfl)) ?_ | refine And.intro (pend_q rfl rfl rfl (ql tok rfl)) ?_ | refine And.intro (pend_q rfl rfl rfl (Qt.as (qt_pev tok rfl) hc1v.symm)) ?_)), ?_⟩
      have hMM := Mem.le_trans hMM hM9
      have hs := MbOk.le hM9 hs
      have hb := StOk.le hM9 hb
      have hb5 := hM9.blk _ _ hb5
      refine pr_two 7 13 (by decide +kernel) ?_ ?_
      · refine eff1 7 rfl (St.frz1 (st_makeSlice (n := s.len) tok rfl rfl rfl rfl rfl rfl rfl (by omega) (by omega))) (by decide +kernel) (qs := _) rfl rfl rfl rfl ?_
        rintro _ M7 _ ⟨hM7, rfl, b7, rfl, hb7⟩
        refine ⟨by (repeat (first | exact trivial | refine And.intro (pend_q rfl rfl rfl (qt_pev tok rfl)) ?_ | refine And.intro (pend_q rfl rfl rfl (ql tok rfl)) ?_ | refine And.intro (pend_q rfl rfl rfl (Qt.as (qt_pev tok rfl) hc1v.symm)) ?_)), ?_⟩
        have hMM := Mem.le_trans hMM hM7
        have hs := MbOk.le hM7 hs
        have hb := StOk.le hM7 hb
        have hb5 := hM7.blk _ _ hb5
        have hb9 := hM7.blk _ _ hb9
        obtain ⟨c1, hc1e⟩ : ∃ c1 : Co, c1 = ⟨t, au, s, bs, ⟨some ⟨b5, 0, none⟩, s.len, s.len, List.replicate s.len 0⟩, ⟨some ⟨b7, 0, none⟩, s.len, s.len, List.replicate s.len ⟨#[]⟩⟩, ⟨some ⟨b9, 0, none⟩, s.len, s.len, List.replicate s.len false⟩, 1, now, -1⟩ := ⟨_, rfl⟩
        have hc1 : CoOk _ c1 := hc1e ▸ newCo hs hb hb5 hb7 hb9 hd hbd t au now
        have hc1v : (Value.agg ⟨coC c1⟩) = .agg ⟨coC ⟨t, au, s, bs, ⟨some ⟨b5, 0, none⟩, s.len, s.len, List.replicate s.len 0⟩, ⟨some ⟨b7, 0, none⟩, s.len, s.len, List.replicate s.len ⟨#[]⟩⟩, ⟨some ⟨b9, 0, none⟩, s.len, s.len, List.replicate s.len false⟩, 1, now, -1⟩⟩ := by rw [hc1e]
        refine pr_q 11 (by decide +kernel) rfl (Qt.as (qt_pev tok rfl) hc1v.symm) rfl rfl rfl ?_
        refine pr_two 12 13 (by decide +kernel) ?_ ?_
        · refine eff1 12 rfl (st_callF rfl (fun _ => refOwn_frz _ _ c1 hc1)) (by decide +kernel) (qs := _) rfl rfl rfl rfl ?_
          rintro _ M12 _ ⟨hM12, rfl, c', rfl, hab, hok⟩
          refine ⟨by (repeat (first | exact trivial | refine And.intro (pend_q rfl rfl rfl (qt_pev tok rfl)) ?_ | refine And.intro (pend_q rfl rfl rfl (ql tok rfl)) ?_ | refine And.intro (pend_q rfl rfl rfl (Qt.as (qt_pev tok rfl) hc1v.symm)) ?_)), ?_⟩
          refine pr_one 13 (by decide +kernel) (eff1 13 rfl (st_alloc tok rfl) (by decide +kernel) (qs := _) rfl rfl rfl rfl ?_)
          rintro _ _ _ ⟨b13, rfl, rfl, rfl⟩
          refine ⟨by (repeat (first | exact trivial | refine And.intro (pend_q rfl rfl rfl (qt_pev tok rfl)) ?_ | refine And.intro (pend_q rfl rfl rfl (ql tok rfl)) ?_ | refine And.intro (pend_q rfl rfl rfl (Qt.as (qt_pev tok rfl) hc1v.symm)) ?_)), ?_⟩
          refine pr_one 14 (by decide +kernel) (eff0 14 rfl (sst tok rfl rfl rfl rfl rfl) (by decide +kernel) (qs := _) rfl ?_)
          rintro _ _ _ ⟨rfl, rfl, rfl⟩
          refine ⟨by (repeat (first | exact trivial | refine And.intro (pend_q rfl rfl rfl (qt_pev tok rfl)) ?_ | refine And.intro (pend_q rfl rfl rfl (ql tok rfl)) ?_ | refine And.intro (pend_q rfl rfl rfl (Qt.as (qt_pev tok rfl) hc1v.symm)) ?_)), ?_⟩
          refine pr_end (by decide +kernel) (by decide +kernel) ?_
          exact run_sub' (hnext _ _ _ ⟨b13, c', Mem.le_trans hMM hM12, hok, hab.trans (newAb hl hc1e), rfl, rfl⟩) ⟨rfl, rfl, rfl, trivial⟩
        · refine eff1 13 rfl (st_alloc tok rfl) (by decide +kernel) (qs := _) rfl rfl rfl rfl ?_
          rintro _ _ _ ⟨b13, rfl, rfl, rfl⟩
          refine ⟨by (repeat (first | exact trivial | refine And.intro (pend_q rfl rfl rfl (qt_pev tok rfl)) ?_ | refine And.intro (pend_q rfl rfl rfl (ql tok rfl)) ?_ | refine And.intro (pend_q rfl rfl rfl (Qt.as (qt_pev tok rfl) hc1v.symm)) ?_)), ?_⟩
          refine pr_one 12 (by decide +kernel) (eff1 12 rfl (st_callF rfl (fun _ => refOwn_frz _ _ c1 hc1)) (by decide +kernel) (qs := _) rfl rfl rfl rfl ?_)
          rintro _ M12 _ ⟨hM12, rfl, c', rfl, hab, hok⟩
          refine ⟨by (repeat (first | exact trivial | refine And.intro (pend_q rfl rfl rfl (qt_pev tok rfl)) ?_ | refine And.intro (pend_q rfl rfl rfl (ql tok rfl)) ?_ | refine And.intro (pend_q rfl rfl rfl (Qt.as (qt_pev tok rfl) hc1v.symm)) ?_)), ?_⟩
          refine pr_one 14 (by decide +kernel) (eff0 14 rfl (sst tok rfl rfl rfl rfl rfl) (by decide +kernel) (qs := _) rfl ?_)
          rintro _ _ _ ⟨rfl, rfl, rfl⟩
          refine ⟨by (repeat (first | exact trivial | refine And.intro (pend_q rfl rfl rfl (qt_pev tok rfl)) ?_ | refine And.intro (pend_q rfl rfl rfl (ql tok rfl)) ?_ | refine And.intro (pend_q rfl rfl rfl (Qt.as (qt_pev tok rfl) hc1v.symm)) ?_)), ?_⟩
          refine pr_end (by decide +kernel) (by decide +kernel) ?_
          exact run_sub' (hnext _ _ _ ⟨b13, c', Mem.le_trans hMM hM12, hok, hab.trans (newAb hl hc1e), rfl, rfl⟩) ⟨rfl, rfl, rfl, trivial⟩
      · refine eff1 13 rfl (st_alloc tok rfl) (by decide +kernel) (qs := _) rfl rfl rfl rfl ?_
        rintro _ _ _ ⟨b13, rfl, rfl, rfl⟩
        refine ⟨by (repeat (first | exact trivial | refine And.intro (pend_q rfl rfl rfl (qt_pev tok rfl)) ?_ | refine And.intro (pend_q rfl rfl rfl (ql tok rfl)) ?_ | refine And.intro (pend_q rfl rfl rfl (Qt.as (qt_pev tok rfl) hc1v.symm)) ?_)), ?_⟩
        refine pr_one 7 (by decide +kernel) (eff1 7 rfl (St.frz1 (st_makeSlice (n := s.len) tok rfl rfl rfl rfl rfl rfl rfl (by omega) (by omega))) (by decide +kernel) (qs := _) rfl rfl rfl rfl ?_)
        rintro _ M7 _ ⟨hM7, rfl, b7, rfl, hb7⟩
        refine ⟨by (repeat (first | exact trivial | refine And.intro (pend_q rfl rfl rfl (qt_pev tok rfl)) ?_ | refine And.intro (pend_q rfl rfl rfl (ql tok rfl)) ?_ | refine And.intro (pend_q rfl rfl rfl (Qt.as (qt_pev tok rfl) hc1v.symm)) ?_)), ?_⟩
        have hMM := Mem.le_trans hMM hM7
        have hs := MbOk.le hM7 hs
        have hb := StOk.le hM7 hb
        have hb5 := hM7.blk _ _ hb5
        have hb9 := hM7.blk _ _ hb9
        obtain ⟨c1, hc1e⟩ : ∃ c1 : Co, c1 = ⟨t, au, s, bs, ⟨some ⟨b5, 0, none⟩, s.len, s.len, List.replicate s.len 0⟩, ⟨some ⟨b7, 0, none⟩, s.len, s.len, List.replicate s.len ⟨#[]⟩⟩, ⟨some ⟨b9, 0, none⟩, s.len, s.len, List.replicate s.len false⟩, 1, now, -1⟩ := ⟨_, rfl⟩
        have hc1 : CoOk _ c1 := hc1e ▸ newCo hs hb hb5 hb7 hb9 hd hbd t au now
        have hc1v : (Value.agg ⟨coC c1⟩) = .agg ⟨coC ⟨t, au, s, bs, ⟨some ⟨b5, 0, none⟩, s.len, s.len, List.replicate s.len 0⟩, ⟨some ⟨b7, 0, none⟩, s.len, s.len, List.replicate s.len ⟨#[]⟩⟩, ⟨some ⟨b9, 0, none⟩, s.len, s.len, List.replicate s.len false⟩, 1, now, -1⟩⟩ := by rw [hc1e]
        refine pr_q 11 (by decide +kernel) rfl (Qt.as (qt_pev tok rfl) hc1v.symm) rfl rfl rfl ?_
        refine pr_one 12 (by decide +kernel) (eff1 12 rfl (st_callF rfl (fun _ => refOwn_frz _ _ c1 hc1)) (by decide +kernel) (qs := _) rfl rfl rfl rfl ?_)
        rintro _ M12 _ ⟨hM12, rfl, c', rfl, hab, hok⟩
        refine ⟨by (repeat (first | exact trivial | refine And.intro (pend_q rfl rfl rfl (qt_pev tok rfl)) ?_ | refine And.intro (pend_q rfl rfl rfl (ql tok rfl)) ?_ | refine And.intro (pend_q rfl rfl rfl (Qt.as (qt_pev tok rfl) hc1v.symm)) ?_)), ?_⟩
        refine pr_one 14 (by decide +kernel) (eff0 14 rfl (sst tok rfl rfl rfl rfl rfl) (by decide +kernel) (qs := _) rfl ?_)
        rintro _ _ _ ⟨rfl, rfl, rfl⟩
        refine ⟨by (repeat (first | exact trivial | refine And.intro (pend_q rfl rfl rfl (qt_pev tok rfl)) ?_ | refine And.intro (pend_q rfl rfl rfl (ql tok rfl)) ?_ | refine And.intro (pend_q rfl rfl rfl (Qt.as (qt_pev tok rfl) hc1v.symm)) ?_)), ?_⟩
        refine pr_end (by decide +kernel) (by decide +kernel) ?_
        exact run_sub' (hnext _ _ _ ⟨b13, c', Mem.le_trans hMM hM12, hok, hab.trans (newAb hl hc1e), rfl, rfl⟩) ⟨rfl, rfl, rfl, trivial⟩
    · refine eff1 13 rfl (st_alloc tok rfl) (by decide +kernel) (qs := _) rfl rfl rfl rfl ?_
      rintro _ _ _ ⟨b13, rfl, rfl, rfl⟩
      refine ⟨by (repeat (first | exact trivial | refine And.intro (pend_q rfl rfl rfl (qt_pev tok rfl)) ?_ | refine And.intro (pend_q rfl rfl rfl (ql tok rfl)) ?_ | refine And.intro (pend_q rfl rfl rfl (Qt.as (qt_pev tok rfl) hc1v.symm)) ?_)), ?_⟩
      refine pr_two 7 9 (by decide +kernel) ?_ ?_
      · refine eff1 7 rfl (St.frz1 (st_makeSlice (n := s.len) tok rfl rfl rfl rfl rfl rfl rfl (by omega) (by omega))) (by decide +kernel) (qs := _) rfl rfl rfl rfl ?_
        rintro _ M7 _ ⟨hM7, rfl, b7, rfl, hb7⟩
        refine ⟨by (repeat (first | exact trivial | refine And.intro (pend_q rfl rfl rfl (qt_pev tok rfl)) ?_ | refine And.intro (pend_q rfl rfl rfl (ql tok rfl)) ?_ | refine And.intro (pend_q rfl rfl rfl (Qt.as (qt_pev tok rfl) hc1v.symm)) ?_)), ?_⟩
        have hMM := Mem.le_trans hMM hM7
        have hs := MbOk.le hM7 hs
        have hb := StOk.le hM7 hb
        have hb5 := hM7.blk _ _ hb5
        refine pr_one 9 (by decide +kernel) (eff1 9 rfl (St.frz1 (st_makeSlice (n := s.len) tok rfl rfl rfl rfl rfl rfl rfl (by omega) (by omega))) (by decide +kernel) (qs := _) rfl rfl rfl rfl ?_)
        rintro _ M9 _ ⟨hM9, rfl, b9, rfl, hb9⟩
        refine ⟨by (repeat (first | exact trivial | refine And.intro (pend_q rfl rfl rfl (qt_pev tok rfl)) ?_ | refine And.intro (pend_q rfl rfl rfl (ql tok rfl)) ?_ | refine And.intro (pend_q rfl rfl rfl (Qt.as (qt_pev tok rfl) hc1v.symm)) ?_)), ?_⟩
        have hMM := Mem.le_trans hMM hM9
        have hs := MbOk.le hM9 hs
        have hb := StOk.le hM9 hb
        have hb5 := hM9.blk _ _ hb5
        have hb7 := hM9.blk _ _ hb7
        obtain ⟨c1, hc1e⟩ : ∃ c1 : Co, c1 = ⟨t, au, s, bs, ⟨some ⟨b5, 0, none⟩, s.len, s.len, List.replicate s.len 0⟩, ⟨some ⟨b7, 0, none⟩, s.len, s.len, List.replicate s.len ⟨#[]⟩⟩, ⟨some ⟨b9, 0, none⟩, s.len, s.len, List.replicate s.len false⟩, 1, now, -1⟩ := ⟨_, rfl⟩
        have hc1 : CoOk _ c1 := hc1e ▸ newCo hs hb hb5 hb7 hb9 hd hbd t au now
        have hc1v : (Value.agg ⟨coC c1⟩) = .agg ⟨coC ⟨t, au, s, bs, ⟨some ⟨b5, 0, none⟩, s.len, s.len, List.replicate s.len 0⟩, ⟨some ⟨b7, 0, none⟩, s.len, s.len, List.replicate s.len ⟨#[]⟩⟩, ⟨some ⟨b9, 0, none⟩, s.len, s.len, List.replicate s.len false⟩, 1, now, -1⟩⟩ := by rw [hc1e]
        refine pr_q 11 (by decide +kernel) rfl (Qt.as (qt_pev tok rfl) hc1v.symm) rfl rfl rfl ?_
        refine pr_one 12 (by decide +kernel) (eff1 12 rfl (st_callF rfl (fun _ => refOwn_frz _ _ c1 hc1)) (by decide +kernel) (qs := _) rfl rfl rfl rfl ?_)
        rintro _ M12 _ ⟨hM12, rfl, c', rfl, hab, hok⟩
        refine ⟨by (repeat (first | exact trivial | refine And.intro (pend_q rfl rfl rfl (qt_pev tok rfl)) ?_ | refine And.intro (pend_q rfl rfl rfl (ql tok rfl)) ?_ | refine And.intro (pend_q rfl rfl rfl (Qt.as (qt_pev tok rfl) hc1v.symm)) ?_)), ?_⟩
        refine pr_one 14 (by decide +kernel) (eff0 14 rfl (sst tok rfl rfl rfl rfl rfl) (by decide +kernel) (qs := _) rfl ?_)
        rintro _ _ _ ⟨rfl, rfl, rfl⟩
        refine ⟨by (repeat (first | exact trivial | refine And.intro (pend_q rfl rfl rfl (qt_pev tok rfl)) ?_ | refine And.intro (pend_q rfl rfl rfl (ql tok rfl)) ?_ | refine And.intro (pend_q rfl rfl rfl (Qt.as (qt_pev tok rfl) hc1v.symm)) ?_)), ?_⟩
        refine pr_end (by decide +kernel) (by decide +kernel) ?_
        exact run_sub' (hnext _ _ _ ⟨b13, c', Mem.le_trans hMM hM12, hok, hab.trans (newAb hl hc1e), rfl, rfl⟩) ⟨rfl, rfl, rfl, trivial⟩
      · refine eff1 9 rfl (St.frz1 (st_makeSlice (n := s.len) tok rfl rfl rfl rfl rfl rfl rfl (by omega) (by omega))) (by decide +kernel) (qs := _) rfl rfl rfl rfl ?_
        rintro _ M9 _ ⟨hM9, rfl, b9, rfl, hb9⟩
        refine ⟨by (repeat (first | exact trivial | refine And.intro (pend_q rfl rfl rfl (qt_pev tok rfl)) ?_ | refine And.intro (pend_q rfl rfl rfl (ql tok rfl)) ?_ | refine And.intro (pend_q rfl rfl rfl (Qt.as (qt_pev tok rfl) hc1v.symm)) ?_)), ?_⟩
        have hMM := Mem.le_trans hMM hM9
        have hs := MbOk.le hM9 hs
        have hb := StOk.le hM9 hb
        have hb5 := hM9.blk _ _ hb5
        refine pr_one 7 (by decide +kernel) (eff1 7 rfl (St.frz1 (st_makeSlice (n := s.len) tok rfl rfl rfl rfl rfl rfl rfl (by omega) (by omega))) (by decide +kernel) (qs := _) rfl rfl rfl rfl ?_)
        rintro _ M7 _ ⟨hM7, rfl, b7, rfl, hb7⟩
        refine ⟨by (repeat (first | exact trivial | refine And.intro (pend_q rfl rfl rfl (qt_pev tok rfl)) ?_ | refine And.intro (pend_q rfl rfl rfl (ql tok rfl)) ?_ | refine And.intro (pend_q rfl rfl rfl (Qt.as (qt_pev tok rfl) hc1v.symm)) ?_)), ?_⟩
        have hMM := Mem.le_trans hMM hM7
        have hs := MbOk.le hM7 hs
        have hb := StOk.le hM7 hb
        have hb5 := hM7.blk _ _ hb5
        have hb9 := hM7.blk _ _ hb9
        obtain ⟨c1, hc1e⟩ : ∃ c1 : Co, c1 = ⟨t, au, s, bs, ⟨some ⟨b5, 0, none⟩, s.len, s.len, List.replicate s.len 0⟩, ⟨some ⟨b7, 0, none⟩, s.len, s.len, List.replicate s.len ⟨#[]⟩⟩, ⟨some ⟨b9, 0, none⟩, s.len, s.len, List.replicate s.len false⟩, 1, now, -1⟩ := ⟨_, rfl⟩
        have hc1 : CoOk _ c1 := hc1e ▸ newCo hs hb hb5 hb7 hb9 hd hbd t au now
        have hc1v : (Value.agg ⟨coC c1⟩) = .agg ⟨coC ⟨t, au, s, bs, ⟨some ⟨b5, 0, none⟩, s.len, s.len, List.replicate s.len 0⟩, ⟨some ⟨b7, 0, none⟩, s.len, s.len, List.replicate s.len ⟨#[]⟩⟩, ⟨some ⟨b9, 0, none⟩, s.len, s.len, List.replicate s.len false⟩, 1, now, -1⟩⟩ := by rw [hc1e]
        refine pr_q 11 (by decide +kernel) rfl (Qt.as (qt_pev tok rfl) hc1v.symm) rfl rfl rfl ?_
        refine pr_one 12 (by decide +kernel) (eff1 12 rfl (st_callF rfl (fun _ => refOwn_frz _ _ c1 hc1)) (by decide +kernel) (qs := _) rfl rfl rfl rfl ?_)
        rintro _ M12 _ ⟨hM12, rfl, c', rfl, hab, hok⟩
        refine ⟨by (repeat (first | exact trivial | refine And.intro (pend_q rfl rfl rfl (qt_pev tok rfl)) ?_ | refine And.intro (pend_q rfl rfl rfl (ql tok rfl)) ?_ | refine And.intro (pend_q rfl rfl rfl (Qt.as (qt_pev tok rfl) hc1v.symm)) ?_)), ?_⟩
        refine pr_one 14 (by decide +kernel) (eff0 14 rfl (sst tok rfl rfl rfl rfl rfl) (by decide +kernel) (qs := _) rfl ?_)
        rintro _ _ _ ⟨rfl, rfl, rfl⟩
        refine ⟨by (repeat (first | exact trivial | refine And.intro (pend_q rfl rfl rfl (qt_pev tok rfl)) ?_ | refine And.intro (pend_q rfl rfl rfl (ql tok rfl)) ?_ | refine And.intro (pend_q rfl rfl rfl (Qt.as (qt_pev tok rfl) hc1v.symm)) ?_)), ?_⟩
        refine pr_end (by decide +kernel) (by decide +kernel) ?_
        exact run_sub' (hnext _ _ _ ⟨b13, c', Mem.le_trans hMM hM12, hok, hab.trans (newAb hl hc1e), rfl, rfl⟩) ⟨rfl, rfl, rfl, trivial⟩
  · refine eff1 7 rfl (St.frz1 (st_makeSlice (n := s.len) tok rfl rfl rfl rfl rfl rfl rfl (by omega) (by omega))) (by decide +kernel) (qs := _) rfl rfl rfl rfl ?_
    rintro _ M7 _ ⟨hM7, rfl, b7, rfl, hb7⟩
    refine ⟨by (repeat (first | exact trivial | refine And.intro (pend_q rfl rfl rfl (qt_pev tok rfl)) ?_ | refine And.intro (pend_q rfl rfl rfl (ql tok rfl)) ?_ | refine And.intro (pend_q rfl rfl rfl (Qt.as (qt_pev tok rfl) hc1v.symm)) ?_)), ?_⟩
    have hMM := Mem.le_trans hMM hM7
    have hs := MbOk.le hM7 hs
    have hb := StOk.le hM7 hb
    refine pr_three 5 9 13 (by decide +kernel) ?_ ?_ ?_
    · refine eff1 5 rfl (St.frz1 (st_makeSlice (n := s.len) tok rfl rfl rfl rfl rfl rfl rfl (by omega) (by omega))) (by decide +kernel) (qs := _) rfl rfl rfl rfl ?_
      rintro _ M5 _ ⟨hM5, rfl, b5, rfl, hb5⟩
      refine ⟨by (repeat (first | exact trivial | refine And.intro (pend_q rfl rfl rfl (qt_pev tok rfl)) ?_ | refine And.intro (pend_q rfl rfl rfl (ql tok rfl)) ?_ | refine And.intro (pend_q rfl rfl rfl (Qt.as (qt_pev tok rfl) hc1v.symm)) ?_)), ?_⟩
      have hMM := Mem.le_trans hMM hM5
      have hs := MbOk.le hM5 hs
      have hb := StOk.le hM5 hb
      have hb7 := hM5.blk _ _ hb7
      refine pr_two 9 13 (by decide +kernel) ?_ ?_
      · refine eff1 9 rfl (St.frz1 (st_makeSlice (n := s.len) tok rfl rfl rfl rfl rfl rfl rfl (by omega) (by omega))) (by decide +kernel) (qs := _) rfl rfl rfl rfl ?_
        rintro _ M9 _ ⟨hM9, rfl, b9, rfl, hb9⟩
        refine ⟨by (repeat (first | exact trivial | refine And.intro (pend_q rfl rfl rfl (qt_pev tok rfl)) ?_ | refine And.intro (pend_q rfl rfl rfl (ql tok rfl)) ?_ | refine And.intro (pend_q rfl rfl rfl (Qt.as (qt_pev tok rfl) hc1v.symm)) ?_)), ?_⟩
        have hMM := Mem.le_trans hMM hM9
        have hs := MbOk.le hM9 hs
        have hb := StOk.le hM9 hb
        have hb7 := hM9.blk _ _ hb7
        have hb5 := hM9.blk _ _ hb5
        obtain ⟨c1, hc1e⟩ : ∃ c1 : Co, c1 = ⟨t, au, s, bs, ⟨some ⟨b5, 0, none⟩, s.len, s.len, List.replicate s.len 0⟩, ⟨some ⟨b7, 0, none⟩, s.len, s.len, List.replicate s.len ⟨#[]⟩⟩, ⟨some ⟨b9, 0, none⟩, s.len, s.len, List.replicate s.len false⟩, 1, now, -1⟩ := ⟨_, rfl⟩
        have hc1 : CoOk _ c1 := hc1e ▸ newCo hs hb hb5 hb7 hb9 hd hbd t au now
        have hc1v : (Value.agg ⟨coC c1⟩) = .agg ⟨coC ⟨t, au, s, bs, ⟨some ⟨b5, 0, none⟩, s.len, s.len, List.replicate s.len 0⟩, ⟨some ⟨b7, 0, none⟩, s.len, s.len, List.replicate s.len ⟨#[]⟩⟩, ⟨some ⟨b9, 0, none⟩, s.len, s.len, List.replicate s.len false⟩, 1, now, -1⟩⟩ := by rw [hc1e]
        refine pr_q 11 (by decide +kernel) rfl (Qt.as (qt_pev tok rfl) hc1v.symm) rfl rfl rfl ?_
        refine pr_two 12 13 (by decide +kernel) ?_ ?_
        · refine eff1 12 rfl (st_callF rfl (fun _ => refOwn_frz _ _ c1 hc1)) (by decide +kernel) (qs := _) rfl rfl rfl rfl ?_
          rintro _ M12 _ ⟨hM12, rfl, c', rfl, hab, hok⟩
          refine ⟨by (repeat (first | exact trivial | refine And.intro (pend_q rfl rfl rfl (qt_pev tok rfl)) ?_ | refine And.intro (pend_q rfl rfl rfl (ql tok rfl)) ?_ | refine And.intro (pend_q rfl rfl rfl (Qt.as (qt_pev tok rfl) hc1v.symm)) ?_)), ?_⟩
          refine pr_one 13 (by decide +kernel) (eff1 13 rfl (st_alloc tok rfl) (by decide +kernel) (qs := _) rfl rfl rfl rfl ?_)
          rintro _ _ _ ⟨b13, rfl, rfl, rfl⟩
          refine ⟨by (repeat (first | exact trivial | refine And.intro (pend_q rfl rfl rfl (qt_pev tok rfl)) ?_ | refine And.intro (pend_q rfl rfl rfl (ql tok rfl)) ?_ | refine And.intro (pend_q rfl rfl rfl (Qt.as (qt_pev tok rfl) hc1v.symm)) ?_)), ?_⟩
          refine pr_one 14 (by decide +kernel) (eff0 14 rfl (sst tok rfl rfl rfl rfl rfl) (by decide +kernel) (qs := _) rfl ?_)
          rintro _ _ _ ⟨rfl, rfl, rfl⟩
          refine ⟨by (repeat (first | exact trivial | refine And.intro (pend_q rfl rfl rfl (qt_pev tok rfl)) ?_ | refine And.intro (pend_q rfl rfl rfl (ql tok rfl)) ?_ | refine And.intro (pend_q rfl rfl rfl (Qt.as (qt_pev tok rfl) hc1v.symm)) ?_)), ?_⟩
          refine pr_end (by decide +kernel) (by decide +kernel) ?_
          exact run_sub' (hnext _ _ _ ⟨b13, c', Mem.le_trans hMM hM12, hok, hab.trans (newAb hl hc1e), rfl, rfl⟩) ⟨rfl, rfl, rfl, trivial⟩
        · refine eff1 13 rfl (st_alloc tok rfl) (by decide +kernel) (qs := _) rfl rfl rfl rfl ?_
          rintro _ _ _ ⟨b13, rfl, rfl, rfl⟩
          refine ⟨by (repeat (first | exact trivial | refine And.intro (pend_q rfl rfl rfl (qt_pev tok rfl)) ?_ | refine And.intro (pend_q rfl rfl rfl (ql tok rfl)) ?_ | refine And.intro (pend_q rfl rfl rfl (Qt.as (qt_pev tok rfl) hc1v.symm)) ?_)), ?_⟩
          refine pr_one 12 (by decide +kernel) (eff1 12 rfl (st_callF rfl (fun _ => refOwn_frz _ _ c1 hc1)) (by decide +kernel) (qs := _) rfl rfl rfl rfl ?_)
          rintro _ M12 _ ⟨hM12, rfl, c', rfl, hab, hok⟩
          refine ⟨by (repeat (first | exact trivial | refine And.intro (pend_q rfl rfl rfl (qt_pev tok rfl)) ?_ | refine And.intro (pend_q rfl rfl rfl (ql tok rfl)) ?_ | refine And.intro (pend_q rfl rfl rfl (Qt.as (qt_pev tok rfl) hc1v.symm)) ?_)), ?_⟩
          refine pr_one 14 (by decide +kernel) (eff0 14 rfl (sst tok rfl rfl rfl rfl rfl) (by decide +kernel) (qs := _) rfl ?_)
          rintro _ _ _ ⟨rfl, rfl, rfl⟩
          refine ⟨by (repeat (first | exact trivial | refine And.intro (pend_q rfl rfl rfl (qt_pev tok rfl)) ?_ | refine And.intro (pend_q rfl rfl rfl (ql tok rfl)) ?_ | refine And.intro (pend_q rfl rfl rfl (Qt.as (qt_pev tok rfl) hc1v.symm)) ?_)), ?_⟩
          refine pr_end (by decide +kernel) (by decide +kernel) ?_
          exact run_sub' (hnext _ _ _ ⟨b13, c', Mem.le_trans hMM hM12, hok, hab.trans (newAb hl hc1e), rfl, rfl⟩) ⟨rfl, rfl, rfl, trivial⟩
      · refine eff1 13 rfl (st_alloc tok rfl) (by decide +kernel) (qs := _) rfl rfl rfl rfl ?_
        rintro _ _ _ ⟨b13, rfl, rfl, rfl⟩
        refine ⟨by (repeat (first | exact trivial | refine And.intro (pend_q rfl rfl rfl (qt_pev tok rfl)) ?_ | refine And.intro (pend_q rfl rfl rfl (ql tok rfl)) ?_ | refine And.intro (pend_q rfl rfl rfl (Qt.as (qt_pev tok rfl) hc1v.symm)) ?_)), ?_⟩
        refine pr_one 9 (by decide +kernel) (eff1 9 rfl (St.frz1 (st_makeSlice (n := s.len) tok rfl rfl rfl rfl rfl rfl rfl (by omega) (by omega))) (by decide +kernel) (qs := _) rfl rfl rfl rfl ?_)
        rintro _ M9 _ ⟨hM9, rfl, b9, rfl, hb9⟩
        refine ⟨by (repeat (first | exact trivial | refine And.intro (pend_q rfl rfl rfl (qt_pev tok rfl)) ?_ | refine And.intro (pend_q rfl rfl rfl (ql tok rfl)) ?_ | refine And.intro (pend_q rfl rfl rfl (Qt.as (qt_pev tok rfl) hc1v.symm)) ?_)), ?_⟩
        have hMM := Mem.le_trans hMM hM9
        have hs := MbOk.le hM9 hs
        have hb := StOk.le hM9 hb
        have hb7 := hM9.blk _ _ hb7
        have hb5 := hM9.blk _ _ hb5
        obtain ⟨c1, hc1e⟩ : ∃ c1 : Co, c1 = ⟨t, au, s, bs, ⟨some ⟨b5, 0, none⟩, s.len, s.len, List.replicate s.len 0⟩, ⟨some ⟨b7, 0, none⟩, s.len, s.len, List.replicate s.len ⟨#[]⟩⟩, ⟨some ⟨b9, 0, none⟩, s.len, s.len, List.replicate s.len false⟩, 1, now, -1⟩ := ⟨_, rfl⟩
        have hc1 : CoOk _ c1 := hc1e ▸ newCo hs hb hb5 hb7 hb9 hd hbd t au now
        have hc1v : (Value.agg ⟨coC c1⟩) = .agg ⟨coC ⟨t, au, s, bs, ⟨some ⟨b5, 0, none⟩, s.len, s.len, List.replicate s.len 0⟩, ⟨some ⟨b7, 0, none⟩, s.len, s.len, List.replicate s.len ⟨#[]⟩⟩, ⟨some ⟨b9, 0, none⟩, s.len, s.len, List.replicate s.len false⟩, 1, now, -1⟩⟩ := by rw [hc1e]
        refine pr_q 11 (by decide +kernel) rfl (Qt.as (qt_pev tok rfl) hc1v.symm) rfl rfl rfl ?_
        refine pr_one 12 (by decide +kernel) (eff1 12 rfl (st_callF rfl (fun _ => refOwn_frz _ _ c1 hc1)) (by decide +kernel) (qs := _) rfl rfl rfl rfl ?_)
        rintro _ M12 _ ⟨hM12, rfl, c', rfl, hab, hok⟩
        refine ⟨by (repeat (first | exact trivial | refine And.intro (pend_q rfl rfl rfl (qt_pev tok rfl)) ?_ | refine And.intro (pend_q rfl rfl rfl (ql tok rfl)) ?_ | refine And.intro (pend_q rfl rfl rfl (Qt.as (qt_pev tok rfl) hc1v.symm)) ?_)), ?_⟩
        refine pr_one 14 (by decide +kernel) (eff0 14 rfl (sst tok rfl rfl rfl rfl rfl) (by decide +kernel) (qs := _) rfl ?_)
        rintro _ _ _ ⟨rfl, rfl, rfl⟩
        refine ⟨by (repeat (first | exact trivial | refine And.intro (pend_q rfl rfl rfl (qt_pev tok rfl)) ?_ | refine And.intro (pend_q rfl rfl rfl (ql tok rfl)) ?_ | refine And.intro (pend_q rfl rfl rfl (Qt.as (qt_pev tok rfl) hc1v.symm)) ?_)), ?_⟩
        refine pr_end (by decide +kernel) (by decide +kernel) ?_
        exact run_sub' (hnext _ _ _ ⟨b13, c', Mem.le_trans hMM hM12, hok, hab.trans (newAb hl hc1e), rfl, rfl⟩) ⟨rfl, rfl, rfl, trivial⟩
    · refine eff1 9 rfl (St.frz1 (st_makeSlice (n := s.len) tok rfl rfl rfl rfl rfl rfl rfl (by omega) (by omega))) (by decide +kernel) (qs := _) rfl rfl rfl rfl ?_
      rintro _ M9 _ ⟨hM9, rfl, b9, rfl, hb9⟩
      refine ⟨by (repeat (first | exact trivial | refine And.intro (pend_q rfl rfl rfl (qt_pev tok rfl)) ?_ | refine And.intro (pend_q rfl rfl rfl (ql tok rfl)) ?_ | refine And.intro (pend_q rfl rfl rfl (Qt.as (qt_pev tok rfl) hc1v.symm)) ?_)), ?_⟩
      have hMM := Mem.le_trans hMM hM9
      have hs := MbOk.le hM9 hs
      have hb := StOk.le hM9 hb
      have hb7 := hM9.blk _ _ hb7
      refine pr_two 5 13 (by decide +kernel) ?_ ?_
      · refine eff1 5 rfl (St.frz1 (st_makeSlice (n := s.len) tok rfl rfl rfl rfl rfl rfl rfl (by omega) (by omega))) (by decide +kernel) (qs := _) rfl rfl rfl rfl ?_
        rintro _ M5 _ ⟨hM5, rfl, b5, rfl, hb5⟩
        refine ⟨by (repeat (first | exact trivial | refine And.intro (pend_q rfl rfl rfl (qt_pev tok rfl)) ?_ | refine And.intro (pend_q rfl rfl rfl (ql tok rfl)) ?_ | refine And.intro (pend_q rfl rfl rfl (Qt.as (qt_pev tok rfl) hc1v.symm)) ?_)), ?_⟩
        have hMM := Mem.le_trans hMM hM5
        have hs := MbOk.le hM5 hs
        have hb := StOk.le hM5 hb
        have hb7 := hM5.blk _ _ hb7
        have hb9 := hM5.blk _ _ hb9
        obtain ⟨c1, hc1e⟩ : ∃ c1 : Co, c1 = ⟨t, au, s, bs, ⟨some ⟨b5, 0, none⟩, s.len, s.len, List.replicate s.len 0⟩, ⟨some ⟨b7, 0, none⟩, s.len, s.len, List.replicate s.len ⟨#[]⟩⟩, ⟨some ⟨b9, 0, none⟩, s.len, s.len, List.replicate s.len false⟩, 1, now, -1⟩ := ⟨_, rfl⟩
        have hc1 : CoOk _ c1 := hc1e ▸ newCo hs hb hb5 hb7 hb9 hd hbd t au now
        have hc1v : (Value.agg ⟨coC c1⟩) = .agg ⟨coC ⟨t, au, s, bs, ⟨some ⟨b5, 0, none⟩, s.len, s.len, List.replicate s.len 0⟩, ⟨some ⟨b7, 0, none⟩, s.len, s.len, List.replicate s.len ⟨#[]⟩⟩, ⟨some ⟨b9, 0, none⟩, s.len, s.len, List.replicate s.len false⟩, 1, now, -1⟩⟩ := by rw [hc1e]
        refine pr_q 11 (by decide +kernel) rfl (Qt.as (qt_pev tok rfl) hc1v.symm) rfl rfl rfl ?_
        refine pr_two 12 13 (by decide +kernel) ?_ ?_
        · refine eff1 12 rfl (st_callF rfl (fun _ => refOwn_frz _ _ c1 hc1)) (by decide +kernel) (qs := _) rfl rfl rfl rfl ?_
          rintro _ M12 _ ⟨hM12, rfl, c', rfl, hab, hok⟩
          refine ⟨by (repeat (first | exact trivial | refine And.intro (pend_q rfl rfl rfl (qt_pev tok rfl)) ?_ | refine And.intro (pend_q rfl rfl rfl (ql tok rfl)) ?_ | refine And.intro (pend_q rfl rfl rfl (Qt.as (qt_pev tok rfl) hc1v.symm)) ?_)), ?_⟩
          refine pr_one 13 (by decide +kernel) (eff1 13 rfl (st_alloc tok rfl) (by decide +kernel) (qs := _) rfl rfl rfl rfl ?_)
          rintro _ _ _ ⟨b13, rfl, rfl, rfl⟩
          refine ⟨by (repeat (first | exact trivial | refine And.intro (pend_q rfl rfl rfl (qt_pev tok rfl)) ?_ | refine And.intro (pend_q rfl rfl rfl (ql tok rfl)) ?_ | refine And.intro (pend_q rfl rfl rfl (Qt.as (qt_pev tok rfl) hc1v.symm)) ?_)), ?_⟩
          refine pr_one 14 (by decide +kernel) (eff0 14 rfl (sst tok rfl rfl rfl rfl rfl) (by decide +kernel) (qs := _) rfl ?_)
          rintro _ _ _ ⟨rfl, rfl, rfl⟩
          refine ⟨by (repeat (first | exact trivial | refine And.intro (pend_q rfl rfl rfl (qt_pev tok rfl)) ?_ | refine And.intro (pend_q rfl rfl rfl (ql tok rfl)) ?_ | refine And.intro (pend_q rfl rfl rfl (Qt.as (qt_pev tok rfl) hc1v.symm)) ?_)), ?_⟩
          refine pr_end (by decide +kernel) (by decide +kernel) ?_
          exact run_sub' (hnext _ _ _ ⟨b13, c', Mem.le_trans hMM hM12, hok, hab.trans (newAb hl hc1e), rfl, rfl⟩) ⟨rfl, rfl, rfl, trivial⟩
        · refine eff1 13 rfl (st_alloc tok rfl) (by decide +kernel) (qs := _) rfl rfl rfl rfl ?_
          rintro _ _ _ ⟨b13, rfl, rfl, rfl⟩
          refine ⟨by (repeat (first | exact trivial | refine And.intro (pend_q rfl rfl rfl (qt_pev tok rfl)) ?_ | refine And.intro (pend_q rfl rfl rfl (ql tok rfl)) ?_ | refine And.intro (pend_q rfl rfl rfl (Qt.as (qt_pev tok rfl) hc1v.symm)) ?_)), ?_⟩
          refine pr_one 12 (by decide +kernel) (eff1 12 rfl (st_callF rfl (fun _ => refOwn_frz _ _ c1 hc1)) (by decide +kernel) (qs := _) rfl rfl rfl rfl ?_)
          rintro _ M12 _ ⟨hM12, rfl, c', rfl, hab, hok⟩
          refine ⟨by (repeat (first | exact trivial | refine And.intro (pend_q rfl rfl rfl (qt_pev tok rfl)) ?_ | refine And.intro (pend_q rfl rfl rfl (ql tok rfl)) ?_ | refine And.intro (pend_q rfl rfl rfl (Qt.as (qt_pev tok rfl) hc1v.symm)) ?_)), ?_⟩
          refine pr_one 14 (by decide +kernel) (eff0 14 rfl (sst tok rfl rfl rfl rfl rfl) (by decide +kernel) (qs := _) rfl ?_)
          rintro _ _ _ ⟨rfl, rfl, rfl⟩
          refine ⟨by (repeat (first | exact trivial | refine And.intro (pend_q rfl rfl rfl (qt_pev tok rfl)) ?_ | refine And.intro (pend_q rfl rfl rfl (ql tok rfl)) ?_ | refine And.intro (pend_q rfl rfl rfl (Qt.as (qt_pev tok rfl) hc1v.symm)) ?_)), ?_⟩
          refine pr_end (by decide +kernel) (by decide +kernel) ?_
          exact run_sub' (hnext _ _ _ ⟨b13, c', Mem.le_trans hMM hM12, hok, hab.trans (newAb hl hc1e), rfl, rfl⟩) ⟨rfl, rfl, rfl, trivial⟩
      · refine eff1 13 rfl (st_alloc tok rfl) (by decide +kernel) (qs := _) rfl rfl rfl rfl ?_
        rintro _ _ _ ⟨b13, rfl, rfl, rfl⟩
        refine ⟨by (repeat (first | exact trivial | refine And.intro (pend_q rfl rfl rfl (qt_pev tok rfl)) ?_ | refine And.intro (pend_q rfl rfl rfl (ql tok rfl)) ?_ | refine And.intro (pend_q rfl rfl rfl (Qt.as (qt_pev tok rfl) hc1v.symm)) ?_)), ?_⟩
        refine pr_one 5 (by decide +kernel) (eff1 5 rfl (St.frz1 (st_makeSlice (n := s.len) tok rfl rfl rfl rfl rfl rfl rfl (by omega) (by omega))) (by decide +kernel) (qs := _) rfl rfl rfl rfl ?_)
        rintro _ M5 _ ⟨hM5, rfl, b5, rfl, hb5⟩
        refine ⟨by (repeat (first | exact trivial | refine And.intro (pend_q rfl rfl rfl (qt_pev tok rfl)) ?_ | refine And.intro (pend_q rfl rfl rfl (ql tok rfl)) ?_ | refine And.intro (pend_q rfl rfl rfl (Qt.as (qt_pev tok rfl) hc1v.symm)) ?_)), ?_⟩
        have hMM := Mem.le_trans hMM hM5
        have hs := MbOk.le hM5 hs
        have hb := StOk.le hM5 hb
        have hb7 := hM5.blk _ _ hb7
        have hb9 := hM5.blk _ _ hb9
        obtain ⟨c1, hc1e⟩ : ∃ c1 : Co, c1 = ⟨t, au, s, bs, ⟨some ⟨b5, 0, none⟩, s.len, s.len, List.replicate s.len 0⟩, ⟨some ⟨b7, 0, none⟩, s.len, s.len, List.replicate s.len ⟨#[]⟩⟩, ⟨some ⟨b9, 0, none⟩, s.len, s.len, List.replicate s.len false⟩, 1, now, -1⟩ := ⟨_, rfl⟩
        have hc1 : CoOk _ c1 := hc1e ▸ newCo hs hb hb5 hb7 hb9 hd hbd t au now
        have hc1v : (Value.agg ⟨coC c1⟩) = .agg ⟨coC ⟨t, au, s, bs, ⟨some ⟨b5, 0, none⟩, s.len, s.len, List.replicate s.len 0⟩, ⟨some ⟨b7, 0, none⟩, s.len, s.len, List.replicate s.len ⟨#[]⟩⟩, ⟨some ⟨b9, 0, none⟩, s.len, s.len, List.replicate s.len false⟩, 1, now, -1⟩⟩ := by rw [hc1e]
        refine pr_q 11 (by decide +kernel) rfl (Qt.as (qt_pev tok rfl) hc1v.symm) rfl rfl rfl ?_
        refine pr_one 12 (by decide +kernel) (eff1 12 rfl (st_callF rfl (fun _ => refOwn_frz _ _ c1 hc1)) (by decide +kernel) (qs := _) rfl rfl rfl rfl ?_)
        rintro _ M12 _ ⟨hM12, rfl, c', rfl, hab, hok⟩
        refine ⟨by (repeat (first | exact trivial | refine And.intro (pend_q rfl rfl rfl (qt_pev tok rfl)) ?_ | refine And.intro (pend_q rfl rfl rfl (ql tok rfl)) ?_ | refine And.intro (pend_q rfl rfl rfl (Qt.as (qt_pev tok rfl) hc1v.symm)) ?_)), ?_⟩
        refine pr_one 14 (by decide +kernel) (eff0 14 rfl (sst tok rfl rfl rfl rfl rfl) (by decide +kernel) (qs := _) rfl ?_)
        rintro _ _ _ ⟨rfl, rfl, rfl⟩
        refine ⟨by (repeat (first | exact trivial | refine And.intro (pend_q rfl rfl rfl (qt_pev tok rfl)) ?_ | refine And.intro (pend_q rfl rfl rfl (ql tok rfl)) ?_ | refine And.intro (pend_q rfl rfl rfl (Qt.as (qt_pev tok rfl) hc1v.symm)) ?_)), ?_⟩
        refine pr_end (by decide +kernel) (by decide +kernel) ?_
        exact run_sub' (hnext _ _ _ ⟨b13, c', Mem.le_trans hMM hM12, hok, hab.trans (newAb hl hc1e), rfl, rfl⟩) ⟨rfl, rfl, rfl, trivial⟩
    · refine eff1 13 rfl (st_alloc tok rfl) (by decide +kernel) (qs := _) rfl rfl rfl rfl ?_
      rintro _ _ _ ⟨b13, rfl, rfl, rfl⟩
      refine ⟨by (repeat (first | exact trivial | refine And.intro (pend_q rfl rfl rfl (qt_pev tok rfl)) ?_ | refine And.intro (pend_q rfl rfl rfl (ql tok rfl)) ?_ | refine And.intro (pend_q rfl rfl rfl (Qt.as (qt_pev tok rfl) hc1v.symm)) ?_)), ?_⟩
      refine pr_two 5 9 (by decide +kernel) ?_ ?_
      · refine eff1 5 rfl (St.frz1 (st_makeSlice (n := s.len) tok rfl rfl rfl rfl rfl rfl rfl (by omega) (by omega))) (by decide +kernel) (qs := _) rfl rfl rfl rfl ?_
        rintro _ M5 _ ⟨hM5, rfl, b5, rfl, hb5⟩
        refine ⟨by (repeat (first | exact trivial | refine And.intro (pend_q rfl rfl rfl (qt_pev tok rfl)) ?_ | refine And.intro (pend_q rfl rfl rfl (ql tok rfl)) ?_ | refine And.intro (pend_q rfl rfl rfl (Qt.as (qt_pev tok rfl) hc1v.symm)) ?_)), ?_⟩
        have hMM := Mem.le_trans hMM hM5
        have hs := MbOk.le hM5 hs
        have hb := StOk.le hM5 hb
        have hb7 := hM5.blk _ _ hb7
        refine pr_one 9 (by decide +kernel) (eff1 9 rfl (St.frz1 (st_makeSlice (n := s.len) tok rfl rfl rfl rfl rfl rfl rfl (by omega) (by omega))) (by decide +kernel) (qs := _) rfl rfl rfl rfl ?_)
        rintro _ M9 _ ⟨hM9, rfl, b9, rfl, hb9⟩
        refine ⟨by (repeat (first | exact trivial | refine And.intro (pend_q rfl rfl rfl (qt_pev tok rfl)) ?_ | refine And.intro (pend_q rfl rfl rfl (ql tok rfl)) ?_ | refine And.intro (pend_q rfl rfl rfl (Qt.as (qt_pev tok rfl) hc1v.symm)) ?_)), ?_⟩
        have hMM := Mem.le_trans hMM hM9
        have hs := MbOk.le hM9 hs
        have hb := StOk.le hM9 hb
        have hb7 := hM9.blk _ _ hb7
        have hb5 := hM9.blk _ _ hb5
        obtain ⟨c1, hc1e⟩ : ∃ c1 : Co, c1 = ⟨t, au, s, bs, ⟨some ⟨b5, 0, none⟩, s.len, s.len, List.replicate s.len 0⟩, ⟨some ⟨b7, 0, none⟩, s.len, s.len, List.replicate s.len ⟨#[]⟩⟩, ⟨some ⟨b9, 0, none⟩, s.len, s.len, List.replicate s.len false⟩, 1, now, -1⟩ := ⟨_, rfl⟩
        have hc1 : CoOk _ c1 := hc1e ▸ newCo hs hb hb5 hb7 hb9 hd hbd t au now
        have hc1v : (Value.agg ⟨coC c1⟩) = .agg ⟨coC ⟨t, au, s, bs, ⟨some ⟨b5, 0, none⟩, s.len, s.len, List.replicate s.len 0⟩, ⟨some ⟨b7, 0, none⟩, s.len, s.len, List.replicate s.len ⟨#[]⟩⟩, ⟨some ⟨b9, 0, none⟩, s.len, s.len, List.replicate s.len false⟩, 1, now, -1⟩⟩ := by rw [hc1e]
        refine pr_q 11 (by decide +kernel) rfl (Qt.as (qt_pev tok rfl) hc1v.symm) rfl rfl rfl ?_
        refine pr_one 12 (by decide +kernel) (eff1 12 rfl (st_callF rfl (fun _ => refOwn_frz _ _ c1 hc1)) (by decide +kernel) (qs := _) rfl rfl rfl rfl ?_)
        rintro _ M12 _ ⟨hM12, rfl, c', rfl, hab, hok⟩
        refine ⟨by (repeat (first | exact trivial | refine And.intro (pend_q rfl rfl rfl (qt_pev tok rfl)) ?_ | refine And.intro (pend_q rfl rfl rfl (ql tok rfl)) ?_ | refine And.intro (pend_q rfl rfl rfl (Qt.as (qt_pev tok rfl) hc1v.symm)) ?_)), ?_⟩
        refine pr_one 14 (by decide +kernel) (eff0 14 rfl (sst tok rfl rfl rfl rfl rfl) (by decide +kernel) (qs := _) rfl ?_)
        rintro _ _ _ ⟨rfl, rfl, rfl⟩
        refine ⟨by (repeat (first | exact trivial | refine And.intro (pend_q rfl rfl rfl (qt_pev tok rfl)) ?_ | refine And.intro (pend_q rfl rfl rfl (ql tok rfl)) ?_ | refine And.intro (pend_q rfl rfl rfl (Qt.as (qt_pev tok rfl) hc1v.symm)) ?_)), ?_⟩
        refine pr_end (by decide +kernel) (by decide +kernel) ?_
        exact run_sub' (hnext _ _ _ ⟨b13, c', Mem.le_trans hMM hM12, hok, hab.trans (newAb hl hc1e), rfl, rfl⟩) ⟨rfl, rfl, rfl, trivial⟩
      · refine eff1 9 rfl (St.frz1 (st_makeSlice (n := s.len) tok rfl rfl rfl rfl rfl rfl rfl (by omega) (by omega))) (by decide +kernel) (qs := _) rfl rfl rfl rfl ?_
        rintro _ M9 _ ⟨hM9, rfl, b9, rfl, hb9⟩
        refine ⟨by (repeat (first | exact trivial | refine And.intro (pend_q rfl rfl rfl (qt_pev tok rfl)) ?_ | refine And.intro (pend_q rfl rfl rfl (ql tok rfl)) ?_ | refine And.intro (pend_q rfl rfl rfl (Qt.as (qt_pev tok rfl) hc1v.symm)) ?_)), ?_⟩
        have hMM := Mem.le_trans hMM hM9
        have hs := MbOk.le hM9 hs
        have hb := StOk.le hM9 hb
        have hb7 := hM9.blk _ _ hb7
        refine pr_one 5 (by decide +kernel) (eff1 5 rfl (St.frz1 (st_makeSlice (n := s.len) tok rfl rfl rfl rfl rfl rfl rfl (by omega) (by omega))) (by decide +kernel) (qs := _) rfl rfl rfl rfl ?_)
        rintro _ M5 _ ⟨hM5, rfl, b5, rfl, hb5⟩
        refine ⟨by (repeat (first | exact trivial | refine And.intro (pend_q rfl rfl rfl (qt_pev tok rfl)) ?_ | refine And.intro (pend_q rfl rfl rfl (ql tok rfl)) ?_ | refine And.intro (pend_q rfl rfl rfl (Qt.as (qt_pev tok rfl) hc1v.symm)) ?_)), ?_⟩
        have hMM := Mem.le_trans hMM hM5
        have hs := MbOk.le hM5 hs
        have hb := StOk.le hM5 hb
        have hb7 := hM5.blk _ _ hb7
        have hb9 := hM5.blk _ _ hb9
        obtain ⟨c1, hc1e⟩ : ∃ c1 : Co, c1 = ⟨t, au, s, bs, ⟨some ⟨b5, 0, none⟩, s.len, s.len, List.replicate s.len 0⟩, ⟨some ⟨b7, 0, none⟩, s.len, s.len, List.replicate s.len ⟨#[]⟩⟩, ⟨some ⟨b9, 0, none⟩, s.len, s.len, List.replicate s.len false⟩, 1, now, -1⟩ := ⟨_, rfl⟩
        have hc1 : CoOk _ c1 := hc1e ▸ newCo hs hb hb5 hb7 hb9 hd hbd t au now
        have hc1v : (Value.agg ⟨coC c1⟩) = .agg ⟨coC ⟨t, au, s, bs, ⟨some ⟨b5, 0, none⟩, s.len, s.len, List.replicate s.len 0⟩, ⟨some ⟨b7, 0, none⟩, s.len, s.len, List.replicate s.len ⟨#[]⟩⟩, ⟨some ⟨b9, 0, none⟩, s.len, s.len, List.replicate s.len false⟩, 1, now, -1⟩⟩ := by rw [hc1e]
        refine pr_q 11 (by decide +kernel) rfl (Qt.as (qt_pev tok rfl) hc1v.symm) rfl rfl rfl ?_
        refine pr_one 12 (by decide +kernel) (eff1 12 rfl (st_callF rfl (fun _ => refOwn_frz _ _ c1 hc1)) (by decide +kernel) (qs := _) rfl rfl rfl rfl ?_)
        rintro _ M12 _ ⟨hM12, rfl, c', rfl, hab, hok⟩
        refine ⟨by (repeat (first | exact trivial | refine And.intro (pend_q rfl rfl rfl (qt_pev tok rfl)) ?_ | refine And.intro (pend_q rfl rfl rfl (ql tok rfl)) ?_ | refine And.intro (pend_q rfl rfl rfl (Qt.as (qt_pev tok rfl) hc1v.symm)) ?_)), ?_⟩
        refine pr_one 14 (by decide +kernel) (eff0 14 rfl (sst tok rfl rfl rfl rfl rfl) (by decide +kernel) (qs := _) rfl ?_)
        rintro _ _ _ ⟨rfl, rfl, rfl⟩
        refine ⟨by (repeat (first | exact trivial | refine And.intro (pend_q rfl rfl rfl (qt_pev tok rfl)) ?_ | refine And.intro (pend_q rfl rfl rfl (ql tok rfl)) ?_ | refine And.intro (pend_q rfl rfl rfl (Qt.as (qt_pev tok rfl) hc1v.symm)) ?_)), ?_⟩
        refine pr_end (by decide +kernel) (by decide +kernel) ?_
        exact run_sub' (hnext _ _ _ ⟨b13, c', Mem.le_trans hMM hM12, hok, hab.trans (newAb hl hc1e), rfl, rfl⟩) ⟨rfl, rfl, rfl, trivial⟩
  · refine eff1 9 rfl (St.frz1 (st_makeSlice (n := s.len) tok rfl rfl rfl rfl rfl rfl rfl (by omega) (by omega))) (by decide +kernel) (qs := _) rfl rfl rfl rfl ?_
    rintro _ M9 _ ⟨hM9, rfl, b9, rfl, hb9⟩
    refine ⟨by (repeat (first | exact trivial | refine And.intro (pend_q rfl rfl rfl (qt_pev tok rfl)) ?_ | refine And.intro (pend_q rfl rfl rfl (ql tok rfl)) ?_ | refine And.intro (pend_q rfl rfl rfl (Qt.as (qt_pev tok rfl) hc1v.symm)) ?_)), ?_⟩
    have hMM := Mem.le_trans hMM hM9
    have hs := MbOk.le hM9 hs
    have hb := StOk.le hM9 hb
    refine pr_three 5 7 13 (by decide +kernel) ?_ ?_ ?_
    · refine eff1 5 rfl (St.frz1 (st_makeSlice (n := s.len) tok rfl rfl rfl rfl rfl rfl rfl (by omega) (by omega))) (by decide +kernel) (qs := _) rfl rfl rfl rfl ?_
      rintro _ M5 _ ⟨hM5, rfl, b5, rfl, hb5⟩
      refine ⟨by (repeat (first | exact trivial | refine And.intro (pend_q rfl rfl rfl (qt_pev tok rfl)) ?_ | refine And.intro (pend_q rfl rfl rfl (ql tok rfl)) ?_ | refine And.intro (pend_q rfl rfl rfl (Qt.as (qt_pev tok rfl) hc1v.symm)) ?_)), ?_⟩
      have hMM := Mem.le_trans hMM hM5
      have hs := MbOk.le hM5 hs
      have hb := StOk.le hM5 hb
      have hb9 := hM5.blk _ _ hb9
      refine pr_two 7 13 (by decide +kernel) ?_ ?_
      · refine eff1 7 rfl (St.frz1 (st_makeSlice (n := s.len) tok rfl rfl rfl rfl rfl rfl rfl (by omega) (by omega))) (by decide +kernel) (qs := _) rfl rfl rfl rfl ?_
        rintro _ M7 _ ⟨hM7, rfl, b7, rfl, hb7⟩
        refine ⟨by (repeat (first | exact trivial | refine And.intro (pend_q rfl rfl rfl (qt_pev tok rfl)) ?_ | refine And.intro (pend_q rfl rfl rfl (ql tok rfl)) ?_ | refine And.intro (pend_q rfl rfl rfl (Qt.as (qt_pev tok rfl) hc1v.symm)) ?_)), ?_⟩
        have hMM := Mem.le_trans hMM hM7
        have hs := MbOk.le hM7 hs
        have hb := StOk.le hM7 hb
        have hb9 := hM7.blk _ _ hb9
        have hb5 := hM7.blk _ _ hb5
        obtain ⟨c1, hc1e⟩ : ∃ c1 : Co, c1 = ⟨t, au, s, bs, ⟨some ⟨b5, 0, none⟩, s.len, s.len, List.replicate s.len 0⟩, ⟨some ⟨b7, 0, none⟩, s.len, s.len, List.replicate s.len ⟨#[]⟩⟩, ⟨some ⟨b9, 0, none⟩, s.len, s.len, List.replicate s.len false⟩, 1, now, -1⟩ := ⟨_, rfl⟩
        have hc1 : CoOk _ c1 := hc1e ▸ newCo hs hb hb5 hb7 hb9 hd hbd t au now
        have hc1v : (Value.agg ⟨coC c1⟩) = .agg ⟨coC ⟨t, au, s, bs, ⟨some ⟨b5, 0, none⟩, s.len, s.len, List.replicate s.len 0⟩, ⟨some ⟨b7, 0, none⟩, s.len, s.len, List.replicate s.len ⟨#[]⟩⟩, ⟨some ⟨b9, 0, none⟩, s.len, s.len, List.replicate s.len false⟩, 1, now, -1⟩⟩ := by rw [hc1e]
        refine pr_q 11 (by decide +kernel) rfl (Qt.as (qt_pev tok rfl) hc1v.symm) rfl rfl rfl ?_
        refine pr_two 12 13 (by decide +kernel) ?_ ?_
        · refine eff1 12 rfl (st_callF rfl (fun _ => refOwn_frz _ _ c1 hc1)) (by decide +kernel) (qs := _) rfl rfl rfl rfl ?_
          rintro _ M12 _ ⟨hM12, rfl, c', rfl, hab, hok⟩
          refine ⟨by (repeat (first | exact trivial | refine And.intro (pend_q rfl rfl rfl (qt_pev tok rfl)) ?_ | refine And.intro (pend_q rfl rfl rfl (ql tok rfl)) ?_ | refine And.intro (pend_q rfl rfl rfl (Qt.as (qt_pev tok rfl) hc1v.symm)) ?_)), ?_⟩
          refine pr_one 13 (by decide +kernel) (eff1 13 rfl (st_alloc tok rfl) (by decide +kernel) (qs := _) rfl rfl rfl rfl ?_)
          rintro _ _ _ ⟨b13, rfl, rfl, rfl⟩
          refine ⟨by (repeat (first | exact trivial | refine And.intro (pend_q rfl rfl rfl (qt_pev tok rfl)) ?_ | refine And.intro (pend_q rfl rfl rfl (ql tok rfl)) ?_ | refine And.intro (pend_q rfl rfl rfl (Qt.as (qt_pev tok rfl) hc1v.symm)) ?_)), ?_⟩
          refine pr_one 14 (by decide +kernel) (eff0 14 rfl (sst tok rfl rfl rfl rfl rfl) (by decide +kernel) (qs := _) rfl ?_)
          rintro _ _ _ ⟨rfl, rfl, rfl⟩
          refine ⟨by (repeat (first | exact trivial | refine And.intro (pend_q rfl rfl rfl (qt_pev tok rfl)) ?_ | refine And.intro (pend_q rfl rfl rfl (ql tok rfl)) ?_ | refine And.intro (pend_q rfl rfl rfl (Qt.as (qt_pev tok rfl) hc1v.symm)) ?_)), ?_⟩
          refine pr_end (by decide +kernel) (by decide +kernel) ?_
          exact run_sub' (hnext _ _ _ ⟨b13, c', Mem.le_trans hMM hM12, hok, hab.trans (newAb hl hc1e), rfl, rfl⟩) ⟨rfl, rfl, rfl, trivial⟩
        · refine eff1 13 rfl (st_alloc tok rfl) (by decide +kernel) (qs := _) rfl rfl rfl rfl ?_
          rintro _ _ _ ⟨b13, rfl, rfl, rfl⟩
          refine ⟨by (repeat (first | exact trivial | refine And.intro (pend_q rfl rfl rfl (qt_pev tok rfl)) ?_ | refine And.intro (pend_q rfl rfl rfl (ql tok rfl)) ?_ | refine And.intro (pend_q rfl rfl rfl (Qt.as (qt_pev tok rfl) hc1v.symm)) ?_)), ?_⟩
          refine pr_one 12 (by decide +kernel) (eff1 12 rfl (st_callF rfl (fun _ => refOwn_frz _ _ c1 hc1)) (by decide +kernel) (qs := _) rfl rfl rfl rfl ?_)
          rintro _ M12 _ ⟨hM12, rfl, c', rfl, hab, hok⟩
          refine ⟨by (repeat (first | exact trivial | refine And.intro (pend_q rfl rfl rfl (qt_pev tok rfl)) ?_ | refine And.intro (pend_q rfl rfl rfl (ql tok rfl)) ?_ | refine And.intro (pend_q rfl rfl rfl (Qt.as (qt_pev tok rfl) hc1v.symm)) ?_)), ?_⟩
          refine pr_one 14 (by decide +kernel) (eff0 14 rfl (sst tok rfl rfl rfl rfl rfl) (by decide +kernel) (qs := _) rfl ?_)
          rintro _ _ _ ⟨rfl, rfl, rfl⟩
          refine ⟨by (repeat (first | exact trivial | refine And.intro (pend_q rfl rfl rfl (qt_pev tok rfl)) ?_ | refine And.intro (pend_q rfl rfl rfl (ql tok rfl)) ?_ | refine And.intro (pend_q rfl rfl rfl (Qt.as (qt_pev tok rfl) hc1v.symm)) ?_)), ?_⟩
          refine pr_end (by decide +kernel) (by decide +kernel) ?_
          exact run_sub' (hnext _ _ _ ⟨b13, c', Mem.le_trans hMM hM12, hok, hab.trans (newAb hl hc1e), rfl, rfl⟩) ⟨rfl, rfl, rfl, trivial⟩
      · refine eff1 13 rfl (st_alloc tok rfl) (by decide +kernel) (qs := _) rfl rfl rfl rfl ?_
        rintro _ _ _ ⟨b13, rfl, rfl, rfl⟩
        refine ⟨by (repeat (first | exact trivial | refine And.intro (pend_q rfl rfl rfl (qt_pev tok rfl)) ?_ | refine And.intro (pend_q rfl rfl rfl (ql tok rfl)) ?_ | refine And.intro (pend_q rfl rfl rfl (Qt.as (qt_pev tok rfl) hc1v.symm)) ?_)), ?_⟩
        refine pr_one 7 (by decide +kernel) (eff1 7 rfl (St.frz1 (st_makeSlice (n := s.len) tok rfl rfl rfl rfl rfl rfl rfl (by omega) (by omega))) (by decide +kernel) (qs := _) rfl rfl rfl rfl ?_)
        rintro _ M7 _ ⟨hM7, rfl, b7, rfl, hb7⟩
        refine ⟨by (repeat (first | exact trivial | refine And.intro (pend_q rfl rfl rfl (qt_pev tok rfl)) ?_ | refine And.intro (pend_q rfl rfl rfl (ql tok rfl)) ?_ | refine And.intro (pend_q rfl rfl rfl (Qt.as (qt_pev tok rfl) hc1v.symm)) ?_)), ?_⟩
        have hMM := Mem.le_trans hMM hM7
        have hs := MbOk.le hM7 hs
        have hb := StOk.le hM7 hb
        have hb9 := hM7.blk _ _ hb9
        have hb5 := hM7.blk _ _ hb5
        obtain ⟨c1, hc1e⟩ : ∃ c1 : Co, c1 = ⟨t, au, s, bs, ⟨some ⟨b5, 0, none⟩, s.len, s.len, List.replicate s.len 0⟩, ⟨some ⟨b7, 0, none⟩, s.len, s.len, List.replicate s.len ⟨#[]⟩⟩, ⟨some ⟨b9, 0, none⟩, s.len, s.len, List.replicate s.len false⟩, 1, now, -1⟩ := ⟨_, rfl⟩
        have hc1 : CoOk _ c1 := hc1e ▸ newCo hs hb hb5 hb7 hb9 hd hbd t au now
        have hc1v : (Value.agg ⟨coC c1⟩) = .agg ⟨coC ⟨t, au, s, bs, ⟨some ⟨b5, 0, none⟩, s.len, s.len, List.replicate s.len 0⟩, ⟨some ⟨b7, 0, none⟩, s.len, s.len, List.replicate s.len ⟨#[]⟩⟩, ⟨some ⟨b9, 0, none⟩, s.len, s.len, List.replicate s.len false⟩, 1, now, -1⟩⟩ := by rw [hc1e]
        refine pr_q 11 (by decide +kernel) rfl (Qt.as (qt_pev tok rfl) hc1v.symm) rfl rfl rfl ?_
        refine pr_one 12 (by decide +kernel) (eff1 12 rfl (st_callF rfl (fun _ => refOwn_frz _ _ c1 hc1)) (by decide +kernel) (qs := _) rfl rfl rfl rfl ?_)
        rintro _ M12 _ ⟨hM12, rfl, c', rfl, hab, hok⟩
        refine ⟨by (repeat (first | exact trivial | refine And.intro (pend_q rfl rfl rfl (qt_pev tok rfl)) ?_ | refine And.intro (pend_q rfl rfl rfl (ql tok rfl)) ?_ | refine And.intro (pend_q rfl rfl rfl (Qt.as (qt_pev tok rfl) hc1v.symm)) ?_)), ?_⟩
        refine pr_one 14 (by decide +kernel) (eff0 14 rfl (sst tok rfl rfl rfl rfl rfl) (by decide +kernel) (qs := _) rfl ?_)
        rintro _ _ _ ⟨rfl, rfl, rfl⟩
        refine ⟨by (repeat (first | exact trivial | refine And.intro (pend_q rfl rfl rfl (qt_pev tok rfl)) ?_ | refine And.intro (pend_q rfl rfl rfl (ql tok rfl)) ?_ | refine And.intro (pend_q rfl rfl rfl (Qt.as (qt_pev tok rfl) hc1v.symm)) ?_)), ?_⟩
        refine pr_end (by decide +kernel) (by decide +kernel) ?_
        exact run_sub' (hnext _ _ _ ⟨b13, c', Mem.le_trans hMM hM12, hok, hab.trans (newAb hl hc1e), rfl, rfl⟩) ⟨rfl, rfl, rfl, trivial⟩
    · refine eff1 7 rfl (St.frz1 (st_makeSlice (n := s.len) tok rfl rfl rfl rfl rfl rfl rfl (by omega) (by omega))) (by decide +kernel) (qs := _) rfl rfl rfl rfl ?_
      rintro _ M7 _ ⟨hM7, rfl, b7, rfl, hb7⟩
      refine ⟨by (repeat (first | exact trivial | refine And.intro (pend_q rfl rfl rfl (qt_pev tok rfl)) ?_ | refine And.intro (pend_q rfl rfl rfl (ql tok rfl)) ?_ | refine And.intro (pend_q rfl rfl rfl (Qt.as (qt_pev tok rfl) hc1v.symm)) ?_)), ?_⟩
      have hMM := Mem.le_trans hMM hM7
      have hs := MbOk.le hM7 hs
      have hb := StOk.le hM7 hb
      have hb9 := hM7.blk _ _ hb9
      refine pr_two 5 13 (by decide +kernel) ?_ ?_
      · refine eff1 5 rfl (St.frz1 (st_makeSlice (n := s.len) tok rfl rfl rfl rfl rfl rfl rfl (by omega) (by omega))) (by decide +kernel) (qs := _) rfl rfl rfl rfl ?_
        rintro _ M5 _ ⟨hM5, rfl, b5, rfl, hb5⟩
        refine ⟨by (repeat (first | exact trivial | refine And.intro (pend_q rfl rfl rfl (qt_pev tok rfl)) ?_ | refine And.intro (pend_q rfl rfl rfl (ql tok rfl)) ?_ | refine And.intro (pend_q rfl rfl rfl (Qt.as (qt_pev tok rfl) hc1v.symm)) ?_)), ?_⟩
        have hMM := Mem.le_trans hMM hM5
        have hs := MbOk.le hM5 hs
        have hb := StOk.le hM5 hb
        have hb9 := hM5.blk _ _ hb9
        have hb7 := hM5.blk _ _ hb7
        obtain ⟨c1, hc1e⟩ : ∃ c1 : Co, c1 = ⟨t, au, s, bs, ⟨some ⟨b5, 0, none⟩, s.len, s.len, List.replicate s.len 0⟩, ⟨some ⟨b7, 0, none⟩, s.len, s.len, List.replicate s.len ⟨#[]⟩⟩, ⟨some ⟨b9, 0, none⟩, s.len, s.len, List.replicate s.len false⟩, 1, now, -1⟩ := ⟨_, rfl⟩
        have hc1 : CoOk _ c1 := hc1e ▸ newCo hs hb hb5 hb7 hb9 hd hbd t au now
        have hc1v : (Value.agg ⟨coC c1⟩) = .agg ⟨coC ⟨t, au, s, bs, ⟨some ⟨b5, 0, none⟩, s.len, s.len, List.replicate s.len 0⟩, ⟨some ⟨b7, 0, none⟩, s.len, s.len, List.replicate s.len ⟨#[]⟩⟩, ⟨some ⟨b9, 0, none⟩, s.len, s.len, List.replicate s.len false⟩, 1, now, -1⟩⟩ := by rw [hc1e]
        refine pr_q 11 (by decide +kernel) rfl (Qt.as (qt_pev tok rfl) hc1v.symm) rfl rfl rfl ?_
        refine pr_two 12 13 (by decide +kernel) ?_ ?_
        · refine eff1 12 rfl (st_callF rfl (fun _ => refOwn_frz _ _ c1 hc1)) (by decide +kernel) (qs := _) rfl rfl rfl rfl ?_
          rintro _ M12 _ ⟨hM12, rfl, c', rfl, hab, hok⟩
          refine ⟨by (repeat (first | exact trivial | refine And.intro (pend_q rfl rfl rfl (qt_pev tok rfl)) ?_ | refine And.intro (pend_q rfl rfl rfl (ql tok rfl)) ?_ | refine And.intro (pend_q rfl rfl rfl (Qt.as (qt_pev tok rfl) hc1v.symm)) ?_)), ?_⟩
          refine pr_one 13 (by decide +kernel) (eff1 13 rfl (st_alloc tok rfl) (by decide +kernel) (qs := _) rfl rfl rfl rfl ?_)
          rintro _ _ _ ⟨b13, rfl, rfl, rfl⟩
          refine ⟨by (repeat (first | exact trivial | refine And.intro (pend_q rfl rfl rfl (qt_pev tok rfl)) ?_ | refine And.intro (pend_q rfl rfl rfl (ql tok rfl)) ?_ | refine And.intro (pend_q rfl rfl rfl (Qt.as (qt_pev tok rfl) hc1v.symm)) ?_)), ?_⟩
          refine pr_one 14 (by decide +kernel) (eff0 14 rfl (sst tok rfl rfl rfl rfl rfl) (by decide +kernel) (qs := _) rfl ?_)
          rintro _ _ _ ⟨rfl, rfl, rfl⟩
          refine ⟨by (repeat (first | exact trivial | refine And.intro (pend_q rfl rfl rfl (qt_pev tok rfl)) ?_ | refine And.intro (pend_q rfl rfl rfl (ql tok rfl)) ?_ | refine And.intro (pend_q rfl rfl rfl (Qt.as (qt_pev tok rfl) hc1v.symm)) ?_)), ?_⟩
          refine pr_end (by decide +kernel) (by decide +kernel) ?_
          exact run_sub' (hnext _ _ _ ⟨b13, c', Mem.le_trans hMM hM12, hok, hab.trans (newAb hl hc1e), rfl, rfl⟩) ⟨rfl, rfl, rfl, trivial⟩
        · refine eff1 13 rfl (st_alloc tok rfl) (by decide +kernel) (qs := _) rfl rfl rfl rfl ?_
          rintro _ _ _ ⟨b13, rfl, rfl, rfl⟩
          refine ⟨by (repeat (first | exact trivial | refine And.intro (pend_q rfl rfl rfl (qt_pev tok rfl)) ?_ | refine And.intro (pend_q rfl rfl rfl (ql tok rfl)) ?_ | refine And.intro (pend_q rfl rfl rfl (Qt.as (qt_pev tok rfl) hc1v.symm)) ?_)), ?_⟩
          refine pr_one 12 (by decide +kernel) (eff1 12 rfl (st_callF rfl (fun _ => refOwn_frz _ _ c1 hc1)) (by decide +kernel) (qs := _) rfl rfl rfl rfl ?_)
          rintro _ M12 _ ⟨hM12, rfl, c', rfl, hab, hok⟩
          refine ⟨by (repeat (first | exact trivial | refine And.intro (pend_q rfl rfl rfl (qt_pev tok rfl)) ?_ | refine And.intro (pend_q rfl rfl rfl (ql tok rfl)) ?_ | refine And.intro (pend_q rfl rfl rfl (Qt.as (qt_pev tok rfl) hc1v.symm)) ?_)), ?_⟩
          refine pr_one 14 (by decide +kernel) (eff0 14 rfl (sst tok rfl rfl rfl rfl rfl) (by decide +kernel) (qs := _) rfl ?_)
          rintro _ _ _ ⟨rfl, rfl, rfl⟩
          refine ⟨by (repeat (first | exact trivial | refine And.intro (pend_q rfl rfl rfl (qt_pev tok rfl)) ?_ | refine And.intro (pend_q rfl rfl rfl (ql tok rfl)) ?_ | refine And.intro (pend_q rfl rfl rfl (Qt.as (qt_pev tok rfl) hc1v.symm)) ?_)), ?_⟩
          refine pr_end (by decide +kernel) (by decide +kernel) ?_
          exact run_sub' (hnext _ _ _ ⟨b13, c', Mem.le_trans hMM hM12, hok, hab.trans (newAb hl hc1e), rfl, rfl⟩) ⟨rfl, rfl, rfl, trivial⟩
      · refine eff1 13 rfl (st_alloc tok rfl) (by decide +kernel) (qs := _) rfl rfl rfl rfl ?_
        rintro _ _ _ ⟨b13, rfl, rfl, rfl⟩
        refine ⟨by (repeat (first | exact trivial | refine And.intro (pend_q rfl rfl rfl (qt_pev tok rfl)) ?_ | refine And.intro (pend_q rfl rfl rfl (ql tok rfl)) ?_ | refine And.intro (pend_q rfl rfl rfl (Qt.as (qt_pev tok rfl) hc1v.symm)) ?_)), ?_⟩
        refine pr_one 5 (by decide +kernel) (eff1 5 rfl (St.frz1 (st_makeSlice (n := s.len) tok rfl rfl rfl rfl rfl rfl rfl (by omega) (by omega))) (by decide +kernel) (qs := _) rfl rfl rfl rfl ?_)
        rintro _ M5 _ ⟨hM5, rfl, b5, rfl, hb5⟩
        refine ⟨by (repeat (first | exact trivial | refine And.intro (pend_q rfl rfl rfl (qt_pev tok rfl)) ?_ | refine And.intro (pend_q rfl rfl rfl (ql tok rfl)) ?_ | refine And.intro (pend_q rfl rfl rfl (Qt.as (qt_pev tok rfl) hc1v.symm)) ?_)), ?_⟩
        have hMM := Mem.le_trans hMM hM5
        have hs := MbOk.le hM5 hs
        have hb := StOk.le hM5 hb
        have hb9 := hM5.blk _ _ hb9
        have hb7 := hM5.blk _ _ hb7
        obtain ⟨c1, hc1e⟩ : ∃ c1 : Co, c1 = ⟨t, au, s, bs, ⟨some ⟨b5, 0, none⟩, s.len, s.len, List.replicate s.len 0⟩, ⟨some ⟨b7, 0, none⟩, s.len, s.len, List.replicate s.len ⟨#[]⟩⟩, ⟨some ⟨b9, 0, none⟩, s.len, s.len, List.replicate s.len false⟩, 1, now, -1⟩ := ⟨_, rfl⟩
        have hc1 : CoOk _ c1 := hc1e ▸ newCo hs hb hb5 hb7 hb9 hd hbd t au now
        have hc1v : (Value.agg ⟨coC c1⟩) = .agg ⟨coC ⟨t, au, s, bs, ⟨some ⟨b5, 0, none⟩, s.len, s.len, List.replicate s.len 0⟩, ⟨some ⟨b7, 0, none⟩, s.len, s.len, List.replicate s.len ⟨#[]⟩⟩, ⟨some ⟨b9, 0, none⟩, s.len, s.len, List.replicate s.len false⟩, 1, now, -1⟩⟩ := by rw [hc1e]
        refine pr_q 11 (by decide +kernel) rfl (Qt.as (qt_pev tok rfl) hc1v.symm) rfl rfl rfl ?_
        refine pr_one 12 (by decide +kernel) (eff1 12 rfl (st_callF rfl (fun _ => refOwn_frz _ _ c1 hc1)) (by decide +kernel) (qs := _) rfl rfl rfl rfl ?_)
        rintro _ M12 _ ⟨hM12, rfl, c', rfl, hab, hok⟩
        refine ⟨by (repeat (first | exact trivial | refine And.intro (pend_q rfl rfl rfl (qt_pev tok rfl)) ?_ | refine And.intro (pend_q rfl rfl rfl (ql tok rfl)) ?_ | refine And.intro (pend_q rfl rfl rfl (Qt.as (qt_pev tok rfl) hc1v.symm)) ?_)), ?_⟩
        refine pr_one 14 (by decide +kernel) (eff0 14 rfl (sst tok rfl rfl rfl rfl rfl) (by decide +kernel) (qs := _) rfl ?_)
        rintro _ _ _ ⟨rfl, rfl, rfl⟩
        refine ⟨by (repeat (first | exact trivial | refine And.intro (pend_q rfl rfl rfl (qt_pev tok rfl)) ?_ | refine And.intro (pend_q rfl rfl rfl (ql tok rfl)) ?_ | refine And.intro (pend_q rfl rfl rfl (Qt.as (qt_pev tok rfl) hc1v.symm)) ?_)), ?_⟩
        refine pr_end (by decide +kernel) (by decide +kernel) ?_
        exact run_sub' (hnext _ _ _ ⟨b13, c', Mem.le_trans hMM hM12, hok, hab.trans (newAb hl hc1e), rfl, rfl⟩) ⟨rfl, rfl, rfl, trivial⟩
    · refine eff1 13 rfl (st_alloc tok rfl) (by decide +kernel) (qs := _) rfl rfl rfl rfl ?_
      rintro _ _ _ ⟨b13, rfl, rfl, rfl⟩
      refine ⟨by (repeat (first | exact trivial | refine And.intro (pend_q rfl rfl rfl (qt_pev tok rfl)) ?_ | refine And.intro (pend_q rfl rfl rfl (ql tok rfl)) ?_ | refine And.intro (pend_q rfl rfl rfl (Qt.as (qt_pev tok rfl) hc1v.symm)) ?_)), ?_⟩
      refine pr_two 5 7 (by decide +kernel) ?_ ?_
      · refine eff1 5 rfl (St.frz1 (st_makeSlice (n := s.len) tok rfl rfl rfl rfl rfl rfl rfl (by omega) (by omega))) (by decide +kernel) (qs := _) rfl rfl rfl rfl ?_
        rintro _ M5 _ ⟨hM5, rfl, b5, rfl, hb5⟩
        refine ⟨by (repeat (first | exact trivial | refine And.intro (pend_q rfl rfl rfl (qt_pev tok rfl)) ?_ | refine And.intro (pend_q rfl rfl rfl (ql tok rfl)) ?_ | refine And.intro (pend_q rfl rfl rfl (Qt.as (qt_pev tok rfl) hc1v.symm)) ?_)), ?_⟩
        have hMM := Mem.le_trans hMM hM5
        have hs := MbOk.le hM5 hs
        have hb := StOk.le hM5 hb
        have hb9 := hM5.blk _ _ hb9
        refine pr_one 7 (by decide +kernel) (eff1 7 rfl (St.frz1 (st_makeSlice (n := s.len) tok rfl rfl rfl rfl rfl rfl rfl (by omega) (by omega))) (by decide +kernel) (qs := _) rfl rfl rfl rfl ?_)
        rintro _ M7 _ ⟨hM7, rfl, b7, rfl, hb7⟩
        refine ⟨by (repeat (first | exact trivial | refine And.intro (pend_q rfl rfl rfl (qt_pev tok rfl)) ?_ | refine And.intro (pend_q rfl rfl rfl (ql tok rfl)) ?_ | refine And.intro (pend_q rfl rfl rfl (Qt.as (qt_pev tok rfl) hc1v.symm)) ?_)), ?_⟩
        have hMM := Mem.le_trans hMM hM7
        have hs := MbOk.le hM7 hs
        have hb := StOk.le hM7 hb
        have hb9 := hM7.blk _ _ hb9
        have hb5 := hM7.blk _ _ hb5
        obtain ⟨c1, hc1e⟩ : ∃ c1 : Co, c1 = ⟨t, au, s, bs, ⟨some ⟨b5, 0, none⟩, s.len, s.len, List.replicate s.len 0⟩, ⟨some ⟨b7, 0, none⟩, s.len, s.len, List.replicate s.len ⟨#[]⟩⟩, ⟨some ⟨b9, 0, none⟩, s.len, s.len, List.replicate s.len false⟩, 1, now, -1⟩ := ⟨_, rfl⟩
        have hc1 : CoOk _ c1 := hc1e ▸ newCo hs hb hb5 hb7 hb9 hd hbd t au now
        have hc1v : (Value.agg ⟨coC c1⟩) = .agg ⟨coC ⟨t, au, s, bs, ⟨some ⟨b5, 0, none⟩, s.len, s.len, List.replicate s.len 0⟩, ⟨some ⟨b7, 0, none⟩, s.len, s.len, List.replicate s.len ⟨#[]⟩⟩, ⟨some ⟨b9, 0, none⟩, s.len, s.len, List.replicate s.len false⟩, 1, now, -1⟩⟩ := by rw [hc1e]
        refine pr_q 11 (by decide +kernel) rfl (Qt.as (qt_pev tok rfl) hc1v.symm) rfl rfl rfl ?_
        refine pr_one 12 (by decide +kernel) (eff1 12 rfl (st_callF rfl (fun _ => refOwn_frz _ _ c1 hc1)) (by decide +kernel) (qs := _) rfl rfl rfl rfl ?_)
        rintro _ M12 _ ⟨hM12, rfl, c', rfl, hab, hok⟩
        refine ⟨by (repeat (first | exact trivial | refine And.intro (pend_q rfl rfl rfl (qt_pev tok rfl)) ?_ | refine And.intro (pend_q rfl rfl rfl (ql tok rfl)) ?_ | refine And.intro (pend_q rfl rfl rfl (Qt.as (qt_pev tok rfl) hc1v.symm)) ?_)), ?_⟩
        refine pr_one 14 (by decide +kernel) (eff0 14 rfl (sst tok rfl rfl rfl rfl rfl) (by decide +kernel) (qs := _) rfl ?_)
        rintro _ _ _ ⟨rfl, rfl, rfl⟩
        refine ⟨by (repeat (first | exact trivial | refine And.intro (pend_q rfl rfl rfl (qt_pev tok rfl)) ?_ | refine And.intro (pend_q rfl rfl rfl (ql tok rfl)) ?_ | refine And.intro (pend_q rfl rfl rfl (Qt.as (qt_pev tok rfl) hc1v.symm)) ?_)), ?_⟩
        refine pr_end (by decide +kernel) (by decide +kernel) ?_
        exact run_sub' (hnext _ _ _ ⟨b13, c', Mem.le_trans hMM hM12, hok, hab.trans (newAb hl hc1e), rfl, rfl⟩) ⟨rfl, rfl, rfl, trivial⟩
      · refine eff1 7 rfl (St.frz1 (st_makeSlice (n := s.len) tok rfl rfl rfl rfl rfl rfl rfl (by omega) (by omega))) (by decide +kernel) (qs := _) rfl rfl rfl rfl ?_
        rintro _ M7 _ ⟨hM7, rfl, b7, rfl, hb7⟩
        refine ⟨by (repeat (first | exact trivial | refine And.intro (pend_q rfl rfl rfl (qt_pev tok rfl)) ?_ | refine And.intro (pend_q rfl rfl rfl (ql tok rfl)) ?_ | refine And.intro (pend_q rfl rfl rfl (Qt.as (qt_pev tok rfl) hc1v.symm)) ?_)), ?_⟩
        have hMM := Mem.le_trans hMM hM7
        have hs := MbOk.le hM7 hs
        have hb := StOk.le hM7 hb
        have hb9 := hM7.blk _ _ hb9
        refine pr_one 5 (by decide +kernel) (eff1 5 rfl (St.frz1 (st_makeSlice (n := s.len) tok rfl rfl rfl rfl rfl rfl rfl (by omega) (by omega))) (by decide +kernel) (qs := _) rfl rfl rfl rfl ?_)
        rintro _ M5 _ ⟨hM5, rfl, b5, rfl, hb5⟩
        refine ⟨by (repeat (first | exact trivial | refine And.intro (pend_q rfl rfl rfl (qt_pev tok rfl)) ?_ | refine And.intro (pend_q rfl rfl rfl (ql tok rfl)) ?_ | refine And.intro (pend_q rfl rfl rfl (Qt.as (qt_pev tok rfl) hc1v.symm)) ?_)), ?_⟩
        have hMM := Mem.le_trans hMM hM5
        have hs := MbOk.le hM5 hs
        have hb := StOk.le hM5 hb
        have hb9 := hM5.blk _ _ hb9
        have hb7 := hM5.blk _ _ hb7
        obtain ⟨c1, hc1e⟩ : ∃ c1 : Co, c1 = ⟨t, au, s, bs, ⟨some ⟨b5, 0, none⟩, s.len, s.len, List.replicate s.len 0⟩, ⟨some ⟨b7, 0, none⟩, s.len, s.len, List.replicate s.len ⟨#[]⟩⟩, ⟨some ⟨b9, 0, none⟩, s.len, s.len, List.replicate s.len false⟩, 1, now, -1⟩ := ⟨_, rfl⟩
        have hc1 : CoOk _ c1 := hc1e ▸ newCo hs hb hb5 hb7 hb9 hd hbd t au now
        have hc1v : (Value.agg ⟨coC c1⟩) = .agg ⟨coC ⟨t, au, s, bs, ⟨some ⟨b5, 0, none⟩, s.len, s.len, List.replicate s.len 0⟩, ⟨some ⟨b7, 0, none⟩, s.len, s.len, List.replicate s.len ⟨#[]⟩⟩, ⟨some ⟨b9, 0, none⟩, s.len, s.len, List.replicate s.len false⟩, 1, now, -1⟩⟩ := by rw [hc1e]
        refine pr_q 11 (by decide +kernel) rfl (Qt.as (qt_pev tok rfl) hc1v.symm) rfl rfl rfl ?_
        refine pr_one 12 (by decide +kernel) (eff1 12 rfl (st_callF rfl (fun _ => refOwn_frz _ _ c1 hc1)) (by decide +kernel) (qs := _) rfl rfl rfl rfl ?_)
        rintro _ M12 _ ⟨hM12, rfl, c', rfl, hab, hok⟩
        refine ⟨by (repeat (first | exact trivial | refine And.intro (pend_q rfl rfl rfl (qt_pev tok rfl)) ?_ | refine And.intro (pend_q rfl rfl rfl (ql tok rfl)) ?_ | refine And.intro (pend_q rfl rfl rfl (Qt.as (qt_pev tok rfl) hc1v.symm)) ?_)), ?_⟩
        refine pr_one 14 (by decide +kernel) (eff0 14 rfl (sst tok rfl rfl rfl rfl rfl) (by decide +kernel) (qs := _) rfl ?_)
        rintro _ _ _ ⟨rfl, rfl, rfl⟩
        refine ⟨by (repeat (first | exact trivial | refine And.intro (pend_q rfl rfl rfl (qt_pev tok rfl)) ?_ | refine And.intro (pend_q rfl rfl rfl (ql tok rfl)) ?_ | refine And.intro (pend_q rfl rfl rfl (Qt.as (qt_pev tok rfl) hc1v.symm)) ?_)), ?_⟩
        refine pr_end (by decide +kernel) (by decide +kernel) ?_
        exact run_sub' (hnext _ _ _ ⟨b13, c', Mem.le_trans hMM hM12, hok, hab.trans (newAb hl hc1e), rfl, rfl⟩) ⟨rfl, rfl, rfl, trivial⟩
  · refine eff1 13 rfl (st_alloc tok rfl) (by decide +kernel) (qs := _) rfl rfl rfl rfl ?_
    rintro _ _ _ ⟨b13, rfl, rfl, rfl⟩
    refine ⟨by (repeat (first | exact trivial | refine And.intro (pend_q rfl rfl rfl (qt_pev tok rfl)) ?_ | refine And.intro (pend_q rfl rfl rfl (ql tok rfl)) ?_ | refine And.intro (pend_q rfl rfl rfl (Qt.as (qt_pev tok rfl) hc1v.symm)) ?_)), ?_⟩
    refine pr_three 5 7 9 (by decide +kernel) ?_ ?_ ?_
    · refine eff1 5 rfl (St.frz1 (st_makeSlice (n := s.len) tok rfl rfl rfl rfl rfl rfl rfl (by omega) (by omega))) (by decide +kernel) (qs := _) rfl rfl rfl rfl ?_
      rintro _ M5 _ ⟨hM5, rfl, b5, rfl, hb5⟩
      refine ⟨by (repeat (first | exact trivial | refine And.intro (pend_q rfl rfl rfl (qt_pev tok rfl)) ?_ | refine And.intro (pend_q rfl rfl rfl (ql tok rfl)) ?_ | refine And.intro (pend_q rfl rfl rfl (Qt.as (qt_pev tok rfl) hc1v.symm)) ?_)), ?_⟩
      have hMM := Mem.le_trans hMM hM5
      have hs := MbOk.le hM5 hs
      have hb := StOk.le hM5 hb
      refine pr_two 7 9 (by decide +kernel) ?_ ?_
      · refine eff1 7 rfl (St.frz1 (st_makeSlice (n := s.len) tok rfl rfl rfl rfl rfl rfl rfl (by omega) (by omega))) (by decide +kernel) (qs := _) rfl rfl rfl rfl ?_
        rintro _ M7 _ ⟨hM7, rfl, b7, rfl, hb7⟩
        refine ⟨by (repeat (first | exact trivial | refine And.intro (pend_q rfl rfl rfl (qt_pev tok rfl)) ?_ | refine And.intro (pend_q rfl rfl rfl (ql tok rfl)) ?_ | refine And.intro (pend_q rfl rfl rfl (Qt.as (qt_pev tok rfl) hc1v.symm)) ?_)), ?_⟩
        have hMM := Mem.le_trans hMM hM7
        have hs := MbOk.le hM7 hs
        have hb := StOk.le hM7 hb
        have hb5 := hM7.blk _ _ hb5
        refine pr_one 9 (by decide +kernel) (eff1 9 rfl (St.frz1 (st_makeSlice (n := s.len) tok rfl rfl rfl rfl rfl rfl rfl (by omega) (by omega))) (by decide +kernel) (qs := _) rfl rfl rfl rfl ?_)
        rintro _ M9 _ ⟨hM9, rfl, b9, rfl, hb9⟩
        refine ⟨by (repeat (first | exact trivial | refine And.intro (pend_q rfl rfl rfl (qt_pev tok rfl)) ?_ | refine And.intro (pend_q rfl rfl rfl (ql tok rfl)) ?_ | refine And.intro (pend_q rfl rfl rfl (Qt.as (qt_pev tok rfl) hc1v.symm)) ?_)), ?_⟩
        have hMM := Mem.le_trans hMM hM9
        have hs := MbOk.le hM9 hs
        have hb := StOk.le hM9 hb
        have hb5 := hM9.blk _ _ hb5
        have hb7 := hM9.blk _ _ hb7
        obtain ⟨c1, hc1e⟩ : ∃ c1 : Co, c1 = ⟨t, au, s, bs, ⟨some ⟨b5, 0, none⟩, s.len, s.len, List.replicate s.len 0⟩, ⟨some ⟨b7, 0, none⟩, s.len, s.len, List.replicate s.len ⟨#[]⟩⟩, ⟨some ⟨b9, 0, none⟩, s.len, s.len, List.replicate s.len false⟩, 1, now, -1⟩ := ⟨_, rfl⟩
        have hc1 : CoOk _ c1 := hc1e ▸ newCo hs hb hb5 hb7 hb9 hd hbd t au now
        have hc1v : (Value.agg ⟨coC c1⟩) = .agg ⟨coC ⟨t, au, s, bs, ⟨some ⟨b5, 0, none⟩, s.len, s.len, List.replicate s.len 0⟩, ⟨some ⟨b7, 0, none⟩, s.len, s.len, List.replicate s.len ⟨#[]⟩⟩, ⟨some ⟨b9, 0, none⟩, s.len, s.len, List.replicate s.len false⟩, 1, now, -1⟩⟩ := by rw [hc1e]
        refine pr_q 11 (by decide +kernel) rfl (Qt.as (qt_pev tok rfl) hc1v.symm) rfl rfl rfl ?_
        refine pr_one 12 (by decide +kernel) (eff1 12 rfl (st_callF rfl (fun _ => refOwn_frz _ _ c1 hc1)) (by decide +kernel) (qs := _) rfl rfl rfl rfl ?_)
        rintro _ M12 _ ⟨hM12, rfl, c', rfl, hab, hok⟩
        refine ⟨by (repeat (first | exact trivial | refine And.intro (pend_q rfl rfl rfl (qt_pev tok rfl)) ?_ | refine And.intro (pend_q rfl rfl rfl (ql tok rfl)) ?_ | refine And.intro (pend_q rfl rfl rfl (Qt.as (qt_pev tok rfl) hc1v.symm)) ?_)), ?_⟩
        refine pr_one 14 (by decide +kernel) (eff0 14 rfl (sst tok rfl rfl rfl rfl rfl) (by decide +kernel) (qs := _) rfl ?_)
        rintro _ _ _ ⟨rfl, rfl, rfl⟩
        refine ⟨by (repeat (first | exact trivial | refine And.intro (pend_q rfl rfl rfl (qt_pev tok rfl)) ?_ | refine And.intro (pend_q rfl rfl rfl (ql tok rfl)) ?_ | refine And.intro (pend_q rfl rfl rfl (Qt.as (qt_pev tok rfl) hc1v.symm)) ?_)), ?_⟩
        refine pr_end (by decide +kernel) (by decide +kernel) ?_
        exact run_sub' (hnext _ _ _ ⟨b13, c', Mem.le_trans hMM hM12, hok, hab.trans (newAb hl hc1e), rfl, rfl⟩) ⟨rfl, rfl, rfl, trivial⟩
      · refine eff1 9 rfl (St.frz1 (st_makeSlice (n := s.len) tok rfl rfl rfl rfl rfl rfl rfl (by omega) (by omega))) (by decide +kernel) (qs := _) rfl rfl rfl rfl ?_
        rintro _ M9 _ ⟨hM9, rfl, b9, rfl, hb9⟩
        refine ⟨by (repeat (first | exact trivial | refine And.intro (pend_q rfl rfl rfl (qt_pev tok rfl)) ?_ | refine And.intro (pend_q rfl rfl rfl (ql tok rfl)) ?_ | refine And.intro (pend_q rfl rfl rfl (Qt.as (qt_pev tok rfl) hc1v.symm)) ?_)), ?_⟩
        have hMM := Mem.le_trans hMM hM9
        have hs := MbOk.le hM9 hs
        have hb := StOk.le hM9 hb
        have hb5 := hM9.blk _ _ hb5
        refine pr_one 7 (by decide +kernel) (eff1 7 rfl (St.frz1 (st_makeSlice (n := s.len) tok rfl rfl rfl rfl rfl rfl rfl (by omega) (by omega))) (by decide +kernel) (qs := _) rfl rfl rfl rfl ?_)
        rintro _ M7 _ ⟨hM7, rfl, b7, rfl, hb7⟩
        refine ⟨by (repeat (first | exact trivial | refine And.intro (pend_q rfl rfl rfl (qt_pev tok rfl)) ?_ | refine And.intro (pend_q rfl rfl rfl (ql tok rfl)) ?_ | refine And.intro (pend_q rfl rfl rfl (Qt.as (qt_pev tok rfl) hc1v.symm)) ?_)), ?_⟩
        have hMM := Mem.le_trans hMM hM7
        have hs := MbOk.le hM7 hs
        have hb := StOk.le hM7 hb
        have hb5 := hM7.blk _ _ hb5
        have hb9 := hM7.blk _ _ hb9
        obtain ⟨c1, hc1e⟩ : ∃ c1 : Co, c1 = ⟨t, au, s, bs, ⟨some ⟨b5, 0, none⟩, s.len, s.len, List.replicate s.len 0⟩, ⟨some ⟨b7, 0, none⟩, s.len, s.len, List.replicate s.len ⟨#[]⟩⟩, ⟨some ⟨b9, 0, none⟩, s.len, s.len, List.replicate s.len false⟩, 1, now, -1⟩ := ⟨_, rfl⟩
        have hc1 : CoOk _ c1 := hc1e ▸ newCo hs hb hb5 hb7 hb9 hd hbd t au now
        have hc1v : (Value.agg ⟨coC c1⟩) = .agg ⟨coC ⟨t, au, s, bs, ⟨some ⟨b5, 0, none⟩, s.len, s.len, List.replicate s.len 0⟩, ⟨some ⟨b7, 0, none⟩, s.len, s.len, List.replicate s.len ⟨#[]⟩⟩, ⟨some ⟨b9, 0, none⟩, s.len, s.len, List.replicate s.len false⟩, 1, now, -1⟩⟩ := by rw [hc1e]
        refine pr_q 11 (by decide +kernel) rfl (Qt.as (qt_pev tok rfl) hc1v.symm) rfl rfl rfl ?_
        refine pr_one 12 (by decide +kernel) (eff1 12 rfl (st_callF rfl (fun _ => refOwn_frz _ _ c1 hc1)) (by decide +kernel) (qs := _) rfl rfl rfl rfl ?_)
        rintro _ M12 _ ⟨hM12, rfl, c', rfl, hab, hok⟩
        refine ⟨by (repeat (first | exact trivial | refine And.intro (pend_q rfl rfl rfl (qt_pev tok rfl)) ?_ | refine And.intro (pend_q rfl rfl rfl (ql tok rfl)) ?_ | refine And.intro (pend_q rfl rfl rfl (Qt.as (qt_pev tok rfl) hc1v.symm)) ?_)), ?_⟩
        refine pr_one 14 (by decide +kernel) (eff0 14 rfl (sst tok rfl rfl rfl rfl rfl) (by decide +kernel) (qs := _) rfl ?_)
        rintro _ _ _ ⟨rfl, rfl, rfl⟩
        refine ⟨by (repeat (first | exact trivial | refine And.intro (pend_q rfl rfl rfl (qt_pev tok rfl)) ?_ | refine And.intro (pend_q rfl rfl rfl (ql tok rfl)) ?_ | refine And.intro (pend_q rfl rfl rfl (Qt.as (qt_pev tok rfl) hc1v.symm)) ?_)), ?_⟩
        refine pr_end (by decide +kernel) (by decide +kernel) ?_
        exact run_sub' (hnext _ _ _ ⟨b13, c', Mem.le_trans hMM hM12, hok, hab.trans (newAb hl hc1e), rfl, rfl⟩) ⟨rfl, rfl, rfl, trivial⟩
    · refine eff1 7 rfl (St.frz1 (st_makeSlice (n := s.len) tok rfl rfl rfl rfl rfl rfl rfl (by omega) (by omega))) (by decide +kernel) (qs := _) rfl rfl rfl rfl ?_
      rintro _ M7 _ ⟨hM7, rfl, b7, rfl, hb7⟩
      refine ⟨by (repeat (first | exact trivial | refine And.intro (pend_q rfl rfl rfl (qt_pev tok rfl)) ?_ | refine And.intro (pend_q rfl rfl rfl (ql tok rfl)) ?_ | refine And.intro (pend_q rfl rfl rfl (Qt.as (qt_pev tok rfl) hc1v.symm)) ?_)), ?_⟩
      have hMM := Mem.le_trans hMM hM7
      have hs := MbOk.le hM7 hs
      have hb := StOk.le hM7 hb
      refine pr_two 5 9 (by decide +kernel) ?_ ?_
      · refine eff1 5 rfl (St.frz1 (st_makeSlice (n := s.len) tok rfl rfl rfl rfl rfl rfl rfl (by omega) (by omega))) (by decide +kernel) (qs := _) rfl rfl rfl rfl ?_
        rintro _ M5 _ ⟨hM5, rfl, b5, rfl, hb5⟩
        refine ⟨by (repeat (first | exact trivial | refine And.intro (pend_q rfl rfl rfl (qt_pev tok rfl)) ?_ | refine And.intro (pend_q rfl rfl rfl (ql tok rfl)) ?_ | refine And.intro (pend_q rfl rfl rfl (Qt.as (qt_pev tok rfl) hc1v.symm)) ?_)), ?_⟩
        have hMM := Mem.le_trans hMM hM5
        have hs := MbOk.le hM5 hs
        have hb := StOk.le hM5 hb
        have hb7 := hM5.blk _ _ hb7
        refine pr_one 9 (by decide +kernel) (eff1 9 rfl (St.frz1 (st_makeSlice (n := s.len) tok rfl rfl rfl rfl rfl rfl rfl (by omega) (by omega))) (by decide +kernel) (qs := _) rfl rfl rfl rfl ?_)
        rintro _ M9 _ ⟨hM9, rfl, b9, rfl, hb9⟩
        refine ⟨by (repeat (first | exact trivial | refine And.intro (pend_q rfl rfl rfl (qt_pev tok rfl)) ?_ | refine And.intro (pend_q rfl rfl rfl (ql tok rfl)) ?_ | refine And.intro (pend_q rfl rfl rfl (Qt.as (qt_pev tok rfl) hc1v.symm)) ?_)), ?_⟩
        have hMM := Mem.le_trans hMM hM9
        have hs := MbOk.le hM9 hs
        have hb := StOk.le hM9 hb
        have hb7 := hM9.blk _ _ hb7
        have hb5 := hM9.blk _ _ hb5
        obtain ⟨c1, hc1e⟩ : ∃ c1 : Co, c1 = ⟨t, au, s, bs, ⟨some ⟨b5, 0, none⟩, s.len, s.len, List.replicate s.len 0⟩, ⟨some ⟨b7, 0, none⟩, s.len, s.len, List.replicate s.len ⟨#[]⟩⟩, ⟨some ⟨b9, 0, none⟩, s.len, s.len, List.replicate s.len false⟩, 1, now, -1⟩ := ⟨_, rfl⟩
        have hc1 : CoOk _ c1 := hc1e ▸ newCo hs hb hb5 hb7 hb9 hd hbd t au now
        have hc1v : (Value.agg ⟨coC c1⟩) = .agg ⟨coC ⟨t, au, s, bs, ⟨some ⟨b5, 0, none⟩, s.len, s.len, List.replicate s.len 0⟩, ⟨some ⟨b7, 0, none⟩, s.len, s.len, List.replicate s.len ⟨#[]⟩⟩, ⟨some ⟨b9, 0, none⟩, s.len, s.len, List.replicate s.len false⟩, 1, now, -1⟩⟩ := by rw [hc1e]
        refine pr_q 11 (by decide +kernel) rfl (Qt.as (qt_pev tok rfl) hc1v.symm) rfl rfl rfl ?_
        refine pr_one 12 (by decide +kernel) (eff1 12 rfl (st_callF rfl (fun _ => refOwn_frz _ _ c1 hc1)) (by decide +kernel) (qs := _) rfl rfl rfl rfl ?_)
        rintro _ M12 _ ⟨hM12, rfl, c', rfl, hab, hok⟩
        refine ⟨by (repeat (first | exact trivial | refine And.intro (pend_q rfl rfl rfl (qt_pev tok rfl)) ?_ | refine And.intro (pend_q rfl rfl rfl (ql tok rfl)) ?_ | refine And.intro (pend_q rfl rfl rfl (Qt.as (qt_pev tok rfl) hc1v.symm)) ?_)), ?_⟩
        refine pr_one 14 (by decide +kernel) (eff0 14 rfl (sst tok rfl rfl rfl rfl rfl) (by decide +kernel) (qs := _) rfl ?_)
        rintro _ _ _ ⟨rfl, rfl, rfl⟩
        refine ⟨by (repeat (first | exact trivial | refine And.intro (pend_q rfl rfl rfl (qt_pev tok rfl)) ?_ | refine And.intro (pend_q rfl rfl rfl (ql tok rfl)) ?_ | refine And.intro (pend_q rfl rfl rfl (Qt.as (qt_pev tok rfl) hc1v.symm)) ?_)), ?_⟩
        refine pr_end (by decide +kernel) (by decide +kernel) ?_
        exact run_sub' (hnext _ _ _ ⟨b13, c', Mem.le_trans hMM hM12, hok, hab.trans (newAb hl hc1e), rfl, rfl⟩) ⟨rfl, rfl, rfl, trivial⟩
      · refine eff1 9 rfl (St.frz1 (st_makeSlice (n := s.len) tok rfl rfl rfl rfl rfl rfl rfl (by omega) (by omega))) (by decide +kernel) (qs := _) rfl rfl rfl rfl ?_
        rintro _ M9 _ ⟨hM9, rfl, b9, rfl, hb9⟩
        refine ⟨by (repeat (first | exact trivial | refine And.intro (pend_q rfl rfl rfl (qt_pev tok rfl)) ?_ | refine And.intro (pend_q rfl rfl rfl (ql tok rfl)) ?_ | refine And.intro (pend_q rfl rfl rfl (Qt.as (qt_pev tok rfl) hc1v.symm)) ?_)), ?_⟩
        have hMM := Mem.le_trans hMM hM9
        have hs := MbOk.le hM9 hs
        have hb := StOk.le hM9 hb
        have hb7 := hM9.blk _ _ hb7
        refine pr_one 5 (by decide +kernel) (eff1 5 rfl (St.frz1 (st_makeSlice (n := s.len) tok rfl rfl rfl rfl rfl rfl rfl (by omega) (by omega))) (by decide +kernel) (qs := _) rfl rfl rfl rfl ?_)
        rintro _ M5 _ ⟨hM5, rfl, b5, rfl, hb5⟩
        refine ⟨by (repeat (first | exact trivial | refine And.intro (pend_q rfl rfl rfl (qt_pev tok rfl)) ?_ | refine And.intro (pend_q rfl rfl rfl (ql tok rfl)) ?_ | refine And.intro (pend_q rfl rfl rfl (Qt.as (qt_pev tok rfl) hc1v.symm)) ?_)), ?_⟩
        have hMM := Mem.le_trans hMM hM5
        have hs := MbOk.le hM5 hs
        have hb := StOk.le hM5 hb
        have hb7 := hM5.blk _ _ hb7
        have hb9 := hM5.blk _ _ hb9
        obtain ⟨c1, hc1e⟩ : ∃ c1 : Co, c1 = ⟨t, au, s, bs, ⟨some ⟨b5, 0, none⟩, s.len, s.len, List.replicate s.len 0⟩, ⟨some ⟨b7, 0, none⟩, s.len, s.len, List.replicate s.len ⟨#[]⟩⟩, ⟨some ⟨b9, 0, none⟩, s.len, s.len, List.replicate s.len false⟩, 1, now, -1⟩ := ⟨_, rfl⟩
        have hc1 : CoOk _ c1 := hc1e ▸ newCo hs hb hb5 hb7 hb9 hd hbd t au now
        have hc1v : (Value.agg ⟨coC c1⟩) = .agg ⟨coC ⟨t, au, s, bs, ⟨some ⟨b5, 0, none⟩, s.len, s.len, List.replicate s.len 0⟩, ⟨some ⟨b7, 0, none⟩, s.len, s.len, List.replicate s.len ⟨#[]⟩⟩, ⟨some ⟨b9, 0, none⟩, s.len, s.len, List.replicate s.len false⟩, 1, now, -1⟩⟩ := by rw [hc1e]
        refine pr_q 11 (by decide +kernel) rfl (Qt.as (qt_pev tok rfl) hc1v.symm) rfl rfl rfl ?_
        refine pr_one 12 (by decide +kernel) (eff1 12 rfl (st_callF rfl (fun _ => refOwn_frz _ _ c1 hc1)) (by decide +kernel) (qs := _) rfl rfl rfl rfl ?_)
        rintro _ M12 _ ⟨hM12, rfl, c', rfl, hab, hok⟩
        refine ⟨by (repeat (first | exact trivial | refine And.intro (pend_q rfl rfl rfl (qt_pev tok rfl)) ?_ | refine And.intro (pend_q rfl rfl rfl (ql tok rfl)) ?_ | refine And.intro (pend_q rfl rfl rfl (Qt.as (qt_pev tok rfl) hc1v.symm)) ?_)), ?_⟩
        refine pr_one 14 (by decide +kernel) (eff0 14 rfl (sst tok rfl rfl rfl rfl rfl) (by decide +kernel) (qs := _) rfl ?_)
        rintro _ _ _ ⟨rfl, rfl, rfl⟩
        refine ⟨by (repeat (first | exact trivial | refine And.intro (pend_q rfl rfl rfl (qt_pev tok rfl)) ?_ | refine And.intro (pend_q rfl rfl rfl (ql tok rfl)) ?_ | refine And.intro (pend_q rfl rfl rfl (Qt.as (qt_pev tok rfl) hc1v.symm)) ?_)), ?_⟩
        refine pr_end (by decide +kernel) (by decide +kernel) ?_
        exact run_sub' (hnext _ _ _ ⟨b13, c', Mem.le_trans hMM hM12, hok, hab.trans (newAb hl hc1e), rfl, rfl⟩) ⟨rfl, rfl, rfl, trivial⟩
    · refine eff1 9 rfl (St.frz1 (st_makeSlice (n := s.len) tok rfl rfl rfl rfl rfl rfl rfl (by omega) (by omega))) (by decide +kernel) (qs := _) rfl rfl rfl rfl ?_
      rintro _ M9 _ ⟨hM9, rfl, b9, rfl, hb9⟩
      refine ⟨by (repeat (first | exact trivial | refine And.intro (pend_q rfl rfl rfl (qt_pev tok rfl)) ?_ | refine And.intro (pend_q rfl rfl rfl (ql tok rfl)) ?_ | refine And.intro (pend_q rfl rfl rfl (Qt.as (qt_pev tok rfl) hc1v.symm)) ?_)), ?_⟩
      have hMM := Mem.le_trans hMM hM9
      have hs := MbOk.le hM9 hs
      have hb := StOk.le hM9 hb
      refine pr_two 5 7 (by decide +kernel) ?_ ?_
      · refine eff1 5 rfl (St.frz1 (st_makeSlice (n := s.len) tok rfl rfl rfl rfl rfl rfl rfl (by omega) (by omega))) (by decide +kernel) (qs := _) rfl rfl rfl rfl ?_
        rintro _ M5 _ ⟨hM5, rfl, b5, rfl, hb5⟩
        refine ⟨by (repeat (first | exact trivial | refine And.intro (pend_q rfl rfl rfl (qt_pev tok rfl)) ?_ | refine And.intro (pend_q rfl rfl rfl (ql tok rfl)) ?_ | refine And.intro (pend_q rfl rfl rfl (Qt.as (qt_pev tok rfl) hc1v.symm)) ?_)), ?_⟩
        have hMM := Mem.le_trans hMM hM5
        have hs := MbOk.le hM5 hs
        have hb := StOk.le hM5 hb
        have hb9 := hM5.blk _ _ hb9
        refine pr_one 7 (by decide +kernel) (eff1 7 rfl (St.frz1 (st_makeSlice (n := s.len) tok rfl rfl rfl rfl rfl rfl rfl (by omega) (by omega))) (by decide +kernel) (qs := _) rfl rfl rfl rfl ?_)
        rintro _ M7 _ ⟨hM7, rfl, b7, rfl, hb7⟩
        refine ⟨by (repeat (first | exact trivial | refine And.intro (pend_q rfl rfl rfl (qt_pev tok rfl)) ?_ | refine And.intro (pend_q rfl rfl rfl (ql tok rfl)) ?_ | refine And.intro (pend_q rfl rfl rfl (Qt.as (qt_pev tok rfl) hc1v.symm)) ?_)), ?_⟩
        have hMM := Mem.le_trans hMM hM7
        have hs := MbOk.le hM7 hs
        have hb := StOk.le hM7 hb
        have hb9 := hM7.blk _ _ hb9
        have hb5 := hM7.blk _ _ hb5
        obtain ⟨c1, hc1e⟩ : ∃ c1 : Co, c1 = ⟨t, au, s, bs, ⟨some ⟨b5, 0, none⟩, s.len, s.len, List.replicate s.len 0⟩, ⟨some ⟨b7, 0, none⟩, s.len, s.len, List.replicate s.len ⟨#[]⟩⟩, ⟨some ⟨b9, 0, none⟩, s.len, s.len, List.replicate s.len false⟩, 1, now, -1⟩ := ⟨_, rfl⟩
        have hc1 : CoOk _ c1 := hc1e ▸ newCo hs hb hb5 hb7 hb9 hd hbd t au now
        have hc1v : (Value.agg ⟨coC c1⟩) = .agg ⟨coC ⟨t, au, s, bs, ⟨some ⟨b5, 0, none⟩, s.len, s.len, List.replicate s.len 0⟩, ⟨some ⟨b7, 0, none⟩, s.len, s.len, List.replicate s.len ⟨#[]⟩⟩, ⟨some ⟨b9, 0, none⟩, s.len, s.len, List.replicate s.len false⟩, 1, now, -1⟩⟩ := by rw [hc1e]
        refine pr_q 11 (by decide +kernel) rfl (Qt.as (qt_pev tok rfl) hc1v.symm) rfl rfl rfl ?_
        refine pr_one 12 (by decide +kernel) (eff1 12 rfl (st_callF rfl (fun _ => refOwn_frz _ _ c1 hc1)) (by decide +kernel) (qs := _) rfl rfl rfl rfl ?_)
        rintro _ M12 _ ⟨hM12, rfl, c', rfl, hab, hok⟩
        refine ⟨by (repeat (first | exact trivial | refine And.intro (pend_q rfl rfl rfl (qt_pev tok rfl)) ?_ | refine And.intro (pend_q rfl rfl rfl (ql tok rfl)) ?_ | refine And.intro (pend_q rfl rfl rfl (Qt.as (qt_pev tok rfl) hc1v.symm)) ?_)), ?_⟩
        refine pr_one 14 (by decide +kernel) (eff0 14 rfl (sst tok rfl rfl rfl rfl rfl) (by decide +kernel) (qs := _) rfl ?_)
        rintro _ _ _ ⟨rfl, rfl, rfl⟩
        refine ⟨by (repeat (first | exact trivial | refine And.intro (pend_q rfl rfl rfl (qt_pev tok rfl)) ?_ | refine And.intro (pend_q rfl rfl rfl (ql tok rfl)) ?_ | refine And.intro (pend_q rfl rfl rfl (Qt.as (qt_pev tok rfl) hc1v.symm)) ?_)), ?_⟩
        refine pr_end (by decide +kernel) (by decide +kernel) ?_
        exact run_sub' (hnext _ _ _ ⟨b13, c', Mem.le_trans hMM hM12, hok, hab.trans (newAb hl hc1e), rfl, rfl⟩) ⟨rfl, rfl, rfl, trivial⟩
      · refine eff1 7 rfl (St.frz1 (st_makeSlice (n := s.len) tok rfl rfl rfl rfl rfl rfl rfl (by omega) (by omega))) (by decide +kernel) (qs := _) rfl rfl rfl rfl ?_
        rintro _ M7 _ ⟨hM7, rfl, b7, rfl, hb7⟩
        refine ⟨by (repeat (first | exact trivial | refine And.intro (pend_q rfl rfl rfl (qt_pev tok rfl)) ?_ | refine And.intro (pend_q rfl rfl rfl (ql tok rfl)) ?_ | refine And.intro (pend_q rfl rfl rfl (Qt.as (qt_pev tok rfl) hc1v.symm)) ?_)), ?_⟩
        have hMM := Mem.le_trans hMM hM7
        have hs := MbOk.le hM7 hs
        have hb := StOk.le hM7 hb
        have hb9 := hM7.blk _ _ hb9
        refine pr_one 5 (by decide +kernel) (eff1 5 rfl (St.frz1 (st_makeSlice (n := s.len) tok rfl rfl rfl rfl rfl rfl rfl (by omega) (by omega))) (by decide +kernel) (qs := _) rfl rfl rfl rfl ?_)
        rintro _ M5 _ ⟨hM5, rfl, b5, rfl, hb5⟩
        refine ⟨by (repeat (first | exact trivial | refine And.intro (pend_q rfl rfl rfl (qt_pev tok rfl)) ?_ | refine And.intro (pend_q rfl rfl rfl (ql tok rfl)) ?_ | refine And.intro (pend_q rfl rfl rfl (Qt.as (qt_pev tok rfl) hc1v.symm)) ?_)), ?_⟩
        have hMM := Mem.le_trans hMM hM5
        have hs := MbOk.le hM5 hs
        have hb := StOk.le hM5 hb
        have hb9 := hM5.blk _ _ hb9
        have hb7 := hM5.blk _ _ hb7
        obtain ⟨c1, hc1e⟩ : ∃ c1 : Co, c1 = ⟨t, au, s, bs, ⟨some ⟨b5, 0, none⟩, s.len, s.len, List.replicate s.len 0⟩, ⟨some ⟨b7, 0, none⟩, s.len, s.len, List.replicate s.len ⟨#[]⟩⟩, ⟨some ⟨b9, 0, none⟩, s.len, s.len, List.replicate s.len false⟩, 1, now, -1⟩ := ⟨_, rfl⟩
        have hc1 : CoOk _ c1 := hc1e ▸ newCo hs hb hb5 hb7 hb9 hd hbd t au now
        have hc1v : (Value.agg ⟨coC c1⟩) = .agg ⟨coC ⟨t, au, s, bs, ⟨some ⟨b5, 0, none⟩, s.len, s.len, List.replicate s.len 0⟩, ⟨some ⟨b7, 0, none⟩, s.len, s.len, List.replicate s.len ⟨#[]⟩⟩, ⟨some ⟨b9, 0, none⟩, s.len, s.len, List.replicate s.len false⟩, 1, now, -1⟩⟩ := by rw [hc1e]
        refine pr_q 11 (by decide +kernel) rfl (Qt.as (qt_pev tok rfl) hc1v.symm) rfl rfl rfl ?_
        refine pr_one 12 (by decide +kernel) (eff1 12 rfl (st_callF rfl (fun _ => refOwn_frz _ _ c1 hc1)) (by decide +kernel) (qs := _) rfl rfl rfl rfl ?_)
        rintro _ M12 _ ⟨hM12, rfl, c', rfl, hab, hok⟩
        refine ⟨by (repeat (first | exact trivial | refine And.intro (pend_q rfl rfl rfl (qt_pev tok rfl)) ?_ | refine And.intro (pend_q rfl rfl rfl (ql tok rfl)) ?_ | refine And.intro (pend_q rfl rfl rfl (Qt.as (qt_pev tok rfl) hc1v.symm)) ?_)), ?_⟩
        refine pr_one 14 (by decide +kernel) (eff0 14 rfl (sst tok rfl rfl rfl rfl rfl) (by decide +kernel) (qs := _) rfl ?_)
        rintro _ _ _ ⟨rfl, rfl, rfl⟩
        refine ⟨by (repeat (first | exact trivial | refine And.intro (pend_q rfl rfl rfl (qt_pev tok rfl)) ?_ | refine And.intro (pend_q rfl rfl rfl (ql tok rfl)) ?_ | refine And.intro (pend_q rfl rfl rfl (Qt.as (qt_pev tok rfl) hc1v.symm)) ?_)), ?_⟩
        refine pr_end (by decide +kernel) (by decide +kernel) ?_
        exact run_sub' (hnext _ _ _ ⟨b13, c', Mem.le_trans hMM hM12, hok, hab.trans (newAb hl hc1e), rfl, rfl⟩) ⟨rfl, rfl, rfl, trivial⟩

/-! ### the document's transaction that comes back -/
def backC0 (t : Tx) (au : Int) (mem : List Mb) (tags : List ByteArray) : Ca := ⟨t, au, mem, [], List.replicate mem.length 0, tags, List.replicate mem.length false, 2, 0, -1⟩
theorem backCo0 {M : Mem} {s : SMb} {ts : SStr} {b8 b12 e8 e12 : Nat} (hs : MbOk M s) (ht : StOk M ts) (h8 : M.blk b8 = some (.cells ⟨List.replicate s.len (.int .u8 0)⟩ e8 (0, 0))) (h12 : M.blk b12 = some (.cells ⟨List.replicate s.len (.bool false)⟩ e12 (0, 0)))
    (hd : ∀ m ∈ s.xs, m.digest.size < 4611686018427387904) (htd : ∀ t ∈ ts.xs, t.size < 4611686018427387904) (t : Tx) (au : Int) : CoOk M ⟨t, au, s, ⟨none, 0, 0, []⟩, ⟨some ⟨b8, 0, none⟩, s.len, s.len, List.replicate s.len 0⟩, ts, ⟨some ⟨b12, 0, none⟩, s.len, s.len, List.replicate s.len false⟩, 2, 0, -1⟩ :=
  ⟨hs, StOk.nil M, repU8 h8 hs.2 _, ht, repBl h12 hs.2 _, hd, (fun x hx => by cases hx), htd⟩
theorem backAb0 {s : SMb} {ts : SStr} {b7 b11 : Nat} {t : Tx} {au : Int} (hl : s.xs.length = s.len) {c1 : Co} (h : c1 = ⟨t, au, s, ⟨none, 0, 0, []⟩, ⟨some ⟨b7, 0, none⟩, s.len, s.len, List.replicate s.len 0⟩, ts, ⟨some ⟨b11, 0, none⟩, s.len, s.len, List.replicate s.len false⟩, 2, 0, -1⟩) : c1.ab = backC0 t au s.xs ts.xs := by rw [h, backC0, hl]; rfl
theorem permBk (x : Nat × Obj) (A B C L : HL) : (A ++ (B ++ (C ++ x :: L))).Perm (x :: (A ++ (B ++ (C ++ L)))) := by
  have := (permMid [x] (A ++ (B ++ C)) L).symm
  simpa [List.append_assoc] using this
theorem backA_big {t : Tx} {au : Int} {mem : List Mb} {tags : List ByteArray} (h : 6 < mem.length ∨ 6 < tags.length) : backA t au mem tags = (caZ, 2) := by
  unfold backA
  split
  · rfl
  · rename_i h1
    have h2 : 6 < tags.length := h.resolve_left h1
    have h3 : ¬ mayA (backC t au mem tags) = true := by
      intro e
      simp only [mayA, coOk, Bool.and_eq_true] at e
      have hr := (rowsR_rows e.1.1.2).tags
      simp only [backC, Ca.co] at hr
      omega
    rw [madeA, if_neg h3]
theorem setAll {n j : Nat} (h : j < n) : (List.replicate j (1 : Int) ++ List.replicate (n - j) 0).set j 1 = List.replicate (j + 1) 1 ++ List.replicate (n - (j + 1)) 0 := by
  rw [List.set_append_right _ _ (by simp), List.length_replicate, Nat.sub_self, show n - j = (n - (j + 1)) + 1 by omega, List.replicate_succ, List.set_cons_zero, ← List.replicate_append_replicate, List.append_assoc]
  rfl
theorem run_mkfrz {P : Program} {C : Cx} {n : Nat} {k : List Item} {ds : List Deferred} {σ : Env} {M : Mem} {L : HL} {c : Co} {Nv Nt Na : HL} (hm : Mk M c Nv Nt Na) (h : ∀ M', M.le M' → CoOk M' c → Run P C n k ds σ M' L) : Run P C n k ds σ M (Na ++ (Nt ++ (Nv ++ L))) :=
  fun a w h1 h2 h3 h4 => by
    obtain ⟨M', h5, h6, h7⟩ := hm.frz h4
    exact h M' h5 h7 a w h1 h2 h3 h6
set_option maxRecDepth 10000 in
set_option maxHeartbeats 32000000 in
theorem refBack_ok (M : Mem) (L : HL) (t : Tx) (au : Int) (s : SMb) (ts : SStr) (hs : MbOk M s) (ht : StOk M ts) (hd : ∀ m ∈ s.xs, m.digest.size < 4611686018427387904) (htd : ∀ t ∈ ts.xs, t.size < 4611686018427387904) : Tr Try.prog 27 [.agg ⟨rpC t au s ts⟩] M L (CoK M L (backA t au s.xs ts.xs)) := by
  have hl := hs.len
  have htl := ht.len
  have h6 := hs.2
  refine Tr.intro 49 Try.func27 rfl rfl Try.call27 rfl ?_
  intro C hC hro
  repeat (first | with_reducible (first | refine run_seq ?_ | refine run_region ?_ | refine runL_nil ?_ | refine run_skip ?_ | refine run_block ?_ | refine run_inBlock ?_) | refine run_exit rfl ?_ | refine runL_q (qt_pev tok rfl) rfl rfl rfl ?_ | refine runL_g rfl rfl (qt_pev tok rfl) rfl rfl rfl rfl rfl ?_ | refine runL_q (ql tok rfl) rfl rfl rfl ?_ | refine runL_g rfl rfl (ql tok rfl) rfl rfl rfl rfl rfl ?_ | (refine runL_op0 (sst tok rfl rfl rfl rfl rfl) ?_; rintro _ _ _ ⟨rfl, rfl, rfl⟩) | (refine runL_op (st_box rfl) rfl rfl rfl ?_; rintro _ _ _ ⟨_, rfl, rfl, rfl⟩) | (refine runL_op (st_alloc tok rfl) rfl rfl rfl ?_; rintro _ _ _ ⟨_, rfl, rfl, rfl⟩) | (refine runL_op (st_buildSlice tok rfl rfl rfl rfl rfl rfl rfl) rfl rfl rfl ?_; rintro _ _ _ ⟨_, rfl, rfl, rfl⟩))
  rename_i b1 b2
  refine run_cond rfl (fun h => ?_) (fun h => ?_)
  · have h1 : 6 < s.xs.length ∨ 6 < ts.xs.length := by
      have : (decide ((s.len : Int) > 6) || decide ((ts.len : Int) > 6)) = true := h
      simp at this
      omega
    rw [backA_big h1] at hC
    repeat (first | with_reducible (first | refine run_seq ?_ | refine run_region ?_ | refine runL_nil ?_ | refine run_skip ?_ | refine run_block ?_ | refine run_inBlock ?_) | refine run_exit rfl ?_ | refine runL_q (qt_pev tok rfl) rfl rfl rfl ?_ | refine runL_g rfl rfl (qt_pev tok rfl) rfl rfl rfl rfl rfl ?_ | refine runL_q (ql tok rfl) rfl rfl rfl ?_ | refine runL_g rfl rfl (ql tok rfl) rfl rfl rfl rfl rfl ?_ | (refine runL_op0 (sst tok rfl rfl rfl rfl rfl) ?_; rintro _ _ _ ⟨rfl, rfl, rfl⟩) | (refine runL_op (st_box rfl) rfl rfl rfl ?_; rintro _ _ _ ⟨_, rfl, rfl, rfl⟩) | (refine runL_op (st_alloc tok rfl) rfl rfl rfl ?_; rintro _ _ _ ⟨_, rfl, rfl, rfl⟩) | (refine runL_op (st_buildSlice tok rfl rfl rfl rfl rfl rfl rfl) rfl rfl rfl ?_; rintro _ _ _ ⟨_, rfl, rfl, rfl⟩))
    exact run_ret hC (rs := [.cell 2 29, .tmp 3]) rfl (rl tok rfl (resT rfl resN)) (fun _ h => h.drop.drop) (CoK.none _ _ _ (Mem.le_refl _))
  have hle : ¬ 6 < s.xs.length := by
    have : (decide ((s.len : Int) > 6) || decide ((ts.len : Int) > 6)) = false := h
    simp at this
    omega
  rw [backA, if_neg hle] at hC
  refine run_skip ?_
  refine run_seq ?_
  refine run_cut (fun σ' M' L' => ∃ b5 c' Nv Nt Na, M.le M' ∧ Mk M' c' Nv Nt Na ∧ c'.ab = backC0 t au s.xs ts.xs ∧ L' = (b5, .cells ⟨coC c'⟩ 29 (0, 0)) :: (Na ++ (Nt ++ (Nv ++ (b2, .cells ⟨coC coZ⟩ 29 (0, 0)) :: (b1, .cells ⟨rpC t au s ts⟩ 51 (0, 0)) :: L))) ∧ σ' = [(5, .pointer (some ⟨b5, 0, none⟩)), (4, .int .i64 (s.xs.length : Int)), (2, .pointer (some ⟨b2, 0, none⟩)), (3, .int .i64 0)]) ?_ ?_
  · rintro _ M1 _ ⟨b5, c', Nv, Nt, Na, hM1, hmk, hab, rfl, rfl⟩
    have hvx : c'.votes.xs = List.replicate s.xs.length 0 := congrArg Ca.votes hab
    have hvl : c'.votes.len = s.xs.length := by rw [← hmk.lv.1, hvx]; simp
    obtain ⟨va, vl, vc, hva⟩ : ∃ va vl vc, c'.votes.v = .slice va vl vc := ⟨_, _, _, rfl⟩
    repeat (first | with_reducible (first | refine run_seq ?_ | refine run_region ?_ | refine runL_nil ?_ | refine run_skip ?_ | refine run_block ?_ | refine run_inBlock ?_) | refine run_exit rfl ?_ | refine runL_q (qt_pev tok rfl) rfl rfl rfl ?_ | refine runL_g rfl rfl (qt_pev tok rfl) rfl rfl rfl rfl rfl ?_ | refine runL_q (ql tok rfl) rfl rfl rfl ?_ | refine runL_g rfl rfl (ql tok rfl) rfl rfl rfl rfl rfl ?_ | (refine runL_op0 (sst tok rfl rfl rfl rfl rfl) ?_; rintro _ _ _ ⟨rfl, rfl, rfl⟩) | (refine runL_op (st_box rfl) rfl rfl rfl ?_; rintro _ _ _ ⟨_, rfl, rfl, rfl⟩) | (refine runL_op (st_alloc tok rfl) rfl rfl rfl ?_; rintro _ _ _ ⟨_, rfl, rfl, rfl⟩) | (refine runL_op (st_buildSlice tok rfl rfl rfl rfl rfl rfl rfl) rfl rfl rfl ?_; rintro _ _ _ ⟨_, rfl, rfl, rfl⟩))
    refine run_loopN (fun j σ1 M2 L2 => j ≤ s.xs.length ∧ M1 = M2 ∧ (∃ Nv', Mk M1 { c' with votes := { c'.votes with xs := List.replicate j 1 ++ List.replicate (s.xs.length - j) 0 } } Nv' Nt Na ∧ L2 = (b5, .cells ⟨coC c'⟩ 29 (0, 0)) :: (Na ++ (Nt ++ (Nv' ++ (b2, .cells ⟨coC coZ⟩ 29 (0, 0)) :: (b1, .cells ⟨rpC t au s ts⟩ 51 (0, 0)) :: L)))) ∧ σ1 = [(7, .int .i64 (j : Int)), (6, c'.votes.v), (5, .pointer (some ⟨b5, 0, none⟩)), (4, .int .i64 (s.xs.length : Int)), (2, .pointer (some ⟨b2, 0, none⟩)), (3, .int .i64 0)]) s.xs.length [(7, .int .i64 ((0 : Nat) : Int)), (6, c'.votes.v), (5, .pointer (some ⟨b5, 0, none⟩)), (4, .int .i64 (s.xs.length : Int)), (2, .pointer (some ⟨b2, 0, none⟩)), (3, .int .i64 0)] ?_ ⟨Nat.zero_le _, rfl, ⟨Nv, ?_, rfl⟩, rfl⟩ (fun j _ _ _ h => h.1) ?_
    · exact ⟨rfl, rfl, rfl, rfl, rfl, rfl, trivial⟩
    · have e : c' = { c' with votes := { c'.votes with xs := List.replicate 0 1 ++ List.replicate (s.xs.length - 0) 0 } } := by
        simp only [List.replicate_zero, List.nil_append, Nat.sub_zero, ← hvx]
      rw [← e]
      exact hmk
    rintro j _ _ _ ⟨hj, rfl, ⟨Nv', hmk', rfl⟩, rfl⟩ hnext
    repeat (first | with_reducible (first | refine run_seq ?_ | refine run_region ?_ | refine runL_nil ?_ | refine run_skip ?_ | refine run_block ?_ | refine run_inBlock ?_) | refine run_exit rfl ?_ | refine runL_q (qt_pev tok rfl) rfl rfl rfl ?_ | refine runL_g rfl rfl (qt_pev tok rfl) rfl rfl rfl rfl rfl ?_ | refine runL_q (ql tok rfl) rfl rfl rfl ?_ | refine runL_g rfl rfl (ql tok rfl) rfl rfl rfl rfl rfl ?_ | (refine runL_op0 (sst tok rfl rfl rfl rfl rfl) ?_; rintro _ _ _ ⟨rfl, rfl, rfl⟩) | (refine runL_op (st_box rfl) rfl rfl rfl ?_; rintro _ _ _ ⟨_, rfl, rfl, rfl⟩) | (refine runL_op (st_alloc tok rfl) rfl rfl rfl ?_; rintro _ _ _ ⟨_, rfl, rfl, rfl⟩) | (refine runL_op (st_buildSlice tok rfl rfl rfl rfl rfl rfl rfl) rfl rfl rfl ?_; rintro _ _ _ ⟨_, rfl, rfl, rfl⟩))
    refine run_cond rfl (fun h1 => ?_) (fun h1 => ?_)
    · have hlt : j < s.xs.length := of_natlt h1
      have hov := hmk'.votes
      obtain ⟨b, cap, pre, post, hv, rfl, hpre, hset⟩ := OS.mid (ls := (List.replicate j (1 : Int) ++ List.replicate (s.xs.length - j) 0).map u8C) hov (u8C_all _) (by simp [hvl]; omega) (k := j) (c := u8C 0) (by rw [List.getElem?_map, List.getElem?_append_right (by simp), List.length_replicate, Nat.sub_self, List.getElem?_replicate, if_pos (by omega)]; rfl)
      simp only [List.cons_append, List.nil_append]
      refine run_as 6 (.slice (some ⟨b, 0, none⟩) c'.votes.len cap) rfl hv ?_
      repeat (first | with_reducible (first | refine run_seq ?_ | refine run_region ?_ | refine runL_nil ?_ | refine run_skip ?_ | refine run_block ?_ | refine run_inBlock ?_) | refine run_exit rfl ?_ | refine runL_q (qt_pev tok rfl) rfl rfl rfl ?_ | refine runL_g rfl rfl (qt_pev tok rfl) rfl rfl rfl rfl rfl ?_ | refine runL_q (ql tok rfl) rfl rfl rfl ?_ | refine runL_g rfl rfl (ql tok rfl) rfl rfl rfl rfl rfl ?_ | (refine runL_op0 (sst tok rfl rfl rfl rfl rfl) ?_; rintro _ _ _ ⟨rfl, rfl, rfl⟩) | (refine runL_op (st_box rfl) rfl rfl rfl ?_; rintro _ _ _ ⟨_, rfl, rfl, rfl⟩) | (refine runL_op (st_alloc tok rfl) rfl rfl rfl ?_; rintro _ _ _ ⟨_, rfl, rfl, rfl⟩) | (refine runL_op (st_buildSlice tok rfl rfl rfl rfl rfl rfl rfl) rfl rfl rfl ?_; rintro _ _ _ ⟨_, rfl, rfl, rfl⟩) | refine runL_q (qt_indexAs (n := j) (o := pre.length) tok rfl rfl rfl rfl (fun _ => by omega) (by rw [hpre, Nat.zero_add])) rfl rfl rfl ?_ | (refine runL_op0 (st_store tok rfl rfl rfl rfl rfl (by (repeat (first | with_reducible apply Upd.here | with_reducible apply Upd.there | with_reducible apply Upd.append_left))) (setE_mid (j := 0) rfl)) ?_; rintro _ _ _ ⟨rfl, rfl, rfl⟩))
      have hset1 := hset (u8C 1) rfl
      refine run_sub' (hnext _ _ _ ⟨hlt, rfl, ⟨[(b, .cells ⟨pre ++ (u8C 1 ++ post)⟩ 5 (0, 0))], ?_, rfl⟩, rfl⟩) ⟨lk_succ rfl (by omega), by rw [show c'.votes.v = _ from hv]; rfl, rfl, rfl, rfl, rfl, trivial⟩
      refine ⟨hmk'.mem, hmk'.bodies, ?_, hmk'.tags, hmk'.acks, ⟨?_, hmk'.lv.2⟩, hmk'.lt, hmk'.la, hmk'.dig, hmk'.bod, hmk'.tag⟩
      · rw [← setAll hlt, List.map_set]
        exact hset1
      · simp [hvl]; omega
    have hge : j = s.xs.length := by
      have : ¬ (j : Int) < (s.xs.length : Int) := of_decide_eq_false h1
      omega
    subst hge
    clear hnext
    have hab2 : Co.ab { c' with votes := { c'.votes with xs := List.replicate s.xs.length 1 ++ List.replicate (s.xs.length - s.xs.length) 0 } } = backC t au s.xs ts.xs := by
      simp only [Nat.sub_self, List.replicate_zero, List.append_nil]
      simp only [Co.ab, backC0, Ca.mk.injEq] at hab
      simp only [Co.ab, backC, hab]
    obtain ⟨c2, hc2⟩ : ∃ c2 : Co, c2 = { c' with votes := { c'.votes with xs := List.replicate s.xs.length 1 ++ List.replicate (s.xs.length - s.xs.length) 0 } } := ⟨_, rfl⟩
    have hcc : coC c' = coC c2 := by rw [hc2]; rfl
    rw [← hc2] at hab2 hmk'
    rw [hcc]
    refine run_mem (fun w h => h.perm (permBk _ Na Nt Nv' _).symm) (run_mkfrz hmk' ?_)
    intro M2 hM2 hok
    have hM12 := Mem.le_trans hM1 hM2
    rw [← hab2] at hC
    repeat (first | with_reducible (first | refine run_seq ?_ | refine run_region ?_ | refine runL_nil ?_ | refine run_skip ?_ | refine run_block ?_ | refine run_inBlock ?_) | refine run_exit rfl ?_ | refine runL_q (qt_pev tok rfl) rfl rfl rfl ?_ | refine runL_g rfl rfl (qt_pev tok rfl) rfl rfl rfl rfl rfl ?_ | refine runL_q (ql tok rfl) rfl rfl rfl ?_ | refine runL_g rfl rfl (ql tok rfl) rfl rfl rfl rfl rfl ?_ | (refine runL_op0 (sst tok rfl rfl rfl rfl rfl) ?_; rintro _ _ _ ⟨rfl, rfl, rfl⟩) | (refine runL_op (st_box rfl) rfl rfl rfl ?_; rintro _ _ _ ⟨_, rfl, rfl, rfl⟩) | (refine runL_op (st_alloc tok rfl) rfl rfl rfl ?_; rintro _ _ _ ⟨_, rfl, rfl, rfl⟩) | (refine runL_op (st_buildSlice tok rfl rfl rfl rfl rfl rfl rfl) rfl rfl rfl ?_; rintro _ _ _ ⟨_, rfl, rfl, rfl⟩) | refine runL_q (qt_callF rfl (fun _ => refMay_ok _ _ _ hok)) rfl rfl rfl ?_)
    refine run_cond rfl (fun h7 => ?_) (fun h7 => ?_)
    · have h8 : ¬ mayA c2.ab = true := by
        intro e
        rw [e] at h7
        cases h7
      rw [madeA, if_neg h8] at hC
      repeat (first | with_reducible (first | refine run_seq ?_ | refine run_region ?_ | refine runL_nil ?_ | refine run_skip ?_ | refine run_block ?_ | refine run_inBlock ?_) | refine run_exit rfl ?_ | refine runL_q (qt_pev tok rfl) rfl rfl rfl ?_ | refine runL_g rfl rfl (qt_pev tok rfl) rfl rfl rfl rfl rfl ?_ | refine runL_q (ql tok rfl) rfl rfl rfl ?_ | refine runL_g rfl rfl (ql tok rfl) rfl rfl rfl rfl rfl ?_ | (refine runL_op0 (sst tok rfl rfl rfl rfl rfl) ?_; rintro _ _ _ ⟨rfl, rfl, rfl⟩) | (refine runL_op (st_box rfl) rfl rfl rfl ?_; rintro _ _ _ ⟨_, rfl, rfl, rfl⟩) | (refine runL_op (st_alloc tok rfl) rfl rfl rfl ?_; rintro _ _ _ ⟨_, rfl, rfl, rfl⟩) | (refine runL_op (st_buildSlice tok rfl rfl rfl rfl rfl rfl rfl) rfl rfl rfl ?_; rintro _ _ _ ⟨_, rfl, rfl, rfl⟩))
      exact run_ret hC (rs := [.cell 2 29, .tmp 3]) rfl (rl tok rfl (resT rfl resN)) (fun _ h => h.drop.drop.drop) (CoK.none _ _ _ hM12)
    · have h8 : mayA c2.ab = true := by
        apply Classical.byContradiction
        intro e
        rw [show mayA c2.ab = false from by simpa using e] at h7
        cases h7
      rw [madeA, if_pos h8] at hC
      repeat (first | with_reducible (first | refine run_seq ?_ | refine run_region ?_ | refine runL_nil ?_ | refine run_skip ?_ | refine run_block ?_ | refine run_inBlock ?_) | refine run_exit rfl ?_ | refine runL_q (qt_pev tok rfl) rfl rfl rfl ?_ | refine runL_g rfl rfl (qt_pev tok rfl) rfl rfl rfl rfl rfl ?_ | refine runL_q (ql tok rfl) rfl rfl rfl ?_ | refine runL_g rfl rfl (ql tok rfl) rfl rfl rfl rfl rfl ?_ | (refine runL_op0 (sst tok rfl rfl rfl rfl rfl) ?_; rintro _ _ _ ⟨rfl, rfl, rfl⟩) | (refine runL_op (st_box rfl) rfl rfl rfl ?_; rintro _ _ _ ⟨_, rfl, rfl, rfl⟩) | (refine runL_op (st_alloc tok rfl) rfl rfl rfl ?_; rintro _ _ _ ⟨_, rfl, rfl, rfl⟩) | (refine runL_op (st_buildSlice tok rfl rfl rfl rfl rfl rfl rfl) rfl rfl rfl ?_; rintro _ _ _ ⟨_, rfl, rfl, rfl⟩))
      exact run_ret hC (rs := [.cell 2 29, .tmp 3]) rfl (rl tok rfl (resT rfl resN)) (fun _ h => h.drop.drop.drop) ⟨hM12, rfl, c2, rfl, rfl, hok⟩
  intro hnext
  have hMM := Mem.le_refl M
  refine prn_start mixed ?_
  refine pr_q 0 (by decide +kernel) rfl (qt_pev tok rfl) rfl rfl rfl ?_
  refine pr_q 1 (by decide +kernel) rfl (ql tok rfl) rfl rfl rfl ?_
  refine pr_q 2 (by decide +kernel) rfl (qt_pev tok rfl) rfl rfl rfl ?_
  refine pr_q 3 (by decide +kernel) rfl (ql tok rfl) rfl rfl rfl ?_
  refine pr_q 4 (by decide +kernel) rfl (qt_pev tok rfl) rfl rfl rfl ?_
  refine pr_q 5 (by decide +kernel) rfl (ql tok rfl) rfl rfl rfl ?_
  refine pr_q 6 (by decide +kernel) rfl (qt_pev tok rfl) rfl rfl rfl ?_
  refine pr_q 8 (by decide +kernel) rfl (qt_pev tok rfl) rfl rfl rfl ?_
  refine pr_q 9 (by decide +kernel) rfl (ql tok rfl) rfl rfl rfl ?_
  refine pr_q 10 (by decide +kernel) rfl (qt_pev tok rfl) rfl rfl rfl ?_
  refine pr_three 7 11 14 (by decide +kernel) ?_ ?_ ?_
  · refine eff1 7 rfl (St.frz1 (st_makeSlice (n := s.len) tok rfl rfl rfl rfl rfl rfl rfl (by omega) (by omega))) (by decide +kernel) (qs := _) rfl rfl rfl rfl ?_
    rintro _ M7 _ ⟨hM7, rfl, b7, rfl, hb7⟩
    refine ⟨by (repeat (first | exact trivial | refine And.intro (pend_q rfl rfl rfl (qt_pev tok rfl)) ?_ | refine And.intro (pend_q rfl rfl rfl (ql tok rfl)) ?_ | refine And.intro (pend_q rfl rfl rfl (Qt.as (qt_pev tok rfl) hc1v.symm)) ?_)), ?_⟩
    have hMM := Mem.le_trans hMM hM7
    have hs := MbOk.le hM7 hs
    have ht := StOk.le hM7 ht
    refine pr_two 11 14 (by decide +kernel) ?_ ?_
    · refine eff1 11 rfl (St.frz1 (st_makeSlice (n := s.len) tok rfl rfl rfl rfl rfl rfl rfl (by omega) (by omega))) (by decide +kernel) (qs := _) rfl rfl rfl rfl ?_
      rintro _ M11 _ ⟨hM11, rfl, b11, rfl, hb11⟩
      refine ⟨by (repeat (first | exact trivial | refine And.intro (pend_q rfl rfl rfl (qt_pev tok rfl)) ?_ | refine And.intro (pend_q rfl rfl rfl (ql tok rfl)) ?_ | refine And.intro (pend_q rfl rfl rfl (Qt.as (qt_pev tok rfl) hc1v.symm)) ?_)), ?_⟩
      have hMM := Mem.le_trans hMM hM11
      have hs := MbOk.le hM11 hs
      have ht := StOk.le hM11 ht
      have hb7 := hM11.blk _ _ hb7
      obtain ⟨c1, hc1e⟩ : ∃ c1 : Co, c1 = ⟨t, au, s, ⟨none, 0, 0, []⟩, ⟨some ⟨b7, 0, none⟩, s.len, s.len, List.replicate s.len 0⟩, ts, ⟨some ⟨b11, 0, none⟩, s.len, s.len, List.replicate s.len false⟩, 2, 0, -1⟩ := ⟨_, rfl⟩
      have hc1 : CoOk _ c1 := hc1e ▸ backCo0 hs ht hb7 hb11 hd htd t au
      have hc1v : (Value.agg ⟨coC c1⟩) = .agg ⟨coC ⟨t, au, s, ⟨none, 0, 0, []⟩, ⟨some ⟨b7, 0, none⟩, s.len, s.len, List.replicate s.len 0⟩, ts, ⟨some ⟨b11, 0, none⟩, s.len, s.len, List.replicate s.len false⟩, 2, 0, -1⟩⟩ := by rw [hc1e]
      refine pr_q 12 (by decide +kernel) rfl (Qt.as (qt_pev tok rfl) hc1v.symm) rfl rfl rfl ?_
      refine pr_two 13 14 (by decide +kernel) ?_ ?_
      · refine eff1 13 rfl (st_callF rfl (fun _ => refOwn_ok _ _ c1 hc1)) (by decide +kernel) (qs := _) rfl rfl rfl rfl ?_
        rintro _ M13 _ ⟨hM13, c', Nv, Nt, Na, rfl, hab, rfl, hmk⟩
        refine ⟨by (repeat (first | exact trivial | refine And.intro (pend_q rfl rfl rfl (qt_pev tok rfl)) ?_ | refine And.intro (pend_q rfl rfl rfl (ql tok rfl)) ?_ | refine And.intro (pend_q rfl rfl rfl (Qt.as (qt_pev tok rfl) hc1v.symm)) ?_)), ?_⟩
        refine pr_one 14 (by decide +kernel) (eff1 14 rfl (st_alloc tok rfl) (by decide +kernel) (qs := _) rfl rfl rfl rfl ?_)
        rintro _ _ _ ⟨b14, rfl, rfl, rfl⟩
        refine ⟨by (repeat (first | exact trivial | refine And.intro (pend_q rfl rfl rfl (qt_pev tok rfl)) ?_ | refine And.intro (pend_q rfl rfl rfl (ql tok rfl)) ?_ | refine And.intro (pend_q rfl rfl rfl (Qt.as (qt_pev tok rfl) hc1v.symm)) ?_)), ?_⟩
        refine pr_one 15 (by decide +kernel) (eff0 15 rfl (sst tok rfl rfl rfl rfl rfl) (by decide +kernel) (qs := _) rfl ?_)
        rintro _ _ _ ⟨rfl, rfl, rfl⟩
        refine ⟨by (repeat (first | exact trivial | refine And.intro (pend_q rfl rfl rfl (qt_pev tok rfl)) ?_ | refine And.intro (pend_q rfl rfl rfl (ql tok rfl)) ?_ | refine And.intro (pend_q rfl rfl rfl (Qt.as (qt_pev tok rfl) hc1v.symm)) ?_)), ?_⟩
        refine pr_end (by decide +kernel) (by decide +kernel) ?_
        exact run_mem (fun w h => h) (run_sub' (hnext _ _ _ ⟨b14, c', Nv, Nt, Na, Mem.le_trans hMM hM13, hmk, hab.trans (backAb0 hl hc1e), rfl, rfl⟩) ⟨rfl, by rw [hl]; rfl, rfl, rfl, trivial⟩)
      · refine eff1 14 rfl (st_alloc tok rfl) (by decide +kernel) (qs := _) rfl rfl rfl rfl ?_
        rintro _ _ _ ⟨b14, rfl, rfl, rfl⟩
        refine ⟨by (repeat (first | exact trivial | refine And.intro (pend_q rfl rfl rfl (qt_pev tok rfl)) ?_ | refine And.intro (pend_q rfl rfl rfl (ql tok rfl)) ?_ | refine And.intro (pend_q rfl rfl rfl (Qt.as (qt_pev tok rfl) hc1v.symm)) ?_)), ?_⟩
        refine pr_one 13 (by decide +kernel) (eff1 13 rfl (st_callF rfl (fun _ => refOwn_ok _ _ c1 hc1)) (by decide +kernel) (qs := _) rfl rfl rfl rfl ?_)
        rintro _ M13 _ ⟨hM13, c', Nv, Nt, Na, rfl, hab, rfl, hmk⟩
        refine ⟨by (repeat (first | exact trivial | refine And.intro (pend_q rfl rfl rfl (qt_pev tok rfl)) ?_ | refine And.intro (pend_q rfl rfl rfl (ql tok rfl)) ?_ | refine And.intro (pend_q rfl rfl rfl (Qt.as (qt_pev tok rfl) hc1v.symm)) ?_)), ?_⟩
        refine pr_one 15 (by decide +kernel) (eff0 15 rfl (sst tok rfl rfl rfl rfl rfl) (by decide +kernel) (qs := _) rfl ?_)
        rintro _ _ _ ⟨rfl, rfl, rfl⟩
        refine ⟨by (repeat (first | exact trivial | refine And.intro (pend_q rfl rfl rfl (qt_pev tok rfl)) ?_ | refine And.intro (pend_q rfl rfl rfl (ql tok rfl)) ?_ | refine And.intro (pend_q rfl rfl rfl (Qt.as (qt_pev tok rfl) hc1v.symm)) ?_)), ?_⟩
        refine pr_end (by decide +kernel) (by decide +kernel) ?_
        exact run_mem (fun w h => h.perm (permBk _ Na Nt Nv _)) (run_sub' (hnext _ _ _ ⟨b14, c', Nv, Nt, Na, Mem.le_trans hMM hM13, hmk, hab.trans (backAb0 hl hc1e), rfl, rfl⟩) ⟨rfl, by rw [hl]; rfl, rfl, rfl, trivial⟩)
    · refine eff1 14 rfl (st_alloc tok rfl) (by decide +kernel) (qs := _) rfl rfl rfl rfl ?_
      rintro _ _ _ ⟨b14, rfl, rfl, rfl⟩
      refine ⟨by (repeat (first | exact trivial | refine And.intro (pend_q rfl rfl rfl (qt_pev tok rfl)) ?_ | refine And.intro (pend_q rfl rfl rfl (ql tok rfl)) ?_ | refine And.intro (pend_q rfl rfl rfl (Qt.as (qt_pev tok rfl) hc1v.symm)) ?_)), ?_⟩
      refine pr_one 11 (by decide +kernel) (eff1 11 rfl (St.frz1 (st_makeSlice (n := s.len) tok rfl rfl rfl rfl rfl rfl rfl (by omega) (by omega))) (by decide +kernel) (qs := _) rfl rfl rfl rfl ?_)
      rintro _ M11 _ ⟨hM11, rfl, b11, rfl, hb11⟩
      refine ⟨by (repeat (first | exact trivial | refine And.intro (pend_q rfl rfl rfl (qt_pev tok rfl)) ?_ | refine And.intro (pend_q rfl rfl rfl (ql tok rfl)) ?_ | refine And.intro (pend_q rfl rfl rfl (Qt.as (qt_pev tok rfl) hc1v.symm)) ?_)), ?_⟩
      have hMM := Mem.le_trans hMM hM11
      have hs := MbOk.le hM11 hs
      have ht := StOk.le hM11 ht
      have hb7 := hM11.blk _ _ hb7
      obtain ⟨c1, hc1e⟩ : ∃ c1 : Co, c1 = ⟨t, au, s, ⟨none, 0, 0, []⟩, ⟨some ⟨b7, 0, none⟩, s.len, s.len, List.replicate s.len 0⟩, ts, ⟨some ⟨b11, 0, none⟩, s.len, s.len, List.replicate s.len false⟩, 2, 0, -1⟩ := ⟨_, rfl⟩
      have hc1 : CoOk _ c1 := hc1e ▸ backCo0 hs ht hb7 hb11 hd htd t au
      have hc1v : (Value.agg ⟨coC c1⟩) = .agg ⟨coC ⟨t, au, s, ⟨none, 0, 0, []⟩, ⟨some ⟨b7, 0, none⟩, s.len, s.len, List.replicate s.len 0⟩, ts, ⟨some ⟨b11, 0, none⟩, s.len, s.len, List.replicate s.len false⟩, 2, 0, -1⟩⟩ := by rw [hc1e]
      refine pr_q 12 (by decide +kernel) rfl (Qt.as (qt_pev tok rfl) hc1v.symm) rfl rfl rfl ?_
      refine pr_one 13 (by decide +kernel) (eff1 13 rfl (st_callF rfl (fun _ => refOwn_ok _ _ c1 hc1)) (by decide +kernel) (qs := _) rfl rfl rfl rfl ?_)
      rintro _ M13 _ ⟨hM13, c', Nv, Nt, Na, rfl, hab, rfl, hmk⟩
      refine ⟨by (repeat (first | exact trivial | refine And.intro (pend_q rfl rfl rfl (qt_pev tok rfl)) ?_ | refine And.intro (pend_q rfl rfl rfl (ql tok rfl)) ?_ | refine And.intro (pend_q rfl rfl rfl (Qt.as (qt_pev tok rfl) hc1v.symm)) ?_)), ?_⟩
      refine pr_one 15 (by decide +kernel) (eff0 15 rfl (sst tok rfl rfl rfl rfl rfl) (by decide +kernel) (qs := _) rfl ?_)
      rintro _ _ _ ⟨rfl, rfl, rfl⟩
      refine ⟨by (repeat (first | exact trivial | refine And.intro (pend_q rfl rfl rfl (qt_pev tok rfl)) ?_ | refine And.intro (pend_q rfl rfl rfl (ql tok rfl)) ?_ | refine And.intro (pend_q rfl rfl rfl (Qt.as (qt_pev tok rfl) hc1v.symm)) ?_)), ?_⟩
      refine pr_end (by decide +kernel) (by decide +kernel) ?_
      exact run_mem (fun w h => h.perm (permBk _ Na Nt Nv _)) (run_sub' (hnext _ _ _ ⟨b14, c', Nv, Nt, Na, Mem.le_trans hMM hM13, hmk, hab.trans (backAb0 hl hc1e), rfl, rfl⟩) ⟨rfl, by rw [hl]; rfl, rfl, rfl, trivial⟩)
  · refine eff1 11 rfl (St.frz1 (st_makeSlice (n := s.len) tok rfl rfl rfl rfl rfl rfl rfl (by omega) (by omega))) (by decide +kernel) (qs := _) rfl rfl rfl rfl ?_
    rintro _ M11 _ ⟨hM11, rfl, b11, rfl, hb11⟩
    refine ⟨by (repeat (first | exact trivial | refine And.intro (pend_q rfl rfl rfl (qt_pev tok rfl)) ?_ | refine And.intro (pend_q rfl rfl rfl (ql tok rfl)) ?_ | refine And.intro (pend_q rfl rfl rfl (Qt.as (qt_pev tok rfl) hc1v.symm)) ?_)), ?_⟩
    have hMM := Mem.le_trans hMM hM11
    have hs := MbOk.le hM11 hs
    have ht := StOk.le hM11 ht
    refine pr_two 7 14 (by decide +kernel) ?_ ?_
    · refine eff1 7 rfl (St.frz1 (st_makeSlice (n := s.len) tok rfl rfl rfl rfl rfl rfl rfl (by omega) (by omega))) (by decide +kernel) (qs := _) rfl rfl rfl rfl ?_
      rintro _ M7 _ ⟨hM7, rfl, b7, rfl, hb7⟩
      refine ⟨by (repeat (first | exact trivial | refine And.intro (pend_q rfl rfl rfl (qt_pev tok rfl)) ?_ | refine And.intro (pend_q rfl rfl rfl (ql tok rfl)) ?_ | refine And.intro (pend_q rfl rfl rfl (Qt.as (qt_pev tok rfl) hc1v.symm)) ?_)), ?_⟩
      have hMM := Mem.le_trans hMM hM7
      have hs := MbOk.le hM7 hs
      have ht := StOk.le hM7 ht
      have hb11 := hM7.blk _ _ hb11
      obtain ⟨c1, hc1e⟩ : ∃ c1 : Co, c1 = ⟨t, au, s, ⟨none, 0, 0, []⟩, ⟨some ⟨b7, 0, none⟩, s.len, s.len, List.replicate s.len 0⟩, ts, ⟨some ⟨b11, 0, none⟩, s.len, s.len, List.replicate s.len false⟩, 2, 0, -1⟩ := ⟨_, rfl⟩
      have hc1 : CoOk _ c1 := hc1e ▸ backCo0 hs ht hb7 hb11 hd htd t au
      have hc1v : (Value.agg ⟨coC c1⟩) = .agg ⟨coC ⟨t, au, s, ⟨none, 0, 0, []⟩, ⟨some ⟨b7, 0, none⟩, s.len, s.len, List.replicate s.len 0⟩, ts, ⟨some ⟨b11, 0, none⟩, s.len, s.len, List.replicate s.len false⟩, 2, 0, -1⟩⟩ := by rw [hc1e]
      refine pr_q 12 (by decide +kernel) rfl (Qt.as (qt_pev tok rfl) hc1v.symm) rfl rfl rfl ?_
      refine pr_two 13 14 (by decide +kernel) ?_ ?_
      · refine eff1 13 rfl (st_callF rfl (fun _ => refOwn_ok _ _ c1 hc1)) (by decide +kernel) (qs := _) rfl rfl rfl rfl ?_
        rintro _ M13 _ ⟨hM13, c', Nv, Nt, Na, rfl, hab, rfl, hmk⟩
        refine ⟨by (repeat (first | exact trivial | refine And.intro (pend_q rfl rfl rfl (qt_pev tok rfl)) ?_ | refine And.intro (pend_q rfl rfl rfl (ql tok rfl)) ?_ | refine And.intro (pend_q rfl rfl rfl (Qt.as (qt_pev tok rfl) hc1v.symm)) ?_)), ?_⟩
        refine pr_one 14 (by decide +kernel) (eff1 14 rfl (st_alloc tok rfl) (by decide +kernel) (qs := _) rfl rfl rfl rfl ?_)
        rintro _ _ _ ⟨b14, rfl, rfl, rfl⟩
        refine ⟨by (repeat (first | exact trivial | refine And.intro (pend_q rfl rfl rfl (qt_pev tok rfl)) ?_ | refine And.intro (pend_q rfl rfl rfl (ql tok rfl)) ?_ | refine And.intro (pend_q rfl rfl rfl (Qt.as (qt_pev tok rfl) hc1v.symm)) ?_)), ?_⟩
        refine pr_one 15 (by decide +kernel) (eff0 15 rfl (sst tok rfl rfl rfl rfl rfl) (by decide +kernel) (qs := _) rfl ?_)
        rintro _ _ _ ⟨rfl, rfl, rfl⟩
        refine ⟨by (repeat (first | exact trivial | refine And.intro (pend_q rfl rfl rfl (qt_pev tok rfl)) ?_ | refine And.intro (pend_q rfl rfl rfl (ql tok rfl)) ?_ | refine And.intro (pend_q rfl rfl rfl (Qt.as (qt_pev tok rfl) hc1v.symm)) ?_)), ?_⟩
        refine pr_end (by decide +kernel) (by decide +kernel) ?_
        exact run_mem (fun w h => h) (run_sub' (hnext _ _ _ ⟨b14, c', Nv, Nt, Na, Mem.le_trans hMM hM13, hmk, hab.trans (backAb0 hl hc1e), rfl, rfl⟩) ⟨rfl, by rw [hl]; rfl, rfl, rfl, trivial⟩)
      · refine eff1 14 rfl (st_alloc tok rfl) (by decide +kernel) (qs := _) rfl rfl rfl rfl ?_
        rintro _ _ _ ⟨b14, rfl, rfl, rfl⟩
        refine ⟨by (repeat (first | exact trivial | refine And.intro (pend_q rfl rfl rfl (qt_pev tok rfl)) ?_ | refine And.intro (pend_q rfl rfl rfl (ql tok rfl)) ?_ | refine And.intro (pend_q rfl rfl rfl (Qt.as (qt_pev tok rfl) hc1v.symm)) ?_)), ?_⟩
        refine pr_one 13 (by decide +kernel) (eff1 13 rfl (st_callF rfl (fun _ => refOwn_ok _ _ c1 hc1)) (by decide +kernel) (qs := _) rfl rfl rfl rfl ?_)
        rintro _ M13 _ ⟨hM13, c', Nv, Nt, Na, rfl, hab, rfl, hmk⟩
        refine ⟨by (repeat (first | exact trivial | refine And.intro (pend_q rfl rfl rfl (qt_pev tok rfl)) ?_ | refine And.intro (pend_q rfl rfl rfl (ql tok rfl)) ?_ | refine And.intro (pend_q rfl rfl rfl (Qt.as (qt_pev tok rfl) hc1v.symm)) ?_)), ?_⟩
        refine pr_one 15 (by decide +kernel) (eff0 15 rfl (sst tok rfl rfl rfl rfl rfl) (by decide +kernel) (qs := _) rfl ?_)
        rintro _ _ _ ⟨rfl, rfl, rfl⟩
        refine ⟨by (repeat (first | exact trivial | refine And.intro (pend_q rfl rfl rfl (qt_pev tok rfl)) ?_ | refine And.intro (pend_q rfl rfl rfl (ql tok rfl)) ?_ | refine And.intro (pend_q rfl rfl rfl (Qt.as (qt_pev tok rfl) hc1v.symm)) ?_)), ?_⟩
        refine pr_end (by decide +kernel) (by decide +kernel) ?_
        exact run_mem (fun w h => h.perm (permBk _ Na Nt Nv _)) (run_sub' (hnext _ _ _ ⟨b14, c', Nv, Nt, Na, Mem.le_trans hMM hM13, hmk, hab.trans (backAb0 hl hc1e), rfl, rfl⟩) ⟨rfl, by rw [hl]; rfl, rfl, rfl, trivial⟩)
    · refine eff1 14 rfl (st_alloc tok rfl) (by decide +kernel) (qs := _) rfl rfl rfl rfl ?_
      rintro _ _ _ ⟨b14, rfl, rfl, rfl⟩
      refine ⟨by (repeat (first | exact trivial | refine And.intro (pend_q rfl rfl rfl (qt_pev tok rfl)) ?_ | refine And.intro (pend_q rfl rfl rfl (ql tok rfl)) ?_ | refine And.intro (pend_q rfl rfl rfl (Qt.as (qt_pev tok rfl) hc1v.symm)) ?_)), ?_⟩
      refine pr_one 7 (by decide +kernel) (eff1 7 rfl (St.frz1 (st_makeSlice (n := s.len) tok rfl rfl rfl rfl rfl rfl rfl (by omega) (by omega))) (by decide +kernel) (qs := _) rfl rfl rfl rfl ?_)
      rintro _ M7 _ ⟨hM7, rfl, b7, rfl, hb7⟩
      refine ⟨by (repeat (first | exact trivial | refine And.intro (pend_q rfl rfl rfl (qt_pev tok rfl)) ?_ | refine And.intro (pend_q rfl rfl rfl (ql tok rfl)) ?_ | refine And.intro (pend_q rfl rfl rfl (Qt.as (qt_pev tok rfl) hc1v.symm)) ?_)), ?_⟩
      have hMM := Mem.le_trans hMM hM7
      have hs := MbOk.le hM7 hs
      have ht := StOk.le hM7 ht
      have hb11 := hM7.blk _ _ hb11
      obtain ⟨c1, hc1e⟩ : ∃ c1 : Co, c1 = ⟨t, au, s, ⟨none, 0, 0, []⟩, ⟨some ⟨b7, 0, none⟩, s.len, s.len, List.replicate s.len 0⟩, ts, ⟨some ⟨b11, 0, none⟩, s.len, s.len, List.replicate s.len false⟩, 2, 0, -1⟩ := ⟨_, rfl⟩
      have hc1 : CoOk _ c1 := hc1e ▸ backCo0 hs ht hb7 hb11 hd htd t au
      have hc1v : (Value.agg ⟨coC c1⟩) = .agg ⟨coC ⟨t, au, s, ⟨none, 0, 0, []⟩, ⟨some ⟨b7, 0, none⟩, s.len, s.len, List.replicate s.len 0⟩, ts, ⟨some ⟨b11, 0, none⟩, s.len, s.len, List.replicate s.len false⟩, 2, 0, -1⟩⟩ := by rw [hc1e]
      refine pr_q 12 (by decide +kernel) rfl (Qt.as (qt_pev tok rfl) hc1v.symm) rfl rfl rfl ?_
      refine pr_one 13 (by decide +kernel) (eff1 13 rfl (st_callF rfl (fun _ => refOwn_ok _ _ c1 hc1)) (by decide +kernel) (qs := _) rfl rfl rfl rfl ?_)
      rintro _ M13 _ ⟨hM13, c', Nv, Nt, Na, rfl, hab, rfl, hmk⟩
      refine ⟨by (repeat (first | exact trivial | refine And.intro (pend_q rfl rfl rfl (qt_pev tok rfl)) ?_ | refine And.intro (pend_q rfl rfl rfl (ql tok rfl)) ?_ | refine And.intro (pend_q rfl rfl rfl (Qt.as (qt_pev tok rfl) hc1v.symm)) ?_)), ?_⟩
      refine pr_one 15 (by decide +kernel) (eff0 15 rfl (sst tok rfl rfl rfl rfl rfl) (by decide +kernel) (qs := _) rfl ?_)
      rintro _ _ _ ⟨rfl, rfl, rfl⟩
      refine ⟨by (repeat (first | exact trivial | refine And.intro (pend_q rfl rfl rfl (qt_pev tok rfl)) ?_ | refine And.intro (pend_q rfl rfl rfl (ql tok rfl)) ?_ | refine And.intro (pend_q rfl rfl rfl (Qt.as (qt_pev tok rfl) hc1v.symm)) ?_)), ?_⟩
      refine pr_end (by decide +kernel) (by decide +kernel) ?_
      exact run_mem (fun w h => h.perm (permBk _ Na Nt Nv _)) (run_sub' (hnext _ _ _ ⟨b14, c', Nv, Nt, Na, Mem.le_trans hMM hM13, hmk, hab.trans (backAb0 hl hc1e), rfl, rfl⟩) ⟨rfl, by rw [hl]; rfl, rfl, rfl, trivial⟩)
  · refine eff1 14 rfl (st_alloc tok rfl) (by decide +kernel) (qs := _) rfl rfl rfl rfl ?_
    rintro _ _ _ ⟨b14, rfl, rfl, rfl⟩
    refine ⟨by (repeat (first | exact trivial | refine And.intro (pend_q rfl rfl rfl (qt_pev tok rfl)) ?_ | refine And.intro (pend_q rfl rfl rfl (ql tok rfl)) ?_ | refine And.intro (pend_q rfl rfl rfl (Qt.as (qt_pev tok rfl) hc1v.symm)) ?_)), ?_⟩
    refine pr_two 7 11 (by decide +kernel) ?_ ?_
    · refine eff1 7 rfl (St.frz1 (st_makeSlice (n := s.len) tok rfl rfl rfl rfl rfl rfl rfl (by omega) (by omega))) (by decide +kernel) (qs := _) rfl rfl rfl rfl ?_
      rintro _ M7 _ ⟨hM7, rfl, b7, rfl, hb7⟩
      refine ⟨by (repeat (first | exact trivial | refine And.intro (pend_q rfl rfl rfl (qt_pev tok rfl)) ?_ | refine And.intro (pend_q rfl rfl rfl (ql tok rfl)) ?_ | refine And.intro (pend_q rfl rfl rfl (Qt.as (qt_pev tok rfl) hc1v.symm)) ?_)), ?_⟩
      have hMM := Mem.le_trans hMM hM7
      have hs := MbOk.le hM7 hs
      have ht := StOk.le hM7 ht
      refine pr_one 11 (by decide +kernel) (eff1 11 rfl (St.frz1 (st_makeSlice (n := s.len) tok rfl rfl rfl rfl rfl rfl rfl (by omega) (by omega))) (by decide +kernel) (qs := _) rfl rfl rfl rfl ?_)
      rintro _ M11 _ ⟨hM11, rfl, b11, rfl, hb11⟩
      refine ⟨by (repeat (first | exact trivial | refine And.intro (pend_q rfl rfl rfl (qt_pev tok rfl)) ?_ | refine And.intro (pend_q rfl rfl rfl (ql tok rfl)) ?_ | refine And.intro (pend_q rfl rfl rfl (Qt.as (qt_pev tok rfl) hc1v.symm)) ?_)), ?_⟩
      have hMM := Mem.le_trans hMM hM11
      have hs := MbOk.le hM11 hs
      have ht := StOk.le hM11 ht
      have hb7 := hM11.blk _ _ hb7
      obtain ⟨c1, hc1e⟩ : ∃ c1 : Co, c1 = ⟨t, au, s, ⟨none, 0, 0, []⟩, ⟨some ⟨b7, 0, none⟩, s.len, s.len, List.replicate s.len 0⟩, ts, ⟨some ⟨b11, 0, none⟩, s.len, s.len, List.replicate s.len false⟩, 2, 0, -1⟩ := ⟨_, rfl⟩
      have hc1 : CoOk _ c1 := hc1e ▸ backCo0 hs ht hb7 hb11 hd htd t au
      have hc1v : (Value.agg ⟨coC c1⟩) = .agg ⟨coC ⟨t, au, s, ⟨none, 0, 0, []⟩, ⟨some ⟨b7, 0, none⟩, s.len, s.len, List.replicate s.len 0⟩, ts, ⟨some ⟨b11, 0, none⟩, s.len, s.len, List.replicate s.len false⟩, 2, 0, -1⟩⟩ := by rw [hc1e]
      refine pr_q 12 (by decide +kernel) rfl (Qt.as (qt_pev tok rfl) hc1v.symm) rfl rfl rfl ?_
      refine pr_one 13 (by decide +kernel) (eff1 13 rfl (st_callF rfl (fun _ => refOwn_ok _ _ c1 hc1)) (by decide +kernel) (qs := _) rfl rfl rfl rfl ?_)
      rintro _ M13 _ ⟨hM13, c', Nv, Nt, Na, rfl, hab, rfl, hmk⟩
      refine ⟨by (repeat (first | exact trivial | refine And.intro (pend_q rfl rfl rfl (qt_pev tok rfl)) ?_ | refine And.intro (pend_q rfl rfl rfl (ql tok rfl)) ?_ | refine And.intro (pend_q rfl rfl rfl (Qt.as (qt_pev tok rfl) hc1v.symm)) ?_)), ?_⟩
      refine pr_one 15 (by decide +kernel) (eff0 15 rfl (sst tok rfl rfl rfl rfl rfl) (by decide +kernel) (qs := _) rfl ?_)
      rintro _ _ _ ⟨rfl, rfl, rfl⟩
      refine ⟨by (repeat (first | exact trivial | refine And.intro (pend_q rfl rfl rfl (qt_pev tok rfl)) ?_ | refine And.intro (pend_q rfl rfl rfl (ql tok rfl)) ?_ | refine And.intro (pend_q rfl rfl rfl (Qt.as (qt_pev tok rfl) hc1v.symm)) ?_)), ?_⟩
      refine pr_end (by decide +kernel) (by decide +kernel) ?_
      exact run_mem (fun w h => h.perm (permBk _ Na Nt Nv _)) (run_sub' (hnext _ _ _ ⟨b14, c', Nv, Nt, Na, Mem.le_trans hMM hM13, hmk, hab.trans (backAb0 hl hc1e), rfl, rfl⟩) ⟨rfl, by rw [hl]; rfl, rfl, rfl, trivial⟩)
    · refine eff1 11 rfl (St.frz1 (st_makeSlice (n := s.len) tok rfl rfl rfl rfl rfl rfl rfl (by omega) (by omega))) (by decide +kernel) (qs := _) rfl rfl rfl rfl ?_
      rintro _ M11 _ ⟨hM11, rfl, b11, rfl, hb11⟩
      refine ⟨by (repeat (first | exact trivial | refine And.intro (pend_q rfl rfl rfl (qt_pev tok rfl)) ?_ | refine And.intro (pend_q rfl rfl rfl (ql tok rfl)) ?_ | refine And.intro (pend_q rfl rfl rfl (Qt.as (qt_pev tok rfl) hc1v.symm)) ?_)), ?_⟩
      have hMM := Mem.le_trans hMM hM11
      have hs := MbOk.le hM11 hs
      have ht := StOk.le hM11 ht
      refine pr_one 7 (by decide +kernel) (eff1 7 rfl (St.frz1 (st_makeSlice (n := s.len) tok rfl rfl rfl rfl rfl rfl rfl (by omega) (by omega))) (by decide +kernel) (qs := _) rfl rfl rfl rfl ?_)
      rintro _ M7 _ ⟨hM7, rfl, b7, rfl, hb7⟩
      refine ⟨by (repeat (first | exact trivial | refine And.intro (pend_q rfl rfl rfl (qt_pev tok rfl)) ?_ | refine And.intro (pend_q rfl rfl rfl (ql tok rfl)) ?_ | refine And.intro (pend_q rfl rfl rfl (Qt.as (qt_pev tok rfl) hc1v.symm)) ?_)), ?_⟩
      have hMM := Mem.le_trans hMM hM7
      have hs := MbOk.le hM7 hs
      have ht := StOk.le hM7 ht
      have hb11 := hM7.blk _ _ hb11
      obtain ⟨c1, hc1e⟩ : ∃ c1 : Co, c1 = ⟨t, au, s, ⟨none, 0, 0, []⟩, ⟨some ⟨b7, 0, none⟩, s.len, s.len, List.replicate s.len 0⟩, ts, ⟨some ⟨b11, 0, none⟩, s.len, s.len, List.replicate s.len false⟩, 2, 0, -1⟩ := ⟨_, rfl⟩
      have hc1 : CoOk _ c1 := hc1e ▸ backCo0 hs ht hb7 hb11 hd htd t au
      have hc1v : (Value.agg ⟨coC c1⟩) = .agg ⟨coC ⟨t, au, s, ⟨none, 0, 0, []⟩, ⟨some ⟨b7, 0, none⟩, s.len, s.len, List.replicate s.len 0⟩, ts, ⟨some ⟨b11, 0, none⟩, s.len, s.len, List.replicate s.len false⟩, 2, 0, -1⟩⟩ := by rw [hc1e]
      refine pr_q 12 (by decide +kernel) rfl (Qt.as (qt_pev tok rfl) hc1v.symm) rfl rfl rfl ?_
      refine pr_one 13 (by decide +kernel) (eff1 13 rfl (st_callF rfl (fun _ => refOwn_ok _ _ c1 hc1)) (by decide +kernel) (qs := _) rfl rfl rfl rfl ?_)
      rintro _ M13 _ ⟨hM13, c', Nv, Nt, Na, rfl, hab, rfl, hmk⟩
      refine ⟨by (repeat (first | exact trivial | refine And.intro (pend_q rfl rfl rfl (qt_pev tok rfl)) ?_ | refine And.intro (pend_q rfl rfl rfl (ql tok rfl)) ?_ | refine And.intro (pend_q rfl rfl rfl (Qt.as (qt_pev tok rfl) hc1v.symm)) ?_)), ?_⟩
      refine pr_one 15 (by decide +kernel) (eff0 15 rfl (sst tok rfl rfl rfl rfl rfl) (by decide +kernel) (qs := _) rfl ?_)
      rintro _ _ _ ⟨rfl, rfl, rfl⟩
      refine ⟨by (repeat (first | exact trivial | refine And.intro (pend_q rfl rfl rfl (qt_pev tok rfl)) ?_ | refine And.intro (pend_q rfl rfl rfl (ql tok rfl)) ?_ | refine And.intro (pend_q rfl rfl rfl (Qt.as (qt_pev tok rfl) hc1v.symm)) ?_)), ?_⟩
      refine pr_end (by decide +kernel) (by decide +kernel) ?_
      exact run_mem (fun w h => h.perm (permBk _ Na Nt Nv _)) (run_sub' (hnext _ _ _ ⟨b14, c', Nv, Nt, Na, Mem.le_trans hMM hM13, hmk, hab.trans (backAb0 hl hc1e), rfl, rfl⟩) ⟨rfl, by rw [hl]; rfl, rfl, rfl, trivial⟩)
end Go.Proofs.Ytpmepmdngdkafaa
namespace Go.Proofs.Ytpmepmdngdkafaa
open Go.Chi

/-! ### what is wanted, who is due -/
def behindR (now was n : Int) : Bool := decide (now ≥ was) && decide (IntKind.i64.wrap (now - was) ≥ (if n > 0 then n else 0))
theorem behind_ok (M : Mem) (L : HL) (now was n : Int) : TrQ Try.prog 55 [.int .i64 now, .int .i64 was, .int .i64 n] M L (.bool (behindR now was n)) := by
  refine Tr.intro 18 Try.func55 rfl rfl Try.call55 rfl ?_
  intro C hC hro
  repeat (first | with_reducible (first | refine run_seq ?_ | refine run_region ?_ | refine runL_nil ?_ | refine run_skip ?_ | refine run_block ?_ | refine run_inBlock ?_) | refine run_exit rfl ?_ | refine runL_q (qt_pev tok rfl) rfl rfl rfl ?_ | refine runL_g rfl rfl (qt_pev tok rfl) rfl rfl rfl rfl rfl ?_ | refine runL_q (ql tok rfl) rfl rfl rfl ?_ | refine runL_g rfl rfl (ql tok rfl) rfl rfl rfl rfl rfl ?_ | (refine runL_op0 (sst tok rfl rfl rfl rfl rfl) ?_; rintro _ _ _ ⟨rfl, rfl, rfl⟩) | (refine runL_op (st_box rfl) rfl rfl rfl ?_; rintro _ _ _ ⟨_, rfl, rfl, rfl⟩) | (refine runL_op (st_alloc tok rfl) rfl rfl rfl ?_; rintro _ _ _ ⟨_, rfl, rfl, rfl⟩) | (refine runL_op (st_buildSlice tok rfl rfl rfl rfl rfl rfl rfl) rfl rfl rfl ?_; rintro _ _ _ ⟨_, rfl, rfl, rfl⟩) | refine runL_g rfl rfl (qt_max2 rfl rfl) rfl rfl rfl rfl rfl ?_)
  exact run_ret hC (rs := [.tmp 6]) rfl (resT rfl resN) (fun _ h => h) ⟨rfl, rfl, rfl⟩
def wantsR (a : Ca) (now timeout : Int) : Int :=
  if ¬ (mayA a = true ∧ (a.state != 1) = false) then 0 else if hasR a.votes 2 = true then 2 else if hasR a.votes 0 = false then 1 else if behindR now a.since timeout = true then 2 else 0
set_option maxHeartbeats 4000000 in
theorem wants_ok (M : Mem) (L : HL) (c : Co) (h : CoOk M c) (now timeout : Int) : TrQ Try.prog 30 [.agg ⟨coC c⟩, .int .i64 now, .int .i64 timeout] M L (.int .u8 (wantsR c.ab now timeout)) := by
  have hE := coE_ab h.lens
  refine Tr.intro 27 Try.func30 rfl rfl Try.call30 rfl ?_
  intro C hC hro
  repeat (first | with_reducible (first | refine run_seq ?_ | refine run_region ?_ | refine runL_nil ?_ | refine run_skip ?_ | refine run_block ?_ | refine run_inBlock ?_) | refine run_exit rfl ?_ | refine runL_q (qt_pev tok rfl) rfl rfl rfl ?_ | refine runL_g rfl rfl (qt_pev tok rfl) rfl rfl rfl rfl rfl ?_ | refine runL_q (ql tok rfl) rfl rfl rfl ?_ | refine runL_g rfl rfl (ql tok rfl) rfl rfl rfl rfl rfl ?_ | (refine runL_op0 (sst tok rfl rfl rfl rfl rfl) ?_; rintro _ _ _ ⟨rfl, rfl, rfl⟩) | (refine runL_op (st_box rfl) rfl rfl rfl ?_; rintro _ _ _ ⟨_, rfl, rfl, rfl⟩) | (refine runL_op (st_alloc tok rfl) rfl rfl rfl ?_; rintro _ _ _ ⟨_, rfl, rfl, rfl⟩) | (refine runL_op (st_buildSlice tok rfl rfl rfl rfl rfl rfl rfl) rfl rfl rfl ?_; rintro _ _ _ ⟨_, rfl, rfl, rfl⟩) | refine runL_q (qt_callF rfl (fun _ => coCheck_ok _ _ c h)) rfl rfl rfl ?_)
  by_cases hm : mayA c.ab = true
  · rw [if_pos hm] at hE
    refine run_cond rfl (fun h1 => by rw [hE] at h1; cases h1) (fun _ => ?_)
    repeat (first | with_reducible (first | refine run_seq ?_ | refine run_region ?_ | refine runL_nil ?_ | refine run_skip ?_ | refine run_block ?_ | refine run_inBlock ?_) | refine run_exit rfl ?_ | refine runL_q (qt_pev tok rfl) rfl rfl rfl ?_ | refine runL_g rfl rfl (qt_pev tok rfl) rfl rfl rfl rfl rfl ?_ | refine runL_q (ql tok rfl) rfl rfl rfl ?_ | refine runL_g rfl rfl (ql tok rfl) rfl rfl rfl rfl rfl ?_ | (refine runL_op0 (sst tok rfl rfl rfl rfl rfl) ?_; rintro _ _ _ ⟨rfl, rfl, rfl⟩) | (refine runL_op (st_box rfl) rfl rfl rfl ?_; rintro _ _ _ ⟨_, rfl, rfl, rfl⟩) | (refine runL_op (st_alloc tok rfl) rfl rfl rfl ?_; rintro _ _ _ ⟨_, rfl, rfl, rfl⟩) | (refine runL_op (st_buildSlice tok rfl rfl rfl rfl rfl rfl rfl) rfl rfl rfl ?_; rintro _ _ _ ⟨_, rfl, rfl, rfl⟩))
    refine run_cond rfl (fun h1 => ?_) (fun h1 => ?_)
    · rw [wantsR, if_pos (fun e => by rw [show (c.ab.state != 1) = true from h1] at e; cases e.2)] at hC
      repeat (first | with_reducible (first | refine run_seq ?_ | refine run_region ?_ | refine runL_nil ?_ | refine run_skip ?_ | refine run_block ?_ | refine run_inBlock ?_) | refine run_exit rfl ?_ | refine runL_q (qt_pev tok rfl) rfl rfl rfl ?_ | refine runL_g rfl rfl (qt_pev tok rfl) rfl rfl rfl rfl rfl ?_ | refine runL_q (ql tok rfl) rfl rfl rfl ?_ | refine runL_g rfl rfl (ql tok rfl) rfl rfl rfl rfl rfl ?_ | (refine runL_op0 (sst tok rfl rfl rfl rfl rfl) ?_; rintro _ _ _ ⟨rfl, rfl, rfl⟩) | (refine runL_op (st_box rfl) rfl rfl rfl ?_; rintro _ _ _ ⟨_, rfl, rfl, rfl⟩) | (refine runL_op (st_alloc tok rfl) rfl rfl rfl ?_; rintro _ _ _ ⟨_, rfl, rfl, rfl⟩) | (refine runL_op (st_buildSlice tok rfl rfl rfl rfl rfl rfl rfl) rfl rfl rfl ?_; rintro _ _ _ ⟨_, rfl, rfl, rfl⟩))
      exact run_ret hC (rs := [.tmp 6]) rfl (resT rfl resN) (fun _ h => h.drop) ⟨rfl, rfl, rfl⟩
    rw [wantsR, if_neg (fun e => e ⟨hm, h1⟩)] at hC
    repeat (first | with_reducible (first | refine run_seq ?_ | refine run_region ?_ | refine runL_nil ?_ | refine run_skip ?_ | refine run_block ?_ | refine run_inBlock ?_) | refine run_exit rfl ?_ | refine runL_q (qt_pev tok rfl) rfl rfl rfl ?_ | refine runL_g rfl rfl (qt_pev tok rfl) rfl rfl rfl rfl rfl ?_ | refine runL_q (ql tok rfl) rfl rfl rfl ?_ | refine runL_g rfl rfl (ql tok rfl) rfl rfl rfl rfl rfl ?_ | (refine runL_op0 (sst tok rfl rfl rfl rfl rfl) ?_; rintro _ _ _ ⟨rfl, rfl, rfl⟩) | (refine runL_op (st_box rfl) rfl rfl rfl ?_; rintro _ _ _ ⟨_, rfl, rfl, rfl⟩) | (refine runL_op (st_alloc tok rfl) rfl rfl rfl ?_; rintro _ _ _ ⟨_, rfl, rfl, rfl⟩) | (refine runL_op (st_buildSlice tok rfl rfl rfl rfl rfl rfl rfl) rfl rfl rfl ?_; rintro _ _ _ ⟨_, rfl, rfl, rfl⟩) | refine runL_q (qt_callF rfl (fun _ => has_ok _ _ c h.votes _)) rfl rfl rfl ?_)
    refine run_cond rfl (fun h2 => ?_) (fun h2 => ?_)
    · rw [if_pos (show hasR c.ab.votes 2 = true from h2)] at hC
      repeat (first | with_reducible (first | refine run_seq ?_ | refine run_region ?_ | refine runL_nil ?_ | refine run_skip ?_ | refine run_block ?_ | refine run_inBlock ?_) | refine run_exit rfl ?_ | refine runL_q (qt_pev tok rfl) rfl rfl rfl ?_ | refine runL_g rfl rfl (qt_pev tok rfl) rfl rfl rfl rfl rfl ?_ | refine runL_q (ql tok rfl) rfl rfl rfl ?_ | refine runL_g rfl rfl (ql tok rfl) rfl rfl rfl rfl rfl ?_ | (refine runL_op0 (sst tok rfl rfl rfl rfl rfl) ?_; rintro _ _ _ ⟨rfl, rfl, rfl⟩) | (refine runL_op (st_box rfl) rfl rfl rfl ?_; rintro _ _ _ ⟨_, rfl, rfl, rfl⟩) | (refine runL_op (st_alloc tok rfl) rfl rfl rfl ?_; rintro _ _ _ ⟨_, rfl, rfl, rfl⟩) | (refine runL_op (st_buildSlice tok rfl rfl rfl rfl rfl rfl rfl) rfl rfl rfl ?_; rintro _ _ _ ⟨_, rfl, rfl, rfl⟩))
      exact run_ret hC (rs := [.tmp 6]) rfl (resT rfl resN) (fun _ h => h.drop) ⟨rfl, rfl, rfl⟩
    rw [if_neg (by rw [show hasR c.ab.votes 2 = false from h2]; simp)] at hC
    repeat (first | with_reducible (first | refine run_seq ?_ | refine run_region ?_ | refine runL_nil ?_ | refine run_skip ?_ | refine run_block ?_ | refine run_inBlock ?_) | refine run_exit rfl ?_ | refine runL_q (qt_pev tok rfl) rfl rfl rfl ?_ | refine runL_g rfl rfl (qt_pev tok rfl) rfl rfl rfl rfl rfl ?_ | refine runL_q (ql tok rfl) rfl rfl rfl ?_ | refine runL_g rfl rfl (ql tok rfl) rfl rfl rfl rfl rfl ?_ | (refine runL_op0 (sst tok rfl rfl rfl rfl rfl) ?_; rintro _ _ _ ⟨rfl, rfl, rfl⟩) | (refine runL_op (st_box rfl) rfl rfl rfl ?_; rintro _ _ _ ⟨_, rfl, rfl, rfl⟩) | (refine runL_op (st_alloc tok rfl) rfl rfl rfl ?_; rintro _ _ _ ⟨_, rfl, rfl, rfl⟩) | (refine runL_op (st_buildSlice tok rfl rfl rfl rfl rfl rfl rfl) rfl rfl rfl ?_; rintro _ _ _ ⟨_, rfl, rfl, rfl⟩) | refine runL_q (qt_callF rfl (fun _ => has_ok _ _ c h.votes _)) rfl rfl rfl ?_)
    refine run_cond rfl (fun h3 => ?_) (fun h3 => ?_)
    · rw [if_pos (show hasR c.ab.votes 0 = false from (by simpa using h3 : hasR c.votes.xs 0 = false))] at hC
      repeat (first | with_reducible (first | refine run_seq ?_ | refine run_region ?_ | refine runL_nil ?_ | refine run_skip ?_ | refine run_block ?_ | refine run_inBlock ?_) | refine run_exit rfl ?_ | refine runL_q (qt_pev tok rfl) rfl rfl rfl ?_ | refine runL_g rfl rfl (qt_pev tok rfl) rfl rfl rfl rfl rfl ?_ | refine runL_q (ql tok rfl) rfl rfl rfl ?_ | refine runL_g rfl rfl (ql tok rfl) rfl rfl rfl rfl rfl ?_ | (refine runL_op0 (sst tok rfl rfl rfl rfl rfl) ?_; rintro _ _ _ ⟨rfl, rfl, rfl⟩) | (refine runL_op (st_box rfl) rfl rfl rfl ?_; rintro _ _ _ ⟨_, rfl, rfl, rfl⟩) | (refine runL_op (st_alloc tok rfl) rfl rfl rfl ?_; rintro _ _ _ ⟨_, rfl, rfl, rfl⟩) | (refine runL_op (st_buildSlice tok rfl rfl rfl rfl rfl rfl rfl) rfl rfl rfl ?_; rintro _ _ _ ⟨_, rfl, rfl, rfl⟩))
      exact run_ret hC (rs := [.tmp 6]) rfl (resT rfl resN) (fun _ h => h.drop) ⟨rfl, rfl, rfl⟩
    rw [if_neg (by rw [show hasR c.ab.votes 0 = true from (by simpa using h3 : hasR c.votes.xs 0 = true)]; simp)] at hC
    repeat (first | with_reducible (first | refine run_seq ?_ | refine run_region ?_ | refine runL_nil ?_ | refine run_skip ?_ | refine run_block ?_ | refine run_inBlock ?_) | refine run_exit rfl ?_ | refine runL_q (qt_pev tok rfl) rfl rfl rfl ?_ | refine runL_g rfl rfl (qt_pev tok rfl) rfl rfl rfl rfl rfl ?_ | refine runL_q (ql tok rfl) rfl rfl rfl ?_ | refine runL_g rfl rfl (ql tok rfl) rfl rfl rfl rfl rfl ?_ | (refine runL_op0 (sst tok rfl rfl rfl rfl rfl) ?_; rintro _ _ _ ⟨rfl, rfl, rfl⟩) | (refine runL_op (st_box rfl) rfl rfl rfl ?_; rintro _ _ _ ⟨_, rfl, rfl, rfl⟩) | (refine runL_op (st_alloc tok rfl) rfl rfl rfl ?_; rintro _ _ _ ⟨_, rfl, rfl, rfl⟩) | (refine runL_op (st_buildSlice tok rfl rfl rfl rfl rfl rfl rfl) rfl rfl rfl ?_; rintro _ _ _ ⟨_, rfl, rfl, rfl⟩) | refine runL_q (qt_callF rfl (fun _ => behind_ok _ _ _ _ _)) rfl rfl rfl ?_)
    refine run_cond rfl (fun h4 => ?_) (fun h4 => ?_)
    · rw [if_pos (show behindR now c.ab.since timeout = true from h4)] at hC
      repeat (first | with_reducible (first | refine run_seq ?_ | refine run_region ?_ | refine runL_nil ?_ | refine run_skip ?_ | refine run_block ?_ | refine run_inBlock ?_) | refine run_exit rfl ?_ | refine runL_q (qt_pev tok rfl) rfl rfl rfl ?_ | refine runL_g rfl rfl (qt_pev tok rfl) rfl rfl rfl rfl rfl ?_ | refine runL_q (ql tok rfl) rfl rfl rfl ?_ | refine runL_g rfl rfl (ql tok rfl) rfl rfl rfl rfl rfl ?_ | (refine runL_op0 (sst tok rfl rfl rfl rfl rfl) ?_; rintro _ _ _ ⟨rfl, rfl, rfl⟩) | (refine runL_op (st_box rfl) rfl rfl rfl ?_; rintro _ _ _ ⟨_, rfl, rfl, rfl⟩) | (refine runL_op (st_alloc tok rfl) rfl rfl rfl ?_; rintro _ _ _ ⟨_, rfl, rfl, rfl⟩) | (refine runL_op (st_buildSlice tok rfl rfl rfl rfl rfl rfl rfl) rfl rfl rfl ?_; rintro _ _ _ ⟨_, rfl, rfl, rfl⟩))
      exact run_ret hC (rs := [.tmp 6]) rfl (resT rfl resN) (fun _ h => h.drop) ⟨rfl, rfl, rfl⟩
    · rw [if_neg (by rw [show behindR now c.ab.since timeout = false from h4]; simp)] at hC
      repeat (first | with_reducible (first | refine run_seq ?_ | refine run_region ?_ | refine runL_nil ?_ | refine run_skip ?_ | refine run_block ?_ | refine run_inBlock ?_) | refine run_exit rfl ?_ | refine runL_q (qt_pev tok rfl) rfl rfl rfl ?_ | refine runL_g rfl rfl (qt_pev tok rfl) rfl rfl rfl rfl rfl ?_ | refine runL_q (ql tok rfl) rfl rfl rfl ?_ | refine runL_g rfl rfl (ql tok rfl) rfl rfl rfl rfl rfl ?_ | (refine runL_op0 (sst tok rfl rfl rfl rfl rfl) ?_; rintro _ _ _ ⟨rfl, rfl, rfl⟩) | (refine runL_op (st_box rfl) rfl rfl rfl ?_; rintro _ _ _ ⟨_, rfl, rfl, rfl⟩) | (refine runL_op (st_alloc tok rfl) rfl rfl rfl ?_; rintro _ _ _ ⟨_, rfl, rfl, rfl⟩) | (refine runL_op (st_buildSlice tok rfl rfl rfl rfl rfl rfl rfl) rfl rfl rfl ?_; rintro _ _ _ ⟨_, rfl, rfl, rfl⟩))
      exact run_ret hC (rs := [.tmp 6]) rfl (resT rfl resN) (fun _ h => h.drop) ⟨rfl, rfl, rfl⟩
  · rw [if_neg hm] at hE
    rw [wantsR, if_pos (fun e => hm e.1)] at hC
    refine run_cond rfl (fun _ => ?_) (fun h1 => by rw [hE] at h1; cases h1)
    repeat (first | with_reducible (first | refine run_seq ?_ | refine run_region ?_ | refine runL_nil ?_ | refine run_skip ?_ | refine run_block ?_ | refine run_inBlock ?_) | refine run_exit rfl ?_ | refine runL_q (qt_pev tok rfl) rfl rfl rfl ?_ | refine runL_g rfl rfl (qt_pev tok rfl) rfl rfl rfl rfl rfl ?_ | refine runL_q (ql tok rfl) rfl rfl rfl ?_ | refine runL_g rfl rfl (ql tok rfl) rfl rfl rfl rfl rfl ?_ | (refine runL_op0 (sst tok rfl rfl rfl rfl rfl) ?_; rintro _ _ _ ⟨rfl, rfl, rfl⟩) | (refine runL_op (st_box rfl) rfl rfl rfl ?_; rintro _ _ _ ⟨_, rfl, rfl, rfl⟩) | (refine runL_op (st_alloc tok rfl) rfl rfl rfl ?_; rintro _ _ _ ⟨_, rfl, rfl, rfl⟩) | (refine runL_op (st_buildSlice tok rfl rfl rfl rfl rfl rfl rfl) rfl rfl rfl ?_; rintro _ _ _ ⟨_, rfl, rfl, rfl⟩))
    refine run_cond rfl (fun _ => ?_) (fun h1 => by rw [hE] at h1; cases h1)
    repeat (first | with_reducible (first | refine run_seq ?_ | refine run_region ?_ | refine runL_nil ?_ | refine run_skip ?_ | refine run_block ?_ | refine run_inBlock ?_) | refine run_exit rfl ?_ | refine runL_q (qt_pev tok rfl) rfl rfl rfl ?_ | refine runL_g rfl rfl (qt_pev tok rfl) rfl rfl rfl rfl rfl ?_ | refine runL_q (ql tok rfl) rfl rfl rfl ?_ | refine runL_g rfl rfl (ql tok rfl) rfl rfl rfl rfl rfl ?_ | (refine runL_op0 (sst tok rfl rfl rfl rfl rfl) ?_; rintro _ _ _ ⟨rfl, rfl, rfl⟩) | (refine runL_op (st_box rfl) rfl rfl rfl ?_; rintro _ _ _ ⟨_, rfl, rfl, rfl⟩) | (refine runL_op (st_alloc tok rfl) rfl rfl rfl ?_; rintro _ _ _ ⟨_, rfl, rfl, rfl⟩) | (refine runL_op (st_buildSlice tok rfl rfl rfl rfl rfl rfl rfl) rfl rfl rfl ?_; rintro _ _ _ ⟨_, rfl, rfl, rfl⟩))
    exact run_ret hC (rs := [.tmp 6]) rfl (resT rfl resN) (fun _ h => h.drop) ⟨rfl, rfl, rfl⟩

/-! ### the organisations that are due -/
structure SInt where
  a : Option Addr
  len : Nat
  cap : Nat
  xs : List Int
def SInt.v (s : SInt) : Value := .slice s.a s.len s.cap
def inC (x : Int) : List Value := [.int .i64 x]
def SInt.Ok (M : Mem) (s : SInt) : Prop := SlM M 1 s.a s.len (s.xs.map inC)
theorem inC_all (xs : List Int) : ∀ l ∈ xs.map inC, l.length = 1 := by intro l hl; obtain ⟨p, _, rfl⟩ := List.mem_map.1 hl; rfl
theorem inC_one (r : Int) : ∀ u ∈ inC r, u.oneCell' = true := by intro u hu; simp [inC] at hu; subst hu; rfl
def dueB (c : Co) (m : On) : Bool := ((c.state == 1) && (m.vote == 0)) || ((c.state != 1) && !m.ack)
def dueR (c : Co) (now retry : Int) : List Int := if mayA c.ab = false ∨ (decide (c.sent ≥ 0) && !behindR now c.sent retry) = true then [] else ((ons c).filter (dueB c)).map On.org
set_option maxRecDepth 10000 in
set_option maxHeartbeats 8000000 in
theorem due_ok (M : Mem) (L : HL) (c : Co) (h : CoOk M c) (now retry : Int) : Tr Try.prog 32 [.agg ⟨coC c⟩, .int .i64 now, .int .i64 retry] M L (fun v M' L' => M.le M' ∧ L = L' ∧ ∃ s : SInt, v = s.v ∧ s.Ok M' ∧ s.xs = dueR c now retry ∧ s.len = s.xs.length ∧ s.len ≤ c.mem.len) := by
  have hE := coE_ab h.lens
  have h6 := h.mem.2
  refine Tr.intro 52 Try.func32 rfl rfl Try.call32 rfl ?_
  intro C hC hro
  repeat (first | with_reducible (first | refine run_seq ?_ | refine run_region ?_ | refine runL_nil ?_ | refine run_skip ?_ | refine run_block ?_ | refine run_inBlock ?_) | refine run_exit rfl ?_ | refine runL_q (qt_pev tok rfl) rfl rfl rfl ?_ | refine runL_g rfl rfl (qt_pev tok rfl) rfl rfl rfl rfl rfl ?_ | refine runL_q (ql tok rfl) rfl rfl rfl ?_ | refine runL_g rfl rfl (ql tok rfl) rfl rfl rfl rfl rfl ?_ | (refine runL_op0 (sst tok rfl rfl rfl rfl rfl) ?_; rintro _ _ _ ⟨rfl, rfl, rfl⟩) | (refine runL_op (st_box rfl) rfl rfl rfl ?_; rintro _ _ _ ⟨_, rfl, rfl, rfl⟩) | (refine runL_op (st_alloc tok rfl) rfl rfl rfl ?_; rintro _ _ _ ⟨_, rfl, rfl, rfl⟩) | (refine runL_op (st_buildSlice tok rfl rfl rfl rfl rfl rfl rfl) rfl rfl rfl ?_; rintro _ _ _ ⟨_, rfl, rfl, rfl⟩) | refine runL_q (qt_callF rfl (fun _ => coCheck_ok _ _ c h)) rfl rfl rfl ?_ | refine runL_g rfl rfl (qt_callF rfl (fun _ => behind_ok _ _ _ _ _)) rfl rfl rfl rfl rfl ?_)
  rename_i b3 b6
  refine run_cond rfl (fun h1 => ?_) (fun h1 => ?_)
  · have h2 : mayA c.ab = false ∨ (decide (c.sent ≥ 0) && !behindR now c.sent retry) = true := by
      rw [hE] at h1
      cases hm : mayA c.ab
      · exact .inl rfl
      · rw [hm] at h1
        exact .inr (by simpa using h1)
    have h3 : dueR c now retry = [] := if_pos h2
    repeat (first | with_reducible (first | refine run_seq ?_ | refine run_region ?_ | refine runL_nil ?_ | refine run_skip ?_ | refine run_block ?_ | refine run_inBlock ?_) | refine run_exit rfl ?_ | refine runL_q (qt_pev tok rfl) rfl rfl rfl ?_ | refine runL_g rfl rfl (qt_pev tok rfl) rfl rfl rfl rfl rfl ?_ | refine runL_q (ql tok rfl) rfl rfl rfl ?_ | refine runL_g rfl rfl (ql tok rfl) rfl rfl rfl rfl rfl ?_ | (refine runL_op0 (sst tok rfl rfl rfl rfl rfl) ?_; rintro _ _ _ ⟨rfl, rfl, rfl⟩) | (refine runL_op (st_box rfl) rfl rfl rfl ?_; rintro _ _ _ ⟨_, rfl, rfl, rfl⟩) | (refine runL_op (st_alloc tok rfl) rfl rfl rfl ?_; rintro _ _ _ ⟨_, rfl, rfl, rfl⟩) | (refine runL_op (st_buildSlice tok rfl rfl rfl rfl rfl rfl rfl) rfl rfl rfl ?_; rintro _ _ _ ⟨_, rfl, rfl, rfl⟩))
    exact run_ret hC (rs := [.cell 6 58]) rfl (rl tok rfl resN) (fun _ h => h.drop.drop) ⟨Mem.le_refl _, rfl, ⟨none, 0, 0, []⟩, rfl, SlM.nil _ _ _, h3.symm, rfl, Nat.zero_le _⟩
  have hm : mayA c.ab = true := by
    rw [hE] at h1
    cases hm : mayA c.ab
    · rw [hm] at h1
      simp at h1
    · rfl
  have h2 : dueR c now retry = ((ons c).filter (dueB c)).map On.org := by
    rw [hE, hm] at h1
    refine if_neg ?_
    rintro (e | e)
    · rw [hm] at e; cases e
    · have h5 : (decide (c.sent ≥ 0) && !behindR now c.sent retry) = false := by simpa using h1
      rw [h5] at e; cases e
  have hr := mayA_rows h hm
  rw [h2] at hC
  repeat (first | with_reducible (first | refine run_seq ?_ | refine run_region ?_ | refine runL_nil ?_ | refine run_skip ?_ | refine run_block ?_ | refine run_inBlock ?_) | refine run_exit rfl ?_ | refine runL_q (qt_pev tok rfl) rfl rfl rfl ?_ | refine runL_g rfl rfl (qt_pev tok rfl) rfl rfl rfl rfl rfl ?_ | refine runL_q (ql tok rfl) rfl rfl rfl ?_ | refine runL_g rfl rfl (ql tok rfl) rfl rfl rfl rfl rfl ?_ | (refine runL_op0 (sst tok rfl rfl rfl rfl rfl) ?_; rintro _ _ _ ⟨rfl, rfl, rfl⟩) | (refine runL_op (st_box rfl) rfl rfl rfl ?_; rintro _ _ _ ⟨_, rfl, rfl, rfl⟩) | (refine runL_op (st_alloc tok rfl) rfl rfl rfl ?_; rintro _ _ _ ⟨_, rfl, rfl, rfl⟩) | (refine runL_op (st_buildSlice tok rfl rfl rfl rfl rfl rfl rfl) rfl rfl rfl ?_; rintro _ _ _ ⟨_, rfl, rfl, rfl⟩) | (refine runL_op (st_callF rfl (fun _ => members_ok _ _ c h hr)) rfl rfl rfl ?_; rintro _ M1 _ ⟨hM1, rfl, caps, rfl, hit⟩))
  refine run_rangeM hro rfl hit rfl (by intro x hx; obtain ⟨p, _, rfl⟩ := List.mem_map.1 hx; rfl)
    (fun k M' L' => M1.le M' ∧ ∃ v N l, l = (((ons c).take k).filter (dueB c)).map On.org ∧ l.length ≤ k ∧ OS 3 1 v l.length (l.map inC).flatten N ∧ L' = N ++ ((b6, .cells ⟨[v]⟩ 58 (0, 0)) :: (b3, .cells ⟨coC c⟩ 29 (0, 0)) :: L))
    (fun _ _ _ _ => False)
    (fun k M2 M3 L2 h ⟨h1, h2⟩ => ⟨Mem.le_trans h1 h, h2⟩) ?_ ?_ ?_ ?_
  · exact ⟨Mem.le_refl _, .slice none 0 0, [], [], rfl, Nat.le_refl _, OS.nil _ _, rfl⟩
  · rintro j x M2 _ R R' C' hx hM2 ⟨hM2', v, N, l, hl, hll, hO, rfl⟩ B
    obtain ⟨m, he, rfl⟩ : ∃ p, (ons c)[j]? = some p ∧ onV p = x := by simpa using hx
    have hjl : j < c.mem.len := by
      have := (List.getElem?_eq_some_iff.1 he).1
      rw [ons_len] at this
      exact this
    simp only [List.append_assoc, List.cons_append]
    repeat (first | with_reducible (first | refine run_seq ?_ | refine run_region ?_ | refine runL_nil ?_ | refine run_skip ?_ | refine run_block ?_ | refine run_inBlock ?_) | refine run_exit rfl ?_ | refine runL_q (qt_pev tok rfl) rfl rfl rfl ?_ | refine runL_g rfl rfl (qt_pev tok rfl) rfl rfl rfl rfl rfl ?_ | refine runL_q (ql tok rfl) rfl rfl rfl ?_ | refine runL_g rfl rfl (ql tok rfl) rfl rfl rfl rfl rfl ?_ | (refine runL_op0 (sst tok rfl rfl rfl rfl rfl) ?_; rintro _ _ _ ⟨rfl, rfl, rfl⟩) | (refine runL_op (st_box rfl) rfl rfl rfl ?_; rintro _ _ _ ⟨_, rfl, rfl, rfl⟩) | (refine runL_op (st_alloc tok rfl) rfl rfl rfl ?_; rintro _ _ _ ⟨_, rfl, rfl, rfl⟩) | (refine runL_op (st_buildSlice tok rfl rfl rfl rfl rfl rfl rfl) rfl rfl rfl ?_; rintro _ _ _ ⟨_, rfl, rfl, rfl⟩))
    rename_i b7
    refine B.begin' ((b7, .cells ⟨onC m⟩ 93 (0, 0)) :: (N ++ ((b6, .cells ⟨[v]⟩ 58 (0, 0)) :: (b3, .cells ⟨coC c⟩ 29 (0, 0)) :: L))) (by simp; rfl) ?_
    simp only [List.append_assoc, List.cons_append]
    repeat (first | with_reducible (first | refine run_seq ?_ | refine run_region ?_ | refine runL_nil ?_ | refine run_skip ?_ | refine run_block ?_ | refine run_inBlock ?_) | refine run_exit rfl ?_ | refine runL_q (qt_pev tok rfl) rfl rfl rfl ?_ | refine runL_g rfl rfl (qt_pev tok rfl) rfl rfl rfl rfl rfl ?_ | refine runL_q (ql tok rfl) rfl rfl rfl ?_ | refine runL_g rfl rfl (ql tok rfl) rfl rfl rfl rfl rfl ?_ | (refine runL_op0 (sst tok rfl rfl rfl rfl rfl) ?_; rintro _ _ _ ⟨rfl, rfl, rfl⟩) | (refine runL_op (st_box rfl) rfl rfl rfl ?_; rintro _ _ _ ⟨_, rfl, rfl, rfl⟩) | (refine runL_op (st_alloc tok rfl) rfl rfl rfl ?_; rintro _ _ _ ⟨_, rfl, rfl, rfl⟩) | (refine runL_op (st_buildSlice tok rfl rfl rfl rfl rfl rfl rfl) rfl rfl rfl ?_; rintro _ _ _ ⟨_, rfl, rfl, rfl⟩))
    refine run_cond rfl (fun h3 => ?_) (fun h3 => ?_)
    · have hd : dueB c m = true := h3
      repeat (first | with_reducible (first | refine run_seq ?_ | refine run_region ?_ | refine runL_nil ?_ | refine run_skip ?_ | refine run_block ?_ | refine run_inBlock ?_) | refine run_exit rfl ?_ | refine runL_q (qt_pev tok rfl) rfl rfl rfl ?_ | refine runL_g rfl rfl (qt_pev tok rfl) rfl rfl rfl rfl rfl ?_ | refine runL_q (ql tok rfl) rfl rfl rfl ?_ | refine runL_g rfl rfl (ql tok rfl) rfl rfl rfl rfl rfl ?_ | (refine runL_op0 (sst tok rfl rfl rfl rfl rfl) ?_; rintro _ _ _ ⟨rfl, rfl, rfl⟩) | (refine runL_op (st_box rfl) rfl rfl rfl ?_; rintro _ _ _ ⟨_, rfl, rfl, rfl⟩) | (refine runL_op (st_alloc tok rfl) rfl rfl rfl ?_; rintro _ _ _ ⟨_, rfl, rfl, rfl⟩) | (refine runL_op (st_buildSlice tok rfl rfl rfl rfl rfl rfl rfl) rfl rfl rfl ?_; rintro _ _ _ ⟨_, rfl, rfl, rfl⟩))
      rename_i bs
      refine runL_op (st_append (news := inC m.org) tok rfl rfl rfl rfl rfl rfl rfl rfl (pm2 _ _ N _) hO (.inr ⟨bs, 0, 1, rfl, cellsAll List.mem_cons_self, rfl⟩) (inC_one _) (by omega) (by omega)) rfl rfl rfl ?_
      rintro va' _ _ ⟨N', rfl, rfl, hO'⟩
      obtain ⟨va2, vc2, rfl⟩ := os_slice hO'
      repeat (first | with_reducible (first | refine run_seq ?_ | refine run_region ?_ | refine runL_nil ?_ | refine run_skip ?_ | refine run_block ?_ | refine run_inBlock ?_) | refine run_exit rfl ?_ | refine runL_q (qt_pev tok rfl) rfl rfl rfl ?_ | refine runL_g rfl rfl (qt_pev tok rfl) rfl rfl rfl rfl rfl ?_ | refine runL_q (ql tok rfl) rfl rfl rfl ?_ | refine runL_g rfl rfl (ql tok rfl) rfl rfl rfl rfl rfl ?_ | (refine runL_op0 (sst tok rfl rfl rfl rfl rfl) ?_; rintro _ _ _ ⟨rfl, rfl, rfl⟩) | (refine runL_op (st_box rfl) rfl rfl rfl ?_; rintro _ _ _ ⟨_, rfl, rfl, rfl⟩) | (refine runL_op (st_alloc tok rfl) rfl rfl rfl ?_; rintro _ _ _ ⟨_, rfl, rfl, rfl⟩) | (refine runL_op (st_buildSlice tok rfl rfl rfl rfl rfl rfl rfl) rfl rfl rfl ?_; rintro _ _ _ ⟨_, rfl, rfl, rfl⟩))
      refine B.fin' (L2 := N' ++ ((b6, .cells ⟨[.slice va2 (l.length + 1) vc2]⟩ 58 (0, 0)) :: (b3, .cells ⟨coC c⟩ 29 (0, 0)) :: L)) (Mem.le_refl _) (fun w h => ?_) ⟨hM2', .slice va2 (l.length + 1) vc2, N', l ++ [m.org], ?_, by simp; omega, ?_, rfl⟩
      · have h4 := (h.perm (pm2 _ _ N' _).symm).drop.drop
        simpa [List.append_assoc, cellsL] using h4
      · rw [take_snoc he, List.filter_append, List.map_append, ← hl]
        simp [hd]
      · rw [List.map_append, List.flatten_append, List.length_append]
        simpa using hO'
    · have hd : dueB c m = false := h3
      repeat (first | with_reducible (first | refine run_seq ?_ | refine run_region ?_ | refine runL_nil ?_ | refine run_skip ?_ | refine run_block ?_ | refine run_inBlock ?_) | refine run_exit rfl ?_ | refine runL_q (qt_pev tok rfl) rfl rfl rfl ?_ | refine runL_g rfl rfl (qt_pev tok rfl) rfl rfl rfl rfl rfl ?_ | refine runL_q (ql tok rfl) rfl rfl rfl ?_ | refine runL_g rfl rfl (ql tok rfl) rfl rfl rfl rfl rfl ?_ | (refine runL_op0 (sst tok rfl rfl rfl rfl rfl) ?_; rintro _ _ _ ⟨rfl, rfl, rfl⟩) | (refine runL_op (st_box rfl) rfl rfl rfl ?_; rintro _ _ _ ⟨_, rfl, rfl, rfl⟩) | (refine runL_op (st_alloc tok rfl) rfl rfl rfl ?_; rintro _ _ _ ⟨_, rfl, rfl, rfl⟩) | (refine runL_op (st_buildSlice tok rfl rfl rfl rfl rfl rfl rfl) rfl rfl rfl ?_; rintro _ _ _ ⟨_, rfl, rfl, rfl⟩))
      refine B.fin' (L2 := N ++ ((b6, .cells ⟨[v]⟩ 58 (0, 0)) :: (b3, .cells ⟨coC c⟩ 29 (0, 0)) :: L)) (Mem.le_refl _) (fun w h => ?_) ⟨hM2', v, N, l, ?_, by omega, hO, rfl⟩
      · simpa [List.append_assoc] using h.drop
      · rw [take_snoc he, List.filter_append, List.map_append, ← hl]
        simp [hd]
  · rintro D M2 _ hM2 ⟨hM2', v, N, l, hl, hll, hO, rfl⟩
    rw [List.take_of_length_le (by simp)] at hl
    rw [← hl] at hC
    rw [show (List.map onV (ons c)).length = c.mem.len from by simp [ons]] at hll
    obtain ⟨va, vc, rfl⟩ := os_slice hO
    repeat (first | with_reducible (first | refine run_seq ?_ | refine run_region ?_ | refine runL_nil ?_ | refine run_skip ?_ | refine run_block ?_ | refine run_inBlock ?_) | refine run_exit rfl ?_ | refine runL_q (qt_pev tok rfl) rfl rfl rfl ?_ | refine runL_g rfl rfl (qt_pev tok rfl) rfl rfl rfl rfl rfl ?_ | refine runL_q (ql tok rfl) rfl rfl rfl ?_ | refine runL_g rfl rfl (ql tok rfl) rfl rfl rfl rfl rfl ?_ | (refine runL_op0 (sst tok rfl rfl rfl rfl rfl) ?_; rintro _ _ _ ⟨rfl, rfl, rfl⟩) | (refine runL_op (st_box rfl) rfl rfl rfl ?_; rintro _ _ _ ⟨_, rfl, rfl, rfl⟩) | (refine runL_op (st_alloc tok rfl) rfl rfl rfl ?_; rintro _ _ _ ⟨_, rfl, rfl, rfl⟩) | (refine runL_op (st_buildSlice tok rfl rfl rfl rfl rfl rfl rfl) rfl rfl rfl ?_; rintro _ _ _ ⟨_, rfl, rfl, rfl⟩))
    refine run_ret1E hC (by (repeat (first | with_reducible apply Upd.here | with_reducible apply Upd.there | with_reducible apply Upd.append_left))) (rs := [.cell 6 58]) rfl (rl tok rfl resN) fun w hw => ?_
    obtain ⟨M3, a', c', h5, h6, h7, h8⟩ := hw.drop.freezeOS (ls := l.map inC) hO (by simp) (inC_all _)
    cases h7
    exact ⟨M3, L, h6.drop.drop, Mem.le_trans hM1 (Mem.le_trans hM2 h5), rfl, ⟨va, l.length, vc, l⟩, rfl, h8, rfl, rfl, hll⟩
  · rintro _ j D M2 _ hM2 h
    exact h.elim

/-! ### what a member is sent, and the receipt -/
def msgV (kind : Int) (t : Tx) (au : Int) (mv : Value) (body : ByteArray) (yes : Bool) (tag : ByteArray) : Value := .tuple ⟨[.agg ⟨[.int .u8 kind, .int .i64 t.coord, .int .i64 t.epoch, .int .i64 t.seq, .int .i64 au, mv, .string body, .bool yes, .string tag]⟩, .bool true]⟩
theorem mayA_bodies {M : Mem} {c : Co} (h : CoOk M c) (hm : mayA c.ab = true) (hs : (c.state == 1) = true) : c.bodies.len = c.mem.len := by
  rw [← coOk_ab h.lens, coOk] at hm
  simp only [Bool.and_eq_true, rowsR, bodiesR, Bool.or_eq_true, beq_iff_eq, bne_iff_ne] at hm hs
  rcases hm.1.1.2.1.1.1.1 with h1 | h1
  · omega
  · exact absurd hs h1.2
set_option maxRecDepth 10000 in
set_option maxHeartbeats 8000000 in
theorem what_ok (M : Mem) (L : HL) (c : Co) (h : CoOk M c) (org : Int) (hm : mayA c.ab = true) (k : Nat) (hk : memR c.mem.xs org = some k) : Tr Try.prog 45 [.agg ⟨coC c⟩, .int .i64 org] M L (fun v M' L' => M.le M' ∧ L = L' ∧ ∃ au mv body yes, (∃ a l p, mv = .slice a l p) ∧ v = msgV (if (c.state == 1) = true then 1 else 3) c.txn au mv body yes ⟨#[]⟩) := by
  refine Tr.intro 48 Try.func45 rfl rfl Try.call45 rfl ?_
  intro C hC hro
  repeat (first | with_reducible (first | refine run_seq ?_ | refine run_region ?_ | refine runL_nil ?_ | refine run_skip ?_ | refine run_block ?_ | refine run_inBlock ?_) | refine run_exit rfl ?_ | refine runL_q (qt_pev tok rfl) rfl rfl rfl ?_ | refine runL_g rfl rfl (qt_pev tok rfl) rfl rfl rfl rfl rfl ?_ | refine runL_q (ql tok rfl) rfl rfl rfl ?_ | refine runL_g rfl rfl (ql tok rfl) rfl rfl rfl rfl rfl ?_ | (refine runL_op0 (sst tok rfl rfl rfl rfl rfl) ?_; rintro _ _ _ ⟨rfl, rfl, rfl⟩) | (refine runL_op (st_box rfl) rfl rfl rfl ?_; rintro _ _ _ ⟨_, rfl, rfl, rfl⟩) | (refine runL_op (st_alloc tok rfl) rfl rfl rfl ?_; rintro _ _ _ ⟨_, rfl, rfl, rfl⟩) | (refine runL_op (st_buildSlice tok rfl rfl rfl rfl rfl rfl rfl) rfl rfl rfl ?_; rintro _ _ _ ⟨_, rfl, rfl, rfl⟩))
  refine runL_op (st_callF rfl (fun _ => made_frz _ _ c h)) rfl rfl rfl ?_
  rintro _ M1 _ ⟨hM1, rfl, c', rfl, hab, hok⟩
  rw [madeA, if_pos hm] at hab ⊢
  replace hab : c'.ab = c.ab := hab
  have hm' : mayA c'.ab = true := by rw [hab]; exact hm
  obtain ⟨x1, x2, x3, x4, x5, x6⟩ := ab_len hab
  have hk' : memR c'.mem.xs org = some k := by rw [x1]; exact hk
  have htx : c'.txn = c.txn := congrArg Ca.txn hab
  repeat (first | with_reducible (first | refine run_seq ?_ | refine run_region ?_ | refine runL_nil ?_ | refine run_skip ?_ | refine run_block ?_ | refine run_inBlock ?_) | refine run_exit rfl ?_ | refine runL_q (qt_pev tok rfl) rfl rfl rfl ?_ | refine runL_g rfl rfl (qt_pev tok rfl) rfl rfl rfl rfl rfl ?_ | refine runL_q (ql tok rfl) rfl rfl rfl ?_ | refine runL_g rfl rfl (ql tok rfl) rfl rfl rfl rfl rfl ?_ | (refine runL_op0 (sst tok rfl rfl rfl rfl rfl) ?_; rintro _ _ _ ⟨rfl, rfl, rfl⟩) | (refine runL_op (st_box rfl) rfl rfl rfl ?_; rintro _ _ _ ⟨_, rfl, rfl, rfl⟩) | (refine runL_op (st_alloc tok rfl) rfl rfl rfl ?_; rintro _ _ _ ⟨_, rfl, rfl, rfl⟩) | (refine runL_op (st_buildSlice tok rfl rfl rfl rfl rfl rfl rfl) rfl rfl rfl ?_; rintro _ _ _ ⟨_, rfl, rfl, rfl⟩) | refine runL_q (qt_callF rfl (fun _ => member_ok _ _ c' hok.mem org)) rfl rfl rfl ?_)
  rw [hk']
  repeat (first | with_reducible (first | refine run_seq ?_ | refine run_region ?_ | refine runL_nil ?_ | refine run_skip ?_ | refine run_block ?_ | refine run_inBlock ?_) | refine run_exit rfl ?_ | refine runL_q (qt_pev tok rfl) rfl rfl rfl ?_ | refine runL_g rfl rfl (qt_pev tok rfl) rfl rfl rfl rfl rfl ?_ | refine runL_q (ql tok rfl) rfl rfl rfl ?_ | refine runL_g rfl rfl (ql tok rfl) rfl rfl rfl rfl rfl ?_ | (refine runL_op0 (sst tok rfl rfl rfl rfl rfl) ?_; rintro _ _ _ ⟨rfl, rfl, rfl⟩) | (refine runL_op (st_box rfl) rfl rfl rfl ?_; rintro _ _ _ ⟨_, rfl, rfl, rfl⟩) | (refine runL_op (st_alloc tok rfl) rfl rfl rfl ?_; rintro _ _ _ ⟨_, rfl, rfl, rfl⟩) | (refine runL_op (st_buildSlice tok rfl rfl rfl rfl rfl rfl rfl) rfl rfl rfl ?_; rintro _ _ _ ⟨_, rfl, rfl, rfl⟩))
  refine run_cond rfl (fun h => by cases h) (fun _ => ?_)
  repeat (first | with_reducible (first | refine run_seq ?_ | refine run_region ?_ | refine runL_nil ?_ | refine run_skip ?_ | refine run_block ?_ | refine run_inBlock ?_) | refine run_exit rfl ?_ | refine runL_q (qt_pev tok rfl) rfl rfl rfl ?_ | refine runL_g rfl rfl (qt_pev tok rfl) rfl rfl rfl rfl rfl ?_ | refine runL_q (ql tok rfl) rfl rfl rfl ?_ | refine runL_g rfl rfl (ql tok rfl) rfl rfl rfl rfl rfl ?_ | (refine runL_op0 (sst tok rfl rfl rfl rfl rfl) ?_; rintro _ _ _ ⟨rfl, rfl, rfl⟩) | (refine runL_op (st_box rfl) rfl rfl rfl ?_; rintro _ _ _ ⟨_, rfl, rfl, rfl⟩) | (refine runL_op (st_alloc tok rfl) rfl rfl rfl ?_; rintro _ _ _ ⟨_, rfl, rfl, rfl⟩) | (refine runL_op (st_buildSlice tok rfl rfl rfl rfl rfl rfl rfl) rfl rfl rfl ?_; rintro _ _ _ ⟨_, rfl, rfl, rfl⟩))
  refine run_cond rfl (fun h => by cases h) (fun _ => ?_)
  repeat (first | with_reducible (first | refine run_seq ?_ | refine run_region ?_ | refine runL_nil ?_ | refine run_skip ?_ | refine run_block ?_ | refine run_inBlock ?_) | refine run_exit rfl ?_ | refine runL_q (qt_pev tok rfl) rfl rfl rfl ?_ | refine runL_g rfl rfl (qt_pev tok rfl) rfl rfl rfl rfl rfl ?_ | refine runL_q (ql tok rfl) rfl rfl rfl ?_ | refine runL_g rfl rfl (ql tok rfl) rfl rfl rfl rfl rfl ?_ | (refine runL_op0 (sst tok rfl rfl rfl rfl rfl) ?_; rintro _ _ _ ⟨rfl, rfl, rfl⟩) | (refine runL_op (st_box rfl) rfl rfl rfl ?_; rintro _ _ _ ⟨_, rfl, rfl, rfl⟩) | (refine runL_op (st_alloc tok rfl) rfl rfl rfl ?_; rintro _ _ _ ⟨_, rfl, rfl, rfl⟩) | (refine runL_op (st_buildSlice tok rfl rfl rfl rfl rfl rfl rfl) rfl rfl rfl ?_; rintro _ _ _ ⟨_, rfl, rfl, rfl⟩))
  rw [← x6, ← htx] at hC
  refine run_cond rfl (fun h2 => ?_) (fun h2 => ?_)
  · have hbl := mayA_bodies hok hm' h2
    have hkl := memR_lt hk'
    have hml := hok.mem.len
    obtain ⟨b, off, m, hma, hbm, hc⟩ := SStr.at_ hok.bodies.1 (show k < c'.bodies.len by omega)
    have hv : c'.bodies.v = .slice (some ⟨b, off, none⟩) c'.bodies.len c'.bodies.cap := by rw [← hma]; rfl
    rw [if_pos h2] at hC
    repeat (first | with_reducible (first | refine run_seq ?_ | refine run_region ?_ | refine runL_nil ?_ | refine run_skip ?_ | refine run_block ?_ | refine run_inBlock ?_) | refine run_exit rfl ?_)
    refine prn_start mixed ?_
    iterate 8 (first | refine prn_q rfl (qt_pev tok rfl) (by decide +kernel) rfl rfl rfl ?_ | refine prn_gK rfl rfl rfl (qt_pev tok rfl) (by decide +kernel) rfl rfl rfl ?_ | refine prn_gF rfl rfl rfl (by decide +kernel) rfl rfl rfl ?_ | refine prn_g rfl rfl rfl (qt_pev tok rfl) (by decide +kernel) rfl rfl rfl rfl rfl ?_ | refine prn_q rfl (ql tok rfl) (by decide +kernel) rfl rfl rfl ?_ | refine prn_gK rfl rfl rfl (ql tok rfl) (by decide +kernel) rfl rfl rfl ?_ | refine prn_gF rfl rfl rfl (by decide +kernel) rfl rfl rfl ?_ | refine prn_g rfl rfl rfl (ql tok rfl) (by decide +kernel) rfl rfl rfl rfl rfl ?_ | (refine prn_e0 rfl (sst tok rfl rfl rfl rfl rfl) (by decide +kernel) ?_; rintro _ _ _ ⟨rfl, rfl, rfl⟩) | (refine prn_e1 rfl (st_box rfl) (by decide +kernel) rfl rfl rfl ?_; rintro _ _ _ ⟨_, rfl, rfl, rfl⟩) | (refine prn_e1 rfl (st_alloc tok rfl) (by decide +kernel) rfl rfl rfl ?_; rintro _ _ _ ⟨_, rfl, rfl, rfl⟩) | (refine prn_e1 rfl (st_buildSlice tok rfl rfl rfl rfl rfl rfl rfl) (by decide +kernel) rfl rfl rfl ?_; rintro _ _ _ ⟨_, rfl, rfl, rfl⟩) | (refine prn_o0 rfl (sst tok rfl rfl rfl rfl rfl) (by decide +kernel) ?_; rintro _ _ _ ⟨rfl, rfl, rfl⟩; refine ⟨by (repeat (first | exact trivial | refine And.intro (pend_q rfl rfl rfl (qt_pev tok rfl)) ?_ | refine And.intro (pend_q rfl rfl rfl (ql tok rfl)) ?_)), ?_⟩) | (refine prn_o1 rfl (st_box rfl) (by decide +kernel) rfl rfl rfl ?_; rintro _ _ _ ⟨_, rfl, rfl, rfl⟩; refine ⟨by (repeat (first | exact trivial | refine And.intro (pend_q rfl rfl rfl (qt_pev tok rfl)) ?_ | refine And.intro (pend_q rfl rfl rfl (ql tok rfl)) ?_)), ?_⟩) | (refine prn_o1 rfl (st_alloc tok rfl) (by decide +kernel) rfl rfl rfl ?_; rintro _ _ _ ⟨_, rfl, rfl, rfl⟩; refine ⟨by (repeat (first | exact trivial | refine And.intro (pend_q rfl rfl rfl (qt_pev tok rfl)) ?_ | refine And.intro (pend_q rfl rfl rfl (ql tok rfl)) ?_)), ?_⟩) | (refine prn_o1 rfl (st_buildSlice tok rfl rfl rfl rfl rfl rfl rfl) (by decide +kernel) rfl rfl rfl ?_; rintro _ _ _ ⟨_, rfl, rfl, rfl⟩; refine ⟨by (repeat (first | exact trivial | refine And.intro (pend_q rfl rfl rfl (qt_pev tok rfl)) ?_ | refine And.intro (pend_q rfl rfl rfl (ql tok rfl)) ?_)), ?_⟩) | (refine prn_e1 rfl (qt_pev tok rfl) (by decide +kernel) rfl rfl rfl ?_; rintro _ _ _ ⟨rfl, rfl, rfl⟩))
    refine pr_as 37 (.slice (some ⟨b, off, none⟩) c'.bodies.len c'.bodies.cap) rfl hv ?_
    repeat (first | with_reducible (first | refine run_seq ?_ | refine run_region ?_ | refine runL_nil ?_ | refine run_skip ?_ | refine run_block ?_ | refine run_inBlock ?_) | refine run_exit rfl ?_ | refine runL_q (qt_pev tok rfl) rfl rfl rfl ?_ | refine runL_g rfl rfl (qt_pev tok rfl) rfl rfl rfl rfl rfl ?_ | refine runL_q (ql tok rfl) rfl rfl rfl ?_ | refine runL_g rfl rfl (ql tok rfl) rfl rfl rfl rfl rfl ?_ | (refine runL_op0 (sst tok rfl rfl rfl rfl rfl) ?_; rintro _ _ _ ⟨rfl, rfl, rfl⟩) | (refine runL_op (st_box rfl) rfl rfl rfl ?_; rintro _ _ _ ⟨_, rfl, rfl, rfl⟩) | (refine runL_op (st_alloc tok rfl) rfl rfl rfl ?_; rintro _ _ _ ⟨_, rfl, rfl, rfl⟩) | (refine runL_op (st_buildSlice tok rfl rfl rfl rfl rfl rfl rfl) rfl rfl rfl ?_; rintro _ _ _ ⟨_, rfl, rfl, rfl⟩) | refine prn_start mixed ?_ | refine prn_end (by decide +kernel) ?_ | refine prn_q rfl (qt_pev tok rfl) (by decide +kernel) rfl rfl rfl ?_ | refine prn_g rfl rfl rfl (qt_pev tok rfl) (by decide +kernel) rfl rfl rfl rfl rfl ?_ | refine prn_q rfl (ql tok rfl) (by decide +kernel) rfl rfl rfl ?_ | refine prn_g rfl rfl rfl (ql tok rfl) (by decide +kernel) rfl rfl rfl rfl rfl ?_ | (refine prn_e0 rfl (sst tok rfl rfl rfl rfl rfl) (by decide +kernel) ?_; rintro _ _ _ ⟨rfl, rfl, rfl⟩) | (refine prn_e1 rfl (st_box rfl) (by decide +kernel) rfl rfl rfl ?_; rintro _ _ _ ⟨_, rfl, rfl, rfl⟩) | (refine prn_e1 rfl (st_alloc tok rfl) (by decide +kernel) rfl rfl rfl ?_; rintro _ _ _ ⟨_, rfl, rfl, rfl⟩) | (refine prn_e1 rfl (st_buildSlice tok rfl rfl rfl rfl rfl rfl rfl) (by decide +kernel) rfl rfl rfl ?_; rintro _ _ _ ⟨_, rfl, rfl, rfl⟩) | (refine prn_o0 rfl (sst tok rfl rfl rfl rfl rfl) (by decide +kernel) ?_; rintro _ _ _ ⟨rfl, rfl, rfl⟩; refine ⟨by (repeat (first | exact trivial | refine And.intro (pend_q rfl rfl rfl (qt_pev tok rfl)) ?_ | refine And.intro (pend_q rfl rfl rfl (ql tok rfl)) ?_)), ?_⟩) | (refine prn_o1 rfl (st_box rfl) (by decide +kernel) rfl rfl rfl ?_; rintro _ _ _ ⟨_, rfl, rfl, rfl⟩; refine ⟨by (repeat (first | exact trivial | refine And.intro (pend_q rfl rfl rfl (qt_pev tok rfl)) ?_ | refine And.intro (pend_q rfl rfl rfl (ql tok rfl)) ?_)), ?_⟩) | (refine prn_o1 rfl (st_alloc tok rfl) (by decide +kernel) rfl rfl rfl ?_; rintro _ _ _ ⟨_, rfl, rfl, rfl⟩; refine ⟨by (repeat (first | exact trivial | refine And.intro (pend_q rfl rfl rfl (qt_pev tok rfl)) ?_ | refine And.intro (pend_q rfl rfl rfl (ql tok rfl)) ?_)), ?_⟩) | (refine prn_o1 rfl (st_buildSlice tok rfl rfl rfl rfl rfl rfl rfl) (by decide +kernel) rfl rfl rfl ?_; rintro _ _ _ ⟨_, rfl, rfl, rfl⟩; refine ⟨by (repeat (first | exact trivial | refine And.intro (pend_q rfl rfl rfl (qt_pev tok rfl)) ?_ | refine And.intro (pend_q rfl rfl rfl (ql tok rfl)) ?_)), ?_⟩) | (refine prn_e1 rfl (qt_pev tok rfl) (by decide +kernel) rfl rfl rfl ?_; rintro _ _ _ ⟨rfl, rfl, rfl⟩) | refine prn_q rfl (qt_indexN tok rfl rfl rfl rfl (fun _ => by omega)) (by decide +kernel) rfl rfl rfl ?_ | refine prn_g rfl rfl rfl (qt_indexN tok rfl rfl rfl rfl (fun _ => by omega)) (by decide +kernel) rfl rfl rfl rfl rfl ?_ | refine prn_q rfl (qt_ldM tok rfl hc rfl) (by decide +kernel) rfl rfl rfl ?_ | refine prn_g rfl rfl rfl (qt_ldM tok rfl hc rfl) (by decide +kernel) rfl rfl rfl rfl rfl ?_ | refine prn_q rfl (qt_ldM0 tok rfl hc rfl) (by decide +kernel) rfl rfl rfl ?_ | refine prn_g rfl rfl rfl (qt_ldM0 tok rfl hc rfl) (by decide +kernel) rfl rfl rfl rfl rfl ?_)
    exact run_ret hC (rs := [.cell 4 76, .tmp 5]) rfl (rl tok rfl (resT rfl resN)) (fun _ h => h.drop.drop) ⟨hM1, rfl, c'.auditor, c'.mem.v, m, false, ⟨_, _, _, rfl⟩, rfl⟩
  · rw [if_neg (by rw [h2]; simp)] at hC
    repeat (first | with_reducible (first | refine run_seq ?_ | refine run_region ?_ | refine runL_nil ?_ | refine run_skip ?_ | refine run_block ?_ | refine run_inBlock ?_) | refine run_exit rfl ?_ | refine runL_q (qt_pev tok rfl) rfl rfl rfl ?_ | refine runL_g rfl rfl (qt_pev tok rfl) rfl rfl rfl rfl rfl ?_ | refine runL_q (ql tok rfl) rfl rfl rfl ?_ | refine runL_g rfl rfl (ql tok rfl) rfl rfl rfl rfl rfl ?_ | (refine runL_op0 (sst tok rfl rfl rfl rfl rfl) ?_; rintro _ _ _ ⟨rfl, rfl, rfl⟩) | (refine runL_op (st_box rfl) rfl rfl rfl ?_; rintro _ _ _ ⟨_, rfl, rfl, rfl⟩) | (refine runL_op (st_alloc tok rfl) rfl rfl rfl ?_; rintro _ _ _ ⟨_, rfl, rfl, rfl⟩) | (refine runL_op (st_buildSlice tok rfl rfl rfl rfl rfl rfl rfl) rfl rfl rfl ?_; rintro _ _ _ ⟨_, rfl, rfl, rfl⟩))
    exact run_ret hC (rs := [.cell 4 76, .tmp 5]) rfl (rl tok rfl (resT rfl resN)) (fun _ h => h.drop.drop) ⟨hM1, rfl, 0, .slice none 0 0, ⟨#[]⟩, (c'.state == 2), ⟨_, _, _, rfl⟩, rfl⟩
set_option maxRecDepth 10000 in
set_option maxHeartbeats 8000000 in
theorem receipt_ok (M : Mem) (L : HL) (c : Co) (h : CoOk M c) (hm : mayA c.ab = true) : Tr Try.prog 43 [.agg ⟨coC c⟩] M L (fun v M' L' => M.le M' ∧ L = L' ∧ ∃ t au s ts, v = .tuple ⟨[.agg ⟨rpC t au s ts⟩, .bool (c.state == 2)]⟩ ∧ MbOk M' s ∧ StOk M' ts ∧ ((c.state == 2) = true → t = c.txn ∧ au = c.auditor ∧ s.xs = c.mem.xs ∧ ts.xs = c.tags.xs)) := by
  refine Tr.intro 27 Try.func43 rfl rfl Try.call43 rfl ?_
  intro C hC hro
  repeat (first | with_reducible (first | refine run_seq ?_ | refine run_region ?_ | refine runL_nil ?_ | refine run_skip ?_ | refine run_block ?_ | refine run_inBlock ?_) | refine run_exit rfl ?_ | refine runL_q (qt_pev tok rfl) rfl rfl rfl ?_ | refine runL_g rfl rfl (qt_pev tok rfl) rfl rfl rfl rfl rfl ?_ | refine runL_q (ql tok rfl) rfl rfl rfl ?_ | refine runL_g rfl rfl (ql tok rfl) rfl rfl rfl rfl rfl ?_ | (refine runL_op0 (sst tok rfl rfl rfl rfl rfl) ?_; rintro _ _ _ ⟨rfl, rfl, rfl⟩) | (refine runL_op (st_box rfl) rfl rfl rfl ?_; rintro _ _ _ ⟨_, rfl, rfl, rfl⟩) | (refine runL_op (st_alloc tok rfl) rfl rfl rfl ?_; rintro _ _ _ ⟨_, rfl, rfl, rfl⟩) | (refine runL_op (st_buildSlice tok rfl rfl rfl rfl rfl rfl rfl) rfl rfl rfl ?_; rintro _ _ _ ⟨_, rfl, rfl, rfl⟩))
  refine runL_op (st_callF rfl (fun _ => made_frz _ _ c h)) rfl rfl rfl ?_
  rintro _ M1 _ ⟨hM1, rfl, c', rfl, hab, hok⟩
  rw [madeA, if_pos hm] at hab ⊢
  replace hab : c'.ab = c.ab := hab
  obtain ⟨x1, x2, x3, x4, x5, x6⟩ := ab_len hab
  have htx : c'.txn = c.txn := congrArg Ca.txn hab
  have hau : c'.auditor = c.auditor := congrArg Ca.auditor hab
  repeat (first | with_reducible (first | refine run_seq ?_ | refine run_region ?_ | refine runL_nil ?_ | refine run_skip ?_ | refine run_block ?_ | refine run_inBlock ?_) | refine run_exit rfl ?_ | refine runL_q (qt_pev tok rfl) rfl rfl rfl ?_ | refine runL_g rfl rfl (qt_pev tok rfl) rfl rfl rfl rfl rfl ?_ | refine runL_q (ql tok rfl) rfl rfl rfl ?_ | refine runL_g rfl rfl (ql tok rfl) rfl rfl rfl rfl rfl ?_ | (refine runL_op0 (sst tok rfl rfl rfl rfl rfl) ?_; rintro _ _ _ ⟨rfl, rfl, rfl⟩) | (refine runL_op (st_box rfl) rfl rfl rfl ?_; rintro _ _ _ ⟨_, rfl, rfl, rfl⟩) | (refine runL_op (st_alloc tok rfl) rfl rfl rfl ?_; rintro _ _ _ ⟨_, rfl, rfl, rfl⟩) | (refine runL_op (st_buildSlice tok rfl rfl rfl rfl rfl rfl rfl) rfl rfl rfl ?_; rintro _ _ _ ⟨_, rfl, rfl, rfl⟩))
  refine run_cond rfl (fun h2 => ?_) (fun h2 => ?_)
  · have h3 : (c.state == 2) = false := by
      have : (c'.state != 2) = true := by simpa using h2
      rw [← x6]
      simpa [bne] using this
    rw [h3] at hC
    repeat (first | with_reducible (first | refine run_seq ?_ | refine run_region ?_ | refine runL_nil ?_ | refine run_skip ?_ | refine run_block ?_ | refine run_inBlock ?_) | refine run_exit rfl ?_ | refine runL_q (qt_pev tok rfl) rfl rfl rfl ?_ | refine runL_g rfl rfl (qt_pev tok rfl) rfl rfl rfl rfl rfl ?_ | refine runL_q (ql tok rfl) rfl rfl rfl ?_ | refine runL_g rfl rfl (ql tok rfl) rfl rfl rfl rfl rfl ?_ | (refine runL_op0 (sst tok rfl rfl rfl rfl rfl) ?_; rintro _ _ _ ⟨rfl, rfl, rfl⟩) | (refine runL_op (st_box rfl) rfl rfl rfl ?_; rintro _ _ _ ⟨_, rfl, rfl, rfl⟩) | (refine runL_op (st_alloc tok rfl) rfl rfl rfl ?_; rintro _ _ _ ⟨_, rfl, rfl, rfl⟩) | (refine runL_op (st_buildSlice tok rfl rfl rfl rfl rfl rfl rfl) rfl rfl rfl ?_; rintro _ _ _ ⟨_, rfl, rfl, rfl⟩))
    exact run_ret hC (rs := [.cell 2 51, .tmp 3]) rfl (rl tok rfl (resT rfl resN)) (fun _ h => h.drop.drop) ⟨hM1, rfl, ⟨0, 0, 0⟩, 0, ⟨none, 0, 0, []⟩, ⟨none, 0, 0, []⟩, rfl, MbOk.nil _, StOk.nil _, fun h => by cases h⟩
  · have h3 : (c.state == 2) = true := by
      have : (c'.state != 2) = false := by simpa using h2
      rw [← x6]
      simpa [bne] using this
    rw [h3] at hC
    repeat (first | with_reducible (first | refine run_seq ?_ | refine run_region ?_ | refine runL_nil ?_ | refine run_skip ?_ | refine run_block ?_ | refine run_inBlock ?_) | refine run_exit rfl ?_ | refine runL_q (qt_pev tok rfl) rfl rfl rfl ?_ | refine runL_g rfl rfl (qt_pev tok rfl) rfl rfl rfl rfl rfl ?_ | refine runL_q (ql tok rfl) rfl rfl rfl ?_ | refine runL_g rfl rfl (ql tok rfl) rfl rfl rfl rfl rfl ?_ | (refine runL_op0 (sst tok rfl rfl rfl rfl rfl) ?_; rintro _ _ _ ⟨rfl, rfl, rfl⟩) | (refine runL_op (st_box rfl) rfl rfl rfl ?_; rintro _ _ _ ⟨_, rfl, rfl, rfl⟩) | (refine runL_op (st_alloc tok rfl) rfl rfl rfl ?_; rintro _ _ _ ⟨_, rfl, rfl, rfl⟩) | (refine runL_op (st_buildSlice tok rfl rfl rfl rfl rfl rfl rfl) rfl rfl rfl ?_; rintro _ _ _ ⟨_, rfl, rfl, rfl⟩))
    exact run_ret hC (rs := [.cell 2 51, .tmp 3]) rfl (rl tok rfl (resT rfl resN)) (fun _ h => h.drop.drop) ⟨hM1, rfl, c'.txn, c'.auditor, c'.mem, c'.tags, rfl, hok.mem, hok.tags, fun _ => ⟨htx, hau, x1, x4⟩⟩
end Go.Proofs.Ytpmepmdngdkafaa
