import Derived.Test.YtnpnchmogpfjbaaN9
namespace Go.Proofs.Ytnpnchmogpfjbaa
open Go.Chi

theorem os_slm {M : Mem} {N : HL} {e size n : Nat} {v : Value} {ls : List (List Value)} (ho : OS e size v n ls.flatten N) (hN : ∀ b o, (b, o) ∈ N → M.blk b = some o) (hl : ls.length = n) (hsz : ∀ l ∈ ls, l.length = size) :
    ∃ a cap, v = .slice a n cap ∧ SlM M size a n ls ∧ (a = none → n = 0) := by
  rcases ho with ⟨rfl, rfl, hx, rfl⟩ | ⟨b, cap, cs, rfl, rfl, hle, hcl, hxs⟩
  · have : ls = [] := List.length_eq_zero_iff.1 hl
    subst this
    exact ⟨none, 0, rfl, SlM.nil _ _ _, fun _ => rfl⟩
  · refine ⟨some ⟨b, 0, none⟩, cap, rfl, ⟨hl, hsz, .inr ⟨b, 0, rfl, fun i c hc => ⟨⟨cs⟩, e, (0, 0), .inr (hN _ _ List.mem_cons_self), fun j u hu => ?_⟩⟩⟩, fun h => by cases h⟩
    have key := flat_at hsz hc hu
    have hj : j < size := by
      have := hsz c (List.mem_of_getElem? hc)
      have := (List.getElem?_eq_some_iff.1 hu).1
      omega
    have hi : i < ls.length := (List.getElem?_eq_some_iff.1 hc).1
    have hlt : i * size + j < n * size := by
      have : (i + 1) * size ≤ n * size := Nat.mul_le_mul_right _ (by omega)
      rw [Nat.add_mul] at this; omega
    rw [← hxs, List.getElem?_take, if_pos hlt] at key
    simpa using key
theorem os_cap {e size n c : Nat} {a : Option Addr} {xs : List Value} {N : HL} (h : OS e size (.slice a n c) n xs N) : n ≤ c := by
  rcases h with ⟨h1, h2, _⟩ | ⟨b, cap, cs, h1, _, h2, _⟩
  · omega
  · cases h1; exact h2
/-- what is ours is lent to one who makes a slice of what it reads -/
theorem Tr.lendS {P : Program} {f : FuncId} {args : List Value} {M : Mem} {L : HL} {e size n : Nat} {ls : List (List Value)} (hc : ∀ w, (callFunc f ⟨args⟩).run P w = .ok (.enter f ⟨args⟩) w) (hl : ls.length = n) (hsz : ∀ l ∈ ls, l.length = size)
    (h : ∀ M', M.le M' → (∀ b o, (b, o) ∈ L → M'.blk b = some o) → Tr P f args M' [] (fun v M'' N => M'.le M'' ∧ OS e size v n ls.flatten N)) :
    Tr P f args M L (fun v M' L' => M.le M' ∧ L' = L ∧ ∃ a c, v = .slice a n c ∧ SlM M' size a n ls ∧ n ≤ c) := by
  refine ⟨hc, fun w hw => ?_⟩
  obtain ⟨h1, h2, h3, _⟩ := Mem.addL_blk hw
  refine ((h _ h1 fun b o hb => h2 (b, o) hb).2 w h3).mono ?_
  rintro v' w' ⟨M', N, hp, hle, ho⟩
  have hp1 := hp.of_le hle
  have hdis : ∀ p ∈ N, p.1 ∉ L.map Prod.fst := fun p hp' hm => by
    obtain ⟨q, hq, e⟩ := List.mem_map.1 hm
    have := h2 q hq
    have h4 := hp1.apart p hp'
    rw [← e, this] at h4
    cases h4
  have hp2 : Hp M (N ++ L) w' := by
    refine ⟨hp1.os.trans h1.os, hp1.out.trans h1.out, hp1.tape.trans h1.tape, fun b o hb => hp1.blk b o (h1.blk b o hb), fun p hp' => ?_, ?_, fun p hp' => ?_⟩
    · rcases List.mem_append.1 hp' with hp' | hp'
      · exact hp1.own p hp'
      · exact hp1.blk p.1 p.2 (h2 p hp')
    · rw [List.map_append, List.nodup_append]
      refine ⟨hp1.nodup, hw.nodup, fun a ha b hb e => ?_⟩
      obtain ⟨p, hp', rfl⟩ := List.mem_map.1 ha
      subst e
      exact hdis p hp' hb
    · rcases List.mem_append.1 hp' with hp' | hp'
      · cases e : M.blk p.1 with
        | none => rfl
        | some o =>
          have := h1.blk _ _ e
          rw [hp1.apart p hp'] at this
          cases this
      · exact hw.apart p hp'
  obtain ⟨M2, a, c, h5, h6, h7, h8⟩ := hp2.freezeOS ho hl hsz
  subst h7
  exact ⟨M2, L, h6, h5, rfl, a, c, rfl, h8, os_cap ho⟩

/-! ### a net that is only read -/
structure NetA where
  a : Option Addr
  c : Nat
  a2 : Option Addr
  c2 : Nat
  mc : Nat
  mf : Nat
  kf : KV ByteArray
  cf : Nat
structure NetM (M : Mem) (nb : Nat) (ps : List Po) (s : NetA) : Prop where
  cells : Cells M [] nb 0 [.slice s.a ps.length s.c, .slice s.a2 ps.length s.c2, .map (some s.mc), .map (some s.mf)]
  hp : SlM M 3 s.a ps.length (ps.map poC)
  h0 : s.a = none → ps.length = 0
  ht : SlM M 1 s.a2 ps.length ((timesL ps).map fun n : Nat => [.int .i64 (n : Int)])
  blk : M.blk s.mf = some (.map ⟨ents encS s.kf⟩ s.cf)
  fst : ∀ e, kvGet s.kf e = (firstOf ps e).map fun k : Nat => .int .i64 (k : Int)
theorem NetM.le {M M' : Mem} {nb : Nat} {ps : List Po} {s : NetA} (h : NetM M nb ps s) (hm : M.le M') : NetM M' nb ps s :=
  ⟨h.cells.le hm, h.hp.le hm, h.h0, h.ht.le hm, hm.blk _ _ h.blk, h.fst⟩
theorem poC_all (ps : List Po) : ∀ l ∈ ps.map poC, l.length = 3 := by intro l hl; obtain ⟨p, _, rfl⟩ := List.mem_map.1 hl; rfl
theorem NetL.toM {M' : Mem} {nb : Nat} {ps : List Po} {L0 L : HL} (h : NetL nb ps L0 L) (hb : ∀ b o, (b, o) ∈ L → M'.blk b = some o) : ∃ s, NetM M' nb ps s := by
  obtain ⟨s, hs, rfl⟩ := h
  rw [NetS.app] at hb
  obtain ⟨a, c, h1, h2, h0⟩ := os_slm (M := M') (ls := ps.map poC) hs.hp (fun b o h => hb b o (by simp [h])) (by simp) (poC_all ps)
  obtain ⟨a2, c2, h3, h4, _⟩ := os_slm (M := M') (ls := (timesL ps).map fun n : Nat => [.int .i64 (n : Int)]) hs.ht (fun b o h => hb b o (by simp [h])) (by simp [timesL_len]) (by intro l hl; obtain ⟨p, _, rfl⟩ := List.mem_map.1 hl; rfl)
  refine ⟨⟨a, c, a2, c2, s.mc, s.mf, s.kf, s.cf⟩, Cells.ofBlk (hb nb _ (by rw [h1, h3]; exact List.mem_cons_self)), h2, h0, h4, hb _ _ (by simp), hs.fst⟩
def po0 : Po := ⟨0, 0, ⟨#[]⟩⟩
def getR (ps : List Po) (k : Int) : Po × Bool := if 0 ≤ k ∧ k < (ps.length : Int) then ((ps[k.toNat]?).getD po0, true) else (po0, false)
set_option maxHeartbeats 4000000 in
theorem getM_ok (M : Mem) (L : HL) (nb : Nat) (ps : List Po) (s : NetA) (k : Int) (h : NetM M nb ps s) : TrQ Try.prog 15 [ptr nb, .int .i64 k] M L (.tuple ⟨[encP (getR ps k).1, .bool (getR ps k).2]⟩) := by
  refine Tr.intro 29 Try.func15 rfl rfl Try.call15 rfl ?_
  intro C hC hro
  have hcells := h.cells
  repeat (first | with_reducible refine run_seq ?_ | with_reducible refine run_region ?_ | with_reducible refine runL_nil ?_ | with_reducible refine run_skip ?_ | with_reducible refine run_block ?_ | with_reducible refine run_inBlock ?_ | refine run_exit rfl ?_ | refine runL_q (qt_pev tok rfl) rfl rfl rfl ?_ | refine runL_g rfl rfl (qt_pev tok rfl) rfl rfl rfl rfl rfl ?_ | refine runL_q (qt_ld tok rfl (by (repeat (first | with_reducible apply List.mem_cons_self | with_reducible assumption | with_reducible apply List.mem_cons_of_mem | with_reducible apply List.mem_append_right))) (by rfl)) rfl rfl rfl ?_ | refine runL_g rfl rfl (qt_ld tok rfl (by (repeat (first | with_reducible apply List.mem_cons_self | with_reducible assumption | with_reducible apply List.mem_cons_of_mem | with_reducible apply List.mem_append_right))) (by rfl)) rfl rfl rfl rfl rfl ?_ | (refine runL_op0 (st_store tok rfl rfl rfl rfl rfl (by (repeat (first | with_reducible apply Upd.here | with_reducible apply Upd.there | with_reducible apply Upd.append_left))) (by rfl)) ?_; rintro _ _ _ ⟨rfl, rfl, rfl⟩) | (refine runL_op (st_box rfl) rfl rfl rfl ?_; rintro _ _ _ ⟨_, rfl, rfl, rfl⟩) | (refine runL_op (st_alloc tok rfl) rfl rfl rfl ?_; rintro _ _ _ ⟨_, rfl, rfl, rfl⟩) | (refine runL_op (st_buildSlice tok rfl rfl rfl rfl rfl rfl rfl) rfl rfl rfl ?_; rintro _ _ _ ⟨_, rfl, rfl, rfl⟩) | refine runL_q (qt_indexN tok rfl rfl rfl rfl (fun _ => by omega)) rfl rfl rfl ?_ | refine runL_g rfl rfl (qt_indexN tok rfl rfl rfl rfl (fun _ => by omega)) rfl rfl rfl rfl rfl ?_ | refine runL_q (qt_ldM tok rfl hcells rfl) rfl rfl rfl ?_ | refine runL_g rfl rfl (qt_ldM tok rfl hcells rfl) rfl rfl rfl rfl rfl ?_ | refine runL_q (qt_ldM0 tok rfl hcells rfl) rfl rfl rfl ?_ | refine runL_g rfl rfl (qt_ldM0 tok rfl hcells rfl) rfl rfl rfl rfl rfl ?_)
  refine run_cond rfl (fun h1 => ?_) (fun h1 => ?_)
  · have h2 : ¬ (0 ≤ k ∧ k < (ps.length : Int)) := by
      have h1' : k < 0 ∨ (ps.length : Int) ≤ k := by simpa using h1
      omega
    repeat (first | with_reducible refine run_seq ?_ | with_reducible refine run_region ?_ | with_reducible refine runL_nil ?_ | with_reducible refine run_skip ?_ | with_reducible refine run_block ?_ | with_reducible refine run_inBlock ?_ | refine run_exit rfl ?_ | refine runL_q (qt_pev tok rfl) rfl rfl rfl ?_ | refine runL_g rfl rfl (qt_pev tok rfl) rfl rfl rfl rfl rfl ?_ | refine runL_q (qt_ld tok rfl (by (repeat (first | with_reducible apply List.mem_cons_self | with_reducible assumption | with_reducible apply List.mem_cons_of_mem | with_reducible apply List.mem_append_right))) (by rfl)) rfl rfl rfl ?_ | refine runL_g rfl rfl (qt_ld tok rfl (by (repeat (first | with_reducible apply List.mem_cons_self | with_reducible assumption | with_reducible apply List.mem_cons_of_mem | with_reducible apply List.mem_append_right))) (by rfl)) rfl rfl rfl rfl rfl ?_ | (refine runL_op0 (st_store tok rfl rfl rfl rfl rfl (by (repeat (first | with_reducible apply Upd.here | with_reducible apply Upd.there | with_reducible apply Upd.append_left))) (by rfl)) ?_; rintro _ _ _ ⟨rfl, rfl, rfl⟩) | (refine runL_op (st_box rfl) rfl rfl rfl ?_; rintro _ _ _ ⟨_, rfl, rfl, rfl⟩) | (refine runL_op (st_alloc tok rfl) rfl rfl rfl ?_; rintro _ _ _ ⟨_, rfl, rfl, rfl⟩) | (refine runL_op (st_buildSlice tok rfl rfl rfl rfl rfl rfl rfl) rfl rfl rfl ?_; rintro _ _ _ ⟨_, rfl, rfl, rfl⟩))
    refine run_ret hC (rs := [.cell 4 23, .tmp 5]) rfl (resL tok rfl (by (repeat (first | with_reducible apply List.mem_cons_self | with_reducible assumption | with_reducible apply List.mem_cons_of_mem | with_reducible apply List.mem_append_right))) (by rfl) (resT rfl resN)) (fun _ h => h.drop) ⟨?_, rfl, rfl⟩
    rw [getR, if_neg h2]; rfl
  · have h2 : 0 ≤ k ∧ k < (ps.length : Int) := by
      have h1' : ¬ (k < 0 ∨ (ps.length : Int) ≤ k) := by simpa using h1
      omega
    obtain ⟨m, rfl⟩ : ∃ m : Nat, k = m := ⟨k.toNat, by omega⟩
    have hlt : m < ps.length := by omega
    obtain ⟨b, off, cc, ha, hcc, _, hc⟩ := h.hp.at_ hlt
    obtain ⟨y, hy, rfl⟩ : ∃ y, ps[m]? = some y ∧ poC y = cc := by simpa using hcc
    rw [ha] at hcells
    repeat (first | with_reducible refine run_seq ?_ | with_reducible refine run_region ?_ | with_reducible refine runL_nil ?_ | with_reducible refine run_skip ?_ | with_reducible refine run_block ?_ | with_reducible refine run_inBlock ?_ | refine run_exit rfl ?_ | refine runL_q (qt_pev tok rfl) rfl rfl rfl ?_ | refine runL_g rfl rfl (qt_pev tok rfl) rfl rfl rfl rfl rfl ?_ | refine runL_q (qt_ld tok rfl (by (repeat (first | with_reducible apply List.mem_cons_self | with_reducible assumption | with_reducible apply List.mem_cons_of_mem | with_reducible apply List.mem_append_right))) (by rfl)) rfl rfl rfl ?_ | refine runL_g rfl rfl (qt_ld tok rfl (by (repeat (first | with_reducible apply List.mem_cons_self | with_reducible assumption | with_reducible apply List.mem_cons_of_mem | with_reducible apply List.mem_append_right))) (by rfl)) rfl rfl rfl rfl rfl ?_ | (refine runL_op0 (st_store tok rfl rfl rfl rfl rfl (by (repeat (first | with_reducible apply Upd.here | with_reducible apply Upd.there | with_reducible apply Upd.append_left))) (by rfl)) ?_; rintro _ _ _ ⟨rfl, rfl, rfl⟩) | (refine runL_op (st_box rfl) rfl rfl rfl ?_; rintro _ _ _ ⟨_, rfl, rfl, rfl⟩) | (refine runL_op (st_alloc tok rfl) rfl rfl rfl ?_; rintro _ _ _ ⟨_, rfl, rfl, rfl⟩) | (refine runL_op (st_buildSlice tok rfl rfl rfl rfl rfl rfl rfl) rfl rfl rfl ?_; rintro _ _ _ ⟨_, rfl, rfl, rfl⟩) | refine runL_q (qt_indexN tok rfl rfl rfl rfl (fun _ => by omega)) rfl rfl rfl ?_ | refine runL_g rfl rfl (qt_indexN tok rfl rfl rfl rfl (fun _ => by omega)) rfl rfl rfl rfl rfl ?_ | refine runL_q (qt_ldM tok rfl hcells rfl) rfl rfl rfl ?_ | refine runL_g rfl rfl (qt_ldM tok rfl hcells rfl) rfl rfl rfl rfl rfl ?_ | refine runL_q (qt_ldM0 tok rfl hcells rfl) rfl rfl rfl ?_ | refine runL_g rfl rfl (qt_ldM0 tok rfl hcells rfl) rfl rfl rfl rfl rfl ?_ | refine runL_q (qt_ldM tok rfl hc rfl) rfl rfl rfl ?_ | refine runL_g rfl rfl (qt_ldM tok rfl hc rfl) rfl rfl rfl rfl rfl ?_ | refine runL_q (qt_ldM0 tok rfl hc rfl) rfl rfl rfl ?_ | refine runL_g rfl rfl (qt_ldM0 tok rfl hc rfl) rfl rfl rfl rfl rfl ?_)
    refine run_ret hC (rs := [.cell 4 23, .tmp 5]) rfl (resL tok rfl (by (repeat (first | with_reducible apply List.mem_cons_self | with_reducible assumption | with_reducible apply List.mem_cons_of_mem | with_reducible apply List.mem_append_right))) (by rfl) (resT rfl resN)) (fun _ h => h.drop) ⟨?_, rfl, rfl⟩
    rw [getR, if_pos h2, Int.toNat_natCast, hy]; rfl
def timesR (ps : List Po) (k : Int) : Int := if 0 ≤ k ∧ k < (ps.length : Int) then (((timesL ps)[k.toNat]?).getD 0 : Nat) else 0
set_option maxHeartbeats 4000000 in
theorem timesM_ok (M : Mem) (L : HL) (nb : Nat) (ps : List Po) (s : NetA) (k : Int) (h : NetM M nb ps s) : TrQ Try.prog 10 [ptr nb, .int .i64 k] M L (.int .i64 (timesR ps k)) := by
  refine Tr.intro 22 Try.func10 rfl rfl Try.call10 rfl ?_
  intro C hC hro
  have hcells := h.cells
  repeat (first | with_reducible refine run_seq ?_ | with_reducible refine run_region ?_ | with_reducible refine runL_nil ?_ | with_reducible refine run_skip ?_ | with_reducible refine run_block ?_ | with_reducible refine run_inBlock ?_ | refine run_exit rfl ?_ | refine runL_q (qt_pev tok rfl) rfl rfl rfl ?_ | refine runL_g rfl rfl (qt_pev tok rfl) rfl rfl rfl rfl rfl ?_ | refine runL_q (qt_ld tok rfl (by (repeat (first | with_reducible apply List.mem_cons_self | with_reducible assumption | with_reducible apply List.mem_cons_of_mem | with_reducible apply List.mem_append_right))) (by rfl)) rfl rfl rfl ?_ | refine runL_g rfl rfl (qt_ld tok rfl (by (repeat (first | with_reducible apply List.mem_cons_self | with_reducible assumption | with_reducible apply List.mem_cons_of_mem | with_reducible apply List.mem_append_right))) (by rfl)) rfl rfl rfl rfl rfl ?_ | (refine runL_op0 (st_store tok rfl rfl rfl rfl rfl (by (repeat (first | with_reducible apply Upd.here | with_reducible apply Upd.there | with_reducible apply Upd.append_left))) (by rfl)) ?_; rintro _ _ _ ⟨rfl, rfl, rfl⟩) | (refine runL_op (st_box rfl) rfl rfl rfl ?_; rintro _ _ _ ⟨_, rfl, rfl, rfl⟩) | (refine runL_op (st_alloc tok rfl) rfl rfl rfl ?_; rintro _ _ _ ⟨_, rfl, rfl, rfl⟩) | (refine runL_op (st_buildSlice tok rfl rfl rfl rfl rfl rfl rfl) rfl rfl rfl ?_; rintro _ _ _ ⟨_, rfl, rfl, rfl⟩) | refine runL_q (qt_callF rfl (fun _ => getM_ok _ _ nb ps s k h)) rfl rfl rfl ?_)
  refine run_cond rfl (fun h1 => ?_) (fun h1 => ?_)
  · have h2 : ¬ (0 ≤ k ∧ k < (ps.length : Int)) := by
      intro h2
      rw [getR, if_pos h2] at h1
      cases h1
    repeat (first | with_reducible refine run_seq ?_ | with_reducible refine run_region ?_ | with_reducible refine runL_nil ?_ | with_reducible refine run_skip ?_ | with_reducible refine run_block ?_ | with_reducible refine run_inBlock ?_ | refine run_exit rfl ?_ | refine runL_q (qt_pev tok rfl) rfl rfl rfl ?_ | refine runL_g rfl rfl (qt_pev tok rfl) rfl rfl rfl rfl rfl ?_ | refine runL_q (qt_ld tok rfl (by (repeat (first | with_reducible apply List.mem_cons_self | with_reducible assumption | with_reducible apply List.mem_cons_of_mem | with_reducible apply List.mem_append_right))) (by rfl)) rfl rfl rfl ?_ | refine runL_g rfl rfl (qt_ld tok rfl (by (repeat (first | with_reducible apply List.mem_cons_self | with_reducible assumption | with_reducible apply List.mem_cons_of_mem | with_reducible apply List.mem_append_right))) (by rfl)) rfl rfl rfl rfl rfl ?_ | (refine runL_op0 (st_store tok rfl rfl rfl rfl rfl (by (repeat (first | with_reducible apply Upd.here | with_reducible apply Upd.there | with_reducible apply Upd.append_left))) (by rfl)) ?_; rintro _ _ _ ⟨rfl, rfl, rfl⟩) | (refine runL_op (st_box rfl) rfl rfl rfl ?_; rintro _ _ _ ⟨_, rfl, rfl, rfl⟩) | (refine runL_op (st_alloc tok rfl) rfl rfl rfl ?_; rintro _ _ _ ⟨_, rfl, rfl, rfl⟩) | (refine runL_op (st_buildSlice tok rfl rfl rfl rfl rfl rfl rfl) rfl rfl rfl ?_; rintro _ _ _ ⟨_, rfl, rfl, rfl⟩))
    refine run_ret hC (rs := [.tmp 4]) rfl (resT rfl resN) (fun _ h => h.drop) ⟨?_, rfl, rfl⟩
    rw [timesR, if_neg h2]; rfl
  · have h2 : (0 ≤ k ∧ k < (ps.length : Int)) := by
      apply Classical.byContradiction
      intro h2
      rw [getR, if_neg h2] at h1
      cases h1
    obtain ⟨m, rfl⟩ : ∃ m : Nat, k = m := ⟨k.toNat, by omega⟩
    have hlt : m < ps.length := by omega
    obtain ⟨b, off, cc, ha, hcc, _, hc⟩ := h.ht.at_ hlt
    obtain ⟨y, hy, rfl⟩ : ∃ y : Nat, (timesL ps)[m]? = some y ∧ [Value.int .i64 (y : Int)] = cc := by simpa using hcc
    rw [ha] at hcells
    repeat (first | with_reducible refine run_seq ?_ | with_reducible refine run_region ?_ | with_reducible refine runL_nil ?_ | with_reducible refine run_skip ?_ | with_reducible refine run_block ?_ | with_reducible refine run_inBlock ?_ | refine run_exit rfl ?_ | refine runL_q (qt_pev tok rfl) rfl rfl rfl ?_ | refine runL_g rfl rfl (qt_pev tok rfl) rfl rfl rfl rfl rfl ?_ | refine runL_q (qt_ld tok rfl (by (repeat (first | with_reducible apply List.mem_cons_self | with_reducible assumption | with_reducible apply List.mem_cons_of_mem | with_reducible apply List.mem_append_right))) (by rfl)) rfl rfl rfl ?_ | refine runL_g rfl rfl (qt_ld tok rfl (by (repeat (first | with_reducible apply List.mem_cons_self | with_reducible assumption | with_reducible apply List.mem_cons_of_mem | with_reducible apply List.mem_append_right))) (by rfl)) rfl rfl rfl rfl rfl ?_ | (refine runL_op0 (st_store tok rfl rfl rfl rfl rfl (by (repeat (first | with_reducible apply Upd.here | with_reducible apply Upd.there | with_reducible apply Upd.append_left))) (by rfl)) ?_; rintro _ _ _ ⟨rfl, rfl, rfl⟩) | (refine runL_op (st_box rfl) rfl rfl rfl ?_; rintro _ _ _ ⟨_, rfl, rfl, rfl⟩) | (refine runL_op (st_alloc tok rfl) rfl rfl rfl ?_; rintro _ _ _ ⟨_, rfl, rfl, rfl⟩) | (refine runL_op (st_buildSlice tok rfl rfl rfl rfl rfl rfl rfl) rfl rfl rfl ?_; rintro _ _ _ ⟨_, rfl, rfl, rfl⟩) | refine runL_q (qt_indexN tok rfl rfl rfl rfl (fun _ => by omega)) rfl rfl rfl ?_ | refine runL_g rfl rfl (qt_indexN tok rfl rfl rfl rfl (fun _ => by omega)) rfl rfl rfl rfl rfl ?_ | refine runL_q (qt_ldM tok rfl hcells rfl) rfl rfl rfl ?_ | refine runL_g rfl rfl (qt_ldM tok rfl hcells rfl) rfl rfl rfl rfl rfl ?_ | refine runL_q (qt_ldM0 tok rfl hcells rfl) rfl rfl rfl ?_ | refine runL_g rfl rfl (qt_ldM0 tok rfl hcells rfl) rfl rfl rfl rfl rfl ?_ | refine runL_q (qt_ldM tok rfl hc rfl) rfl rfl rfl ?_ | refine runL_g rfl rfl (qt_ldM tok rfl hc rfl) rfl rfl rfl rfl rfl ?_ | refine runL_q (qt_ldM0 tok rfl hc rfl) rfl rfl rfl ?_ | refine runL_g rfl rfl (qt_ldM0 tok rfl hc rfl) rfl rfl rfl rfl rfl ?_)
    refine run_ret hC (rs := [.tmp 4]) rfl (resT rfl resN) (fun _ h => h.drop) ⟨?_, rfl, rfl⟩
    rw [timesR, if_pos h2, Int.toNat_natCast, hy]; rfl
end Go.Proofs.Ytnpnchmogpfjbaa
