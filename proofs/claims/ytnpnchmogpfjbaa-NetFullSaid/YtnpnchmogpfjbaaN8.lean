import Derived.Test.YtnpnchmogpfjbaaN7
import Derived.Test.YtnpnchmogpfjbaaLgZ
namespace Go.Proofs.Ytnpnchmogpfjbaa
open Go.Chi

/-! ### posts -/
structure Po where
  frm : Int
  to : Int
  env : ByteArray
theorem Po.ext_iff' (a b : Po) : (a.frm = b.frm ∧ a.to = b.to ∧ a.env = b.env) ↔ a = b := by cases a; cases b; simp
instance : DecidableEq Po := fun a b => decidable_of_iff _ (Po.ext_iff' a b)
def poC (p : Po) : List Value := [.int .i64 p.frm, .int .i64 p.to, .string p.env]
def encP (p : Po) : Value := .agg ⟨poC p⟩
def encS (s : ByteArray) : Value := .string s
theorem poC_one (p : Po) : ∀ u ∈ poC p, u.oneCell' = true := by intro u hu; simp [poC] at hu; rcases hu with rfl | rfl | rfl <;> rfl
theorem poC_len (p : Po) : (poC p).length = 3 := rfl
theorem poEq_eq (a b : Po) : (a.frm == b.frm && (a.to == b.to && ((a.env.toList == b.env.toList) && true))) = decide (a = b) := by
  rw [bytes_beq, Bool.eq_iff_iff, decide_eq_true_eq, ← Po.ext_iff']
  simp
theorem keyPo : KeyLaw Try.prog 23 encP where
  eq := fun a b w => by
    have h := eqv_ok (P := Try.prog) (T := tt) tok (n := 10) (t := 23) (x := encP a) (y := encP b) (b := _) rfl 10000 (by omega) w
    unfold Op.equal Op.maxDepth
    refine h.trans ?_
    exact congrArg (fun b => Result.ok b w) (poEq_eq a b)
  chk := fun e a w => by
    have hu : Try.prog.underlying 23 = some (.struct _) := und_ok tok (t := 23) rfl
    rw [Instr.checkKey]
    simp only [Sem.run_bind, run_underlying hu, Result.andThen_ok]
    have c3 : ∀ n : Int, (Instr.checkKey e 9999 3 (.int .i64 n)).run Try.prog w = .ok () w := fun n => chk_plain (und_ok tok (t := 3) rfl) (by intro x h; cases h) (by intro x y h; cases h) (by intro x h; cases h) e 9998 w
    have c9 : ∀ n : ByteArray, (Instr.checkKey e 9999 9 (.string n)).run Try.prog w = .ok () w := fun n => chk_plain (und_ok tok (t := 9) rfl) (by intro x h; cases h) (by intro x y h; cases h) (by intro x h; cases h) e 9998 w
    have p0 : (part 3 ⟨poC a⟩ 0).run Try.prog w = .ok (.int .i64 a.frm) w := run_part tok rfl w
    have p1 : (part 3 ⟨poC a⟩ 1).run Try.prog w = .ok (.int .i64 a.to) w := run_part tok rfl w
    have p2 : (part 9 ⟨poC a⟩ 2).run Try.prog w = .ok (.string a.env) w := run_part tok rfl w
    simp [encP, List.forIn_cons, p0, p1, p2, c3, c9]
  und := ⟨_, und_ok tok (t := 23) rfl, fun a b => .inr rfl⟩
  bits := fun a => by simp [Instr.sameBits, encP, poC]; rw [beq_toListBytes, bytes_beq]; simp
theorem keyS : KeyLaw Try.prog 9 encS := keyStr tok rfl

/-! ### the net -/
def poF (ps : List Po) : List Value := (ps.map poC).flatten
theorem poF_snoc (l : List Po) (a : Po) : poF (l ++ [a]) = poF l ++ poC a := by simp [poF]
def tsF (ts : List Nat) : List Value := (ts.map fun n : Nat => [Value.int .i64 (n : Int)]).flatten
theorem tsF_snoc (l : List Nat) (a : Nat) : tsF (l ++ [a]) = tsF l ++ [.int .i64 (a : Int)] := by simp [tsF]
def timesL (ps : List Po) : List Nat := (List.range ps.length).map fun k => match ps[k]? with | some p => (ps.take (k + 1)).count p | none => 0
theorem timesL_len (ps : List Po) : (timesL ps).length = ps.length := by simp [timesL]
theorem timesL_snoc (ps : List Po) (p : Po) : timesL (ps ++ [p]) = timesL ps ++ [(ps ++ [p]).count p] := by
  unfold timesL
  rw [List.length_append, List.length_singleton, List.range_succ, List.map_append]
  congr 1
  · apply List.map_congr_left
    intro k hk
    have hk := List.mem_range.1 hk
    rw [List.getElem?_append_left hk, List.take_append_of_le_length (by omega)]
  · rw [List.map_singleton, List.take_of_length_le (by simp)]
    simp
theorem timesL_at {ps : List Po} {k : Nat} {p : Po} (h : ps[k]? = some p) : (timesL ps)[k]? = some ((ps.take (k + 1)).count p) := by
  have hk := (List.getElem?_eq_some_iff.1 h).1
  unfold timesL
  rw [List.getElem?_map, List.getElem?_range hk]
  simp only [Option.map_some, h]
def firstOf (ps : List Po) (e : ByteArray) : Option Nat := ps.findIdx? (fun p => decide (p.env = e))
/-- the net's blocks: what it has is ps -/
structure NetS where
  vp : Value
  vt : Value
  mc : Nat
  mf : Nat
  Np : HL
  Nt : HL
  kc : KV Po
  kf : KV ByteArray
  cc : Nat
  cf : Nat
def NetS.blks (s : NetS) (nb : Nat) : HL := (nb, .cells ⟨[s.vp, s.vt, .map (some s.mc), .map (some s.mf)]⟩ 49 (0, 0)) :: (s.mc, .map ⟨ents encP s.kc⟩ s.cc) :: (s.mf, .map ⟨ents encS s.kf⟩ s.cf) :: (s.Np ++ s.Nt)
theorem NetS.app (s : NetS) (nb : Nat) (L : HL) : s.blks nb ++ L = (nb, .cells ⟨[s.vp, s.vt, .map (some s.mc), .map (some s.mf)]⟩ 49 (0, 0)) :: (s.mc, .map ⟨ents encP s.kc⟩ s.cc) :: (s.mf, .map ⟨ents encS s.kf⟩ s.cf) :: (s.Np ++ (s.Nt ++ L)) := by
  simp [NetS.blks]
structure NetOk (s : NetS) (ps : List Po) : Prop where
  hp : OS 23 3 s.vp ps.length (poF ps) s.Np
  ht : OS 3 1 s.vt ps.length (tsF (timesL ps)) s.Nt
  kc : KvOk s.kc s.cc
  kf : KvOk s.kf s.cf
  cnt : ∀ p, (kvGet s.kc p).getD (.int .i64 0) = .int .i64 ((ps.count p : Nat) : Int)
  fst : ∀ e, kvGet s.kf e = (firstOf ps e).map fun k : Nat => .int .i64 (k : Int)
def NetL (nb : Nat) (ps : List Po) (L0 L : HL) : Prop := ∃ s : NetS, NetOk s ps ∧ L = s.blks nb ++ L0
theorem os_slice {e size n : Nat} {v : Value} {xs : List Value} {N : HL} (h : OS e size v n xs N) : ∃ a cap, v = .slice a n cap := by
  rcases h with ⟨rfl, rfl, _⟩ | ⟨b, cap, cs, rfl, _⟩
  · exact ⟨_, _, rfl⟩
  · exact ⟨_, _, rfl⟩
def ptr (b : Nat) : Value := .pointer (some ⟨b, 0, none⟩)
set_option maxHeartbeats 4000000 in
theorem new_ok (M : Mem) (L : HL) : Tr Try.prog 7 [] M L (fun v M' L' => M = M' ∧ ∃ nb, v = ptr nb ∧ NetL nb [] L L') := by
  refine Tr.intro 5 Try.func7 rfl rfl Try.call7 rfl ?_
  intro C hC hro
  repeat (first | with_reducible refine run_seq ?_ | with_reducible refine run_region ?_ | with_reducible refine runL_nil ?_ | with_reducible refine run_skip ?_ | with_reducible refine run_block ?_ | with_reducible refine run_inBlock ?_ | refine run_exit rfl ?_ | refine runL_q (qt_pev tok rfl) rfl rfl rfl ?_ | refine runL_g rfl rfl (qt_pev tok rfl) rfl rfl rfl rfl rfl ?_ | refine runL_q (qt_ld tok rfl (by (repeat (first | with_reducible apply List.mem_cons_self | with_reducible assumption | with_reducible apply List.mem_cons_of_mem | with_reducible apply List.mem_append_right))) (by rfl)) rfl rfl rfl ?_ | refine runL_g rfl rfl (qt_ld tok rfl (by (repeat (first | with_reducible apply List.mem_cons_self | with_reducible assumption | with_reducible apply List.mem_cons_of_mem | with_reducible apply List.mem_append_right))) (by rfl)) rfl rfl rfl rfl rfl ?_ | (refine runL_op0 (st_store tok rfl rfl rfl rfl rfl (by (repeat (first | with_reducible apply Upd.here | with_reducible apply Upd.there | with_reducible apply Upd.append_left))) (by rfl)) ?_; rintro _ _ _ ⟨rfl, rfl, rfl⟩) | (refine runL_op (st_box rfl) rfl rfl rfl ?_; rintro _ _ _ ⟨_, rfl, rfl, rfl⟩) | (refine runL_op (st_alloc tok rfl) rfl rfl rfl ?_; rintro _ _ _ ⟨_, rfl, rfl, rfl⟩) | (refine runL_op (st_buildSlice tok rfl rfl rfl rfl rfl rfl rfl) rfl rfl rfl ?_; rintro _ _ _ ⟨_, rfl, rfl, rfl⟩) | (refine runL_op (st_makeMapE encP (t := 46)) rfl rfl rfl ?_; rintro _ _ _ ⟨_, rfl, rfl, rfl⟩) | (refine runL_op (st_makeMapE encS (t := 47)) rfl rfl rfl ?_; rintro _ _ _ ⟨_, rfl, rfl, rfl⟩))
  rename_i mc mf nb
  refine run_ret hC (rs := [.tmp 0]) rfl (resT rfl resN) (M' := M) (L' := (NetS.mk (.slice none 0 0) (.slice none 0 0) mc mf [] [] [] [] 0 0).blks nb ++ L) (fun w h => ?_) ⟨rfl, nb, rfl, _, ⟨OS.nil _ _, OS.nil _ _, KvOk.nil _, KvOk.nil _, fun p => rfl, fun e => rfl⟩, rfl⟩
  refine h.perm ?_
  exact List.Perm.cons _ (List.Perm.swap _ _ _)
def orgP (n : Int) : Bool := decide (0 ≤ n) && decide (n < 8)
theorem org_ok (M : Mem) (L : HL) (n : Int) : TrQ Try.prog 20 [.int .i64 n] M L (.bool (orgP n)) := by
  refine Tr.intro 9 Try.func20 rfl rfl Try.call20 rfl ?_
  intro C hC hro
  repeat (first | with_reducible refine run_seq ?_ | with_reducible refine run_region ?_ | with_reducible refine runL_nil ?_ | with_reducible refine run_skip ?_ | with_reducible refine run_block ?_ | with_reducible refine run_inBlock ?_ | refine run_exit rfl ?_ | refine runL_q (qt_pev tok rfl) rfl rfl rfl ?_ | refine runL_g rfl rfl (qt_pev tok rfl) rfl rfl rfl rfl rfl ?_ | refine runL_q (qt_ld tok rfl (by (repeat (first | with_reducible apply List.mem_cons_self | with_reducible assumption | with_reducible apply List.mem_cons_of_mem | with_reducible apply List.mem_append_right))) (by rfl)) rfl rfl rfl ?_ | refine runL_g rfl rfl (qt_ld tok rfl (by (repeat (first | with_reducible apply List.mem_cons_self | with_reducible assumption | with_reducible apply List.mem_cons_of_mem | with_reducible apply List.mem_append_right))) (by rfl)) rfl rfl rfl rfl rfl ?_ | (refine runL_op0 (st_store tok rfl rfl rfl rfl rfl (by (repeat (first | with_reducible apply Upd.here | with_reducible apply Upd.there | with_reducible apply Upd.append_left))) (by rfl)) ?_; rintro _ _ _ ⟨rfl, rfl, rfl⟩) | (refine runL_op (st_box rfl) rfl rfl rfl ?_; rintro _ _ _ ⟨_, rfl, rfl, rfl⟩) | (refine runL_op (st_alloc tok rfl) rfl rfl rfl ?_; rintro _ _ _ ⟨_, rfl, rfl, rfl⟩) | (refine runL_op (st_buildSlice tok rfl rfl rfl rfl rfl rfl rfl) rfl rfl rfl ?_; rintro _ _ _ ⟨_, rfl, rfl, rfl⟩))
  exact run_ret hC (rs := [.tmp 2]) rfl (resT rfl resN) (fun _ h => h) ⟨rfl, rfl, rfl⟩
theorem len_ok (M : Mem) (L L0 : HL) (nb : Nat) (ps : List Po) (h : NetL nb ps L0 L) : TrQ Try.prog 9 [ptr nb] M L (.int .i64 (ps.length : Int)) := by
  obtain ⟨s, hs, rfl⟩ := h
  obtain ⟨a, c, hv⟩ := os_slice hs.hp
  rw [NetS.app, hv]
  refine Tr.intro 10 Try.func9 rfl rfl Try.call9 rfl ?_
  intro C hC hro
  repeat (first | with_reducible refine run_seq ?_ | with_reducible refine run_region ?_ | with_reducible refine runL_nil ?_ | with_reducible refine run_skip ?_ | with_reducible refine run_block ?_ | with_reducible refine run_inBlock ?_ | refine run_exit rfl ?_ | refine runL_q (qt_pev tok rfl) rfl rfl rfl ?_ | refine runL_g rfl rfl (qt_pev tok rfl) rfl rfl rfl rfl rfl ?_ | refine runL_q (qt_ld tok rfl (by (repeat (first | with_reducible apply List.mem_cons_self | with_reducible assumption | with_reducible apply List.mem_cons_of_mem | with_reducible apply List.mem_append_right))) (by rfl)) rfl rfl rfl ?_ | refine runL_g rfl rfl (qt_ld tok rfl (by (repeat (first | with_reducible apply List.mem_cons_self | with_reducible assumption | with_reducible apply List.mem_cons_of_mem | with_reducible apply List.mem_append_right))) (by rfl)) rfl rfl rfl rfl rfl ?_ | (refine runL_op0 (st_store tok rfl rfl rfl rfl rfl (by (repeat (first | with_reducible apply Upd.here | with_reducible apply Upd.there | with_reducible apply Upd.append_left))) (by rfl)) ?_; rintro _ _ _ ⟨rfl, rfl, rfl⟩) | (refine runL_op (st_box rfl) rfl rfl rfl ?_; rintro _ _ _ ⟨_, rfl, rfl, rfl⟩) | (refine runL_op (st_alloc tok rfl) rfl rfl rfl ?_; rintro _ _ _ ⟨_, rfl, rfl, rfl⟩) | (refine runL_op (st_buildSlice tok rfl rfl rfl rfl rfl rfl rfl) rfl rfl rfl ?_; rintro _ _ _ ⟨_, rfl, rfl, rfl⟩))
  refine run_cond rfl (fun h => by cases h) (fun _ => ?_)
  repeat (first | with_reducible refine run_seq ?_ | with_reducible refine run_region ?_ | with_reducible refine runL_nil ?_ | with_reducible refine run_skip ?_ | with_reducible refine run_block ?_ | with_reducible refine run_inBlock ?_ | refine run_exit rfl ?_ | refine runL_q (qt_pev tok rfl) rfl rfl rfl ?_ | refine runL_g rfl rfl (qt_pev tok rfl) rfl rfl rfl rfl rfl ?_ | refine runL_q (qt_ld tok rfl (by (repeat (first | with_reducible apply List.mem_cons_self | with_reducible assumption | with_reducible apply List.mem_cons_of_mem | with_reducible apply List.mem_append_right))) (by rfl)) rfl rfl rfl ?_ | refine runL_g rfl rfl (qt_ld tok rfl (by (repeat (first | with_reducible apply List.mem_cons_self | with_reducible assumption | with_reducible apply List.mem_cons_of_mem | with_reducible apply List.mem_append_right))) (by rfl)) rfl rfl rfl rfl rfl ?_ | (refine runL_op0 (st_store tok rfl rfl rfl rfl rfl (by (repeat (first | with_reducible apply Upd.here | with_reducible apply Upd.there | with_reducible apply Upd.append_left))) (by rfl)) ?_; rintro _ _ _ ⟨rfl, rfl, rfl⟩) | (refine runL_op (st_box rfl) rfl rfl rfl ?_; rintro _ _ _ ⟨_, rfl, rfl, rfl⟩) | (refine runL_op (st_alloc tok rfl) rfl rfl rfl ?_; rintro _ _ _ ⟨_, rfl, rfl, rfl⟩) | (refine runL_op (st_buildSlice tok rfl rfl rfl rfl rfl rfl rfl) rfl rfl rfl ?_; rintro _ _ _ ⟨_, rfl, rfl, rfl⟩))
  exact run_ret hC (rs := [.tmp 2]) rfl (resT rfl resN) (fun _ h => h) ⟨rfl, rfl, rfl⟩
end Go.Proofs.Ytnpnchmogpfjbaa
