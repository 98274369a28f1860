import Derived.Test.YtcolmljidbbbbaaW15
namespace Go.Proofs.Ytcolmljidbbbbaa
open Go.Chi

theorem rowsM_ok (M : Mem) (L : HL) (bg : Nat) (bad : Int) (rows : List Lr) (va : Value) (bm : Nat) (NA : HL) (hg : LgIn L bg bad rows va bm NA) (hlen : rows.length < 1000000) :
    Tr Try.prog 29 [.pointer (some ⟨bg, 0, none⟩)] M L (fun v' M' L' => M.le M' ∧ L = L' ∧ ∃ a c, v' = .slice a rows.length c ∧ SlM M' 10 a rows.length (rows.map lrC)) := by
  have hgg := hg.g
  have hsrc : Src M L 10 va rows.length (lrF rows) := by
    rcases hg.o with ⟨h1, h2, h3, _⟩ | ⟨b, cap, cs, rfl, h2, h3, h4, h5⟩
    · exact .inl ⟨h1, h2, h3⟩
    · have hm : (b, Obj.cells ⟨cs⟩ 62 (0, 0)) ∈ L := hg.n _ (by rw [h2]; simp)
      refine .inr ⟨b, 0, cap, rfl, ?_, OS.len hg.o⟩
      have := cellsSeg (M := M) (off := 0) (n := rows.length * 10) hm
      simpa [seg, h5] using this
  refine Tr.intro 10 Try.func29 rfl rfl Try.call29 rfl ?_
  intro C hC hro
  repeat (first | with_reducible refine run_seq ?_ | with_reducible refine run_region ?_ | with_reducible refine runL_nil ?_ | with_reducible refine run_skip ?_ | with_reducible refine run_block ?_ | with_reducible refine run_inBlock ?_ | refine run_exit rfl ?_ | refine runL_q (qt_pev tok rfl) rfl rfl rfl ?_ | refine runL_g rfl rfl (qt_pev tok rfl) rfl rfl rfl rfl rfl ?_ | refine runL_q (qt_ld tok rfl (by (repeat (first | with_reducible apply List.mem_cons_self | with_reducible assumption | with_reducible apply List.mem_cons_of_mem | with_reducible apply List.mem_append_right))) (by rfl)) rfl rfl rfl ?_ | refine runL_g rfl rfl (qt_ld tok rfl (by (repeat (first | with_reducible apply List.mem_cons_self | with_reducible assumption | with_reducible apply List.mem_cons_of_mem | with_reducible apply List.mem_append_right))) (by rfl)) rfl rfl rfl rfl rfl ?_ | (refine runL_op0 (st_store tok rfl rfl rfl rfl rfl (by (repeat (first | with_reducible apply Upd.here | with_reducible apply Upd.there | with_reducible apply Upd.append_left))) (by rfl)) ?_; rintro _ _ _ ⟨rfl, rfl, rfl⟩) | (refine runL_op (st_box rfl) rfl rfl rfl ?_; rintro _ _ _ ⟨_, rfl, rfl, rfl⟩) | (refine runL_op (st_alloc tok rfl) rfl rfl rfl ?_; rintro _ _ _ ⟨_, rfl, rfl, rfl⟩) | (refine runL_op (st_buildSlice tok rfl rfl rfl rfl rfl rfl rfl) rfl rfl rfl ?_; rintro _ _ _ ⟨_, rfl, rfl, rfl⟩))
  refine run_cond rfl (fun h => by cases h) (fun _ => ?_)
  repeat (first | with_reducible refine run_seq ?_ | with_reducible refine run_region ?_ | with_reducible refine runL_nil ?_ | with_reducible refine run_skip ?_ | with_reducible refine run_block ?_ | with_reducible refine run_inBlock ?_ | refine run_exit rfl ?_ | refine runL_q (qt_pev tok rfl) rfl rfl rfl ?_ | refine runL_g rfl rfl (qt_pev tok rfl) rfl rfl rfl rfl rfl ?_ | refine runL_q (qt_ld tok rfl (by (repeat (first | with_reducible apply List.mem_cons_self | with_reducible assumption | with_reducible apply List.mem_cons_of_mem | with_reducible apply List.mem_append_right))) (by rfl)) rfl rfl rfl ?_ | refine runL_g rfl rfl (qt_ld tok rfl (by (repeat (first | with_reducible apply List.mem_cons_self | with_reducible assumption | with_reducible apply List.mem_cons_of_mem | with_reducible apply List.mem_append_right))) (by rfl)) rfl rfl rfl rfl rfl ?_ | (refine runL_op0 (st_store tok rfl rfl rfl rfl rfl (by (repeat (first | with_reducible apply Upd.here | with_reducible apply Upd.there | with_reducible apply Upd.append_left))) (by rfl)) ?_; rintro _ _ _ ⟨rfl, rfl, rfl⟩) | (refine runL_op (st_box rfl) rfl rfl rfl ?_; rintro _ _ _ ⟨_, rfl, rfl, rfl⟩) | (refine runL_op (st_alloc tok rfl) rfl rfl rfl ?_; rintro _ _ _ ⟨_, rfl, rfl, rfl⟩) | (refine runL_op (st_buildSlice tok rfl rfl rfl rfl rfl rfl rfl) rfl rfl rfl ?_; rintro _ _ _ ⟨_, rfl, rfl, rfl⟩) | (refine runL_op (st_callF rfl (fun _ => clone_ok _ _ _ rows hsrc hlen)) rfl rfl rfl ?_; rintro _ M1 _ ⟨hM1, rfl, a, c, rfl, hsl⟩))
  exact run_ret hC (rs := [.tmp 2]) rfl (resT rfl resN) (fun _ h => h) ⟨hM1, rfl, a, c, rfl, hsl⟩
theorem rowsNil_ok (M : Mem) (L : HL) : TrQ Try.prog 29 [.pointer none] M L (.slice none 0 0) := by
  refine Tr.intro 10 Try.func29 rfl rfl Try.call29 rfl ?_
  intro C hC hro
  repeat (first | with_reducible refine run_seq ?_ | with_reducible refine run_region ?_ | with_reducible refine runL_nil ?_ | with_reducible refine run_skip ?_ | with_reducible refine run_block ?_ | with_reducible refine run_inBlock ?_ | refine run_exit rfl ?_ | refine runL_q (qt_pev tok rfl) rfl rfl rfl ?_ | refine runL_g rfl rfl (qt_pev tok rfl) rfl rfl rfl rfl rfl ?_ | refine runL_q (qt_ld tok rfl (by (repeat (first | with_reducible apply List.mem_cons_self | with_reducible assumption | with_reducible apply List.mem_cons_of_mem | with_reducible apply List.mem_append_right))) (by rfl)) rfl rfl rfl ?_ | refine runL_g rfl rfl (qt_ld tok rfl (by (repeat (first | with_reducible apply List.mem_cons_self | with_reducible assumption | with_reducible apply List.mem_cons_of_mem | with_reducible apply List.mem_append_right))) (by rfl)) rfl rfl rfl rfl rfl ?_ | (refine runL_op0 (st_store tok rfl rfl rfl rfl rfl (by (repeat (first | with_reducible apply Upd.here | with_reducible apply Upd.there | with_reducible apply Upd.append_left))) (by rfl)) ?_; rintro _ _ _ ⟨rfl, rfl, rfl⟩) | (refine runL_op (st_box rfl) rfl rfl rfl ?_; rintro _ _ _ ⟨_, rfl, rfl, rfl⟩) | (refine runL_op (st_alloc tok rfl) rfl rfl rfl ?_; rintro _ _ _ ⟨_, rfl, rfl, rfl⟩) | (refine runL_op (st_buildSlice tok rfl rfl rfl rfl rfl rfl rfl) rfl rfl rfl ?_; rintro _ _ _ ⟨_, rfl, rfl, rfl⟩))
  refine run_cond rfl (fun _ => ?_) (fun h => by cases h)
  repeat (first | with_reducible refine run_seq ?_ | with_reducible refine run_region ?_ | with_reducible refine runL_nil ?_ | with_reducible refine run_skip ?_ | with_reducible refine run_block ?_ | with_reducible refine run_inBlock ?_ | refine run_exit rfl ?_ | refine runL_q (qt_pev tok rfl) rfl rfl rfl ?_ | refine runL_g rfl rfl (qt_pev tok rfl) rfl rfl rfl rfl rfl ?_ | refine runL_q (qt_ld tok rfl (by (repeat (first | with_reducible apply List.mem_cons_self | with_reducible assumption | with_reducible apply List.mem_cons_of_mem | with_reducible apply List.mem_append_right))) (by rfl)) rfl rfl rfl ?_ | refine runL_g rfl rfl (qt_ld tok rfl (by (repeat (first | with_reducible apply List.mem_cons_self | with_reducible assumption | with_reducible apply List.mem_cons_of_mem | with_reducible apply List.mem_append_right))) (by rfl)) rfl rfl rfl rfl rfl ?_ | (refine runL_op0 (st_store tok rfl rfl rfl rfl rfl (by (repeat (first | with_reducible apply Upd.here | with_reducible apply Upd.there | with_reducible apply Upd.append_left))) (by rfl)) ?_; rintro _ _ _ ⟨rfl, rfl, rfl⟩) | (refine runL_op (st_box rfl) rfl rfl rfl ?_; rintro _ _ _ ⟨_, rfl, rfl, rfl⟩) | (refine runL_op (st_alloc tok rfl) rfl rfl rfl ?_; rintro _ _ _ ⟨_, rfl, rfl, rfl⟩) | (refine runL_op (st_buildSlice tok rfl rfl rfl rfl rfl rfl rfl) rfl rfl rfl ?_; rintro _ _ _ ⟨_, rfl, rfl, rfl⟩))
  exact run_ret hC (rs := [.tmp 2]) rfl (resT rfl resN) (fun _ h => h) ⟨rfl, rfl, rfl⟩

/-! ### a trace runs -/
def runR (bad : Int) : List Lr → List (Nat × Ac) → (Nat × Int) ⊕ (List Lr)
  | rows, [] => .inr rows
  | rows, p :: T => if mayE bad rows p.2 = 0 then runR bad (stepR rows p.2) T else .inl (p.1, mayE bad rows p.2)
theorem runR_append (bad : Int) : ∀ (A B : List (Nat × Ac)) (rows : List Lr), runR bad rows (A ++ B) = match runR bad rows A with | .inl x => .inl x | .inr r => runR bad r B
  | [], B, rows => rfl
  | p :: A, B, rows => by
    simp only [List.cons_append, runR]
    split
    · exact runR_append bad A B _
    · rfl
theorem wrap_u8 (n : Int) : 0 ≤ IntKind.u8.wrap n ∧ IntKind.u8.wrap n < 256 := by
  simp [IntKind.wrap, IntKind.signed, IntKind.bits]; omega
theorem orgSet_bd : ∀ (l : List Mb) (s : Int), 0 ≤ s ∧ s < 256 → 0 ≤ l.foldl (fun s m => if (decide (m.org ≥ 0) && decide (m.org < 8)) = true then ior .u8 s (ishl .u8 1 m.org) else s) s ∧ l.foldl (fun s m => if (decide (m.org ≥ 0) && decide (m.org < 8)) = true then ior .u8 s (ishl .u8 1 m.org) else s) s < 256
  | [], s, h => h
  | m :: l, s, h => by
    simp only [List.foldl_cons]
    apply orgSet_bd l
    split
    · exact wrap_u8 _
    · exact h
theorem actOf_orgs {x : Ev} {a : Ac} (h : actOf x = some a) : 0 ≤ a.orgs ∧ a.orgs < 256 := by
  unfold actOf at h
  split at h
  · cases h; exact orgSet_bd _ 0 (by omega)
  split at h
  · split at h
    · cases h; simp
    split at h
    · cases h; simp
    split at h
    · cases h; simp
    · cases h
  · cases h
theorem oneOf_orgs {f : Int → Bool} {x : Ev} {a : Ac} (h : oneOf f x = some a) : 0 ≤ a.orgs ∧ a.orgs < 256 := by
  unfold oneOf at h
  split at h
  · rename_i a' ha
    split at h
    · cases h; exact actOf_orgs ha
    · cases h
  · cases h
theorem trc_orgs (f : Int → Bool) : ∀ (l : List Ev) (i : Nat), ∀ p ∈ trc f l i, 0 ≤ p.2.orgs ∧ p.2.orgs < 256
  | [], _, p, h => by cases h
  | x :: l, i, p, h => by
    simp only [trc] at h
    split at h
    · rename_i a ha
      rcases List.mem_cons.1 h with rfl | h
      · exact oneOf_orgs ha
      · exact trc_orgs f l _ p h
    · exact trc_orgs f l _ p h
theorem apply_at (M : Mem) (L L0 : HL) (bg : Nat) (bad : Int) (rows : List Lr) (va : Value) (bm : Nat) (NA : HL) (a : Ac) (hO : OS 62 10 va rows.length (lrF rows) NA) (hlen : rows.length < 1000000) (h0 : 0 ≤ a.orgs ∧ a.orgs < 256)
    (hp : L.Perm (LgOwn bg bad bm va rows ++ (NA ++ L0))) :
    Tr Try.prog 38 [.pointer (some ⟨bg, 0, none⟩), .agg ⟨acC a⟩] M L (fun v M' L' => v = .int .i64 (mayE bad rows a) ∧ M = M' ∧
      ((mayE bad rows a ≠ 0 ∧ L' = LgOwn bg bad bm va rows ++ (NA ++ L0)) ∨ (mayE bad rows a = 0 ∧ ∃ va' NA', OS 62 10 va' (stepR rows a).length (lrF (stepR rows a)) NA' ∧ L' = LgOwn bg bad bm va' (stepR rows a) ++ (NA' ++ L0)))) :=
  (apply_ok M L0 bg bad rows va bm NA a hO hlen h0.1 h0.2).perm hp fun _ _ L' h => ⟨L', List.Perm.refl _, h⟩
theorem pmx (x y z : Nat × Obj) (N B : HL) : (x :: y :: z :: (N ++ B)).Perm (y :: z :: (N ++ (x :: B))) := by simpa using permMid [x] ([y, z] ++ N) B
theorem pmy (y z : Nat × Obj) (N A B : HL) : (y :: z :: (N ++ (A ++ B))).Perm (A ++ (y :: z :: (N ++ B))) := by simpa using permMid ([y, z] ++ N) A B

set_option maxHeartbeats 8000000 in
theorem run_ok (M : Mem) (L : HL) (bad : Int) (l : SEv) (hl : EvsOk M l) : Tr Try.prog 27 [.int .u8 bad, l.v] M L (fun v M' L' => M.le M' ∧
    ((∃ i e, runR bad [] (trc (hon bad) l.xs 0) = .inl (i, e) ∧ v = .tuple ⟨[.pointer none, .int .i64 (i : Int), .int .i64 e]⟩ ∧ L' = L) ∨
     (∃ rows bg bm va NA, runR bad [] (trc (hon bad) l.xs 0) = .inr rows ∧ v = .tuple ⟨[.pointer (some ⟨bg, 0, none⟩), .int .i64 (l.len : Int), .int .i64 0]⟩ ∧ rows.length < 1000000 ∧ OS 62 10 va rows.length (lrF rows) NA ∧ L' = LgOwn bg bad bm va rows ++ (NA ++ L)))) := by
  have hlen : l.xs.length = l.len := by have := hl.1.1; simpa using this
  have hlt' := hl.2.1
  have htl := trc_length (hon bad) l.xs 0
  have horgs := trc_orgs (hon bad) l.xs 0
  refine Tr.intro 28 Try.func27 rfl rfl Try.call27 rfl ?_
  intro C hC hro
  repeat (first | with_reducible refine run_seq ?_ | with_reducible refine run_region ?_ | with_reducible refine runL_nil ?_ | with_reducible refine run_skip ?_ | with_reducible refine run_block ?_ | with_reducible refine run_inBlock ?_ | refine run_exit rfl ?_ | refine runL_q (qt_pev tok rfl) rfl rfl rfl ?_ | refine runL_g rfl rfl (qt_pev tok rfl) rfl rfl rfl rfl rfl ?_ | refine runL_q (qt_ld tok rfl (by (repeat (first | with_reducible apply List.mem_cons_self | with_reducible assumption | with_reducible apply List.mem_cons_of_mem | with_reducible apply List.mem_append_right))) (by rfl)) rfl rfl rfl ?_ | refine runL_g rfl rfl (qt_ld tok rfl (by (repeat (first | with_reducible apply List.mem_cons_self | with_reducible assumption | with_reducible apply List.mem_cons_of_mem | with_reducible apply List.mem_append_right))) (by rfl)) rfl rfl rfl rfl rfl ?_ | (refine runL_op0 (st_store tok rfl rfl rfl rfl rfl (by (repeat (first | with_reducible apply Upd.here | with_reducible apply Upd.there | with_reducible apply Upd.append_left))) (by rfl)) ?_; rintro _ _ _ ⟨rfl, rfl, rfl⟩) | (refine runL_op (st_box rfl) rfl rfl rfl ?_; rintro _ _ _ ⟨_, rfl, rfl, rfl⟩) | (refine runL_op (st_alloc tok rfl) rfl rfl rfl ?_; rintro _ _ _ ⟨_, rfl, rfl, rfl⟩) | (refine runL_op (st_buildSlice tok rfl rfl rfl rfl rfl rfl rfl) rfl rfl rfl ?_; rintro _ _ _ ⟨_, rfl, rfl, rfl⟩) | (refine runL_op (st_callF rfl (fun _ => new_ok _ _ _)) rfl rfl rfl ?_; rintro _ _ _ ⟨bg, bm, rfl, rfl, rfl⟩; simp only [LgOwn, List.cons_append, List.nil_append]) | (refine runL_op (st_callF rfl (fun _ => each_ok _ _ _ l hl)) rfl rfl rfl ?_; rintro _ M1 _ ⟨hM1, rfl, caps, rfl, hit⟩))
  rename_i b4 b5 b6 b7
  generalize trc (hon bad) l.xs 0 = T at *
  refine run_perm (pmx _ _ _ [] _) ?_
  refine run_range hro rfl hit rfl (by intro x hx; obtain ⟨p, _, rfl⟩ := List.mem_map.1 hx; rfl)
    (fun k M' L' => M1.le M' ∧ ∃ rows va NA, runR bad [] (T.take k) = .inr rows ∧ rows.length ≤ k ∧ OS 62 10 va rows.length (lrF rows) NA ∧
      L' = LgOwn bg bad bm va rows ++ (NA ++ ((b7, .cells ⟨[.pointer (some ⟨bg, 0, none⟩)]⟩ 75 (0, 0)) :: (b6, .cells ⟨[.int .i64 0]⟩ 44 (0, 0)) :: (b5, .cells ⟨[.int .i64 0]⟩ 3 (0, 0)) :: (b4, .cells ⟨[.pointer none]⟩ 75 (0, 0)) :: L)))
    (fun c _ M' L' => c = .ret ∧ M1.le M' ∧ ∃ (i : Nat) (e : Int), runR bad [] T = .inl (i, e) ∧ L' = (b6, .cells ⟨[.int .i64 e]⟩ 44 (0, 0)) :: (b5, .cells ⟨[.int .i64 (i : Int)]⟩ 3 (0, 0)) :: (b4, .cells ⟨[.pointer none]⟩ 75 (0, 0)) :: L) ?_ ?_ ?_ ?_
  · exact ⟨Mem.le_refl _, [], _, [], rfl, Nat.le_refl _, OS.nil _ _, rfl⟩
  · rintro j x M2 _ R R' C' hx hM2 ⟨hM2', rows, va, NA, hrun, hrl, hO, rfl⟩ B
    obtain ⟨p, hp, rfl⟩ : ∃ p, T[j]? = some p ∧ trcV p = x := by simpa using hx
    have hjl : j < T.length := (List.getElem?_eq_some_iff.1 hp).1
    have hpo := horgs p (List.mem_of_getElem? hp)
    have hs1 := take_snoc hp
    have happ := runR_append bad (T.take j) [p] []
    rw [← hs1, hrun] at happ
    simp only [runR] at happ
    simp only [LgOwn, List.append_assoc, List.cons_append, List.nil_append]
    repeat (first | with_reducible refine run_seq ?_ | with_reducible refine run_region ?_ | with_reducible refine runL_nil ?_ | with_reducible refine run_skip ?_ | with_reducible refine run_block ?_ | with_reducible refine run_inBlock ?_ | refine run_exit rfl ?_ | refine runL_q (qt_pev tok rfl) rfl rfl rfl ?_ | refine runL_g rfl rfl (qt_pev tok rfl) rfl rfl rfl rfl rfl ?_ | refine runL_q (qt_ld tok rfl (by (repeat (first | with_reducible apply List.mem_cons_self | with_reducible assumption | with_reducible apply List.mem_cons_of_mem | with_reducible apply List.mem_append_right))) (by rfl)) rfl rfl rfl ?_ | refine runL_g rfl rfl (qt_ld tok rfl (by (repeat (first | with_reducible apply List.mem_cons_self | with_reducible assumption | with_reducible apply List.mem_cons_of_mem | with_reducible apply List.mem_append_right))) (by rfl)) rfl rfl rfl rfl rfl ?_ | (refine runL_op0 (st_store tok rfl rfl rfl rfl rfl (by (repeat (first | with_reducible apply Upd.here | with_reducible apply Upd.there | with_reducible apply Upd.append_left))) (by rfl)) ?_; rintro _ _ _ ⟨rfl, rfl, rfl⟩) | (refine runL_op (st_box rfl) rfl rfl rfl ?_; rintro _ _ _ ⟨_, rfl, rfl, rfl⟩) | (refine runL_op (st_alloc tok rfl) rfl rfl rfl ?_; rintro _ _ _ ⟨_, rfl, rfl, rfl⟩) | (refine runL_op (st_buildSlice tok rfl rfl rfl rfl rfl rfl rfl) rfl rfl rfl ?_; rintro _ _ _ ⟨_, rfl, rfl, rfl⟩))
    rename_i b9
    refine B.begin' ((b9, .cells ⟨acC p.2⟩ 28 (0, 0)) :: (LgOwn bg bad bm va rows ++ (NA ++ ((b7, .cells ⟨[.pointer (some ⟨bg, 0, none⟩)]⟩ 75 (0, 0)) :: (b6, .cells ⟨[.int .i64 0]⟩ 44 (0, 0)) :: (b5, .cells ⟨[.int .i64 0]⟩ 3 (0, 0)) :: (b4, .cells ⟨[.pointer none]⟩ 75 (0, 0)) :: L)))) (by simp [LgOwn]; rfl) ?_
    simp only [LgOwn, List.append_assoc, List.cons_append, List.nil_append]
    repeat (first | with_reducible refine run_seq ?_ | with_reducible refine run_region ?_ | with_reducible refine runL_nil ?_ | with_reducible refine run_skip ?_ | with_reducible refine run_block ?_ | with_reducible refine run_inBlock ?_ | refine run_exit rfl ?_ | refine runL_q (qt_pev tok rfl) rfl rfl rfl ?_ | refine runL_g rfl rfl (qt_pev tok rfl) rfl rfl rfl rfl rfl ?_ | refine runL_q (qt_ld tok rfl (by (repeat (first | with_reducible apply List.mem_cons_self | with_reducible assumption | with_reducible apply List.mem_cons_of_mem | with_reducible apply List.mem_append_right))) (by rfl)) rfl rfl rfl ?_ | refine runL_g rfl rfl (qt_ld tok rfl (by (repeat (first | with_reducible apply List.mem_cons_self | with_reducible assumption | with_reducible apply List.mem_cons_of_mem | with_reducible apply List.mem_append_right))) (by rfl)) rfl rfl rfl rfl rfl ?_ | (refine runL_op0 (st_store tok rfl rfl rfl rfl rfl (by (repeat (first | with_reducible apply Upd.here | with_reducible apply Upd.there | with_reducible apply Upd.append_left))) (by rfl)) ?_; rintro _ _ _ ⟨rfl, rfl, rfl⟩) | (refine runL_op (st_box rfl) rfl rfl rfl ?_; rintro _ _ _ ⟨_, rfl, rfl, rfl⟩) | (refine runL_op (st_alloc tok rfl) rfl rfl rfl ?_; rintro _ _ _ ⟨_, rfl, rfl, rfl⟩) | (refine runL_op (st_buildSlice tok rfl rfl rfl rfl rfl rfl rfl) rfl rfl rfl ?_; rintro _ _ _ ⟨_, rfl, rfl, rfl⟩) | (refine runL_op (st_callF rfl (fun _ => apply_at _ _ _ bg bad rows va bm NA p.2 hO (by omega) hpo (pmx _ _ _ NA _))) rfl rfl rfl ?_))
    rintro _ _ _ ⟨rfl, rfl, hcase⟩
    rcases hcase with ⟨he, rfl⟩ | ⟨he, va', NA', hO', rfl⟩
    · rw [if_neg he] at happ
      simp only [LgOwn, List.cons_append, List.nil_append]
      repeat (first | with_reducible refine run_seq ?_ | with_reducible refine run_region ?_ | with_reducible refine runL_nil ?_ | with_reducible refine run_skip ?_ | with_reducible refine run_block ?_ | with_reducible refine run_inBlock ?_ | refine run_exit rfl ?_ | refine runL_q (qt_pev tok rfl) rfl rfl rfl ?_ | refine runL_g rfl rfl (qt_pev tok rfl) rfl rfl rfl rfl rfl ?_ | refine runL_q (qt_ld tok rfl (by (repeat (first | with_reducible apply List.mem_cons_self | with_reducible assumption | with_reducible apply List.mem_cons_of_mem | with_reducible apply List.mem_append_right))) (by rfl)) rfl rfl rfl ?_ | refine runL_g rfl rfl (qt_ld tok rfl (by (repeat (first | with_reducible apply List.mem_cons_self | with_reducible assumption | with_reducible apply List.mem_cons_of_mem | with_reducible apply List.mem_append_right))) (by rfl)) rfl rfl rfl rfl rfl ?_ | (refine runL_op0 (st_store tok rfl rfl rfl rfl rfl (by (repeat (first | with_reducible apply Upd.here | with_reducible apply Upd.there | with_reducible apply Upd.append_left))) (by rfl)) ?_; rintro _ _ _ ⟨rfl, rfl, rfl⟩) | (refine runL_op (st_box rfl) rfl rfl rfl ?_; rintro _ _ _ ⟨_, rfl, rfl, rfl⟩) | (refine runL_op (st_alloc tok rfl) rfl rfl rfl ?_; rintro _ _ _ ⟨_, rfl, rfl, rfl⟩) | (refine runL_op (st_buildSlice tok rfl rfl rfl rfl rfl rfl rfl) rfl rfl rfl ?_; rintro _ _ _ ⟨_, rfl, rfl, rfl⟩))
      refine run_cond rfl (fun _ => ?_) (fun h => by simp at h; exact absurd h he)
      repeat (first | with_reducible refine run_seq ?_ | with_reducible refine run_region ?_ | with_reducible refine runL_nil ?_ | with_reducible refine run_skip ?_ | with_reducible refine run_block ?_ | with_reducible refine run_inBlock ?_ | refine run_exit rfl ?_ | refine runL_q (qt_pev tok rfl) rfl rfl rfl ?_ | refine runL_g rfl rfl (qt_pev tok rfl) rfl rfl rfl rfl rfl ?_ | refine runL_q (qt_ld tok rfl (by (repeat (first | with_reducible apply List.mem_cons_self | with_reducible assumption | with_reducible apply List.mem_cons_of_mem | with_reducible apply List.mem_append_right))) (by rfl)) rfl rfl rfl ?_ | refine runL_g rfl rfl (qt_ld tok rfl (by (repeat (first | with_reducible apply List.mem_cons_self | with_reducible assumption | with_reducible apply List.mem_cons_of_mem | with_reducible apply List.mem_append_right))) (by rfl)) rfl rfl rfl rfl rfl ?_ | (refine runL_op0 (st_store tok rfl rfl rfl rfl rfl (by (repeat (first | with_reducible apply Upd.here | with_reducible apply Upd.there | with_reducible apply Upd.append_left))) (by rfl)) ?_; rintro _ _ _ ⟨rfl, rfl, rfl⟩) | (refine runL_op (st_box rfl) rfl rfl rfl ?_; rintro _ _ _ ⟨_, rfl, rfl, rfl⟩) | (refine runL_op (st_alloc tok rfl) rfl rfl rfl ?_; rintro _ _ _ ⟨_, rfl, rfl, rfl⟩) | (refine runL_op (st_buildSlice tok rfl rfl rfl rfl rfl rfl rfl) rfl rfl rfl ?_; rintro _ _ _ ⟨_, rfl, rfl, rfl⟩))
      refine B.ret' (L2 := (b6, .cells ⟨[.int .i64 (mayE bad rows p.2)]⟩ 44 (0, 0)) :: (b5, .cells ⟨[.int .i64 (p.1 : Int)]⟩ 3 (0, 0)) :: (b4, .cells ⟨[.pointer none]⟩ 75 (0, 0)) :: L) (Mem.le_refl _) (fun _ h => h.drop.drop.dropAll.drop.drop) ⟨rfl, hM2', p.1, mayE bad rows p.2, ?_, rfl⟩
      have h2 := runR_append bad (T.take (j + 1)) (T.drop (j + 1)) []
      rw [List.take_append_drop, happ] at h2
      exact h2
    · rw [if_pos he] at happ
      simp only [LgOwn, List.cons_append, List.nil_append]
      repeat (first | with_reducible refine run_seq ?_ | with_reducible refine run_region ?_ | with_reducible refine runL_nil ?_ | with_reducible refine run_skip ?_ | with_reducible refine run_block ?_ | with_reducible refine run_inBlock ?_ | refine run_exit rfl ?_ | refine runL_q (qt_pev tok rfl) rfl rfl rfl ?_ | refine runL_g rfl rfl (qt_pev tok rfl) rfl rfl rfl rfl rfl ?_ | refine runL_q (qt_ld tok rfl (by (repeat (first | with_reducible apply List.mem_cons_self | with_reducible assumption | with_reducible apply List.mem_cons_of_mem | with_reducible apply List.mem_append_right))) (by rfl)) rfl rfl rfl ?_ | refine runL_g rfl rfl (qt_ld tok rfl (by (repeat (first | with_reducible apply List.mem_cons_self | with_reducible assumption | with_reducible apply List.mem_cons_of_mem | with_reducible apply List.mem_append_right))) (by rfl)) rfl rfl rfl rfl rfl ?_ | (refine runL_op0 (st_store tok rfl rfl rfl rfl rfl (by (repeat (first | with_reducible apply Upd.here | with_reducible apply Upd.there | with_reducible apply Upd.append_left))) (by rfl)) ?_; rintro _ _ _ ⟨rfl, rfl, rfl⟩) | (refine runL_op (st_box rfl) rfl rfl rfl ?_; rintro _ _ _ ⟨_, rfl, rfl, rfl⟩) | (refine runL_op (st_alloc tok rfl) rfl rfl rfl ?_; rintro _ _ _ ⟨_, rfl, rfl, rfl⟩) | (refine runL_op (st_buildSlice tok rfl rfl rfl rfl rfl rfl rfl) rfl rfl rfl ?_; rintro _ _ _ ⟨_, rfl, rfl, rfl⟩))
      refine run_cond rfl (fun h => by simp at h; exact absurd he h) (fun _ => ?_)
      repeat (first | with_reducible refine run_seq ?_ | with_reducible refine run_region ?_ | with_reducible refine runL_nil ?_ | with_reducible refine run_skip ?_ | with_reducible refine run_block ?_ | with_reducible refine run_inBlock ?_ | refine run_exit rfl ?_ | refine runL_q (qt_pev tok rfl) rfl rfl rfl ?_ | refine runL_g rfl rfl (qt_pev tok rfl) rfl rfl rfl rfl rfl ?_ | refine runL_q (qt_ld tok rfl (by (repeat (first | with_reducible apply List.mem_cons_self | with_reducible assumption | with_reducible apply List.mem_cons_of_mem | with_reducible apply List.mem_append_right))) (by rfl)) rfl rfl rfl ?_ | refine runL_g rfl rfl (qt_ld tok rfl (by (repeat (first | with_reducible apply List.mem_cons_self | with_reducible assumption | with_reducible apply List.mem_cons_of_mem | with_reducible apply List.mem_append_right))) (by rfl)) rfl rfl rfl rfl rfl ?_ | (refine runL_op0 (st_store tok rfl rfl rfl rfl rfl (by (repeat (first | with_reducible apply Upd.here | with_reducible apply Upd.there | with_reducible apply Upd.append_left))) (by rfl)) ?_; rintro _ _ _ ⟨rfl, rfl, rfl⟩) | (refine runL_op (st_box rfl) rfl rfl rfl ?_; rintro _ _ _ ⟨_, rfl, rfl, rfl⟩) | (refine runL_op (st_alloc tok rfl) rfl rfl rfl ?_; rintro _ _ _ ⟨_, rfl, rfl, rfl⟩) | (refine runL_op (st_buildSlice tok rfl rfl rfl rfl rfl rfl rfl) rfl rfl rfl ?_; rintro _ _ _ ⟨_, rfl, rfl, rfl⟩))
      have hsl := stepR_len rows p.2
      have hal := addRow_len rows p.2.txn
      refine B.fin' (L2 := LgOwn bg bad bm va' (stepR rows p.2) ++ (NA' ++ ((b7, .cells ⟨[.pointer (some ⟨bg, 0, none⟩)]⟩ 75 (0, 0)) :: (b6, .cells ⟨[.int .i64 0]⟩ 44 (0, 0)) :: (b5, .cells ⟨[.int .i64 0]⟩ 3 (0, 0)) :: (b4, .cells ⟨[.pointer none]⟩ 75 (0, 0)) :: L))) (Mem.le_refl _) (fun w h => ?_) ⟨hM2', stepR rows p.2, va', NA', happ, by omega, hO', rfl⟩
      have h2 := (h.perm (pmx _ _ _ NA' _).symm).drop
      simpa [LgOwn] using h2
  · rintro D M2 _ hM2 ⟨hM2', rows, va, NA, hrun, hrl, hO, rfl⟩
    simp only [List.length_map] at hrun hrl
    rw [List.take_of_length_le (Nat.le_refl _)] at hrun
    simp only [LgOwn, List.cons_append, List.nil_append]
    repeat (first | with_reducible refine run_seq ?_ | with_reducible refine run_region ?_ | with_reducible refine runL_nil ?_ | with_reducible refine run_skip ?_ | with_reducible refine run_block ?_ | with_reducible refine run_inBlock ?_ | refine run_exit rfl ?_ | refine runL_q (qt_pev tok rfl) rfl rfl rfl ?_ | refine runL_g rfl rfl (qt_pev tok rfl) rfl rfl rfl rfl rfl ?_ | refine runL_q (qt_ld tok rfl (by (repeat (first | with_reducible apply List.mem_cons_self | with_reducible assumption | with_reducible apply List.mem_cons_of_mem | with_reducible apply List.mem_append_right))) (by rfl)) rfl rfl rfl ?_ | refine runL_g rfl rfl (qt_ld tok rfl (by (repeat (first | with_reducible apply List.mem_cons_self | with_reducible assumption | with_reducible apply List.mem_cons_of_mem | with_reducible apply List.mem_append_right))) (by rfl)) rfl rfl rfl rfl rfl ?_ | (refine runL_op0 (st_store tok rfl rfl rfl rfl rfl (by (repeat (first | with_reducible apply Upd.here | with_reducible apply Upd.there | with_reducible apply Upd.append_left))) (by rfl)) ?_; rintro _ _ _ ⟨rfl, rfl, rfl⟩) | (refine runL_op (st_box rfl) rfl rfl rfl ?_; rintro _ _ _ ⟨_, rfl, rfl, rfl⟩) | (refine runL_op (st_alloc tok rfl) rfl rfl rfl ?_; rintro _ _ _ ⟨_, rfl, rfl, rfl⟩) | (refine runL_op (st_buildSlice tok rfl rfl rfl rfl rfl rfl rfl) rfl rfl rfl ?_; rintro _ _ _ ⟨_, rfl, rfl, rfl⟩))
    refine run_ret1 hC (by (repeat (first | with_reducible apply Upd.here | with_reducible apply Upd.there | with_reducible apply Upd.append_left))) (rs := [.cell 4 75, .cell 5 3, .cell 6 44]) rfl (resL tok rfl (by (repeat (first | with_reducible apply List.mem_cons_self | with_reducible assumption | with_reducible apply List.mem_cons_of_mem | with_reducible apply List.mem_append_right))) (by rfl) (resL tok rfl (by (repeat (first | with_reducible apply List.mem_cons_self | with_reducible assumption | with_reducible apply List.mem_cons_of_mem | with_reducible apply List.mem_append_right))) (by rfl) (resL tok rfl (by (repeat (first | with_reducible apply List.mem_cons_self | with_reducible assumption | with_reducible apply List.mem_cons_of_mem | with_reducible apply List.mem_append_right))) (by rfl) resN))) (fun w h => ?_) ⟨Mem.le_trans hM1 hM2, .inr ⟨rows, bg, bm, va, NA, hrun, rfl, by omega, hO, rfl⟩⟩
    have h2 := h.drop.perm (pmy _ _ NA [_, _, _, _] L)
    exact h2.drop.drop.drop.drop
  · rintro _ j D M2 _ hM2 ⟨rfl, hM2', i, e, hrun, rfl⟩
    exact run_ret1 hC (by (repeat (first | with_reducible apply Upd.here | with_reducible apply Upd.there | with_reducible apply Upd.append_left))) (rs := [.cell 4 75, .cell 5 3, .cell 6 44]) rfl (resL tok rfl (by (repeat (first | with_reducible apply List.mem_cons_self | with_reducible assumption | with_reducible apply List.mem_cons_of_mem | with_reducible apply List.mem_append_right))) (by rfl) (resL tok rfl (by (repeat (first | with_reducible apply List.mem_cons_self | with_reducible assumption | with_reducible apply List.mem_cons_of_mem | with_reducible apply List.mem_append_right))) (by rfl) (resL tok rfl (by (repeat (first | with_reducible apply List.mem_cons_self | with_reducible assumption | with_reducible apply List.mem_cons_of_mem | with_reducible apply List.mem_append_right))) (by rfl) resN))) (fun w h => h.drop.drop.drop.drop) ⟨Mem.le_trans hM1 hM2, .inl ⟨i, e, hrun, rfl, rfl⟩⟩
end Go.Proofs.Ytcolmljidbbbbaa
