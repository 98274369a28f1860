import Derived.Test.YtemiflllckincaaK6
namespace Go.Proofs.Ytemiflllckincaa
open Go.Chi

theorem qt_lookupV {κ : Type} [DecidableEq κ] {enc : κ → Value} {kt : TypeId} {P : Program} {T : TT} {ro : Option Nat} {σ : Env} {δ : Den} {cur : Path} {M : Mem} {L : HL} {d : Option Nat} {ty : TypeId} {pos : String} {aft : Array Edge} {g : Option (Nat × Bool)} {v : Value}
    (hT : TOk P T) (hk : KeyLaw P kt enc) {t : TypeId} {x y : Operand} {b : Nat} {ok : Bool} {et : TypeId} {z kv : Value} {a : κ} {es : KV κ} {clock : Nat}
    (hu : und T t = some (.map kt et)) (hx : ev σ δ cur x = some (.map (some b))) (hy : ev σ δ cur y = some kv) (he : kv = enc a) (hb : Blk M L b (.map ⟨ents enc es⟩ clock)) (hz : zeroT T et = some z) (hv : lookRes ok (kvGet es a) z = v) :
    Qt P ro ⟨d, .lookup t x y ok, ty, pos, aft, g⟩ σ δ cur M L v := hv ▸ qt_lookup hT hk hu hx hy he hb hz

theorem qt_indexAs {P : Program} {T : TT} {ro : Option Nat} {σ : Env} {δ : Den} {cur : Path} {M : Mem} {L : HL} {d : Option Nat} {ty : TypeId} {pos : String} {aft : Array Edge} {g : Option (Nat × Bool)} (hT : TOk P T) {t : TypeId} {x y : Operand} {b off len cap : Nat} {k : IntKind} {n e s o : Nat}
    (hx : ev σ δ cur x = some (.slice (some ⟨b, off, none⟩) len cap)) (hy : ev σ δ cur y = some (.int k (n : Int))) (hu : und T t = some (.slice e)) (hi : sizeT T e = some s) (hb : Hy σ δ cur → n < len) (ho : off + n * s = o) :
    Qt P ro ⟨d, .indexAddr t x y, ty, pos, aft, g⟩ σ δ cur M L (.pointer (some ⟨b, o, none⟩)) := ho ▸ qt_indexN hT hx hy hu hi hb

/-! ### what a record does to a book -/
def ra0 (t : Tx) : Ra := ⟨t, false, false, false, false, false, false, 0, [], [], ⟨#[]⟩⟩
abbrev BkA := Int × List Ra
def ixA (t : Tx) (l : List Ra) : Option Nat := ixOf t (l.map (·.txn)) 0
def addA (t : Tx) (l : List Ra) : List Ra := match ixA t l with | some _ => l | none => l ++ [ra0 t]
def posA (t : Tx) (l : List Ra) : Nat := match ixA t l with | some k => k | none => l.length
def rowA (t : Tx) (l : List Ra) : Ra := ((addA t l)[posA t l]?).getD (ra0 t)
def mayA (k : Int) (x : Ra) (y : Bool) : Bool := if k = 4 then learnR x y else freshR x
def doA (x : Ra) (r : Rc) : Ra := if r.kind = 2 then voteA x r else if r.kind = 3 then decideA x r else learnA x r
def writeA (b : BkA) (r : Rc) : BkA × Int :=
  if recE r ≠ 0 then ((0, []), recE r) else
  if r.kind = 1 then (if r.epoch ≤ b.1 then ((0, []), 240) else ((r.epoch, b.2), 0)) else
  if mayA r.kind (rowA r.txn b.2) r.yes = true then ((b.1, (addA r.txn b.2).set (posA r.txn b.2) (doA (rowA r.txn b.2) r)), 0) else ((0, []), 240)
theorem ixOf_lt (t : Tx) : ∀ (l : List Tx) (i k : Nat), ixOf t l i = some k → i ≤ k ∧ k < i + l.length
  | [], _, _, h => by cases h
  | x :: l, i, k, h => by
    rw [ixOf] at h
    split at h
    · cases h; simp
    · have := ixOf_lt t l (i + 1) k h
      simp; omega
theorem posA_lt (t : Tx) (l : List Ra) : posA t l < (addA t l).length ∧ (addA t l).length ≤ l.length + 1 := by
  unfold posA addA
  cases h : ixA t l with
  | some k =>
    have := ixOf_lt t _ 0 k h
    simp at this ⊢
    omega
  | none => simp
theorem rowA_at (t : Tx) (l : List Ra) : (addA t l)[posA t l]? = some (rowA t l) := by
  have := (posA_lt t l).1
  rw [rowA, List.getElem?_eq_getElem this]; rfl
theorem kd_of {r : Rc} (h1 : ¬ r.kind = 1) (hk : 1 ≤ r.kind ∧ r.kind ≤ 4) : ∃ cF dF : Nat, lookRes false (kvGet kdKV r.kind) (.agg ⟨[.nilFunc, .nilFunc]⟩) = kdV cF dF ∧
    (∀ (M : Mem) (L : HL) (br : Nat) (pre post : List Value) (x : Rw), (br, Obj.cells ⟨pre ++ (rwC x ++ post)⟩ 39 (0, 0)) ∈ L → TrQ Try.prog cF [.pointer (some ⟨br, pre.length, none⟩), .agg ⟨rcC r⟩] M L (.bool (mayA r.kind x.abs r.yes))) ∧
    (∀ (M : Mem) (L : HL) (br : Nat) (pre post : List Value) (x : Rw), RwOk M x → RcOk M r → Tr Try.prog dF [.pointer (some ⟨br, pre.length, none⟩), .agg ⟨rcC r⟩] M ((br, .cells ⟨pre ++ (rwC x ++ post)⟩ 39 (0, 0)) :: L) (DoK doA M L br pre post x r)) := by
  have h : r.kind = 2 ∨ r.kind = 3 ∨ r.kind = 4 := by omega
  rcases h with h | h | h
  · refine ⟨_, _, by rw [h]; rfl, fun M L br pre post x hm => ?_, fun M L br pre post x hx hr => ?_⟩
    · rw [mayA, if_neg (by omega)]; exact fresh_ok M L br pre post x r hm
    · refine (vote_ok M L br pre post x r hx hr).mono ?_
      rintro v M' L' ⟨h1, x', h2, h3⟩
      exact ⟨h1, x', by rw [h2, doA, if_pos h], h3⟩
  · refine ⟨_, _, by rw [h]; rfl, fun M L br pre post x hm => ?_, fun M L br pre post x hx hr => ?_⟩
    · rw [mayA, if_neg (by omega)]; exact fresh_ok M L br pre post x r hm
    · refine (decide_ok M L br pre post x r hx hr).mono ?_
      rintro v M' L' ⟨h1, x', h2, h3⟩
      exact ⟨h1, x', by rw [h2, doA, if_neg (by omega), if_pos h], h3⟩
  · refine ⟨_, _, by rw [h]; rfl, fun M L br pre post x hm => ?_, fun M L br pre post x hx hr => ?_⟩
    · rw [mayA, if_pos h]; exact learnable_ok M L br pre post x r hm
    · refine (learn_ok M L br pre post x r hx).mono ?_
      rintro v M' L' ⟨h1, x', h2, h3⟩
      exact ⟨h1, x', by rw [h2, doA, if_neg (by omega), if_neg (by omega)], h3⟩
theorem RcOk.le {M M' : Mem} {r : Rc} (h : RcOk M r) (hm : M.le M') : RcOk M' r := ⟨h.mem.le hm, h.tags.le hm, h.dig, h.tag, h.body⟩
def WrK (M : Mem) (L : HL) (ep : Int) (rows : List Ra) (r : Rc) : Value → Mem → HL → Prop :=
  fun v M' L' => M.le M' ∧ L = L' ∧ ∃ ep' a' c' rows', v = .tuple ⟨[bkV ep' (.slice a' rows'.length c'), .int .i64 (writeA (ep, rows) r).2]⟩ ∧ BkM M' a' c' rows' ∧ (ep', rows'.map Rw.abs) = (writeA (ep, rows) r).1
theorem BkM.nil (M : Mem) : BkM M none 0 [] := ⟨SlM.nil _ _ _, fun _ h => (by cases h), by decide⟩
set_option maxHeartbeats 16000000 in
theorem write_ok (M : Mem) (L : HL) (ep : Int) (a : Option Addr) (c : Nat) (rows : List Rw) (hb : BkM M a c rows) (hl : rows.length < 900000) (r : Rc) (hr : RcOk M r) :
    Tr Try.prog 14 [bkV ep (.slice a rows.length c), .agg ⟨rcC r⟩] M L (WrK M L ep (rows.map Rw.abs) r) := by
  refine Tr.intro 69 Try.func14 rfl rfl Try.call14 rfl ?_
  intro C hC hro
  repeat (first | with_reducible refine run_seq ?_ | with_reducible refine run_region ?_ | with_reducible refine runL_nil ?_ | with_reducible refine run_skip ?_ | with_reducible refine run_block ?_ | with_reducible refine run_inBlock ?_ | refine run_exit rfl ?_ | refine runL_q (qt_pev tok rfl) rfl rfl rfl ?_ | refine runL_g rfl rfl (qt_pev tok rfl) rfl rfl rfl rfl rfl ?_ | refine runL_q (qt_ld tok rfl (by (repeat (first | with_reducible apply List.mem_cons_self | with_reducible assumption | with_reducible apply List.mem_cons_of_mem | with_reducible apply List.mem_append_right))) (by rfl)) rfl rfl rfl ?_ | refine runL_g rfl rfl (qt_ld tok rfl (by (repeat (first | with_reducible apply List.mem_cons_self | with_reducible assumption | with_reducible apply List.mem_cons_of_mem | with_reducible apply List.mem_append_right))) (by rfl)) rfl rfl rfl rfl rfl ?_ | (refine runL_op0 (st_store tok rfl rfl rfl rfl rfl (by (repeat (first | with_reducible apply Upd.here | with_reducible apply Upd.there | with_reducible apply Upd.append_left))) (by rfl)) ?_; rintro _ _ _ ⟨rfl, rfl, rfl⟩) | (refine runL_op (st_box rfl) rfl rfl rfl ?_; rintro _ _ _ ⟨_, rfl, rfl, rfl⟩) | (refine runL_op (st_alloc tok rfl) rfl rfl rfl ?_; rintro _ _ _ ⟨_, rfl, rfl, rfl⟩) | (refine runL_op (st_buildSlice tok rfl rfl rfl rfl rfl rfl rfl) rfl rfl rfl ?_; rintro _ _ _ ⟨_, rfl, rfl, rfl⟩) | refine runL_q (qt_callF rfl (fun _ => recCheck_ok _ _ r hr)) rfl rfl rfl ?_)
  rename_i b2 b3 b4
  refine run_cond rfl (fun h => ?_) (fun h => ?_)
  · have h1 : recE r ≠ 0 := by simpa using h
    repeat (first | with_reducible refine run_seq ?_ | with_reducible refine run_region ?_ | with_reducible refine runL_nil ?_ | with_reducible refine run_skip ?_ | with_reducible refine run_block ?_ | with_reducible refine run_inBlock ?_ | refine run_exit rfl ?_ | refine runL_q (qt_pev tok rfl) rfl rfl rfl ?_ | refine runL_g rfl rfl (qt_pev tok rfl) rfl rfl rfl rfl rfl ?_ | refine runL_q (qt_ld tok rfl (by (repeat (first | with_reducible apply List.mem_cons_self | with_reducible assumption | with_reducible apply List.mem_cons_of_mem | with_reducible apply List.mem_append_right))) (by rfl)) rfl rfl rfl ?_ | refine runL_g rfl rfl (qt_ld tok rfl (by (repeat (first | with_reducible apply List.mem_cons_self | with_reducible assumption | with_reducible apply List.mem_cons_of_mem | with_reducible apply List.mem_append_right))) (by rfl)) rfl rfl rfl rfl rfl ?_ | (refine runL_op0 (st_store tok rfl rfl rfl rfl rfl (by (repeat (first | with_reducible apply Upd.here | with_reducible apply Upd.there | with_reducible apply Upd.append_left))) (by rfl)) ?_; rintro _ _ _ ⟨rfl, rfl, rfl⟩) | (refine runL_op (st_box rfl) rfl rfl rfl ?_; rintro _ _ _ ⟨_, rfl, rfl, rfl⟩) | (refine runL_op (st_alloc tok rfl) rfl rfl rfl ?_; rintro _ _ _ ⟨_, rfl, rfl, rfl⟩) | (refine runL_op (st_buildSlice tok rfl rfl rfl rfl rfl rfl rfl) rfl rfl rfl ?_; rintro _ _ _ ⟨_, rfl, rfl, rfl⟩))
    exact run_ret hC (rs := [.cell 4 29, .tmp 5]) rfl (resL tok rfl (by (repeat (first | with_reducible apply List.mem_cons_self | with_reducible assumption | with_reducible apply List.mem_cons_of_mem | with_reducible apply List.mem_append_right))) (by rfl) (resT rfl resN)) (fun _ h => h.drop.drop.drop) ⟨Mem.le_refl _, rfl, 0, none, 0, [], by rw [writeA, if_pos h1]; rfl, BkM.nil _, by rw [writeA, if_pos h1]; rfl⟩
  have h1 : ¬ recE r ≠ 0 := by simpa using h
  have hkd := recE_kind (r := r) (by simpa using h1)
  repeat (first | with_reducible refine run_seq ?_ | with_reducible refine run_region ?_ | with_reducible refine runL_nil ?_ | with_reducible refine run_skip ?_ | with_reducible refine run_block ?_ | with_reducible refine run_inBlock ?_ | refine run_exit rfl ?_ | refine runL_q (qt_pev tok rfl) rfl rfl rfl ?_ | refine runL_g rfl rfl (qt_pev tok rfl) rfl rfl rfl rfl rfl ?_ | refine runL_q (qt_ld tok rfl (by (repeat (first | with_reducible apply List.mem_cons_self | with_reducible assumption | with_reducible apply List.mem_cons_of_mem | with_reducible apply List.mem_append_right))) (by rfl)) rfl rfl rfl ?_ | refine runL_g rfl rfl (qt_ld tok rfl (by (repeat (first | with_reducible apply List.mem_cons_self | with_reducible assumption | with_reducible apply List.mem_cons_of_mem | with_reducible apply List.mem_append_right))) (by rfl)) rfl rfl rfl rfl rfl ?_ | (refine runL_op0 (st_store tok rfl rfl rfl rfl rfl (by (repeat (first | with_reducible apply Upd.here | with_reducible apply Upd.there | with_reducible apply Upd.append_left))) (by rfl)) ?_; rintro _ _ _ ⟨rfl, rfl, rfl⟩) | (refine runL_op (st_box rfl) rfl rfl rfl ?_; rintro _ _ _ ⟨_, rfl, rfl, rfl⟩) | (refine runL_op (st_alloc tok rfl) rfl rfl rfl ?_; rintro _ _ _ ⟨_, rfl, rfl, rfl⟩) | (refine runL_op (st_buildSlice tok rfl rfl rfl rfl rfl rfl rfl) rfl rfl rfl ?_; rintro _ _ _ ⟨_, rfl, rfl, rfl⟩))
  refine runL_op (st_callF rfl (fun _ => own_ok _ _ ep a c rows hb)) rfl rfl rfl ?_
  rintro _ M1 _ ⟨hM1, N0, vs, rows0, rfl, rfl, hO, habs, hok⟩
  have hrl : rows0.length = rows.length := by have := congrArg List.length habs; simpa using this
  rw [← hrl] at hO
  obtain ⟨aa, ca, rfl⟩ := os_slice hO
  repeat (first | with_reducible refine run_seq ?_ | with_reducible refine run_region ?_ | with_reducible refine runL_nil ?_ | with_reducible refine run_skip ?_ | with_reducible refine run_block ?_ | with_reducible refine run_inBlock ?_ | refine run_exit rfl ?_ | refine runL_q (qt_pev tok rfl) rfl rfl rfl ?_ | refine runL_g rfl rfl (qt_pev tok rfl) rfl rfl rfl rfl rfl ?_ | refine runL_q (qt_ld tok rfl (by (repeat (first | with_reducible apply List.mem_cons_self | with_reducible assumption | with_reducible apply List.mem_cons_of_mem | with_reducible apply List.mem_append_right))) (by rfl)) rfl rfl rfl ?_ | refine runL_g rfl rfl (qt_ld tok rfl (by (repeat (first | with_reducible apply List.mem_cons_self | with_reducible assumption | with_reducible apply List.mem_cons_of_mem | with_reducible apply List.mem_append_right))) (by rfl)) rfl rfl rfl rfl rfl ?_ | (refine runL_op0 (st_store tok rfl rfl rfl rfl rfl (by (repeat (first | with_reducible apply Upd.here | with_reducible apply Upd.there | with_reducible apply Upd.append_left))) (by rfl)) ?_; rintro _ _ _ ⟨rfl, rfl, rfl⟩) | (refine runL_op (st_box rfl) rfl rfl rfl ?_; rintro _ _ _ ⟨_, rfl, rfl, rfl⟩) | (refine runL_op (st_alloc tok rfl) rfl rfl rfl ?_; rintro _ _ _ ⟨_, rfl, rfl, rfl⟩) | (refine runL_op (st_buildSlice tok rfl rfl rfl rfl rfl rfl rfl) rfl rfl rfl ?_; rintro _ _ _ ⟨_, rfl, rfl, rfl⟩))
  refine run_cond rfl (fun h => ?_) (fun h => ?_)
  · have hk : r.kind = 1 := by simpa using h
    repeat (first | with_reducible refine run_seq ?_ | with_reducible refine run_region ?_ | with_reducible refine runL_nil ?_ | with_reducible refine run_skip ?_ | with_reducible refine run_block ?_ | with_reducible refine run_inBlock ?_ | refine run_exit rfl ?_ | refine runL_q (qt_pev tok rfl) rfl rfl rfl ?_ | refine runL_g rfl rfl (qt_pev tok rfl) rfl rfl rfl rfl rfl ?_ | refine runL_q (qt_ld tok rfl (by (repeat (first | with_reducible apply List.mem_cons_self | with_reducible assumption | with_reducible apply List.mem_cons_of_mem | with_reducible apply List.mem_append_right))) (by rfl)) rfl rfl rfl ?_ | refine runL_g rfl rfl (qt_ld tok rfl (by (repeat (first | with_reducible apply List.mem_cons_self | with_reducible assumption | with_reducible apply List.mem_cons_of_mem | with_reducible apply List.mem_append_right))) (by rfl)) rfl rfl rfl rfl rfl ?_ | (refine runL_op0 (st_store tok rfl rfl rfl rfl rfl (by (repeat (first | with_reducible apply Upd.here | with_reducible apply Upd.there | with_reducible apply Upd.append_left))) (by rfl)) ?_; rintro _ _ _ ⟨rfl, rfl, rfl⟩) | (refine runL_op (st_box rfl) rfl rfl rfl ?_; rintro _ _ _ ⟨_, rfl, rfl, rfl⟩) | (refine runL_op (st_alloc tok rfl) rfl rfl rfl ?_; rintro _ _ _ ⟨_, rfl, rfl, rfl⟩) | (refine runL_op (st_buildSlice tok rfl rfl rfl rfl rfl rfl rfl) rfl rfl rfl ?_; rintro _ _ _ ⟨_, rfl, rfl, rfl⟩))
    refine run_cond rfl (fun h => ?_) (fun h => ?_)
    · have he : r.epoch ≤ ep := by simpa using h
      repeat (first | with_reducible refine run_seq ?_ | with_reducible refine run_region ?_ | with_reducible refine runL_nil ?_ | with_reducible refine run_skip ?_ | with_reducible refine run_block ?_ | with_reducible refine run_inBlock ?_ | refine run_exit rfl ?_ | refine runL_q (qt_pev tok rfl) rfl rfl rfl ?_ | refine runL_g rfl rfl (qt_pev tok rfl) rfl rfl rfl rfl rfl ?_ | refine runL_q (qt_ld tok rfl (by (repeat (first | with_reducible apply List.mem_cons_self | with_reducible assumption | with_reducible apply List.mem_cons_of_mem | with_reducible apply List.mem_append_right))) (by rfl)) rfl rfl rfl ?_ | refine runL_g rfl rfl (qt_ld tok rfl (by (repeat (first | with_reducible apply List.mem_cons_self | with_reducible assumption | with_reducible apply List.mem_cons_of_mem | with_reducible apply List.mem_append_right))) (by rfl)) rfl rfl rfl rfl rfl ?_ | (refine runL_op0 (st_store tok rfl rfl rfl rfl rfl (by (repeat (first | with_reducible apply Upd.here | with_reducible apply Upd.there | with_reducible apply Upd.append_left))) (by rfl)) ?_; rintro _ _ _ ⟨rfl, rfl, rfl⟩) | (refine runL_op (st_box rfl) rfl rfl rfl ?_; rintro _ _ _ ⟨_, rfl, rfl, rfl⟩) | (refine runL_op (st_alloc tok rfl) rfl rfl rfl ?_; rintro _ _ _ ⟨_, rfl, rfl, rfl⟩) | (refine runL_op (st_buildSlice tok rfl rfl rfl rfl rfl rfl rfl) rfl rfl rfl ?_; rintro _ _ _ ⟨_, rfl, rfl, rfl⟩))
      refine run_ret hC (rs := [.cell 4 29, .tmp 5]) rfl (resL tok rfl (by (repeat (first | with_reducible apply List.mem_cons_self | with_reducible assumption | with_reducible apply List.mem_cons_of_mem | with_reducible apply List.mem_append_right))) (by rfl) (resT rfl resN)) (M' := M1) (L' := L) (fun w h => ?_) ⟨hM1, rfl, 0, none, 0, [], by rw [writeA, if_neg h1, if_pos hk, if_pos he]; rfl, BkM.nil _, by rw [writeA, if_neg h1, if_pos hk, if_pos he]; rfl⟩
      exact (h.dropAll (N := N0)).drop.drop.drop
    · have he : ¬ r.epoch ≤ ep := by simpa using h
      repeat (first | with_reducible refine run_seq ?_ | with_reducible refine run_region ?_ | with_reducible refine runL_nil ?_ | with_reducible refine run_skip ?_ | with_reducible refine run_block ?_ | with_reducible refine run_inBlock ?_ | refine run_exit rfl ?_ | refine runL_q (qt_pev tok rfl) rfl rfl rfl ?_ | refine runL_g rfl rfl (qt_pev tok rfl) rfl rfl rfl rfl rfl ?_ | refine runL_q (qt_ld tok rfl (by (repeat (first | with_reducible apply List.mem_cons_self | with_reducible assumption | with_reducible apply List.mem_cons_of_mem | with_reducible apply List.mem_append_right))) (by rfl)) rfl rfl rfl ?_ | refine runL_g rfl rfl (qt_ld tok rfl (by (repeat (first | with_reducible apply List.mem_cons_self | with_reducible assumption | with_reducible apply List.mem_cons_of_mem | with_reducible apply List.mem_append_right))) (by rfl)) rfl rfl rfl rfl rfl ?_ | (refine runL_op0 (st_store tok rfl rfl rfl rfl rfl (by (repeat (first | with_reducible apply Upd.here | with_reducible apply Upd.there | with_reducible apply Upd.append_left))) (by rfl)) ?_; rintro _ _ _ ⟨rfl, rfl, rfl⟩) | (refine runL_op (st_box rfl) rfl rfl rfl ?_; rintro _ _ _ ⟨_, rfl, rfl, rfl⟩) | (refine runL_op (st_alloc tok rfl) rfl rfl rfl ?_; rintro _ _ _ ⟨_, rfl, rfl, rfl⟩) | (refine runL_op (st_buildSlice tok rfl rfl rfl rfl rfl rfl rfl) rfl rfl rfl ?_; rintro _ _ _ ⟨_, rfl, rfl, rfl⟩))
      refine run_retE hC (rs := [.cell 4 29, .tmp 5]) rfl (resL tok rfl (by (repeat (first | with_reducible apply List.mem_cons_self | with_reducible assumption | with_reducible apply List.mem_cons_of_mem | with_reducible apply List.mem_append_right))) (by rfl) (resT rfl resN)) fun w hw => ?_
      obtain ⟨M2, a', c', h5, h6, h7, h8⟩ := hw.freezeOS (ls := rows0.map rwC) hO (by simp) (rwC_len _)
      cases h7
      exact ⟨M2, L, h6.drop.drop.drop, Mem.le_trans hM1 h5, rfl, r.epoch, aa, ca, rows0, by rw [writeA, if_neg h1, if_pos hk, if_neg he]; rfl, ⟨h8, fun x hx => (hok x hx).le h5, by omega⟩, by rw [writeA, if_neg h1, if_pos hk, if_neg he, habs]⟩
  have hk : ¬ r.kind = 1 := by simpa using h
  obtain ⟨cF, dF, hlk, hmay, hdo⟩ := kd_of hk hkd
  have htx : rows0.map (·.txn) = (rows.map Rw.abs).map (·.txn) := by
    rw [← habs, List.map_map]; rfl
  repeat (first | with_reducible refine run_seq ?_ | with_reducible refine run_region ?_ | with_reducible refine runL_nil ?_ | with_reducible refine run_skip ?_ | with_reducible refine run_block ?_ | with_reducible refine run_inBlock ?_ | refine run_exit rfl ?_ | refine runL_q (qt_pev tok rfl) rfl rfl rfl ?_ | refine runL_g rfl rfl (qt_pev tok rfl) rfl rfl rfl rfl rfl ?_ | refine runL_q (qt_ld tok rfl (by (repeat (first | with_reducible apply List.mem_cons_self | with_reducible assumption | with_reducible apply List.mem_cons_of_mem | with_reducible apply List.mem_append_right))) (by rfl)) rfl rfl rfl ?_ | refine runL_g rfl rfl (qt_ld tok rfl (by (repeat (first | with_reducible apply List.mem_cons_self | with_reducible assumption | with_reducible apply List.mem_cons_of_mem | with_reducible apply List.mem_append_right))) (by rfl)) rfl rfl rfl rfl rfl ?_ | (refine runL_op0 (st_store tok rfl rfl rfl rfl rfl (by (repeat (first | with_reducible apply Upd.here | with_reducible apply Upd.there | with_reducible apply Upd.append_left))) (by rfl)) ?_; rintro _ _ _ ⟨rfl, rfl, rfl⟩) | (refine runL_op (st_box rfl) rfl rfl rfl ?_; rintro _ _ _ ⟨_, rfl, rfl, rfl⟩) | (refine runL_op (st_alloc tok rfl) rfl rfl rfl ?_; rintro _ _ _ ⟨_, rfl, rfl, rfl⟩) | (refine runL_op (st_buildSlice tok rfl rfl rfl rfl rfl rfl rfl) rfl rfl rfl ?_; rintro _ _ _ ⟨_, rfl, rfl, rfl⟩) | refine runL_q (qt_callF rfl (fun _ => place_ok _ _ N0 ep _ rows0 hO (fun b o h => by simp [h]) hok (by omega) r.txn)) rfl rfl rfl ?_)
  rw [htx]
  have hpl : placeR r.txn ((rows.map Rw.abs).map (·.txn)) = match ixA r.txn (rows.map Rw.abs) with | some k => (k : Int) | none => -1 := rfl
  refine run_cut (fun σ' M' L' => ∃ rows1 aa1 ca1 N1, rows1.map Rw.abs = addA r.txn (rows.map Rw.abs) ∧ (∀ x ∈ rows1, RwOk M1 x) ∧ OS 39 13 (.slice aa1 rows1.length ca1) rows1.length (rwF rows1) N1 ∧ M1 = M' ∧ L' = N1 ++ ((b4, .cells ⟨[.int .i64 0, .slice none 0 0]⟩ 29 (0, 0)) :: (b3, .cells ⟨rcC r⟩ 37 (0, 0)) :: (b2, .cells ⟨[.int .i64 ep, .slice aa1 rows1.length ca1]⟩ 29 (0, 0)) :: L) ∧ σ' = [(7, .int .i64 (posA r.txn (rows.map Rw.abs) : Int)), (2, .pointer (some ⟨b2, 0, none⟩)), (3, .pointer (some ⟨b3, 0, none⟩)), (4, .pointer (some ⟨b4, 0, none⟩))]) ?_ ?_
  rotate_left
  · intro hnext
    cases hix : ixA r.txn (rows.map Rw.abs) with
    | some k =>
      rw [hix] at hpl
      have hadd : addA r.txn (rows.map Rw.abs) = rows.map Rw.abs := by rw [addA, hix]
      have hpos : posA r.txn (rows.map Rw.abs) = k := by rw [posA, hix]
      refine run_cond rfl (fun h => ?_) (fun h => ?_)
      · rw [hpl] at h
        simp at h
        omega
      · refine run_skip ?_
        exact run_sub' (hnext _ _ _ ⟨rows0, aa, ca, N0, by rw [hadd, habs], hok, hO, rfl, rfl, rfl⟩) ⟨by rw [hpos]; exact congrArg (fun z => some (Value.int .i64 z)) hpl, rfl, rfl, rfl, trivial⟩
    | none =>
      rw [hix] at hpl
      have hadd : addA r.txn (rows.map Rw.abs) = rows.map Rw.abs ++ [ra0 r.txn] := by rw [addA, hix]
      have hpos : posA r.txn (rows.map Rw.abs) = rows0.length := by rw [posA, hix, List.length_map]; exact hrl.symm
      refine run_cond rfl (fun _ => ?_) (fun h => ?_)
      rotate_left
      · rw [hpl] at h; simp at h
      refine prn_start mixed ?_
      refine pr_q 0 (by decide +kernel) rfl (qt_pev tok rfl) rfl rfl rfl ?_
      refine pr_q 1 (by decide +kernel) rfl (qt_ld tok rfl (by (repeat (first | with_reducible apply List.mem_cons_self | with_reducible assumption | with_reducible apply List.mem_cons_of_mem | with_reducible apply List.mem_append_right))) (by rfl)) rfl rfl rfl ?_
      refine pr_q 2 (by decide +kernel) rfl (qt_pev tok rfl) rfl rfl rfl ?_
      refine pr_q 3 (by decide +kernel) rfl (qt_pev tok rfl) rfl rfl rfl ?_
      refine pr_q 4 (by decide +kernel) rfl (qt_ld tok rfl (by (repeat (first | with_reducible apply List.mem_cons_self | with_reducible assumption | with_reducible apply List.mem_cons_of_mem | with_reducible apply List.mem_append_right))) (by rfl)) rfl rfl rfl ?_
      refine pr_q 5 (by decide +kernel) rfl (qt_pev tok rfl) rfl rfl rfl ?_
      refine pr_q 6 (by decide +kernel) rfl (qt_ld tok rfl (by (repeat (first | with_reducible apply List.mem_cons_self | with_reducible assumption | with_reducible apply List.mem_cons_of_mem | with_reducible apply List.mem_append_right))) (by rfl)) rfl rfl rfl ?_
      refine pr_q 7 (by decide +kernel) rfl (qt_pev tok rfl) rfl rfl rfl ?_
      refine pr_one 8 (by decide +kernel) (eff1 8 rfl (st_buildSlice tok rfl rfl rfl rfl rfl rfl rfl) (by decide +kernel) (qs := _) rfl rfl rfl rfl ?_)
      rintro _ _ _ ⟨bs, rfl, rfl, rfl⟩
      refine ⟨by (repeat (first | exact trivial | refine And.intro (pend_q rfl rfl rfl (qt_pev tok rfl)) ?_ | refine And.intro (pend_q rfl rfl rfl (qt_ld tok rfl (by (repeat (first | with_reducible apply List.mem_cons_self | with_reducible assumption | with_reducible apply List.mem_cons_of_mem | with_reducible apply List.mem_append_right))) (by rfl))) ?_)), ?_⟩
      refine pr_one 9 (by decide +kernel) (eff1 9 rfl (st_append (news := rwC ⟨r.txn, false, false, false, false, false, false, 0, nilM, nilS, ⟨#[]⟩⟩) tok rfl rfl rfl rfl rfl rfl rfl rfl (pm1 _ N0 _) hO (.inr ⟨bs, 0, 1, rfl, cellsAll List.mem_cons_self, rfl⟩) (rwC_one _) (by omega) (by omega)) (by decide +kernel) (qs := _) rfl rfl rfl rfl ?_)
      rintro va' _ _ ⟨N1, rfl, rfl, hO1⟩
      obtain ⟨aa1, ca1, rfl⟩ := os_slice hO1
      refine ⟨by (repeat (first | exact trivial | refine And.intro (pend_q rfl rfl rfl (qt_pev tok rfl)) ?_ | refine And.intro (pend_q rfl rfl rfl (qt_ld tok rfl (by (repeat (first | with_reducible apply List.mem_cons_self | with_reducible assumption | with_reducible apply List.mem_cons_of_mem | with_reducible apply List.mem_append_right))) (by rfl))) ?_)), ?_⟩
      refine pr_q 10 (by decide +kernel) rfl (qt_pev tok rfl) rfl rfl rfl ?_
      refine pr_q 11 (by decide +kernel) rfl (qt_pev tok rfl) rfl rfl rfl ?_
      refine pr_one 12 (by decide +kernel) (eff0 12 rfl (st_store tok rfl rfl rfl rfl rfl (by (repeat (first | with_reducible apply Upd.here | with_reducible apply Upd.there | with_reducible apply Upd.append_left))) (by rfl)) (by decide +kernel) (qs := _) rfl ?_)
      rintro _ _ _ ⟨rfl, rfl, rfl⟩
      refine ⟨trivial, ?_⟩
      refine pr_end (by decide +kernel) (by decide +kernel) ?_
      have hln : (rows0 ++ [(⟨r.txn, false, false, false, false, false, false, 0, nilM, nilS, ⟨#[]⟩⟩ : Rw)]).length = rows0.length + 1 := by simp
      refine run_mem (M' := M1) (L' := N1 ++ ((b4, .cells ⟨[.int .i64 0, .slice none 0 0]⟩ 29 (0, 0)) :: (b3, .cells ⟨rcC r⟩ 37 (0, 0)) :: (b2, .cells ⟨[.int .i64 ep, .slice aa1 (rows0.length + 1) ca1]⟩ 29 (0, 0)) :: L)) (fun w h => (h.perm (pm1 _ N1 _).symm).drop) ?_
      refine run_sub' (hnext _ _ _ ⟨rows0 ++ [⟨r.txn, false, false, false, false, false, false, 0, nilM, nilS, ⟨#[]⟩⟩], aa1, ca1, N1, ?_, ?_, ?_, rfl, ?_, rfl⟩) ⟨by rw [hpos]; rfl, rfl, rfl, rfl, trivial⟩
      · rw [hadd, List.map_append, habs]; rfl
      · intro x hx
        rcases List.mem_append.1 hx with hx | hx
        · exact hok x hx
        · simp at hx; subst hx; exact ⟨MbOk.nil _, StOk.nil _⟩
      · rw [hln, rwF, List.map_append, List.flatten_append]
        have : ([(⟨r.txn, false, false, false, false, false, false, 0, nilM, nilS, ⟨#[]⟩⟩ : Rw)].map rwC).flatten = rwC ⟨r.txn, false, false, false, false, false, false, 0, nilM, nilS, ⟨#[]⟩⟩ := by simp
        rw [this]
        exact hO1
      · rw [hln]
  rintro _ _ _ ⟨rows1, aa1, ca1, N1, habs1, hok1, hO1, rfl, rfl, rfl⟩
  have hpl2 := posA_lt r.txn (rows.map Rw.abs)
  have hrow := rowA_at r.txn (rows.map Rw.abs)
  have hr1l : rows1.length = (addA r.txn (rows.map Rw.abs)).length := by rw [← habs1]; simp
  have hmapl : (rows.map Rw.abs).length = rows.length := by simp
  obtain ⟨x, hx, hxa⟩ : ∃ x, rows1[posA r.txn (rows.map Rw.abs)]? = some x ∧ x.abs = rowA r.txn (rows.map Rw.abs) := by
    rw [← habs1, List.getElem?_map] at hrow
    simpa using hrow
  have hxo := hok1 x (List.mem_of_getElem? hx)
  have hsetA : ∀ x' : Rw, x'.abs = doA x.abs r → (rows1.set (posA r.txn (rows.map Rw.abs)) x').map Rw.abs = (addA r.txn (rows.map Rw.abs)).set (posA r.txn (rows.map Rw.abs)) (doA (rowA r.txn (rows.map Rw.abs)) r) := by
    intro x' h
    rw [List.map_set, h, hxa, habs1]
  obtain ⟨P0, hP0⟩ : ∃ p : Nat, p = posA r.txn (rows.map Rw.abs) := ⟨_, rfl⟩
  rw [← hP0] at hx hsetA hpl2 ⊢
  obtain ⟨b, cap, pre, post, hv, rfl, hpre, hset⟩ := OS.mid (ls := rows1.map rwC) hO1 (rwC_len _) (by simp) (k := P0) (c := rwC x) (by simp [hx])
  cases hv
  simp only [List.cons_append, List.nil_append]
  refine run_seq ?_
  refine prn_start mixed ?_
  refine pr_q 0 (by decide +kernel) rfl (qt_pev tok rfl) rfl rfl rfl ?_
  refine pr_q 1 (by decide +kernel) rfl (qt_ld tok rfl (by (repeat (first | with_reducible apply List.mem_cons_self | with_reducible assumption | with_reducible apply List.mem_cons_of_mem | with_reducible apply List.mem_append_right))) (by rfl)) rfl rfl rfl ?_
  refine pr_q 2 (by decide +kernel) rfl (qt_pev tok rfl) rfl rfl rfl ?_
  refine pr_q 3 (by decide +kernel) rfl (qt_indexAs (n := P0) (o := pre.length) tok rfl rfl rfl rfl (fun _ => by omega) (by rw [hpre, Nat.zero_add])) rfl rfl rfl ?_
  refine pr_q 5 (by decide +kernel) rfl (qt_pev tok rfl) rfl rfl rfl ?_
  refine pr_q 6 (by decide +kernel) rfl (qt_ld tok rfl (by (repeat (first | with_reducible apply List.mem_cons_self | with_reducible assumption | with_reducible apply List.mem_cons_of_mem | with_reducible apply List.mem_append_right))) (by rfl)) rfl rfl rfl ?_
  refine pr_two 4 8 (by decide +kernel) ?_ ?_
  · refine eff1 4 rfl (st_callF rfl (fun _ => kinds_ok _ _)) (by decide +kernel) (qs := _) rfl rfl rfl rfl ?_
    rintro _ _ _ ⟨bk, rfl, rfl, rfl⟩
    refine ⟨by (repeat (first | exact trivial | refine And.intro (pend_q rfl rfl rfl (qt_pev tok rfl)) ?_ | refine And.intro (pend_q rfl rfl rfl (qt_ld tok rfl (by (repeat (first | with_reducible apply List.mem_cons_self | with_reducible assumption | with_reducible apply List.mem_cons_of_mem | with_reducible apply List.mem_append_right))) (by rfl))) ?_ | refine And.intro (pend_q rfl rfl rfl (qt_indexAs (n := P0) (o := pre.length) tok rfl rfl rfl rfl (fun _ => by omega) (by rw [hpre, Nat.zero_add]))) ?_ | refine And.intro (pend_q rfl rfl rfl (qt_lookupV (a := r.kind) tok keyU8 rfl rfl rfl rfl (.inl (by (repeat (first | with_reducible apply List.mem_cons_self | with_reducible assumption | with_reducible apply List.mem_cons_of_mem | with_reducible apply List.mem_append_right)))) rfl hlk)) ?_)), ?_⟩
    refine pr_q 7 (by decide +kernel) rfl (qt_lookupV (a := r.kind) tok keyU8 rfl rfl rfl rfl (.inl (by (repeat (first | with_reducible apply List.mem_cons_self | with_reducible assumption | with_reducible apply List.mem_cons_of_mem | with_reducible apply List.mem_append_right)))) rfl hlk) rfl rfl rfl ?_
    refine pr_one 8 (by decide +kernel) (eff1 8 rfl (st_alloc tok rfl) (by decide +kernel) (qs := _) rfl rfl rfl rfl ?_)
    rintro _ _ _ ⟨b9, rfl, rfl, rfl⟩
    refine ⟨by (repeat (first | exact trivial | refine And.intro (pend_q rfl rfl rfl (qt_pev tok rfl)) ?_ | refine And.intro (pend_q rfl rfl rfl (qt_ld tok rfl (by (repeat (first | with_reducible apply List.mem_cons_self | with_reducible assumption | with_reducible apply List.mem_cons_of_mem | with_reducible apply List.mem_append_right))) (by rfl))) ?_ | refine And.intro (pend_q rfl rfl rfl (qt_indexAs (n := P0) (o := pre.length) tok rfl rfl rfl rfl (fun _ => by omega) (by rw [hpre, Nat.zero_add]))) ?_ | refine And.intro (pend_q rfl rfl rfl (qt_lookupV (a := r.kind) tok keyU8 rfl rfl rfl rfl (.inl (by (repeat (first | with_reducible apply List.mem_cons_self | with_reducible assumption | with_reducible apply List.mem_cons_of_mem | with_reducible apply List.mem_append_right)))) rfl hlk)) ?_)), ?_⟩
    refine pr_q 9 (by decide +kernel) rfl (qt_pev tok rfl) rfl rfl rfl ?_
    refine pr_one 10 (by decide +kernel) (eff0 10 rfl (st_store tok rfl rfl rfl rfl rfl (by (repeat (first | with_reducible apply Upd.here | with_reducible apply Upd.there | with_reducible apply Upd.append_left))) (by rfl)) (by decide +kernel) (qs := _) rfl ?_)
    rintro _ _ _ ⟨rfl, rfl, rfl⟩
    refine ⟨trivial, ?_⟩
    refine pr_end (by decide +kernel) (by decide +kernel) ?_
    repeat (first | with_reducible refine run_seq ?_ | with_reducible refine run_region ?_ | with_reducible refine runL_nil ?_ | with_reducible refine run_skip ?_ | with_reducible refine run_block ?_ | with_reducible refine run_inBlock ?_ | refine run_exit rfl ?_ | refine runL_q (qt_pev tok rfl) rfl rfl rfl ?_ | refine runL_g rfl rfl (qt_pev tok rfl) rfl rfl rfl rfl rfl ?_ | refine runL_q (qt_ld tok rfl (by (repeat (first | with_reducible apply List.mem_cons_self | with_reducible assumption | with_reducible apply List.mem_cons_of_mem | with_reducible apply List.mem_append_right))) (by rfl)) rfl rfl rfl ?_ | refine runL_g rfl rfl (qt_ld tok rfl (by (repeat (first | with_reducible apply List.mem_cons_self | with_reducible assumption | with_reducible apply List.mem_cons_of_mem | with_reducible apply List.mem_append_right))) (by rfl)) rfl rfl rfl rfl rfl ?_ | (refine runL_op0 (st_store tok rfl rfl rfl rfl rfl (by (repeat (first | with_reducible apply Upd.here | with_reducible apply Upd.there | with_reducible apply Upd.append_left))) (by rfl)) ?_; rintro _ _ _ ⟨rfl, rfl, rfl⟩) | (refine runL_op (st_box rfl) rfl rfl rfl ?_; rintro _ _ _ ⟨_, rfl, rfl, rfl⟩) | (refine runL_op (st_alloc tok rfl) rfl rfl rfl ?_; rintro _ _ _ ⟨_, rfl, rfl, rfl⟩) | (refine runL_op (st_buildSlice tok rfl rfl rfl rfl rfl rfl rfl) rfl rfl rfl ?_; rintro _ _ _ ⟨_, rfl, rfl, rfl⟩) | refine runL_q (st_callV rfl rfl (fun _ => hmay _ _ b pre post x (by (repeat (first | with_reducible apply List.mem_cons_self | with_reducible assumption | with_reducible apply List.mem_cons_of_mem | with_reducible apply List.mem_append_right))))) rfl rfl rfl ?_)
    rw [hxa]
    refine run_cond rfl (fun h => ?_) (fun h => ?_)
    · have hm : ¬ mayA r.kind (rowA r.txn (rows.map Rw.abs)) r.yes = true := by simpa using h
      repeat (first | with_reducible refine run_seq ?_ | with_reducible refine run_region ?_ | with_reducible refine runL_nil ?_ | with_reducible refine run_skip ?_ | with_reducible refine run_block ?_ | with_reducible refine run_inBlock ?_ | refine run_exit rfl ?_ | refine runL_q (qt_pev tok rfl) rfl rfl rfl ?_ | refine runL_g rfl rfl (qt_pev tok rfl) rfl rfl rfl rfl rfl ?_ | refine runL_q (qt_ld tok rfl (by (repeat (first | with_reducible apply List.mem_cons_self | with_reducible assumption | with_reducible apply List.mem_cons_of_mem | with_reducible apply List.mem_append_right))) (by rfl)) rfl rfl rfl ?_ | refine runL_g rfl rfl (qt_ld tok rfl (by (repeat (first | with_reducible apply List.mem_cons_self | with_reducible assumption | with_reducible apply List.mem_cons_of_mem | with_reducible apply List.mem_append_right))) (by rfl)) rfl rfl rfl rfl rfl ?_ | (refine runL_op0 (st_store tok rfl rfl rfl rfl rfl (by (repeat (first | with_reducible apply Upd.here | with_reducible apply Upd.there | with_reducible apply Upd.append_left))) (by rfl)) ?_; rintro _ _ _ ⟨rfl, rfl, rfl⟩) | (refine runL_op (st_box rfl) rfl rfl rfl ?_; rintro _ _ _ ⟨_, rfl, rfl, rfl⟩) | (refine runL_op (st_alloc tok rfl) rfl rfl rfl ?_; rintro _ _ _ ⟨_, rfl, rfl, rfl⟩) | (refine runL_op (st_buildSlice tok rfl rfl rfl rfl rfl rfl rfl) rfl rfl rfl ?_; rintro _ _ _ ⟨_, rfl, rfl, rfl⟩))
      exact run_ret hC (rs := [.cell 4 29, .tmp 5]) rfl (resL tok rfl (by (repeat (first | with_reducible apply List.mem_cons_self | with_reducible assumption | with_reducible apply List.mem_cons_of_mem | with_reducible apply List.mem_append_right))) (by rfl) (resT rfl resN)) (fun _ h => h.drop.drop.drop.drop.drop.drop) ⟨hM1, rfl, 0, none, 0, [], by rw [writeA, if_neg h1, if_neg hk, if_neg hm]; rfl, BkM.nil _, by rw [writeA, if_neg h1, if_neg hk, if_neg hm]; rfl⟩
    · have hm : mayA r.kind (rowA r.txn (rows.map Rw.abs)) r.yes = true := by simpa using h
      repeat (first | with_reducible refine run_seq ?_ | with_reducible refine run_region ?_ | with_reducible refine runL_nil ?_ | with_reducible refine run_skip ?_ | with_reducible refine run_block ?_ | with_reducible refine run_inBlock ?_ | refine run_exit rfl ?_ | refine runL_q (qt_pev tok rfl) rfl rfl rfl ?_ | refine runL_g rfl rfl (qt_pev tok rfl) rfl rfl rfl rfl rfl ?_ | refine runL_q (qt_ld tok rfl (by (repeat (first | with_reducible apply List.mem_cons_self | with_reducible assumption | with_reducible apply List.mem_cons_of_mem | with_reducible apply List.mem_append_right))) (by rfl)) rfl rfl rfl ?_ | refine runL_g rfl rfl (qt_ld tok rfl (by (repeat (first | with_reducible apply List.mem_cons_self | with_reducible assumption | with_reducible apply List.mem_cons_of_mem | with_reducible apply List.mem_append_right))) (by rfl)) rfl rfl rfl rfl rfl ?_ | (refine runL_op0 (st_store tok rfl rfl rfl rfl rfl (by (repeat (first | with_reducible apply Upd.here | with_reducible apply Upd.there | with_reducible apply Upd.append_left))) (by rfl)) ?_; rintro _ _ _ ⟨rfl, rfl, rfl⟩) | (refine runL_op (st_box rfl) rfl rfl rfl ?_; rintro _ _ _ ⟨_, rfl, rfl, rfl⟩) | (refine runL_op (st_alloc tok rfl) rfl rfl rfl ?_; rintro _ _ _ ⟨_, rfl, rfl, rfl⟩) | (refine runL_op (st_buildSlice tok rfl rfl rfl rfl rfl rfl rfl) rfl rfl rfl ?_; rintro _ _ _ ⟨_, rfl, rfl, rfl⟩))
      refine runL_op (st_callV rfl rfl (fun _ => (hdo M1 _ b pre post x hxo (hr.le hM1)).perm (List.perm_middle (l₁ := [_, _])) (fun v M' L1' hK => ⟨L1', List.Perm.refl _, hK⟩))) rfl rfl rfl ?_
      rintro _ M2 _ ⟨hM2, x', hx', hxo', rfl⟩
      simp only [List.cons_append, List.nil_append]
      repeat (first | with_reducible refine run_seq ?_ | with_reducible refine run_region ?_ | with_reducible refine runL_nil ?_ | with_reducible refine run_skip ?_ | with_reducible refine run_block ?_ | with_reducible refine run_inBlock ?_ | refine run_exit rfl ?_ | refine runL_q (qt_pev tok rfl) rfl rfl rfl ?_ | refine runL_g rfl rfl (qt_pev tok rfl) rfl rfl rfl rfl rfl ?_ | refine runL_q (qt_ld tok rfl (by (repeat (first | with_reducible apply List.mem_cons_self | with_reducible assumption | with_reducible apply List.mem_cons_of_mem | with_reducible apply List.mem_append_right))) (by rfl)) rfl rfl rfl ?_ | refine runL_g rfl rfl (qt_ld tok rfl (by (repeat (first | with_reducible apply List.mem_cons_self | with_reducible assumption | with_reducible apply List.mem_cons_of_mem | with_reducible apply List.mem_append_right))) (by rfl)) rfl rfl rfl rfl rfl ?_ | (refine runL_op0 (st_store tok rfl rfl rfl rfl rfl (by (repeat (first | with_reducible apply Upd.here | with_reducible apply Upd.there | with_reducible apply Upd.append_left))) (by rfl)) ?_; rintro _ _ _ ⟨rfl, rfl, rfl⟩) | (refine runL_op (st_box rfl) rfl rfl rfl ?_; rintro _ _ _ ⟨_, rfl, rfl, rfl⟩) | (refine runL_op (st_alloc tok rfl) rfl rfl rfl ?_; rintro _ _ _ ⟨_, rfl, rfl, rfl⟩) | (refine runL_op (st_buildSlice tok rfl rfl rfl rfl rfl rfl rfl) rfl rfl rfl ?_; rintro _ _ _ ⟨_, rfl, rfl, rfl⟩))
      refine run_retE hC (rs := [.cell 4 29, .tmp 5]) rfl (resL tok rfl (by (repeat (first | with_reducible apply List.mem_cons_self | with_reducible assumption | with_reducible apply List.mem_cons_of_mem | with_reducible apply List.mem_append_right))) (by rfl) (resT rfl resN)) fun w hw => ?_
      have hO2 := hset (rwC x') rfl
      rw [← List.map_set] at hO2
      obtain ⟨M3, a', c', h5, h6, h7, h8⟩ := Hp.freezeOS (N := [(b, .cells ⟨pre ++ (rwC x' ++ post)⟩ 39 (0, 0))]) (ls := (rows1.set P0 x').map rwC) hw hO2 (by simp) (rwC_len _)
      cases h7
      have hls : (rows1.set P0 x').length = rows1.length := List.length_set
      rw [← hls] at h8
      refine ⟨M3, L, h6.drop.drop.drop.drop.drop, Mem.le_trans hM1 (Mem.le_trans hM2 h5), rfl, ep, some ⟨b, 0, none⟩, ca1, rows1.set P0 x', ?_, ⟨h8, fun y hy => ?_, by omega⟩, ?_⟩
      · rw [writeA, if_neg h1, if_neg hk, if_pos hm, hls]; rfl
      · rcases List.mem_or_eq_of_mem_set hy with hy | rfl
        · exact (hok1 y hy).le (Mem.le_trans hM2 h5)
        · exact hxo'.le h5
      · rw [writeA, if_neg h1, if_neg hk, if_pos hm, hsetA x' hx', hP0]
  · refine eff1 8 rfl (st_alloc tok rfl) (by decide +kernel) (qs := _) rfl rfl rfl rfl ?_
    rintro _ _ _ ⟨b9, rfl, rfl, rfl⟩
    refine ⟨by (repeat (first | exact trivial | refine And.intro (pend_q rfl rfl rfl (qt_pev tok rfl)) ?_ | refine And.intro (pend_q rfl rfl rfl (qt_ld tok rfl (by (repeat (first | with_reducible apply List.mem_cons_self | with_reducible assumption | with_reducible apply List.mem_cons_of_mem | with_reducible apply List.mem_append_right))) (by rfl))) ?_ | refine And.intro (pend_q rfl rfl rfl (qt_indexAs (n := P0) (o := pre.length) tok rfl rfl rfl rfl (fun _ => by omega) (by rw [hpre, Nat.zero_add]))) ?_ | refine And.intro (pend_q rfl rfl rfl (qt_lookupV (a := r.kind) tok keyU8 rfl rfl rfl rfl (.inl (by (repeat (first | with_reducible apply List.mem_cons_self | with_reducible assumption | with_reducible apply List.mem_cons_of_mem | with_reducible apply List.mem_append_right)))) rfl hlk)) ?_)), ?_⟩
    refine pr_one 4 (by decide +kernel) (eff1 4 rfl (st_callF rfl (fun _ => kinds_ok _ _)) (by decide +kernel) (qs := _) rfl rfl rfl rfl ?_)
    rintro _ _ _ ⟨bk, rfl, rfl, rfl⟩
    refine ⟨by (repeat (first | exact trivial | refine And.intro (pend_q rfl rfl rfl (qt_pev tok rfl)) ?_ | refine And.intro (pend_q rfl rfl rfl (qt_ld tok rfl (by (repeat (first | with_reducible apply List.mem_cons_self | with_reducible assumption | with_reducible apply List.mem_cons_of_mem | with_reducible apply List.mem_append_right))) (by rfl))) ?_ | refine And.intro (pend_q rfl rfl rfl (qt_indexAs (n := P0) (o := pre.length) tok rfl rfl rfl rfl (fun _ => by omega) (by rw [hpre, Nat.zero_add]))) ?_ | refine And.intro (pend_q rfl rfl rfl (qt_lookupV (a := r.kind) tok keyU8 rfl rfl rfl rfl (.inl (by (repeat (first | with_reducible apply List.mem_cons_self | with_reducible assumption | with_reducible apply List.mem_cons_of_mem | with_reducible apply List.mem_append_right)))) rfl hlk)) ?_)), ?_⟩
    refine pr_q 7 (by decide +kernel) rfl (qt_lookupV (a := r.kind) tok keyU8 rfl rfl rfl rfl (.inl (by (repeat (first | with_reducible apply List.mem_cons_self | with_reducible assumption | with_reducible apply List.mem_cons_of_mem | with_reducible apply List.mem_append_right)))) rfl hlk) rfl rfl rfl ?_
    refine pr_q 9 (by decide +kernel) rfl (qt_pev tok rfl) rfl rfl rfl ?_
    refine pr_one 10 (by decide +kernel) (eff0 10 rfl (st_store tok rfl rfl rfl rfl rfl (by (repeat (first | with_reducible apply Upd.here | with_reducible apply Upd.there | with_reducible apply Upd.append_left))) (by rfl)) (by decide +kernel) (qs := _) rfl ?_)
    rintro _ _ _ ⟨rfl, rfl, rfl⟩
    refine ⟨trivial, ?_⟩
    refine pr_end (by decide +kernel) (by decide +kernel) ?_
    repeat (first | with_reducible refine run_seq ?_ | with_reducible refine run_region ?_ | with_reducible refine runL_nil ?_ | with_reducible refine run_skip ?_ | with_reducible refine run_block ?_ | with_reducible refine run_inBlock ?_ | refine run_exit rfl ?_ | refine runL_q (qt_pev tok rfl) rfl rfl rfl ?_ | refine runL_g rfl rfl (qt_pev tok rfl) rfl rfl rfl rfl rfl ?_ | refine runL_q (qt_ld tok rfl (by (repeat (first | with_reducible apply List.mem_cons_self | with_reducible assumption | with_reducible apply List.mem_cons_of_mem | with_reducible apply List.mem_append_right))) (by rfl)) rfl rfl rfl ?_ | refine runL_g rfl rfl (qt_ld tok rfl (by (repeat (first | with_reducible apply List.mem_cons_self | with_reducible assumption | with_reducible apply List.mem_cons_of_mem | with_reducible apply List.mem_append_right))) (by rfl)) rfl rfl rfl rfl rfl ?_ | (refine runL_op0 (st_store tok rfl rfl rfl rfl rfl (by (repeat (first | with_reducible apply Upd.here | with_reducible apply Upd.there | with_reducible apply Upd.append_left))) (by rfl)) ?_; rintro _ _ _ ⟨rfl, rfl, rfl⟩) | (refine runL_op (st_box rfl) rfl rfl rfl ?_; rintro _ _ _ ⟨_, rfl, rfl, rfl⟩) | (refine runL_op (st_alloc tok rfl) rfl rfl rfl ?_; rintro _ _ _ ⟨_, rfl, rfl, rfl⟩) | (refine runL_op (st_buildSlice tok rfl rfl rfl rfl rfl rfl rfl) rfl rfl rfl ?_; rintro _ _ _ ⟨_, rfl, rfl, rfl⟩) | refine runL_q (st_callV rfl rfl (fun _ => hmay _ _ b pre post x (by (repeat (first | with_reducible apply List.mem_cons_self | with_reducible assumption | with_reducible apply List.mem_cons_of_mem | with_reducible apply List.mem_append_right))))) rfl rfl rfl ?_)
    rw [hxa]
    refine run_cond rfl (fun h => ?_) (fun h => ?_)
    · have hm : ¬ mayA r.kind (rowA r.txn (rows.map Rw.abs)) r.yes = true := by simpa using h
      repeat (first | with_reducible refine run_seq ?_ | with_reducible refine run_region ?_ | with_reducible refine runL_nil ?_ | with_reducible refine run_skip ?_ | with_reducible refine run_block ?_ | with_reducible refine run_inBlock ?_ | refine run_exit rfl ?_ | refine runL_q (qt_pev tok rfl) rfl rfl rfl ?_ | refine runL_g rfl rfl (qt_pev tok rfl) rfl rfl rfl rfl rfl ?_ | refine runL_q (qt_ld tok rfl (by (repeat (first | with_reducible apply List.mem_cons_self | with_reducible assumption | with_reducible apply List.mem_cons_of_mem | with_reducible apply List.mem_append_right))) (by rfl)) rfl rfl rfl ?_ | refine runL_g rfl rfl (qt_ld tok rfl (by (repeat (first | with_reducible apply List.mem_cons_self | with_reducible assumption | with_reducible apply List.mem_cons_of_mem | with_reducible apply List.mem_append_right))) (by rfl)) rfl rfl rfl rfl rfl ?_ | (refine runL_op0 (st_store tok rfl rfl rfl rfl rfl (by (repeat (first | with_reducible apply Upd.here | with_reducible apply Upd.there | with_reducible apply Upd.append_left))) (by rfl)) ?_; rintro _ _ _ ⟨rfl, rfl, rfl⟩) | (refine runL_op (st_box rfl) rfl rfl rfl ?_; rintro _ _ _ ⟨_, rfl, rfl, rfl⟩) | (refine runL_op (st_alloc tok rfl) rfl rfl rfl ?_; rintro _ _ _ ⟨_, rfl, rfl, rfl⟩) | (refine runL_op (st_buildSlice tok rfl rfl rfl rfl rfl rfl rfl) rfl rfl rfl ?_; rintro _ _ _ ⟨_, rfl, rfl, rfl⟩))
      exact run_ret hC (rs := [.cell 4 29, .tmp 5]) rfl (resL tok rfl (by (repeat (first | with_reducible apply List.mem_cons_self | with_reducible assumption | with_reducible apply List.mem_cons_of_mem | with_reducible apply List.mem_append_right))) (by rfl) (resT rfl resN)) (fun _ h => h.drop.drop.drop.drop.drop.drop) ⟨hM1, rfl, 0, none, 0, [], by rw [writeA, if_neg h1, if_neg hk, if_neg hm]; rfl, BkM.nil _, by rw [writeA, if_neg h1, if_neg hk, if_neg hm]; rfl⟩
    · have hm : mayA r.kind (rowA r.txn (rows.map Rw.abs)) r.yes = true := by simpa using h
      repeat (first | with_reducible refine run_seq ?_ | with_reducible refine run_region ?_ | with_reducible refine runL_nil ?_ | with_reducible refine run_skip ?_ | with_reducible refine run_block ?_ | with_reducible refine run_inBlock ?_ | refine run_exit rfl ?_ | refine runL_q (qt_pev tok rfl) rfl rfl rfl ?_ | refine runL_g rfl rfl (qt_pev tok rfl) rfl rfl rfl rfl rfl ?_ | refine runL_q (qt_ld tok rfl (by (repeat (first | with_reducible apply List.mem_cons_self | with_reducible assumption | with_reducible apply List.mem_cons_of_mem | with_reducible apply List.mem_append_right))) (by rfl)) rfl rfl rfl ?_ | refine runL_g rfl rfl (qt_ld tok rfl (by (repeat (first | with_reducible apply List.mem_cons_self | with_reducible assumption | with_reducible apply List.mem_cons_of_mem | with_reducible apply List.mem_append_right))) (by rfl)) rfl rfl rfl rfl rfl ?_ | (refine runL_op0 (st_store tok rfl rfl rfl rfl rfl (by (repeat (first | with_reducible apply Upd.here | with_reducible apply Upd.there | with_reducible apply Upd.append_left))) (by rfl)) ?_; rintro _ _ _ ⟨rfl, rfl, rfl⟩) | (refine runL_op (st_box rfl) rfl rfl rfl ?_; rintro _ _ _ ⟨_, rfl, rfl, rfl⟩) | (refine runL_op (st_alloc tok rfl) rfl rfl rfl ?_; rintro _ _ _ ⟨_, rfl, rfl, rfl⟩) | (refine runL_op (st_buildSlice tok rfl rfl rfl rfl rfl rfl rfl) rfl rfl rfl ?_; rintro _ _ _ ⟨_, rfl, rfl, rfl⟩))
      refine runL_op (st_callV rfl rfl (fun _ => (hdo M1 _ b pre post x hxo (hr.le hM1)).perm (List.perm_middle (l₁ := [_, _])) (fun v M' L1' hK => ⟨L1', List.Perm.refl _, hK⟩))) rfl rfl rfl ?_
      rintro _ M2 _ ⟨hM2, x', hx', hxo', rfl⟩
      simp only [List.cons_append, List.nil_append]
      repeat (first | with_reducible refine run_seq ?_ | with_reducible refine run_region ?_ | with_reducible refine runL_nil ?_ | with_reducible refine run_skip ?_ | with_reducible refine run_block ?_ | with_reducible refine run_inBlock ?_ | refine run_exit rfl ?_ | refine runL_q (qt_pev tok rfl) rfl rfl rfl ?_ | refine runL_g rfl rfl (qt_pev tok rfl) rfl rfl rfl rfl rfl ?_ | refine runL_q (qt_ld tok rfl (by (repeat (first | with_reducible apply List.mem_cons_self | with_reducible assumption | with_reducible apply List.mem_cons_of_mem | with_reducible apply List.mem_append_right))) (by rfl)) rfl rfl rfl ?_ | refine runL_g rfl rfl (qt_ld tok rfl (by (repeat (first | with_reducible apply List.mem_cons_self | with_reducible assumption | with_reducible apply List.mem_cons_of_mem | with_reducible apply List.mem_append_right))) (by rfl)) rfl rfl rfl rfl rfl ?_ | (refine runL_op0 (st_store tok rfl rfl rfl rfl rfl (by (repeat (first | with_reducible apply Upd.here | with_reducible apply Upd.there | with_reducible apply Upd.append_left))) (by rfl)) ?_; rintro _ _ _ ⟨rfl, rfl, rfl⟩) | (refine runL_op (st_box rfl) rfl rfl rfl ?_; rintro _ _ _ ⟨_, rfl, rfl, rfl⟩) | (refine runL_op (st_alloc tok rfl) rfl rfl rfl ?_; rintro _ _ _ ⟨_, rfl, rfl, rfl⟩) | (refine runL_op (st_buildSlice tok rfl rfl rfl rfl rfl rfl rfl) rfl rfl rfl ?_; rintro _ _ _ ⟨_, rfl, rfl, rfl⟩))
      refine run_retE hC (rs := [.cell 4 29, .tmp 5]) rfl (resL tok rfl (by (repeat (first | with_reducible apply List.mem_cons_self | with_reducible assumption | with_reducible apply List.mem_cons_of_mem | with_reducible apply List.mem_append_right))) (by rfl) (resT rfl resN)) fun w hw => ?_
      have hO2 := hset (rwC x') rfl
      rw [← List.map_set] at hO2
      obtain ⟨M3, a', c', h5, h6, h7, h8⟩ := Hp.freezeOS (N := [(b, .cells ⟨pre ++ (rwC x' ++ post)⟩ 39 (0, 0))]) (ls := (rows1.set P0 x').map rwC) hw hO2 (by simp) (rwC_len _)
      cases h7
      have hls : (rows1.set P0 x').length = rows1.length := List.length_set
      rw [← hls] at h8
      refine ⟨M3, L, h6.drop.drop.drop.drop.drop, Mem.le_trans hM1 (Mem.le_trans hM2 h5), rfl, ep, some ⟨b, 0, none⟩, ca1, rows1.set P0 x', ?_, ⟨h8, fun y hy => ?_, by omega⟩, ?_⟩
      · rw [writeA, if_neg h1, if_neg hk, if_pos hm, hls]; rfl
      · rcases List.mem_or_eq_of_mem_set hy with hy | rfl
        · exact (hok1 y hy).le (Mem.le_trans hM2 h5)
        · exact hxo'.le h5
      · rw [writeA, if_neg h1, if_neg hk, if_pos hm, hsetA x' hx', hP0]
end Go.Proofs.Ytemiflllckincaa
